/- For TopKept. -/
import Derived.Test.YtbleblbfadeciaaGreatDoorLc
import Derived.Test.YtbleblbfadeciaaGreatDoorHg
import Derived.Test.YtbleblbfadeciaaGreatDoorKp
import Derived.Test.YtbleblbfadeciaaGreatDoorTm
import Derived.Test.YtbleblbfadeciaaGreatDoorZw
set_option linter.all false
set_option maxHeartbeats 16000000
set_option maxRecDepth 10000
namespace Go.Proofs.YtbleblbfadeciaaGreatDoor
variable{cap n na nb:Nat}{lab:Nat->Nat}{w:World}
section
open Go.RowKit Go.Acre Go.Acre.Dk
open Raft (upd_same upd_ne G)
open Classical
def Q6(cs:Nat->Core):Nat->Kp:=fun j=>(cs j).kp
theorem Qhl(cs:Nat->Core)(i:Nat)(c:Core):Raft.upd (Q6 cs) i (Raft.upd cs i c i).kp =Q6 (Raft.upd cs i c):=by
 funext j
 by_cases e:j=i
 ·subst e
  rw[upd_same];rfl
 ·rw[upd_ne _ _ e]
  show (cs j).kp =(Raft.upd cs i c j).kp;rw[upd_ne _ _ e]
def ZW(w0:World)(lab0:Nat->Nat)(hb n:Nat)(db:Nat->Nat)(T lb cap:Nat)(e:Ending)(w:World):Prop:=
 e= .returned (.tuple #[])/\ ∃g kb pc cs lab us ld dn uv,QI w0 lab0 g hb n kb db pc cs (Q6 cs) T lb cap w lab us ld dn uv
section
variable {w0 w:World} {lab0 lab:Nat->Nat} {g:G} {hb n:Nat} {kb db pc:Nat->Nat} {cs:Nat->Core} {T lb cap:Nat} {us:List PV} {ld dn:Nat->Nat} {uv:Value}
theorem Qcs(h:QI w0 lab0 g hb n kb db pc cs (Q6 cs) T lb cap w lab us ld dn uv)(Z:T<=240){g':G}{i:Nat}{c':Core}{o:Ou}(M:Wl g' n (Raft.upd cs i c') (us.map (·.1)) ld dn (T+1) i (cs i) o){S E:Nat->Prop}(Y: ∀q,S q->lab q=10+2*i){D:World}{v:Value}
  (O:Q2 D E (pc i) c' .nilFunc) (Q: ∀q,E q->S q\/w.heap.size<=q) (U:Qa S w D) (W:Zc D E w.heap.size c' o v):
  Calls Tryz.prog 11 #[.pointer (some ⟨hb,0,none⟩),.int .i64 i,v] D (QdN g' hb n kb db pc (Raft.upd cs i c') (Q6 (Raft.upd cs i c')) (T+1) lb cap w0 lab0):=by
 have I:=M.hi;obtain⟨t,aa,ac⟩:=Qk7 Y O Q U W;have ab:=h.m.Qgc t aa;have ag:=(h.p.sim i I).Zj;have ad:Qba D (Xg w lab E (10+2*i)) (Raft.upd cs i c' i) o v:=by rw[upd_same];exact ac
 refine (Qrz ab M rfl Z (h.p.fit (by omega) I) (h.p.el i I).2 (by omega) ad).mono ?_
 rintro e w' ⟨rfl,lab',us',ae,N,af,J⟩;rw[Qhl] at J;exact⟨rfl,lab',us',ae,N,af,J.base (h.t.trans (t.mono (fun q ah=>by omega)))⟩
theorem QI.dropped(h:QI w0 lab0 g hb n kb db pc cs (Q6 cs) T lb cap w lab us ld dn uv){us':List PV}(J: ∀z∈us',z∈us)(W:us'.length<=us.length){D:World}{V:Value}{m:Nat}(N:m=us'.length)(O:D.ownsRow 0 78 60 V m (Xk us'))(M:Qa Ze w D)(I: ∀q,V.ownBlock=some q->w.heap.size<=q):
  ∃lab',QI w0 lab0 g hb n kb db pc cs (Q6 cs) T lb cap (D.setCell ⟨hb,10,none⟩ V) lab' us' ld dn V/\Tn w (D.setCell ⟨hb,10,none⟩ V) lab lab' (fun q=>q=1):=by
 subst N;have U:=h.m.row.lt;have Q:Qa (fun q=>q=hb) w (D.setCell ⟨hb,10,none⟩ V):=(M.mono (T:=fun q=>q=hb) (fun _ _ f=>f.elim)).setCell (p:=⟨hb,10,none⟩) (fun _=>rfl) _;have t:Tn w (D.setCell ⟨hb,10,none⟩ V) lab (Xg w lab (fun q=>V.ownBlock=some q) 3) (fun q=>q=1):=Tn.of Q (fun q _ e=>by rw[e];exact h.m.lhb) _ _;refine⟨_,⟨h.m.house (t.mono (fun q e=>.inl e)) ((h.m.row.upd M (fun f=>f)).Qqf V) (XU O ((Zr (fun q=>q=hb) D).setCell (p:=⟨hb,10,none⟩) (fun _=>rfl) _) (fun q hq e=>by have:=I q hq;omega)) (fun z E=>(h.m.msgs z (J z E)).keep t (by omega)) (fun q hq=>QbE (fun hlt=>by have:=I q hq;omega) hq) (by have:=h.m.few;omega),h.p.sub (fun x hx=> ?_),h.t.trans (t.mono (fun q e=>by omega))⟩,t⟩;obtain⟨z,E,rfl⟩:=List.mem_map.1 hx;exact List.mem_map.2 ⟨z,J z E,rfl⟩
theorem QI.mono(h:QI w0 lab0 g hb n kb db pc cs (Q6 cs) T lb cap w lab us ld dn uv){D:Nat}(E:T<=D):QI w0 lab0 g hb n kb db pc cs (Q6 cs) D lb cap w lab us ld dn uv:=⟨h.m.mono E,h.p.mono E,h.t⟩
end
section
variable {w0 w:World} {lab0 lab:Nat->Nat} {g:G} {hb n:Nat} {kb db pc:Nat->Nat} {cs:Nat->Core} {T lb cap:Nat} {us:List PV} {ld dn:Nat->Nat} {uv:Value}
def Qjv(w0:World)(lab0:Nat->Nat)(hb n:Nat)(kb db pc:Nat->Nat)(cs:Nat->Core)(T lb cap:Nat)(us:List PV)(ld dn:Nat->Nat)(uv:Value)(e:Ending)(w:World):Prop:=
 e= .returned (.int .i64 0)/\ ∃g lab,QI w0 lab0 g hb n kb db pc cs (Q6 cs) T lb cap w lab us ld dn uv
theorem QI.Qk3(h:QI w0 lab0 g hb n kb db pc cs (Q6 cs) T lb cap w lab us ld dn uv)(av:T<=230){i:Nat}(E:i<n)(ai:(cs i).bi < (cs i).commit){S I:Nat->Prop}(O: ∀q,S q->lab q=10+2*i){D w2:World}
  (ac:Q2 D I (pc i) ((cs i).compacted (cs i).commit) .nilFunc) (ad: ∀q,I q->S q\/w.heap.size<=q) (ae:Qa S w D) (ap:Qa Ze D w2) {N:Value} {J:Nat} (al:QD w2 N (cs i).n J) (M:D.heap.size<=J):
  Calls Tryz.prog 18 #[.pointer (some ⟨kb i,0,none⟩),QC ((cs i).compacted (cs i).commit).bi ((cs i).compacted (cs i).commit).bt N] w2 (Qjv w0 lab0 hb n kb db pc (Raft.upd cs i ((cs i).compacted (cs i).commit)) (T+1) lb cap us ld dn uv):=by
 have Y:Tn w D lab (Xg w lab I (10+2*i)) (fun q=>q=10+2*i):=Tn.of ae (fun g _ h=>O g h) _ _;have af:Wh D (Xg w lab I (10+2*i)) i (pc i) ((cs i).compacted (cs i).commit):=⟨I,ac,fun g M=>QbE (fun hlt=>(ad g M).elim (O g) (fun h=>by omega)) M⟩
 have am:=h.m.Qgc Y af;generalize Xg w lab I (10+2*i)=lab1 at*
 have Z:Tn D w2 lab1 (Xg D lab1 (fun _=>False) 0) (fun _=>False):=Tn.of (U:=fun _=>False) ap (fun _ _ f=>f) _ _;have U:=am.same Z;have ah:Xg D lab1 (fun _=>False) 0 J=0:=WF (fun h=>by omega) (fun _ f=>f);generalize Xg D lab1 (fun _=>False) 0=lab2 at*
 obtain⟨g',W⟩:=h.p.compact E;have aw:=(h.p.sim i E).Zj;have ag:Fit ((cs i).compacted (cs i).commit):=by
  have:=W.fit (by omega) E;rw[upd_same] at this;exact this
 obtain⟨ar,au,ab,_⟩:=(h.p.sim i E).ZI;have aj:=U.keep i E;refine (Zs.compact aj (by omega) (h.p.fit (by omega) E) ag (h.p.cn i E) (h.p.el i E).2 (by omega) ai ab al ah).mono ?_
 rintro e ax ⟨rfl,aq,aa,ak⟩;have an:=U.Qel aa (Nat.le_succ T) ak;refine⟨rfl,g',aq,?_,W.mono (Nat.le_succ T),((h.t.trans (Y.mono (fun q ao=>by omega))).trans (Z.mono (fun _ f=>f.elim))).trans (aa.mono (fun q ao=>by omega))⟩;have Q:=Qhl cs i ((cs i).compacted (cs i).commit);rw[upd_same] at Q;rw[<-Q];exact an
end
theorem Ql9(us:List PV)(h: ∀z∈us,z.2.size=58):(Xk us).length =us.length*60:=by
 induction us with
 |nil=>rfl
 |
  cons x r ih=>
  rw[Xk,List.length_append,ih (fun z D=>h z (List.mem_cons_of_mem _ D)),Array.length_toList,QbC (h x List.mem_cons_self),List.length_cons];omega
theorem QgP: ∀(us:List PV),(∀z∈us,z.2.size=58)-> ∀k,Xk (us.take k)=(Xk us).take (k*60)
 |[],_,k=>by rw[List.take_nil];exact (List.take_nil).symm
 |x::r,h,0=>by rw[List.take_zero,Nat.zero_mul,List.take_zero];rfl
 |
  x::r,h,k+1=>by
  have D:(XK x).toList.length =60:=by rw[Array.length_toList,QbC (h x List.mem_cons_self)]
  have e1:List.take ((k+1)*60) (XK x).toList =(XK x).toList :=List.take_of_length_le (by rw[D];omega)
  rw[List.take_succ_cons,Xk,Xk,QgP r (fun z E=>h z (List.mem_cons_of_mem _ E)) k,List.take_append,e1,D,show (k+1)*60 - 60=k*60 by omega]
theorem QgO: ∀(us:List PV),(∀z∈us,z.2.size=58)-> ∀k,Xk (us.drop k)=(Xk us).drop (k*60)
 |[],_,k=>by rw[List.drop_nil];exact (List.drop_nil).symm
 |x::r,h,0=>by rw[List.drop_zero,Nat.zero_mul,List.drop_zero]
 |
  x::r,h,k+1=>by
  have D:(XK x).toList.length =60:=by rw[Array.length_toList,QbC (h x List.mem_cons_self)]
  have e1:List.drop ((k+1)*60) (XK x).toList =[]:=List.drop_eq_nil_of_le (by rw[D];omega)
  rw[List.drop_succ_cons,Xk,QgO r (fun z E=>h z (List.mem_cons_of_mem _ E)) k,List.drop_append,e1,List.nil_append,D,show (k+1)*60 - 60=k*60 by omega]
theorem QeR{w:World}{v:Value}{ua ub:List PV}(ad:w.ownsRow 0 78 60 v ua.length (Xk ua))(N: ∀z∈ub,z.2.size=58)(M: ∀z∈ub,z.2.all (·.oneCell')=true)(a:Addr)(m c:Nat)(ac:m=ub.length)(O: ∀j u,(Xk ub)[j]? =some u->w.cell? (a.add j)=some u)(ab:ua.length+ub.length<=1000):
  ∃V w',(ApC #[28,28] 28 #[v,.slice (some a) m c]).run Tryz.prog w= .ok V w'/\w'.ownsRow 0 78 60 V (ua.length+m) (Xk (ua++ub))/\Qa (fun q=>v.ownBlock=some q) w w'/\(V.ownBlock=v.ownBlock\/V.ownBlock=some w.heap.size):=by
 subst ac;obtain⟨E,Z,af,ah,ag⟩:=Qg3;have Q: ∀u∈Xk ub,u.oneCell'=true:=by
  intro u D;clear O ab;induction ub with
  |nil=>cases D
  |
   cons x r ih=>
   rw[Xk,List.mem_append] at D;rcases D with D|D
   ·have:(XK x).all (·.oneCell')=true:=by unfold XK;rw[Array.all_append,M x List.mem_cons_self];simp[Value.oneCell']
    exact Array.all_eq_true_iff_forall_mem.1 this u (by simpa using D)
   ·exact ih (fun z I=>N z (List.mem_cons_of_mem _ I)) (fun z I=>M z (List.mem_cons_of_mem _ I)) D
 have Y:(ua.length+ub.length)*E.bytes<=140737488355328:=by
  have J:(ua.length+ub.length)*E.bytes<=1000*2000:=Nat.mul_le_mul (by omega) ag;omega
 obtain⟨V,w',ae,J,U,_,W⟩:=run_append_own_at (P:=Tryz.prog) w 0 28 28 78 E (.agg ZV) 60 E.bytes Tryz.underlying28 Z af ah rfl rfl (by decide) v ua.length (Xk ua) ad a ub.length c (Xk ub) (Ql9 ub N) O Q (by unfold maxLen;omega) Y (Zz _);refine⟨V,w',ae,?_,(Zr _ w).X8 U (fun k aa _=>aa),W⟩;rw[QgM];exact J
end
section
open Go.RowKit Go.Acre Go.Acre.Dk
open Raft (upd_same upd_ne G)
attribute [local go_sem ↓] LcG ScG ApG
attribute [local go_sem] Sc1 Sc2 Sc3 Lc2 Lc3
attribute [local simp] QH X6
section
variable {w0 w:World} {lab0 lab:Nat->Nat} {g:G} {hb n:Nat} {kb db pc:Nat->Nat} {cs:Nat->Core} {T lb cap:Nat} {us:List PV} {ld dn:Nat->Nat} {uv:Value}
theorem Qj7(h:QI w0 lab0 g hb n kb db pc cs (Q6 cs) T lb cap w lab us ld dn uv)(ay:T<=230){D a seq:Nat}(aI:D<256)(ah:a<256)(U:D%8=0\/D%8=1):
  Calls Tryz.prog 5 #[.pointer (some ⟨hb,0,none⟩),.int .i64 D,.int .i64 a,.int .i64 seq] w (ZW w0 lab0 hb n db (T+1) lb cap):=by
 have aE:=h.p.n5;obtain⟨i,N⟩: ∃i,i=a%n:=⟨_,rfl⟩
 have E:i<n:=by rw[N];exact Nat.mod_lt _ (by omega)
 have aG:(a:Int)%(n:Int)=(i:Nat):=by rw[N];rfl
 obtain⟨ao,O⟩: ∃k,k=D%8:=⟨_,rfl⟩
 have aH:(D:Int)%8=(ao:Nat):=by rw[O];rfl
 obtain⟨I,hdr⟩: ∃d,d=a/n:=⟨_,rfl⟩
 have aF:(a:Int)/(n:Int)=(I:Nat):=by rw[hdr];rfl
 have aA:I<256:=by rw[hdr];exact Nat.lt_of_le_of_lt (Nat.div_le_self _ _) ah
 rw[<-O] at U;obtain⟨av,W,Z⟩:=h.m.core i E;have ai:=(h.p.sim i E).Zj;have M:=h.p.cn i E;have Q:Qa Ze w w.drew:=(Zr _ w).drew;have aa:=Zh (h.fresh Q);have ae:=Zh (Qi9 (W.upd Q (fun _ _ f=>f)) (h.p.fit (by omega) E) I (by omega) ⟨by omega,by omega,by have:=M.w;omega,by have:=M.b;omega⟩);obtain⟨g',Y⟩:=h.p.tick E I;have ac:=Zh Y;have ad:=Zh Z;have c9:=h.m.c9;have aw:w.drew.cell? ⟨hb,9,none⟩=some (.slice (some ⟨lb,0,none⟩) n cap):=c9;have ax:w.drew.cell? ⟨lb,i*3+2,none⟩=some (.pointer (some ⟨pc i,0,none⟩)):=h.m.cc E;have aD:(1:Int)<=n:=by omega
 have aC:(i:Int)< (n:Int):=by omega
 have aB:(0:Int)<=i:=by omega
 have az:(0:Int)<=a:=by omega
 have aJ:(0:Int)<=D:=by omega
 clear h N O hdr W Z ai M Q Y;go_enter Tryz.func5,Tryz.ntmps5;go_upto_if 55 with fail
 go_cut [55] (fun b ar=>b= .bool true/\ar=w)
 case first=>
  rcases U with rfl|rfl
  ·go_wp2_with fail
   go_meet
   case rel=>exact⟨rfl,rfl⟩
  ·go_wp2_with fail
   go_meet
   case rel=>exact⟨rfl,rfl⟩
 case rest=>
  obtain⟨rfl,aj⟩:=hcut;subst aj;go_upto_region 6 with fail
  go_region_with (first
   |(go_at_call 12;refine ae.out.mono ?_;rintro e aK ⟨v,au,rfl,ak,al,am,an⟩;have af:=Zh (Qcs aa.out (by omega) ac.out ad.out ak al am an))
   |(go_at_call 11;refine af.out.mono ?_;rintro e w2 J;obtain⟨rfl,J⟩:=J))
  all_goals
   have ab:Hid (ZW w0 lab0 hb n db (T+1) lb cap (.returned (.tuple #[])) w2):=Zh (by
    obtain⟨lab',us',ap,ag,aq,h⟩:=J;exact⟨rfl,_,_,_,_,lab',us',ap,ag,aq,h⟩)
   clear J;go_wp2_with fail;go_end0;exact ab.out
end
end
section
open Go.RowKit Go.Acre Go.Acre.Dk
open Raft (upd_same upd_ne G)
attribute [local go_sem ↓] LcG ScG
attribute [local go_sem] Sc1 Sc2 Sc3 Lc2 Lc3
attribute [local simp] QH X6
def Qce:Nat->Core
 |0=>Core.first 1 0
 |k+1=>((Qce k).tick 0 Ou.none).1
theorem Qi8:(Qce 4).role =2/\(Qce 4).commit =2:=⟨by kernel_rfl,by kernel_rfl⟩
theorem Qja{kb db pc:Nat->Nat}(D:1<=n/\n<=5)(h:QW w lab na n kb db pc (Core.first n) (fun j=>(Core.first n j).kp) [] (fun _=>0) (fun _=>0) false 0 nb cap (.slice none 0 0)):
  QI w lab (G0 n) na n kb db pc (Core.first n) (Q6 (Core.first n)) 0 nb cap w lab [] (fun _=>0) (fun _=>0) (.slice none 0 0):=⟨h,HP.begin D,Tn.refl w lab _⟩
theorem QiD(af:Tab w):Calls Tryz.prog 6 #[] w (Qk (.bool true) w):=by
 have aa:=Zh (Qf0 af (n:=1) (by omega));clear af;go_enter Tryz.func6,Tryz.ntmps6;go_wp2_with fail;refine aa.out.mono ?_
 rintro e am ⟨ab,rfl,lab,kb,db,pc,al,cap,ad,ag,ac⟩;have au:=Zh (Qja (by omega) ad);have ay:=Zh ag;have aq:=Zh ac;clear ad ag ac aa;go_wp2_with fail;go_upto_block 0 with fail
 go_wp2_with fail;go_loopw [2] (fun x wr=> ∃k:Nat,x= .int .i64 k/\k<=4/\ ∃g D O us Q I U,D 0=Qce k/\QI am lab g ab 1 kb db pc D (Q6 D) k al cap wr O us Q I U) (fun x _=>4 - (Go.RowKit.intOf x).toNat)
 case atStart=>exact⟨0,rfl,by omega,_,Core.first 1,_,_,_,_,_,rfl,au.out⟩
 case round=>
  obtain⟨k,rfl,aJ,g,D,O,us,Q,I,U,J,h⟩:=hrel;by_cases hlt:k<4
  ·have aK:(k:Int)<4:=by omega
   obtain⟨az,E,N⟩:=h.m.core 0 (by omega);have aC:=(h.p.sim 0 (by omega)).Zj;have Z:=h.p.cn 0 (by omega);have aw:=Zh (Qi9 E (h.p.fit (by omega) (by omega)) 0 (by omega) ⟨by omega,by omega,by have:=Z.w;omega,by have:=Z.b;omega⟩);obtain⟨g',ae⟩:=h.p.tick (i:=0) (by omega) 0;have ar:=Zh ae;have av:=Zh N;have an:=Zh J;have H:=Zh h;have c9:=h.m.c9;have cc:=h.m.cc (i:=0) (by omega);simp only[Nat.zero_mul,Nat.zero_add] at cc;clear h E N aC Z ae J;go_wp2_with fail;refine aw.out.mono ?_
   rintro e w2 ⟨v,aI,rfl,ah,ai,aj,ak⟩;have ax:=Zh (Qcs H.out (by omega) ar.out av.out ah ai aj ak);clear ah ai aj ak c9 cc;go_wp2_with fail;refine ax.out.mono ?_
   rintro e aH M;obtain⟨rfl,M⟩:=M;have ao:Hid (∃g D O us Q I U,D 0=Qce (k+1)/\QI am lab g ab 1 kb db pc D (Q6 D) (k+1) al cap aH O us Q I U):=Zh (by
    obtain⟨lab',us',aF,aA,aG,h⟩:=M;refine⟨_,_,lab',us',aF,aA,aG,?_,h⟩;rw[upd_same,an.out];rfl)
   clear M;go_wp2_with fail;exact⟨⟨k+1,by go_num,by omega,ao.out⟩,by simp[Go.RowKit.intOf];omega⟩
  ·have aB:k=4:=by omega
   subst aB;obtain⟨az,E,N⟩:=h.m.core 0 (by omega);have Y:=Zh (Qhz E);have W:=Zh (Qeg E);rw[J] at Y W;rw[Qi8.2] at W;rw[decide_eq_true Qi8.1] at Y;have c9:=h.m.c9;have cc:=h.m.cc (i:=0) (by omega);simp only[Nat.zero_mul,Nat.zero_add] at cc;have Kq:=h.m.row.Kq;have ap:Hid (Qk (.bool true) w (.returned (.bool true)) wr):=Zh ⟨rfl,ay.out.trans h.t.u (fun q aE aD=>aD (aq.out q aE))⟩;clear h E N J;go_wp2_with fail;refine Y.out.mono ?_
   rintro e w2 ⟨rfl,rfl⟩;go_wp2_with fail;refine W.out.mono ?_
   rintro e w2 ⟨rfl,rfl⟩;go_wp2_with fail;go_ret;exact ap.out
end
section
open Go.RowKit Go.Acre Go.Acre.Dk
open Raft (upd_same upd_ne G)
attribute [local go_sem ↓] LcG ScG ApG
attribute [local go_sem] Sc1 Sc2 Sc3 Lc2 Lc3
attribute [local simp] QH X6
section
variable {w0 w:World} {lab0 lab:Nat->Nat} {g:G} {hb n:Nat} {kb db pc:Nat->Nat} {cs:Nat->Core} {T lb cap:Nat} {us:List PV} {ld dn:Nat->Nat} {uv:Value}
theorem Qj4(h:QI w0 lab0 g hb n kb db pc cs (Q6 cs) T lb cap w lab us ld dn uv)(a4:T<=230){Y a seq:Nat}(bg:Y<256)(a5:a<256)(a3:Y%8=7):
  Calls Tryz.prog 5 #[.pointer (some ⟨hb,0,none⟩),.int .i64 Y,.int .i64 a,.int .i64 seq] w (ZW w0 lab0 hb n db (T+1) lb cap):=by
 have aL:=h.p.n5;obtain⟨i,af⟩: ∃i,i=a%n:=⟨_,rfl⟩
 have D:i<n:=by rw[af];exact Nat.mod_lt _ (by omega)
 have bd:(a:Int)%(n:Int)=(i:Nat):=by rw[af];rfl
 have be:(Y:Int)%8=7:=by omega
 obtain⟨aW,E,wb,nn,x,al,bn,mv,aZ,bj,I⟩:=h.m.keep i D;obtain⟨aT,a2,W,an⟩:=I.kw.wal;have au:Has w E (db i) Zy nn (Qo Zx al):=by rw[<-an];exact W.disk
 have ad: ∀q,E q->lab q=11+2*i/\q<w.heap.size:=fun q ag=>⟨I.lbs q (.inr (W.sub q ag)),W.lt q (W.sub q ag)⟩
 obtain⟨M,aM⟩: ∃d,d=a/2:=⟨_,rfl⟩
 obtain⟨N,aN⟩: ∃d,d=a/3:=⟨_,rfl⟩
 obtain⟨O,aO⟩: ∃d,d=a/5:=⟨_,rfl⟩
 have a7:(a:Int)/2=(M:Nat):=by omega
 have a8:(a:Int)/3=(N:Nat):=by omega
 have a9:(a:Int)/5=(O:Nat):=by omega
 have aa:=Qf (w:=w) (.cells #[.int .i64 a,.int .i64 M,.int .i64 N,.int .i64 O] 3);have ai:Qa Ze w (w.alloc (.cells #[.int .i64 a,.int .i64 M,.int .i64 N,.int .i64 O] 3)):=(Zr _ w).alloc _;have ax:QN .i64 (w.alloc (.cells #[.int .i64 a,.int .i64 M,.int .i64 N,.int .i64 O] 3)) (.slice (some ⟨w.heap.size,0,none⟩) 4 4) [(a:Int),(M:Int),(N:Int),(O:Int)]:=by
  refine⟨rfl,some ⟨w.heap.size,0,none⟩,4,rfl,Zf _,by unfold maxLen;omega,(fun e=>by cases e),fun _=>⟨_,0,rfl,fun j hj=> ?_⟩⟩;rw[Nat.zero_add,Qb aa j];simp
 have ae:=I.b;have ak:=Zh (Qla (au.upd ai (fun _ _ f=>f)) (some ⟨w.heap.size,0,none⟩) 4 [(a:Int),(M:Int),(N:Int),(O:Int)] 4 rfl ax (by
  intro z aa;simp only[List.mem_cons,List.mem_nil_iff,or_false] at aa;omega) (fun g' o' _ aI aP=>by
  simp only[Option.some.injEq,Addr.mk.injEq] at aI;have:=(ad g' aP).2;omega) (by have:=ae.n;omega) (by have:=ae.t;omega))
 rw[Qlr I.syn] at ak;have c9:=h.m.c9;have cd:w.cell? ⟨lb,i*3,none⟩=some (.pointer (some ⟨db i,0,none⟩)):=h.m.cd D;have bc:(1:Int)<=n:=by omega
 have bb:(i:Int)< (n:Int):=by omega
 have ba:(0:Int)<=i:=by omega
 have a6:(0:Int)<=a:=by omega
 have bh:(0:Int)<=Y:=by omega
 have H:=Zh h;have ab:=Zh I;have ac:=Zh ad;have aG:=Zh ai;clear h af I W an au ad ai aa ax ae aM aN aO;go_enter Tryz.func5,Tryz.ntmps5;go_wp2_with fail;refine ak.out.mono ?_
 rintro e w2 ⟨rfl,av,aA⟩;have U:Qa E w w2:=(aG.out.mono (fun _ _ f=>f.elim)).trans aA (fun _ _ h=>h);have aq: ¬E hb:=fun e=>by have:=(ac.out hb e).1;rw[H.out.m.lhb] at this;omega
 have ar: ¬E lb:=fun e=>by have:=(ac.out lb e).1;rw[H.out.m.llb] at this;omega
 have ao: ¬E 2:=fun e=>by have:=(ac.out 2 e).1;rw[H.out.m.ltab] at this;omega
 have ah:=H.out.m.row.upd U aq;have az:=XU H.out.m.places U (fun g aJ=>by cases aJ;exact ar);have aw:=H.out.p.id D;have ay:Qcn i (Q6 cs i):=QnX (H.out.p.fit (by omega) D) (H.out.p.el i D).2 aw.1;have aF:Hid (Calls Tryz.prog 10 #[.pointer (some ⟨hb,0,none⟩),.int .i64 i] w2 (QdO E lb cap n i (fun j=>QF (db j)) (fun j=>QF (kb j)) (fun j=>QF (pc j)) (db i) Zy nn x al (Q6 cs i) w2)):=Zh (Qjd ah az D aL.2 rfl av ab.out.ok ay (H.out.m.tab.upd U ao) ao (by have:=ab.out.b.n;omega) (by unfold Zy;omega) aq ar (by
  intro e;have Q:=H.out.m.lhb;rw[e,H.out.m.llb] at Q;omega) (by
  intro e;have Q:=H.out.m.llb;rw[e,H.out.m.ltab] at Q;omega))
 have Kq:=ah.Kq;have aE:=Zh U;clear av aA U ah az ay c9 cd;go_wp2_with fail;refine aF.out.mono ?_
 rintro e aj ⟨rfl,aQ,aS,aX,aV,aU,bp,bm,a0,bk,bo,aB⟩;obtain⟨aR,aC,J⟩:=H.out.m.QrI D ab.out aE.out aB;obtain⟨g',Z⟩:=H.out.p.Qa2 D;have aH:KJ i (Q6 cs i).n (Q6 cs i).t (Q6 cs i).v (Q6 cs i).bi (Q6 cs i).bt (Q6 cs i).l =(cs i).anew :=by
  have Q:=aw.1;have am:=(H.out.p.el i D).1;unfold KJ Core.anew;rw[Q,am.1,am.2];rfl
 rw[aH] at J;have aK:Q6 (Raft.upd cs i (cs i).anew)=Q6 cs:=by
  funext j
  by_cases e:j=i
  ·subst e
   show (Raft.upd cs j (cs j).anew j).kp =(cs j).kp;rw[upd_same];rfl
  ·show (Raft.upd cs i (cs i).anew j).kp =(cs j).kp
   rw[upd_ne _ _ e]
 have ap:QI w0 lab0 g' hb n (Raft.upd kb i aQ) db (Raft.upd pc i aS) (Raft.upd cs i (cs i).anew) (Q6 (Raft.upd cs i (cs i).anew)) T lb cap aj aR us ld dn uv:=⟨by rw[aK];exact J,Z,H.out.t.trans (aC.mono (fun q ag=>by omega))⟩
 have a1:=J.row.fr 331;have aY:=J.row.Kq;have aD:Hid (ZW w0 lab0 hb n db (T+1) lb cap (.returned (.tuple #[])) (aj.setCell ⟨hb,331,none⟩ (.bool false))):=Zh ⟨rfl,_,_,_,_,_,_,_,_,_,(ap.cells ((Zr (fun q=>q=hb) aj).setCell (p:=⟨hb,331,none⟩) (fun _=>rfl) _) (J.row.setB false) Z.ldo Z.dno).mono (Nat.le_succ T)⟩;clear aB J Z ap aC Kq;go_wp2_with fail;go_end0;exact aD.out
end
section
variable {w0 w:World} {lab0 lab:Nat->Nat} {g:G} {hb n:Nat} {kb db pc:Nat->Nat} {cs:Nat->Core} {T lb cap:Nat} {us:List PV} {ld dn:Nat->Nat} {uv:Value}
theorem Qj3(h:QI w0 lab0 g hb n kb db pc cs (Q6 cs) T lb cap w lab us ld dn uv)(aM:T<=230){Z a seq:Nat}(bc:Z<256)(a0:a<256)(aZ:Z%8=6):
  Calls Tryz.prog 5 #[.pointer (some ⟨hb,0,none⟩),.int .i64 Z,.int .i64 a,.int .i64 seq] w (ZW w0 lab0 hb n db (T+1) lb cap):=by
 have a9:=h.p.n5;obtain⟨i,ai⟩: ∃i,i=a%n:=⟨_,rfl⟩
 have O:i<n:=by rw[ai];exact Nat.mod_lt _ (by omega)
 have ba:(a:Int)%(n:Int)=(i:Nat):=by rw[ai];rfl
 have bb:(Z:Int)%8=6:=by omega
 obtain⟨am,aa,az⟩:=h.m.core i O;have a6:=(h.p.sim i O).Zj;obtain⟨aX,aY,aJ,_⟩:=(h.p.sim i O).ZI;have ak:Hid (∀w',Qa Ze w w'->Calls Tryz.prog 15 #[.pointer (some ⟨pc i,0,none⟩)] w' (Is (.int .u64 ((cs i).commit :Nat)) w')):=Zh (fun w' J=>Qeg (aa.upd J (fun _ _ f=>f)));have ad:Hid (∀w',Qa Ze w w'->Calls Tryz.prog 16 #[.pointer (some ⟨pc i,0,none⟩)] w' (KV (cs i).bi (cs i).bt (cs i).n w')):=Zh (fun w' J=>QcJ (aa.upd J (fun _ _ f=>f)));have aH:=Zh aa;have af:=Zh az;have c9:=h.m.c9;have cc:=h.m.cc O;have a8:(1:Int)<=n:=by omega
 have a5:(i:Int)< (n:Int):=by omega
 have a3:(0:Int)<=i:=by omega
 have a1:(0:Int)<=a:=by omega
 have bd:(0:Int)<=Z:=by omega
 have H:=Zh h;clear h ai aa az;go_enter Tryz.func5,Tryz.ntmps5;go_upto_region 24 with fail
 clear c9 cc;have ac:Hid (∀w',Qa Ze w w'->w'.cell? ⟨hb,9,none⟩=some (.slice (some ⟨lb,0,none⟩) n cap)/\w'.cell? ⟨lb,i*3+1,none⟩=some (.pointer (some ⟨kb i,0,none⟩))):=Zh (fun w' J=>⟨(H.out.fresh J).m.c9,(H.out.fresh J).m.ck O⟩);have aT:=ac.out _ (Zr Ze w).drew;have hcur:Qa Ze w w.drew:=(Zr _ w).drew;have a2:=fun v w=>Qgz ((cs i).bi :Nat) ((cs i).bt :Nat) v w
 by_cases hgt:(cs i).bi < (cs i).commit
 ·have ah:(((cs i).bi :Nat):Int)< (((cs i).commit :Nat):Int):=by omega
  have aN:decide ((((cs i).bi :Nat):Int)< (((cs i).commit :Nat):Int))=true:=decide_eq_true ah;obtain⟨aU,aA,av⟩: ∃t,Qu (cs i).bi (cs i).bt (cs i).l (cs i).commit =some t/\t<=1000000:=by
   have a7:(cs i).last =(cs i).bi +(cs i).l.length :=rfl;have au:(cs i).commit - (cs i).bi - 1< (cs i).l.length :=by omega
   refine⟨((cs i).l[(cs i).commit - (cs i).bi - 1]).1,?_,?_⟩
   ·unfold Qu
    rw[if_neg (by omega),if_pos (by omega),List.getElem?_eq_getElem au];rfl
   ·have:=(QcE (H.out.p.fit (by omega) O) (H.out.p.cn i O) _ (List.getElem_mem au)).2.1
    omega
  have aI:Hid (∀w',Qa Ze w w'->Calls Tryz.prog 17 #[.pointer (some ⟨pc i,0,none⟩),.int .u64 ((cs i).commit :Nat)] w' (QdA (.int .i64 0) am (pc i) ((cs i).compacted (cs i).commit) .nilFunc w')):=Zh (fun w' J=>Qk1 (aH.out.upd J (fun _ _ f=>f)) (cs i).commit hgt (Zf _) aJ ⟨aU,aA,av⟩);have aF:Hid (∀w' w'',Qa Ze w w'->Qa am w' w''->w''.cell? ⟨hb,9,none⟩=some (.slice (some ⟨lb,0,none⟩) n cap)/\w''.cell? ⟨lb,i*3+1,none⟩=some (.pointer (some ⟨kb i,0,none⟩))):=Zh (fun w' w'' J W=>by
   have aw:=(H.out.fresh J).m;refine⟨(aw.row.upd W (fun e=>by have:=af.out hb e;rw[H.out.m.lhb] at this;omega)).c9,Ku (XU aw.places W (fun g hg e=>by
    cases hg
    have:=af.out lb e;rw[H.out.m.llb] at this;omega)) (Wv _ _ _ n i O).2.1⟩)
  clear aA av
  first|(go_region_held3 (fun w'=>w'.cell? ⟨hb,9,none⟩=some (.slice (some ⟨lb,0,none⟩) n cap)/\w'.cell? ⟨lb,i*3+1,none⟩=some (.pointer (some ⟨kb i,0,none⟩))) (assumption) ((first
   |(go_at_call 15;refine (ak.out _ (by assumption)).mono ?_;rintro e aV ⟨rfl,rfl⟩)
   |(go_at_call 16;refine (ad.out _ (by assumption)).mono ?_;clear ad;rintro e w2 ⟨an,ao,rfl,ax,aO,W⟩;obtain⟨bc2,rfl⟩: ∃c,an= .slice (some ⟨ao,0,none⟩) (cs i).n c:=⟨_,ax.choose_spec.1⟩;have ab:=Qa.trans hcur W (fun _ _ f=>f);have be:=ac.out _ ab;unfold QC)
   |(go_at_call 17;refine (aI.out _ ab).mono ?_;rintro e bj ⟨rfl,aW,aC,aQ,aD⟩;have aE:=aF.out _ _ ab aD;have aG:=Zh (QcJ aC))
   |(go_at_call 16;refine aG.out.mono ?_;rintro e bk ⟨aK,aL,rfl,ay,aP,aj⟩;obtain⟨bc4,rfl⟩: ∃c,aK= .slice (some ⟨aL,0,none⟩) (cs i).n c:=⟨_,ay.choose_spec.1⟩;have al:=Zh (QI.Qk3 (H.out.fresh ab) aM O hgt af.out aC aQ aD aj ay aP);have bg:=And.intro (Qe aj aE.1 (fun f=>f)) (Qe aj aE.2 (fun f=>f));unfold QC at al;unfold QC)
   |(go_at_call 18;refine al.out.mono ?_;rintro e w5 Y;obtain⟨rfl,Y⟩:=Y;have bh:w5.cell? ⟨hb,9,none⟩=some (.slice (some ⟨lb,0,none⟩) n cap)/\w5.cell? ⟨lb,i*3+1,none⟩=some (.pointer (some ⟨kb i,0,none⟩)):=(by obtain⟨_,_,h⟩:=Y;exact⟨h.m.c9,h.m.ck O⟩)))))|fail
  all_goals
   have ae:Hid (ZW w0 lab0 hb n db (T+1) lb cap (.returned (.tuple #[])) w5):=Zh (by
    obtain⟨g',lab',h⟩:=Y;exact⟨rfl,_,_,_,_,_,_,_,_,_,h⟩)
   clear Y;go_wp2_with fail;go_end0;exact ae.out
 ·have ah: ¬(((cs i).bi :Nat):Int)< (((cs i).commit :Nat):Int):=by omega
  have aN:decide ((((cs i).bi :Nat):Int)< (((cs i).commit :Nat):Int))=false:=decide_eq_false ah;clear ac aT hcur;refine Qcg (by kernel_rfl) (QaF (by kernel_rfl)) (Qj (by kernel_rfl)) (KA w (fun D=>(([fun v=>v= .pointer (some ⟨pc i,0,none⟩),fun v=>v= .int .u64 ((cs i).commit :Nat),fun v=>v= .pointer (some ⟨pc i,0,none⟩),fun v=> ∃x,v= .agg #[.int .u64 ((cs i).bi :Nat),.int .u64 ((cs i).bt :Nat),x],fun v=>v= .int .u64 ((cs i).bi :Nat),fun v=>v= .bool false,fun v=>v= .bool false,fun _=>True,fun _=>True,fun _=>True,fun _=>True,fun _=>True,fun v=>v= .bool false,fun v=>v= .bool false,fun _=>True,fun _=>True,fun _=>True,fun _=>True,fun _=>True,fun _=>True,fun _=>True,fun _=>True,fun _=>True,fun _=>True,fun _=>True,fun _=>True,fun v=>v= .bool false]:List (Value->Prop)).getD D (fun _=>True)))) ?h0 ?hstep ?hend
  case h0=>exact⟨(Zr _ _).drew,fun D h=>by cases h⟩
  case hstep=>
   intro D ar;have a4:D<27:=ar;clear ar;rcases (show D=0\/D=1\/D=2\/D=3\/D=4\/D=5\/D=6\/D=7\/D=8\/D=9\/D=10\/D=11\/D=12\/D=13\/D=14\/D=15\/D=16\/D=17\/D=18\/D=19\/D=20\/D=21\/D=22\/D=23\/D=24\/D=25\/D=26 by omega) with rfl|rfl|rfl|rfl|rfl|rfl|rfl|rfl|rfl|rfl|rfl|rfl|rfl|rfl|rfl|rfl|rfl|rfl|rfl|rfl|rfl|rfl|rfl|rfl|rfl|rfl|rfl
   ·refine XM rfl (Qj (by kernel_rfl)) ?_
    intro U J fr E M K N;have Q:fr.tmps[15]? =some (.pointer (some ⟨pc i,0,none⟩)):=M 15 (by kernel_rfl);clear E M;go_simp;exact N _ _ (Zr _ _) rfl
   ·refine XM rfl (Qj (by kernel_rfl)) ?_
    intro U J fr E M K N;obtain⟨_,Q,rfl⟩:=E ⟨0,.data⟩ (by simp) rfl _ 178 rfl rfl (show 178<208 by decide);clear E M;go_simp;go_at_call 15;refine (ak.out _ J).mono ?_
    rintro e aV ⟨rfl,rfl⟩;exact N _ _ (Zr _ _) rfl
   ·refine XM rfl (Qj (by kernel_rfl)) ?_
    intro U J fr E M K N;have Q:fr.tmps[15]? =some (.pointer (some ⟨pc i,0,none⟩)):=M 15 (by kernel_rfl);clear E M;go_simp;exact N _ _ (Zr _ _) rfl
   ·refine XM rfl (Qj (by kernel_rfl)) ?_
    intro U J fr E M K N;obtain⟨_,Q,rfl⟩:=E ⟨2,.data⟩ (by simp) rfl _ 180 rfl rfl (show 180<208 by decide);clear E M;go_simp;go_at_call 16;refine (ad.out _ J).mono ?_
    rintro e w2 ⟨an,ao,rfl,ax,aO,W⟩;exact N _ _ W ⟨_,rfl⟩
   ·refine XM rfl (Qj (by kernel_rfl)) ?_
    intro U J fr E M K N;obtain⟨v0,Q,aR⟩:=E ⟨3,.data⟩ (by simp) rfl _ 181 rfl rfl (show (181:Nat)<208 by decide);obtain⟨bm,rfl⟩:=aR;clear E M;go_simp;exact N _ _ (Zr _ _) rfl
   ·refine XM rfl (Qj (by kernel_rfl)) ?_
    intro U J fr E M K N;obtain⟨_,Q,rfl⟩:=E ⟨1,.data⟩ (by simp) rfl _ 179 rfl rfl (show 179<208 by decide);obtain⟨_,e1,rfl⟩:=E ⟨4,.data⟩ (by simp) rfl _ 182 rfl rfl (show 182<208 by decide);clear E M;go_simp;exact N _ _ (Zr _ _) rfl
   ·refine XM rfl (Qj (by kernel_rfl)) ?_
    intro U J fr E M K N;obtain⟨_,Q,rfl⟩:=E ⟨5,.data⟩ (by simp) rfl _ 183 rfl rfl (show 183<208 by decide);clear E M;go_simp;exact N _ _ (Zr _ _) rfl
   iterate 5 exact WB (Qj (by kernel_rfl)) 6 true 184 false (by kernel_rfl) (by kernel_rfl) (by kernel_rfl) (by kernel_rfl) (fun v h=>h) rfl trivial
   ·refine XM rfl (Qj (by kernel_rfl)) ?_
    intro U J fr E M K N;obtain⟨_,Q,rfl⟩:=E ⟨6,.data⟩ (by simp) rfl _ 184 rfl rfl (show 184<208 by decide);obtain⟨v1,e1,aS⟩:=E ⟨11,.data⟩ (by simp) rfl _ 189 rfl rfl (show (189:Nat)<208 by decide);clear E M;go_simp;exact N _ _ (Zr _ _) rfl
   ·refine XM rfl (Qj (by kernel_rfl)) ?_
    intro U J fr E M K N;obtain⟨_,Q,rfl⟩:=E ⟨12,.data⟩ (by simp) rfl _ 190 rfl rfl (show 190<208 by decide);clear E M;go_simp;exact N _ _ (Zr _ _) rfl
   iterate 12 exact WB (Qj (by kernel_rfl)) 13 true 191 false (by kernel_rfl) (by kernel_rfl) (by kernel_rfl) (by kernel_rfl) (fun v h=>h) rfl trivial
   ·refine XM rfl (Qj (by kernel_rfl)) ?_
    intro U J fr E M K N;obtain⟨_,Q,rfl⟩:=E ⟨13,.data⟩ (by simp) rfl _ 191 rfl rfl (show 191<208 by decide);obtain⟨v1,e1,aS⟩:=E ⟨25,.data⟩ (by simp) rfl _ 203 rfl rfl (show (203:Nat)<208 by decide);clear E M;go_simp;exact N _ _ (Zr _ _) rfl
  case hend=>
   intro L I wc aq ag;have aB:=ag.1;have ap:I 26= .bool false:=ag.2 26 (aq 26 (show (26:Nat)<27 by decide));clear aq ag;have ae:Hid (ZW w0 lab0 hb n db (T+1) lb cap (.returned (.tuple #[])) wc):=Zh ⟨rfl,_,_,_,_,_,_,_,_,_,(H.out.fresh aB).mono (Nat.le_succ T)⟩;clear aB;simp only[Z6,Act.put,List.setIfInBounds_toArray,List.set_cons_zero,List.set_cons_succ];rw[ap];generalize I 0=x0,I 1=x1,I 2=x2,I 3=x3,I 4=x4,I 5=x5,I 6=x6,I 7=x7,I 8=x8,I 9=x9,I 10=x10,I 11=x11,I 12=x12,I 13=x13,I 14=x14,I 15=x15,I 16=x16,I 17=x17,I 18=x18,I 19=x19,I 20=x20,I 21=x21,I 22=x22,I 23=x23,I 24=x24,I 25=x25 at*
   clear I L ap;go_wp2_with fail;go_end0;exact ae.out
end
section
variable {w0 w:World} {lab0 lab:Nat->Nat} {g:G} {hb n:Nat} {kb db pc:Nat->Nat} {cs:Nat->Core} {T lb cap:Nat} {us:List PV} {ld dn:Nat->Nat} {uv:Value}
theorem QkL(s:Nat):Xp (s+1)= #[.int .i64 1,.int .i64 0,.int .u64 ((s:Int)+1),.int .u64 0,.int .i64 2,.string ⟨#[114]⟩,.string ⟨#[120]⟩,.string ⟨#[]⟩,.bool false,.string ⟨#[]⟩,.int .u64 0,.int .i64 0,.string ⟨#[]⟩,.string ⟨#[]⟩,.int .i64 0,.bool false,.int .i64 0,.string ⟨#[]⟩,.int .i64 0,.int .i64 0]:=rfl
theorem Qkx:Tryz.prog.built 60 [(0,.int .i64 2),(1,.string ⟨#[114]⟩),(2,.string ⟨#[120]⟩)]=some WC:=by kernel_rfl
theorem Qky(s:Nat):Tryz.prog.built 70 [(0,.int .i64 1),(2,.int .u64 ((s:Int)+1)),(4,.agg WC)]=some (Xp (s+1)):=by
 rw[QkL]
 kernel_rfl
theorem Qj5(h:QI w0 lab0 g hb n kb db pc cs (Q6 cs) T lb cap w lab us ld dn uv)(aw:T<=230){U a seq:Nat}(aK:U<256)(ax:a<256)(aH:seq<200)(av:U%8=5):
  Calls Tryz.prog 5 #[.pointer (some ⟨hb,0,none⟩),.int .i64 U,.int .i64 a,.int .i64 seq] w (ZW w0 lab0 hb n db (T+1) lb cap):=by
 have aE:=h.p.n5;obtain⟨i,aa⟩: ∃i,i=a%n:=⟨_,rfl⟩
 have O:i<n:=by rw[aa];exact Nat.mod_lt _ (by omega)
 have aF:(a:Int)%(n:Int)=(i:Nat):=by rw[aa];rfl
 have aG:(U:Int)%8=5:=by omega
 obtain⟨ao,Y,ae⟩:=h.m.core i O;have aB:=(h.p.sim i O).Zj;have c9:=h.m.c9;have cc:=h.m.cc O;have aD:(1:Int)<=n:=by omega
 have aA:(i:Int)< (n:Int):=by omega
 have az:(0:Int)<=i:=by omega
 have ay:(0:Int)<=a:=by omega
 have aL:(0:Int)<=U:=by omega
 have aI:(0:Int)<=seq:=by omega
 have aJ:(seq:Int)<200:=by omega
 have M:=Qkx;have N:=Qky seq;obtain⟨W,af⟩: ∃W,W=WC:=⟨_,rfl⟩
 rw[<-af] at M N;clear af;have H:=Zh h;have am:=Zh ae;by_cases hr:(cs i).role =2
 ·have J:=Zh (QjP Y (h.p.fit (by omega) O) hr (seq+1) (by omega))
  obtain⟨g',ai⟩:=h.p.QoK O hr (s:=seq+1) (by omega);have al:=Zh ai;clear h aa Y ae ai;generalize Xp (seq+1)=C at*
  go_enter Tryz.func5,Tryz.ntmps5;go_upto_region 20 with (first
   |(refine Qdt rfl 60 0 1 2 _ _ _ rfl _ _ _ rfl rfl rfl W M ?_)
   |(refine Qdt rfl 70 0 2 4 _ _ _ rfl _ _ _ rfl rfl rfl C N ?_)
   |(go_at_call 14;refine J.out.mono ?_;rintro e D ⟨nn,v,au,rfl,ah,ag,Q,ad⟩;obtain⟨R,rfl,I,ac⟩:=ad.agg)
   |(refine wpList_store_row rfl 57 _ _ rfl _ _ rfl rfl _ _ (Qf (w:=D) (.cells Xh 57)) (X2 I) (by rw[I];rfl) ac ?_))
  have ak:=Qf (w:=D) (.cells Xh 57);have aj:=Xr _ _ R ak;have E:Qa Ze D ((D.alloc (.cells Xh 57)).setRow D.heap.size R):=QL ((Zr _ D).alloc _) (g:=D.heap.size) (fun h=>by omega) R;change Code.wp _ _ _ _ ((D.alloc (.cells Xh 57)).setRow D.heap.size R);generalize (D.alloc (.cells Xh 57)).setRow D.heap.size R=w4 at*
  generalize D.heap.size=b at*
  have aC:(LdC ⟨b,0,none⟩ 9).run Tryz.prog w4= .ok R w4:=Xc aj I;have an:=Zh (Qcs H.out (by omega) al.out am.out (ah.upd E (fun _ _ f=>f)) ag (Q.trans (E.mono (T:=ao) (fun _ _ f=>f.elim)) (fun _ _ h=>h)) (ad.upd E (fun _ f=>f.elim)));clear ak aj E ah ag Q ad c9 cc M N J;go_wp2_with fail;refine an.out.mono ?_
  rintro e w5 Z;obtain⟨rfl,Z⟩:=Z;have ab:Hid (ZW w0 lab0 hb n db (T+1) lb cap (.returned (.tuple #[])) w5):=Zh (by
   obtain⟨lab',us',aq,ap,ar,h⟩:=Z;exact⟨rfl,_,_,_,_,lab',us',aq,ap,ar,h⟩)
  clear Z;go_wp2_with fail;go_end0;exact ab.out
 ·have J:=Zh (QjQ Y hr (seq+1))
  clear h aa Y ae;generalize Xp (seq+1)=C at*
  go_enter Tryz.func5,Tryz.ntmps5;go_upto_region 20 with (first
   |(refine Qdt rfl 60 0 1 2 _ _ _ rfl _ _ _ rfl rfl rfl W M ?_)
   |(refine Qdt rfl 70 0 2 4 _ _ _ rfl _ _ _ rfl rfl rfl C N ?_)
   |(go_at_call 14;refine J.out.mono ?_;rintro e D ⟨R,rfl,I,ac,Q⟩)
   |(refine wpList_store_row rfl 57 _ _ rfl _ _ rfl rfl _ _ (Qf (w:=D) (.cells Xh 57)) (X2 I) (by rw[I];rfl) ac ?_))
  have E:Qa Ze w ((D.alloc (.cells Xh 57)).setRow D.heap.size R):=QL (Q.alloc _) (g:=D.heap.size) (fun h=>by have:=Q.size;omega) R;have ab:Hid (ZW w0 lab0 hb n db (T+1) lb cap (.returned (.tuple #[])) ((D.alloc (.cells Xh 57)).setRow D.heap.size R)):=Zh ⟨rfl,_,_,_,_,_,_,_,_,_,(H.out.fresh E).mono (Nat.le_succ T)⟩;clear E c9 cc M N J;go_wp2_with fail;go_end0;exact ab.out
end
end
end Go.Proofs.YtbleblbfadeciaaGreatDoor
