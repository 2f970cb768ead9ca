/- For TopKept. -/
import Derived.Test.YtbleblbfadeciaaGreatDoorLc
import Derived.Test.YtbleblbfadeciaaGreatDoorVk
import Derived.Test.YtbleblbfadeciaaGreatDoorDg
import Derived.Deep.AppendLies
import Derived.Test.YtbleblbfadeciaaGreatDoorKk
set_option linter.all false
set_option maxHeartbeats 16000000
set_option maxRecDepth 10000
namespace Go.Proofs.YtbleblbfadeciaaGreatDoor
variable{pre:ByteArray}{a b cap db g j k m n wb x:Nat}{U:Nat->Prop}{Y v:Value}{w w0 w6:World}
section
open Go.RowKit Go.Acre Go.Acre.Dk
attribute [local simp] QH
structure WO(wL wr:World)(wb db:Nat)(pre:ByteArray)(fs:List Fl)(j:Nat)(E:List FV)(fv:Value):Prop where
 len:E.length=j
 pl:Qn E=fs.take j
 row:wr.heap[wb]? =some (.cells (We db pre fv) 140 (0,0))
 files:Q0 wr 152 3 fv j (Xq E)
 recs: ∀z∈E,(∃b,X4 wr b z.2 z.1.recs)/\ ∀g,z.2.ownBlock=some g->wL.heap.size<=g/\fv.ownBlock≠some g
 own: ∀g,fv.ownBlock=some g->wL.heap.size<=g
 upd:Qa (fun i=>i=wb) wL wr
theorem WO.start(D:List Fl)(h:w0.heap[wb]? =some (.cells (We db pre (.slice none 0 0)) 140 (0,0))):WO w0 w0 wb db pre D 0 [] (.slice none 0 0):=
 ⟨rfl,rfl,h,Q0.nil _ _ _,fun z E=>(by cases E),fun g hg=>(by cases hg),Zr _ _⟩
theorem WO.step{wr:World}{E:List Fl}{I:List FV}(h:WO w0 wr wb db pre E j I Y)(al:j<E.length)(ap:wb<w0.heap.size){w5:World}(O:Qa Ze wr w5){fv':Value}(Z:X4 w5 b v E[j].recs)(am:wr.heap.size<=b)
  (ae:Qa (fun q=>Y.ownBlock=some q) (w5.alloc (.cells #[.int .u64 (E[j].first :Nat),.int .i64 (E[j].bytes.size :Nat),v] 152)) w6) (aj:Q0 w6 152 3 fv' (j+1) (Xq I++[.int .u64 (E[j].first :Nat),.int .i64 (E[j].bytes.size :Nat),v]))
  (ab:fv'.ownBlock=Y.ownBlock\/fv'.ownBlock=some (w5.alloc (.cells #[.int .u64 (E[j].first :Nat),.int .i64 (E[j].bytes.size :Nat),v] 152)).heap.size):
  WO w0 (w6.setCell ⟨wb,3,none⟩ fv') wb db pre E (j+1) (I++[(E[j],v)]) fv':=by
 have W:Qa Ze w5 (w5.alloc (.cells #[.int .u64 (E[j].first :Nat),.int .i64 (E[j].bytes.size :Nat),v] 152)):=(Zr _ w5).alloc _;have ai:=W.size;have an:=O.size;have ao:=h.upd.size;have N:Qa (fun i=>i=wb) w6 (w6.setCell ⟨wb,3,none⟩ fv'):=(Zr (fun i=>i=wb) w6).setCell (p:=⟨wb,3,none⟩) (fun _=>rfl) _;have ak: ∀g,Y.ownBlock=some g->g≠wb:=fun g D=>by have:=h.own g D;omega
 have U:Qa (fun q=>Y.ownBlock=some q) w5 w6:=(W.mono (fun _ _ f=>f.elim)).trans ae (fun _ _ h=>h);have ad: ∀g,fv'.ownBlock=some g->w0.heap.size<=g:=fun g D=>by
  rcases ab with e|e
  ·rw[e] at D;exact h.own g D
  ·rw[e] at D;cases D;omega
 refine⟨by rw[List.length_append,h.len];rfl,?_,?_,?_,fun z Q=> ?_,ad,?_⟩
 ·rw[KL,h.pl,List.take_succ_eq_append_getElem al]
 ·have r:=ae.keep (W.keep (O.keep h.row (fun f=>f)) (fun f=>f)) (fun e=>ak wb e rfl)
  have:=Qi (o:=3) r fv';rw[this];rfl
 ·have:Xq (I++[(E[j],v)])=Xq I++[.int .u64 (E[j].first :Nat),.int .i64 (E[j].bytes.size :Nat),v]:=Qbo _ _
  rw[this];exact aj.upd N (fun g D e=>by have:=ad g D;omega)
 ·have af: ∀g,fv'.ownBlock=some g->Y.ownBlock=some g\/w5.heap.size<=g:=fun g D=>by
   rcases ab with e|e
   ·rw[e] at D;exact .inl D
   ·rw[e] at D;cases D;exact .inr ai
  rw[List.mem_append,List.mem_singleton] at Q;rcases Q with Q|rfl
  ·obtain⟨⟨ag,aa⟩,M⟩:=h.recs z Q
   have ah:=aa.Qc O;refine⟨⟨ag,XU (XU ah U (fun g D e=>(M g D).2 e)) N (fun g D e=>by have:=(M g D).1;omega)⟩,fun g D=>⟨(M g D).1,fun e=> ?_⟩⟩;have J:g<wr.heap.size:=(aa.lt g D).2;rcases af g e with e|e
   ·exact (M g D).2 e
   ·omega
  ·have J: ∀g,v.ownBlock=some g->b<=g/\g<w5.heap.size:=fun g D=>⟨(Z.lt g D).1,(Z.lt g D).2⟩
   have ac: ∀g,Y.ownBlock=some g->g<wr.heap.size:=fun g D=>h.files.lt g D
   refine⟨⟨b,XU (XU Z U (fun g D e=>by have:=(J g D).1;have:=ac g e;omega)) N (fun g D e=>by have:=(J g D).1;omega)⟩,fun g D=>⟨by have:=(J g D).1;omega,fun e=> ?_⟩⟩;have:=J g D;rcases af g e with e|e
   ·have:=ac g e;omega
   ·omega
 ·exact ((h.upd.trans O (fun _ _ f=>f.elim)).trans U (fun i hi e=>by have:=h.own i e;omega)).trans N (fun _ _ h=>h)
theorem WO.done{wr:World}{room:Nat}{J:List Fl}{M:List FV}(h:WO w0 wr wb db pre J J.length M Y)(ah:KZ x J)(ai:1<=pre.size/\pre.size<=40)(am:wb<w0.heap.size)(ac: ¬U wb)(aa:Has w0 U db room n (Qo pre J))(ab:Tab w0)(ae: ¬U 2)(Z:wb≠2):
  QZ wr (fun i=>U i\/i=wb\/(w0.heap.size<=i/\i<wr.heap.size)) U wb db room n x pre M Y/\Qn M=J/\ ∀z∈M,Xe wr z.2 z.1.recs:=by
 have Q:Qn M=J:=by rw[h.pl,List.take_length]
 have O: ∀k,U k->k<w0.heap.size:=by obtain⟨aj,ad,_⟩:=aa;exact ad.below
 have al:=h.upd.size;have ak:=ab.two;refine⟨⟨h.row,by rw[h.len];exact h.files,by rw[Q];exact ah,ai,fun z W=> ?_,fun A z e=> ?_,fun g E=> ?_,⟨.inr (.inl rfl),ac⟩,fun i I=>.inl I,fun i I=> ?_,?_,ab.upd h.upd (fun e=>Z e.symm),?_⟩,Q,fun z W=> ?_⟩
 ·obtain⟨⟨b,D⟩,_⟩:=h.recs z W
  exact (Xe.Q7 D).slice
 ·obtain⟨⟨b,D⟩,N⟩:=h.recs z (by rw[e];simp)
  have ag:=D.lt;exact⟨⟨_,Q0.Q7 D⟩,fun g E=>⟨.inr (.inr ⟨(N g E).1,(ag g E).2⟩),fun e=>by have:=O g e;have:=(N g E).1;omega,by have:=(N g E).1;omega,(N g E).2⟩⟩
 ·have D:=h.own g E
  exact⟨.inr (.inr ⟨D,h.files.lt g E⟩),fun e=>by have:=O g e;omega,by omega⟩
 ·rcases I with I|I|I
  ·have:=O i I;omega
  ·omega
  ·exact I.2
 ·rw[Q]
  exact aa.upd h.upd (fun k af e=>ac (by rw[<-e];exact af))
 ·rintro (e|e|e)
  ·exact ae e
  ·exact Z e.symm
  ·omega
 ·obtain⟨⟨b,D⟩,_⟩:=h.recs z W
  exact Xe.Q7 D
theorem QrX{o:Nat}{ra:Option Addr}{rcap:Nat}(Y:w.cell? ⟨wb,0,none⟩=some (.pointer (some ⟨db,0,none⟩)))(D:w.cell? ⟨wb,3,none⟩=some (.slice (some ⟨g,o,none⟩) m cap))(ad:0<m)(ab:m<=500000)
  (E:w.cell? ⟨g,o+(m - 1)*3,none⟩=some (.int .u64 a)) (I:w.cell? ⟨g,o+(m - 1)*3+2,none⟩=some (.slice ra k rcap)) (N:a<=1000000) (Q:k<=1000000):Calls Tryz.prog 23 #[.pointer (some ⟨wb,0,none⟩)] w (Qk (.int .u64 (a+k:Nat)) w):=by
 have J:Hid (Calls Tryz.prog 62 #[.pointer (some ⟨wb,0,none⟩)] w (Is (.bool false) w)):=Zh (by
  go_enter Tryz.func62,Tryz.ntmps62;go_wp2_with fail;go_ret;exact⟨rfl,rfl⟩)
 have M:Hid (∀w',Qa Ze w w'->Calls Tryz.prog 63 #[.pointer (some ⟨g,o+(m - 1)*3,none⟩)] w' (Qk (.int .u64 (a+k:Nat)) w')):=Zh (fun w' hu=>Qee (Qe hu E (fun f=>f)) (Qe hu I (fun f=>f)) N Q);clear E I;generalize a+k=y at*
 have aa: ¬(m:Int)=0:=by omega
 have ac:((m:Int)==0)=false:=by simp;omega
 have ae:IntKind.i64.wrap ((m:Int) - 1)=((m - 1:Nat):Int):=by rw[IntWalk.i64_in _ (by omega)];omega
 have af:(0:Int)<=((m - 1:Nat):Int):=by omega
 have ag:((m - 1:Nat):Int)< (m:Int):=by omega
 go_enter Tryz.func23,Tryz.ntmps23;go_wp2_with fail;refine J.out.mono ?_
 rintro e w' ⟨rfl,rfl⟩;go_upto_region 3 with fail
 have hcur:Qa Ze w w.drew:=(Zr _ w).drew;go_region_held3 (fun w'=>w'.cell? ⟨wb,3,none⟩=some (.slice (some ⟨g,o,none⟩) m cap)) (first|exact D|assumption) ((first
  |(go_at_call 63;refine (M.out _ (by assumption)).mono ?_;rintro e W ⟨rfl,U⟩;have O:Qa Ze w W:=Qa.trans hcur U (fun _ _ f=>f);have Z:=Qe O D (fun f=>f))))
 all_goals
  go_wp2_with fail;go_ret;exact⟨rfl,by assumption⟩
end
section
open Go.RowKit Go.Acre Go.Acre.Dk
attribute [local go_sem ↓] LcG ScG ApG
attribute [local go_sem] Sc1 Sc2 Sc3 Lc2 Lc3
attribute [local simp] QH
theorem Qn6(D:List Fl)(j:Nat)(h:j<D.length):WA (D.take (j+1))=WA (D.take j)++[.int .u64 (D[j].first :Nat)]:=by
 unfold WA;rw[List.take_succ_eq_append_getElem h,List.map_append];rfl
theorem QnS(pre:ByteArray)(x:Nat):(QJ pre x).extract pre.size (pre.size+16)=⟨(XF 16 x).toArray⟩:=by
 apply ByteArray.ext;rw[ByteArray.data_extract];apply Array.ext';have h:=Qc0 pre x;have D:pre.data.toList.length=pre.size:=by rw[Array.length_toList];rfl
 rw[Array.toList_extract,h,List.extract_eq_take_drop,<-D,List.drop_left,List.take_of_length_le (by rw[Qbj];omega)]
theorem info30:(Tryz.prog.info? 30).map (fun i=>(i.zero,i.size,i.bytes))=some (some (.int .u64 0),1,8):=by kernel_rfl
def QjO(Sd:Nat->Prop)(db room n x:Nat)(pre:ByteArray)(fs:List Fl)(w:World)(e:Ending)(w':World):Prop:=
 ∃wb Sw' Sd' E fv,e= .returned (.tuple #[.pointer (some ⟨wb,0,none⟩),.int .i64 0])/\QZ w' Sw' Sd' wb db room n x pre E fv/\Qn E=fs/\(∀z∈E,Xe w' z.2 z.1.recs)/\(∀i,Sw' i->Sd i\/w.heap.size<=i)/\w.heap.size<=wb/\Qa Sd w w'
theorem Qr0{room:Nat}{D:List Fl}(bd:Has w U db room n (Qo pre D))(bX:KZ x D)(bY:1<=pre.size/\pre.size<=40)(b4:Tab w)(Q: ¬U 2)(ct:n<=1000000)(cY:room<=1099511627776):
  Calls Tryz.prog 21 #[.pointer (some ⟨db,0,none⟩),.string pre,.int .i64 4096] w (QjO U db room n x pre D w):=by
 have b6:=Qf (w:=w) (.cells (We db pre (.slice none 0 0)) 140);have bn:Qa (fun _=>False) w (w.alloc (.cells (We db pre (.slice none 0 0)) 140)):=(Zr _ w).alloc _;have b2:KR (Qo pre D) (pre++⟨#[116,109,112]⟩)=(Qo pre D,5):=Qlz (by rw[ByteArray.size_append];show pre.size+3≠_;omega);have a1:=Zh (Qio (bd.upd bn (fun _ _ f=>f)) (pre++⟨#[116,109,112]⟩) (by rw[ByteArray.size_append];show pre.size+3<=_;unfold maxLen;omega));rw[b2] at a1;have cy: ¬(48:Int)< (pre.size:Int):=by omega
 have cz: ¬9223372036854775807<pre.size+3:=by omega
 have J:=Zh bX;have a8:=Zh b6;have bJ:=Zh bn;have a4:=Zh b4;have bA:=Zh (show ∀k,U k->k<w.heap.size by obtain⟨cN,ch,_⟩:=bd;exact ch.below);clear bd bX b6 bn b4 b2;go_enter Tryz.func21,Tryz.ntmps21;go_wp2_with fail;refine Qfp 0 rfl ?_
 go_upto_region 6 with fail
 change Code.wp _ _ _ _ (w.alloc (.cells (We db pre (.slice none 0 0)) 140));generalize w.alloc (.cells (We db pre (.slice none 0 0)) 140)=w1 at*
 generalize hwb:w.heap.size=wb at*
 have ac:=Zh hwb;clear hwb;go_wp2_with fail;refine a1.out.mono ?_
 rintro e w2 ⟨rfl,Sd',bs,bu,bv⟩;have bF:Hid (∀k,Sd' k->U k\/wb<=k):=Zh (fun k bj=>(bu k bj).imp id (fun h=>by have:=bJ.out.size;rw[ac.out] at this;omega));have bK:Hid (Qa U w w2):=Zh ((bJ.out.mono (fun _ _ f=>f.elim)).trans bv (fun _ _ h=>h));have a9:=Zh (bv.keep a8.out (fun h=>by have:=bA.out _ h;omega));have bB:=Zh bs;have aY:=Zh (Qgm bs pre ct);rw[Qls] at aY;have b9:Hid (¬U 2):=Zh Q;have bN:Hid (¬Sd' wb):=Zh (fun h=>(bu wb h).elim (fun h=>by have:=bA.out _ h;omega) (fun h=>by have:=Ql a8.out;omega));have bM:Hid (wb≠2):=Zh (by have:=a4.out.two;rw[ac.out] at this;omega);have b8:Hid (¬Sd' 2):=Zh (fun h=>(bF.out 2 h).elim Q (fun h=>by have:=a4.out.two;rw[ac.out] at this;omega));clear bs bu bv a1 a8 Q cy cz;go_wp2_with fail;refine aY.out.mono ?_
 rintro e aq ⟨v,rfl,bV,bo⟩;have bL:=Zh bo;have ce:Hid (wb<aq.heap.size):=Zh (Ql (bo.keep a9.out (fun f=>f)));have bH:=Zh (Xe.Q7 bV);obtain⟨cZ,c0,aU⟩:=bH.out.slice;rw[List.length_map] at aU;subst aU;obtain⟨m,bk⟩: ∃m,m=D.length:=⟨_,rfl⟩
 rw[<-bk];have au:=Zh bk;have cV:m<=500000:=by
  have cs: ∀(D:List Fl) (y:Nat),XY y D->y+D.length<=Qp y D:=by
   intro D;induction D with
   |nil=>intro y _;exact Zf _
   |
    cons f r ih=>
    intro y br;have N:=ih _ br.2.2;have Q:0<f.recs.length:=List.length_pos_iff.2 br.2.1;have aw:f.next=f.first+f.recs.length:=rfl;have bR:=br.1;rw[Qp,List.length_cons];omega
  have N:=cs _ _ J.out.chain;have Q:=J.out.cap;unfold QV at Q;omega
 clear bV bo bk aY;go_upto_block 0 with fail
 go_wp2_with fail;go_loopw [9,45] (fun cK bw wr=> ∃j:Nat,bw= .int .i64 j/\j<=m/\wr.ownsRow aq.heap.size 30 1 cK j (WA (D.take j))/\Qa (fun _=>False) aq wr) (fun _ bw _=>m - (Go.RowKit.intOf bw).toNat)
 case atStart=>exact⟨0,rfl,by omega,World.ownsRow_nil _ _ _ _,Zr _ _⟩
 case round=>
  obtain⟨j,rfl,cp,Z,ay⟩:=hrel;by_cases aF:j<m
  ·have O:j<D.length:=by rw[<-au.out];exact aF
   have bh:(j:Int)< (m:Int):=by omega
   have cq:(0:Int)<=j:=by omega
   obtain⟨q,c3,cE,b0⟩:=Xe.cell (bH.out.Qc ay) (i:=j) (by rw[List.length_map];exact O);subst cE;rw[List.getElem_map] at b0;have be:=(ZR _ _ J.out.chain).2.1 D[j] (List.getElem_mem O);have aC:=J.out.cap;have ag:=J.out.first;unfold QV at aC;have aD:1<=D[j].first /\D[j].first <=1000000:=by omega
   have bD:=Zh (QrY aD.1 (by omega:D[j].first <=1000000000));have cw:=QnS pre D[j].first;have cv:=W6 pre D[j].first;have bz:Hid (∀w',Qa (fun _=>False) wr w'-> ∃g cap aM,(ApC #[141,141] 141 #[u9,.slice (some ⟨w'.heap.size,0,none⟩) 1 1]).run Tryz.prog (w'.alloc (.cells #[.int .u64 (D[j].first :Nat)] 30))= .ok (.slice (some ⟨g,0,none⟩) (j+1) cap) aM/\
     aM.ownsRow aq.heap.size 30 1 (.slice (some ⟨g,0,none⟩) (j+1) cap) (j+1) (WA (D.take (j+1)))/\Qa (fun _=>False) aq aM):=Zh (fun w' hu=>by
    obtain⟨aK,ai,aV,ao,ap⟩:=info_parts info30;have b5:Qa (fun _=>False) aq (w'.alloc (.cells #[.int .u64 (D[j].first :Nat)] 30)):=(ay.trans hu (fun _ _ f=>f)).alloc _;have cx:=Q3 (Q3 Z hu (fun _ _ f=>f)) ((Zr (fun _=>False) w').alloc (.cells #[.int .u64 (D[j].first :Nat)] 30)) (fun _ _ f=>f);have cu:=Qf (w:=w') (.cells #[.int .u64 (D[j].first :Nat)] 30);obtain⟨g,cap,aM,N,Q,aw,_,_⟩:=run_append_lies (P:=Tryz.prog) _ 141 141 aq.heap.size 30 aK (.int .u64 0) 1 8 Tryz.underlying141 ai aV ao ap rfl (by decide) _ j (WA (D.take j)) cx ⟨w'.heap.size,0,none⟩ 1 1 [.int .u64 (D[j].first :Nat)] rfl (World.news_of_block cu) (by intro u hu;simp at hu;subst hu;rfl) (by omega) (by unfold maxLen;omega) (by omega) b5.size _ rfl;refine⟨g,cap,aM,N,?_,?_⟩
    ·rw[Qn6 D j O]
     exact Q
    ·exact b5.X8 aw (fun g aR aF=>by have:=(Z.lt g aR).1;omega))
   have cQ:(0:Int)< (D[j].first :Int):=by omega
   generalize QJ pre D[j].first =NM at*
   generalize (⟨(XF 16 D[j].first).toArray⟩:ByteArray)=DG at*
   generalize D[j].first =Y at*
   have cA:(0:Int)<=pre.size:=by omega
   have cB:(pre.size:Int)<=((pre.size+16:Nat):Int):=by omega
   have a6:=Zh ay;clear Z ay be aC ag aD;go_wp2_with fail;refine (bD.out _).mono ?_
   rintro e cM ⟨rfl,aG⟩;obtain⟨bQ,c9,c4,bT,bW,cG⟩:=bz.out cM aG;have ca:=Zh bW;clear b0 cw cv bD bz cA cB bW;go_wp2_with fail;exact⟨⟨j+1,by go_num,by omega,ca.out,cG⟩,by simp[Go.RowKit.intOf];omega⟩
  ·have bh:j=m:=by omega
   subst bh;rw[au.out,List.take_length] at Z;have a2:=Zh (Qqu Z J.out.chain (by rw[<-au.out];omega));obtain⟨c1,c2,cD⟩:=(Q0.Q7 Z).slice;subst cD;rw[<-au.out] at Z a2 ⊢;have bG:=Zh Z;have a6:=Zh ay;clear Z ay aF cp;go_wp2_with fail;refine a2.out.mono ?_
   rintro e aN ⟨rfl,aG⟩;have aT:Qa (fun _=>False) w2 aN:=(bL.out.trans a6.out (fun _ _ f=>f)).trans aG (fun _ _ f=>f);have bO:=Zh (aT.keep a9.out (fun f=>f));have aX:=Zh (bB.out.upd aT (fun _ _ f=>f));have a5:Hid (Qa U w aN):=Zh (bK.out.trans aT (fun _ _ f=>f.elim));have bI:Hid (Tab aN):=Zh (a4.out.upd a5.out (fun h=>b9.out h));have a0:=Zh (Q3 bG.out aG (fun _ _ f=>f));have aA:Hid (wb<aN.heap.size):=Zh (Ql bO.out);clear aT aG a2 bG a6 bL a9 bB bK;go_wp2_with fail;refine wp_label ?_
   go_upto_block 2 with fail
   go_wp2_with fail;go_loopw [65] (fun bx M=> ∃(E:Nat) (W:List FV) (ab:Value),bx= .int .i64 E/\E<=j/\WO aN M wb db pre D E W ab) (fun bx _=>j - (Go.RowKit.intOf bx).toNat)
   case atStart=>exact⟨0,[],_,rfl,by omega,WO.start D bO.out⟩
   case round=>
    obtain⟨E,W,ab,rfl,cT,ax⟩:=hrel
    rename World=>M
    have I:=Zh ax;clear ax;by_cases aF:E<j
    ·have O:E<D.length:=by rw[<-au.out];exact aF
     have bh:(E:Int)< (j:Int):=by omega
     have cq:(0:Int)<=E:=by omega
     have bS:=XU a0.out I.out.upd (fun q cC e=>by
      have N:=(a0.out.lt q cC).1;have aw:=ce.out;omega)
     obtain⟨cg,cO,bZ,_,_⟩:=World.ownsRow.form a0.out (by omega);simp only[Value.slice.injEq,true_and] at bZ;obtain⟨rfl,rfl⟩:=bZ;have ba:M.cell? ⟨cg,E,none⟩=some (.int .u64 (D[E].first :Nat)):=by
      have:=bS.cellAt E (by omega);rw[this];unfold WA;rw[List.getElem?_map,List.getElem?_eq_getElem O];rfl
     have be:=(ZR _ _ J.out.chain).2.1 D[E] (List.getElem_mem O);have aC:=J.out.cap;have ag:=J.out.first;unfold QV at aC;have aD:1<=D[E].first /\D[E].first <=1000000:=by omega
     have aS:=I.out.row;have b7:M.cell? ⟨wb,0,none⟩=some (.pointer (some ⟨db,0,none⟩)):=Qb aS 0;have aL:M.cell? ⟨wb,3,none⟩=some ab:=Qb aS 3;have aO:Hid (0<E->Calls Tryz.prog 23 #[.pointer (some ⟨wb,0,none⟩)] M (Qk (.int .u64 (D[E].first :Nat)) M)):=Zh (fun bm=>by
      obtain⟨g,o,cap,cur,aU,cX,aR,cU,bU⟩:=I.out.files.at (by omega);have hlen:=I.out.len;have aQ:E - 1<W.length:=by omega
      have ci:W[E - 1].1=D[E - 1]'(by omega):=by
       have N:(Qn W)[E - 1]? =(D.take E)[E - 1]? :=by rw[I.out.pl]
       rw[List.getElem?_map,List.getElem?_eq_getElem aQ,List.getElem?_take,if_pos (by omega),List.getElem?_eq_getElem (by omega)] at N
       simpa using N
      have bP:cur[o+(E - 1)*3]? =some (.int .u64 (W[E - 1].1.first :Nat)):=by
       have:=bU ((E - 1)*3) _ (by have:=Qbp W (E - 1) aQ 0 (by omega);rw[Nat.add_zero] at this;rw[this];rfl);exact this
      have bb:cur[o+(E - 1)*3+2]? =some W[E - 1].2:=by
       have:=bU ((E - 1)*3+2) _ (by rw[Qbp W (E - 1) aQ 2 (by omega)];rfl);rw[<-Nat.add_assoc] at this;exact this
      obtain⟨⟨b,N⟩,_⟩:=I.out.recs _ (List.getElem_mem aQ);obtain⟨ra,cJ,cF⟩:=(Xe.Q7 N).slice;rw[cF] at bb;have cm:D[E].first =(D[E - 1]'(by omega)).first +(D[E - 1]'(by omega)).recs.length :=by
       have N:=J.out.chain;have Q:D=D.take E++D.drop E:=(List.take_append_drop E D).symm;rw[Q,WV,List.drop_eq_getElem_cons O] at N;have aw:=N.2.1;have bR:D.take E=D.take (E - 1)++[D[E - 1]'(by omega)]:=by
        have:=List.take_succ_eq_append_getElem (i:=E - 1) (l:=D) (by omega);rw[show E - 1+1=E by omega] at this;exact this
       rw[bR,Ws] at aw;exact aw
      have cR:=(ZR _ _ J.out.chain).2.1 (D[E - 1]'(by omega)) (List.getElem_mem _);have cW:(D[E - 1]'(by omega)).next =(D[E - 1]'(by omega)).first +(D[E - 1]'(by omega)).recs.length :=rfl;rw[ci] at bP bb;have:=QrX (w:=M) (wb:=wb) (db:=db) (g:=g) (o:=o) (m:=E) (cap:=cap) (ra:=ra) (rcap:=cJ) (a:=(D[E - 1]'(by omega)).first) (k:=(D[E - 1]'(by omega)).recs.length) b7 (by rw[aL,aU]) bm (by omega) (by rw[Qb aR];exact bP) (by rw[Qb aR];exact bb) (by omega) (by omega);rw[<-cm] at this;exact this)
     have b3:ZE D[E].bytes =(D[E].recs,D[E].bytes.size):=by
      have:=QpX D[E].recs (fun b cj=>by have:=J.out.recs D[E] (List.getElem_mem O) b cj;omega) ⟨#[]⟩ Qoe;rw[WJ] at this;exact this
     have b1:QaZ (Qo pre D) (QJ pre D[E].first)=(D[E].bytes,0):=by
      unfold QaZ;rw[QcB J.out.chain J.out.cap (List.getElem_mem O)];rfl
     have cl:D[E].bytes.size <=1099511627776:=by
      have N:=aX.out.may.fits;have Q:D[E].bytes.size <=total (Qo pre D):=Qa4 (f:=Zv pre D[E]) (List.mem_map_of_mem (List.getElem_mem O));omega
     have aP:Hid (∀w',Qa (fun _=>False) M w'->Calls Tryz.prog 58 #[.pointer (some ⟨db,0,none⟩),.string (QJ pre D[E].first)] w' (Is (.tuple #[.string D[E].bytes,.int .i64 0]) w')):=Zh (fun w' hu=>by
      have:=QpM ((aX.out.upd I.out.upd (fun k bj e=>bN.out (by rw[<-e];exact bj))).upd hu (fun _ _ f=>f)) (QJ pre D[E].first) (by rw[W6];unfold maxLen;omega);rw[b1] at this;exact this)
     have aZ:Hid (∀w',Qa (fun _=>False) M w'->Calls Tryz.prog 59 #[.pointer (some ⟨wb,0,none⟩),.int .u64 (D[E].first :Nat)] w' (Qk (.string (QJ pre D[E].first)) w')):=Zh (fun w' hu=>Qfk (Qe hu (Qb aS 1) (fun f=>f)) ((bI.out.upd I.out.upd (fun e=>bM.out e.symm)).upd hu (fun f=>f)) bY.2 _ aD.1 (by omega));have az:=Zh (fun w=>Qp7 D[E].bytes w (by omega));rw[b3] at az;have bC:=Zh aL;clear bS be aC ag aS b3 b1 aL b7;obtain⟨sz,hsz⟩: ∃sz,sz=D[E].bytes.size :=⟨_,rfl⟩
     obtain⟨aW,bc⟩: ∃aW,aW=D[E].bytes :=⟨_,rfl⟩
     obtain⟨Y,ag⟩: ∃Y,Y=D[E].first :=⟨_,rfl⟩
     rw[<-hsz] at cl az;have cP:aW.size=sz:=by rw[bc,hsz]
     rw[<-bc] at az aP;rw[<-ag] at ba aD aO aP aZ;have ar:=Zh ag;have av:=Zh hsz;clear hsz bc ag;generalize QJ pre Y=NM at*
     by_cases aV:E=0
     ·subst aV
      clear aO;go_upto_region 21 with fail
      have al:Qa (fun _=>False) M M:=Zr _ _;go_wp2_with fail;refine (aZ.out _ al).mono ?_
      rintro e w6 ⟨rfl,aH⟩;have am:=al.trans aH (fun _ _ f=>f);go_wp2_with fail;refine (aP.out _ am).mono ?_
      rintro e w7 ⟨rfl,bq⟩;subst bq;go_wp2_with fail;refine (az.out _).mono ?_
      rintro e w8 ⟨cL,rfl,aj,aI⟩;have aa:=am.trans aI (fun _ _ f=>f);obtain⟨ad,ae,bp⟩:=(Xe.Q7 aj).slice;subst bp;obtain⟨aK,ai,aJ,ao,ap⟩:=info_parts Qej;have af:Qa (fun _=>False) M (w8.alloc (.cells #[.int .u64 Y,.int .i64 sz,.slice ad D[0].recs.length ae] 152)):=aa.alloc _;obtain⟨fv',w9,bT,aE,an,aB,bQ,cH,c9,bg⟩:=(I.out.files.upd af (fun _ _ f=>f)).append (P:=Tryz.prog) 138 138 152 aK (.agg #[.int .u64 0,.int .i64 0,.slice none 0 0]) 3 40 Tryz.underlying138 ai aJ ao ap rfl ⟨w8.heap.size,0,none⟩ 1 1 [.int .u64 Y,.int .i64 sz,.slice ad D[0].recs.length ae] rfl (World.news_of_block (Qf (w:=w8) (.cells #[.int .u64 Y,.int .i64 sz,.slice ad D[0].recs.length ae] 152))) (by intro u hu;simp at hu;rcases hu with rfl|rfl|rfl<;>rfl) (by omega) (by omega) (by omega) (by omega);rw[ApG] at bT;subst bg;have aL:=Qe aa bC.out (fun f=>f);have ak:w9.heap[wb]? =some (.cells (We db pre ab) 140 (0,0)):=an.keep (af.keep I.out.row (fun f=>f)) (fun e=>by have:=I.out.own wb e;have:=aA.out;omega);have cI:w9.cell? ⟨wb,3,none⟩=some ab:=Qb ak 3;have cf:=Qg ak 3 none;have a3:=Zh (I.out.step (b:=w6.heap.size) O aA.out aa aj (am.size) (by rw[<-ar.out,<-av.out];exact an) (by rw[<-ar.out,<-av.out];exact aE) (by rw[<-ar.out,<-av.out];exact aB));clear ak an aE aB af ai aJ ao ap aj aI aa aH al ba;generalize D[0].recs.length =rl at*
      go_wp2_with fail;exact⟨⟨0+1,_,_,by go_num,by omega,a3.out⟩,by simp[Go.RowKit.intOf];omega⟩
     ·have bm:0<E:=by omega
      have cn:decide (0<E)=true:=by simp;omega
      have co:decide ((0:Int)< (E:Int))=true:=by simp;omega
      have bE:=Zh (aO.out bm);clear aO;go_wp2_with fail;refine bE.out.mono ?_
      rintro e w5 ⟨rfl,al⟩;go_upto_region 21 with fail
      clear bE cn co aV;go_wp2_with fail;refine (aZ.out _ al).mono ?_
      rintro e w6 ⟨rfl,aH⟩;have am:=al.trans aH (fun _ _ f=>f);go_wp2_with fail;refine (aP.out _ am).mono ?_
      rintro e w7 ⟨rfl,bq⟩;subst bq;go_wp2_with fail;refine (az.out _).mono ?_
      rintro e w8 ⟨cL,rfl,aj,aI⟩;have aa:=am.trans aI (fun _ _ f=>f);obtain⟨ad,ae,bp⟩:=(Xe.Q7 aj).slice;subst bp;obtain⟨aK,ai,aJ,ao,ap⟩:=info_parts Qej;have af:Qa (fun _=>False) M (w8.alloc (.cells #[.int .u64 Y,.int .i64 sz,.slice ad D[E].recs.length ae] 152)):=aa.alloc _;obtain⟨fv',w9,bT,aE,an,aB,bQ,cH,c9,bg⟩:=(I.out.files.upd af (fun _ _ f=>f)).append (P:=Tryz.prog) 138 138 152 aK (.agg #[.int .u64 0,.int .i64 0,.slice none 0 0]) 3 40 Tryz.underlying138 ai aJ ao ap rfl ⟨w8.heap.size,0,none⟩ 1 1 [.int .u64 Y,.int .i64 sz,.slice ad D[E].recs.length ae] rfl (World.news_of_block (Qf (w:=w8) (.cells #[.int .u64 Y,.int .i64 sz,.slice ad D[E].recs.length ae] 152))) (by intro u hu;simp at hu;rcases hu with rfl|rfl|rfl<;>rfl) (by omega) (by omega) (by omega) (by omega);rw[ApG] at bT;subst bg;have aL:=Qe aa bC.out (fun f=>f);have ak:w9.heap[wb]? =some (.cells (We db pre ab) 140 (0,0)):=an.keep (af.keep I.out.row (fun f=>f)) (fun e=>by have:=I.out.own wb e;have:=aA.out;omega);have cI:w9.cell? ⟨wb,3,none⟩=some ab:=Qb ak 3;have cf:=Qg ak 3 none;have a3:=Zh (I.out.step (b:=w6.heap.size) O aA.out aa aj (am.size) (by rw[<-ar.out,<-av.out];exact an) (by rw[<-ar.out,<-av.out];exact aE) (by rw[<-ar.out,<-av.out];exact aB));clear ak an aE aB af ai aJ ao ap aj aI aa aH al ba;generalize D[E].recs.length =rl at*
      go_wp2_with fail;exact⟨⟨E+1,_,_,by go_num,by omega,a3.out⟩,by simp[Go.RowKit.intOf];omega⟩
    ·have cr:E=j:=by omega
     subst cr;have ax:=I.out;rw[au.out] at ax;have a7:=Zh (ax.done J.out bY aA.out bN.out aX.out bI.out b8.out bM.out);have cb:Hid (Qa U w M):=Zh (a5.out.trans I.out.upd (fun i ah e=>by have:=ac.out;omega));clear ax;go_wp2_with fail;go_ret2;refine⟨wb,_,Sd',W,ab,rfl,a7.out.1,a7.out.2.1,a7.out.2.2,fun i ah=> ?_,by rw[ac.out];exact Zf _,cb.out⟩;rcases ah with ah|ah|ah
     ·rw[ac.out];exact bF.out i ah
     ·rw[ah,ac.out];exact .inr (Zf _)
     ·have:=a5.out.size;exact .inr (by omega)
end
section
open Go.RowKit Go.Acre Go.Acre.Dk
attribute [local simp] QH
structure KW(w:World)(Sw Sd:Nat->Prop)(kb wb db room n x:Nat)(pre:ByteArray)(fs:List Fl)(k:Kp)(mv ev:Value)(mg:Nat):Prop where
 keep:Xz w (fun i=>i=kb\/Sw i) kb wb k mv ev mg
 wal: ∃E fv,QZ w Sw Sd wb db room n x pre E fv/\Qn E=fs
 kbw: ¬Sw kb
 elt: ∀g,ev.ownBlock=some g->g<w.heap.size
 mlt:mg<w.heap.size
 kb2:kb≠2
section
variable {w:World} {Sw Sd:Nat->Prop} {kb wb db room n x:Nat} {pre:ByteArray} {fs:List Fl} {k:Kp} {mv ev:Value} {mg:Nat}
theorem KW.lt(h:KW w Sw Sd kb wb db room n x pre fs k mv ev mg): ∀i,(i=kb\/Sw i)->i<w.heap.size:=by
 obtain⟨I,J,E,_⟩:=h.wal;rintro i (rfl|D)
 ·exact Ql h.keep.row
 ·exact E.lt i D
theorem KW.upd{w':World}{T:Nat->Prop}(h:KW w Sw Sd kb wb db room n x pre fs k mv ev mg)(D:Qa T w w')(J: ¬T kb)(M: ∀i,Sw i-> ¬T i)(N: ¬T mg)(O: ∀g,ev.ownBlock=some g-> ¬T g)(Q: ¬T 2):KW w' Sw Sd kb wb db room n x pre fs k mv ev mg:=by
 obtain⟨E,I,Y,U⟩:=h.wal;exact⟨h.keep.Qfi D J N O,⟨E,I,Y.upd D M Q,U⟩,h.kbw,fun g W=>Zu (h.elt g W) D.size,Zu h.mlt D.size,h.kb2⟩
theorem KW.Qc{w':World}(h:KW w Sw Sd kb wb db room n x pre fs k mv ev mg)(D:Qa Ze w w'):KW w' Sw Sd kb wb db room n x pre fs k mv ev mg:=h.upd D (fun f=>f) (fun _ _ f=>f) (fun f=>f) (fun _ _ f=>f) (fun f=>f)
theorem Xz.turn(h:Xz w (fun i=>i=kb\/Sw i) kb wb k mv ev mg)(M: ¬Sw kb)(N: ∀g,ev.ownBlock=some g->g<w.heap.size)(U:mg<w.heap.size){w':World}{Sw':Nat->Prop}(J: ∀i,Sw' i->Sw i\/w.heap.size<=i)(O:Qa Sw w w'):Xz w' (fun i=>i=kb\/Sw' i) kb wb k mv ev mg/\ ¬Sw' kb:=by
 have Q:=Ql h.row;have I:=h.Qfi O M (fun e=>h.mfar (.inr e)) (fun g E e=>h.efar g E (.inr e));refine⟨⟨I.row,I.mem,I.Qq,fun g E e=> ?_,fun e=> ?_,.inl rfl,I.few⟩,fun e=>(J kb e).elim M (fun h=>by omega)⟩
 ·rcases e with e|e
  ·exact h.efar g E (.inl e)
  ·rcases J g e with D|D
   ·exact h.efar g E (.inr D)
   ·have:=N g E;omega
 ·rcases e with e|e
  ·exact h.mfar (.inl e)
  ·rcases J mg e with D|D
   ·exact h.mfar (.inr D)
   ·omega
def Qcl(Sw:Nat->Prop)(kb wb db room n x:Nat)(pre:ByteArray)(fs':List Fl)(k':Kp)(mv ev:Value)(mg:Nat)(v:Value)(w:World)(e:Ending)(w':World):Prop:=
 e= .returned v/\ ∃Sw' Sd',KW w' Sw' Sd' kb wb db room n x pre fs' k' mv ev mg/\(∀i,Sw' i->Sw i\/w.heap.size<=i)/\Qa (fun i=>i=kb\/Sw i) w w'
theorem Qho(h:KW w Sw Sd kb wb db room n x pre fs k mv ev mg){w':World}{O:Nat}{M:List Fl}{v:Value}(Y:K3 Sw wb db room O x pre M v w (.returned v) w'):Qcl Sw kb wb db room O x pre M k mv ev mg v w (.returned v) (w'.setCell ⟨kb,7,none⟩ (.bool true)):=by
 obtain⟨_,Sw',Sd',Q,fv',U,W,N,I⟩:=Y;obtain⟨D,J⟩:=h.keep.turn h.kbw h.elt h.mlt N I;have E:Qa (fun i=>i=kb) w' (w'.setCell ⟨kb,7,none⟩ (.bool true)):=(Zr (fun i=>i=kb) w').setCell (p:=⟨kb,7,none⟩) (fun _=>rfl) _;have Z:(w'.setCell ⟨kb,7,none⟩ (.bool true)).heap[kb]? =some (.cells (keepA wb k mv ev) 97 (0,0)):=by
  rw[Qi (o:=7) D.row (.bool true)];rfl
 have hsz:=I.size;have aa:=E.size;refine⟨rfl,Sw',Sd',⟨⟨Z,D.mem.upd E (fun e=>D.mfar (.inl e)),Qr.X3 D.Qq E (fun g hg e=>D.efar g hg (.inl e)),D.efar,D.mfar,D.sk,D.few⟩,⟨Q,fv',U.upd E (fun i hi e=>J (by rw[<-e];exact hi)) (fun e=>h.kb2 e.symm),W⟩,J,fun g hg=>by have:=h.elt g hg;omega,by have:=h.mlt;omega,h.kb2⟩,N,?_⟩;exact (I.mono (fun _ _ h=>.inr h)).trans E (fun _ _ h=>.inl h)
theorem Qcu(h:KW w Sw Sd kb wb db room n x pre fs k mv ev mg){r:ByteArray}(ac:r.size<=1000000)(Y:Qp x fs+1<=QV)(ad:r.size+8+total (Qo pre fs)<=room)(aa:n<=1000000):
  Calls Tryz.prog 33 #[.pointer (some ⟨kb,0,none⟩),.string r] w (Qcl Sw kb wb db room (n+1) x pre (XE x fs r) k mv ev mg (.int .i64 0) w):=by
 obtain⟨ae,aj,N,rfl⟩:=h.wal;have O:=Zh (QrP N ac Y ad aa);have ag:w.cell? ⟨kb,0,none⟩=some (.pointer (some ⟨wb,0,none⟩)):=Qb h.keep.row 0;have D:=Zh h;clear h N;go_enter Tryz.func33,Tryz.ntmps33;go_wp2_with fail;refine O.out.mono ?_
 rintro e w' E;have Z:=E.1;subst Z;have ab:=E;obtain⟨_,Sw',Sd',af,fv',U,W,J,M⟩:=ab;obtain⟨I,Q⟩:=D.out.keep.turn D.out.kbw D.out.elt D.out.mlt J M;have ah:w'.cell? ⟨kb,7,none⟩=some (.bool true):=Qb I.row 7;have ai:=Qg I.row 7 none;have HP:=Zh E;clear E U W J M I Q;go_wp2_with fail;go_ret;exact Qho D.out HP.out
theorem Qe8(h:KW w Sw Sd kb wb db room n x pre fs k mv ev mg)(Z:fs≠[]):
  Calls Tryz.prog 34 #[.pointer (some ⟨kb,0,none⟩)] w (Qcl Sw kb wb db room n x pre (ZF fs) k mv ev mg (.int .i64 0) w):=by
 obtain⟨ab,ag,N,rfl⟩:=h.wal;have O:=Zh (Qji N (fun e=>Z (by rw[e];rfl)));have ad:w.cell? ⟨kb,0,none⟩=some (.pointer (some ⟨wb,0,none⟩)):=Qb h.keep.row 0;have D:=Zh h;clear h N;go_enter Tryz.func34,Tryz.ntmps34;go_wp2_with fail;refine O.out.mono ?_
 rintro e w' E;have Y:=E.1;subst Y;have aa:=E;obtain⟨_,Sw',Sd',ac,fv',U,W,J,M⟩:=aa;obtain⟨I,Q⟩:=D.out.keep.turn D.out.kbw D.out.elt D.out.mlt J M;have ae:w'.cell? ⟨kb,7,none⟩=some (.bool true):=Qb I.row 7;have af:=Qg I.row 7 none;have HP:=Zh E;clear E U W J M I Q;go_wp2_with fail;go_ret;exact Qho D.out HP.out
end
end
section
open Go.RowKit Go.Acre Go.Acre.Dk
attribute [local go_sem ↓] LcG ScG
attribute [local go_sem] Sc1 Sc2 Sc3 Lc2 Lc3
attribute [local simp] QH X6
def Kp.mid(k:Kp)(t:Nat)(v:Option Nat)(x:Nat)(L:List En)(j:Nat):Kp:={k with t:=t,v:=v,l:=if j=0 then k.l else k.l.take (x - k.bi - 1)++L.take j}
theorem QnN(k:Kp)(t:Nat)(v:Option Nat)(x:Nat)(L:List En):k.mid t v x L 0={k with t:=t,v:=v}:=rfl
theorem QnP{k:Kp}{t:Nat}{v:Option Nat}{x:Nat}{L:List En}{j:Nat}(D:j<L.length)(J:k.bi<x)(M:x<=k.bi+k.l.length+1):
  (k.mid t v x L j).put (x+j) L[j].1 L[j].2=k.mid t v x L (j+1)/\Qdk (k.mid t v x L j) (.ent (x+j) L[j].1 L[j].2)=some (k.mid t v x L (j+1))/\x+j<=(k.mid t v x L j).last +1:=by
 have hlen:(k.l.take (x - k.bi - 1)++L.take j).length =x - k.bi - 1+j:=by
  rw[List.length_append,List.length_take,List.length_take];omega
 have I:(k.mid t v x L j).put (x+j) L[j].1 L[j].2=k.mid t v x L (j+1):=by
  unfold Kp.put Kp.mid;simp only;rw[if_neg (by omega: ¬j+1=0)]
  congr 1
  by_cases hj0:j=0
  ·subst hj0
   rw[if_pos rfl,List.take_succ_eq_append_getElem D,Nat.add_zero,List.take_zero,List.nil_append]
  ·rw[if_neg hj0,List.take_of_length_le (by rw[hlen];omega),List.append_assoc,List.take_succ_eq_append_getElem D]
 have E:x+j<=(k.mid t v x L j).bi +(k.mid t v x L j).l.length +1:=by
  unfold Kp.mid;simp only;by_cases hj0:j=0
  ·rw[if_pos hj0];omega
  ·rw[if_neg hj0,hlen];omega
 refine⟨I,?_,E⟩;rw[<-I,Qdk,if_pos ⟨by show k.bi<x+j;omega,E⟩];rfl
theorem QnO{k:Kp}{t:Nat}{v:Option Nat}{x:Nat}{L:List En}(h:x=0/\L=[]\/L≠[]/\x≠0):k.mid t v x L L.length=k.saved t v x L:=by
 unfold Kp.mid Kp.saved;rcases h with ⟨rfl,rfl⟩|⟨D,E⟩
 ·rfl
 ·rw[if_neg E,if_neg (by intro e;exact D (List.eq_nil_of_length_eq_zero e)),List.take_length]
structure Qah(w0 w:World)(Sw0:Nat->Prop)(kb wb db room n0 x:Nat)(pre:ByteArray)(fs0:List Fl)(k:Kp)(mv ev0:Value)(mg j:Nat)(Sw Sd:Nat->Prop)(n:Nat)(fs:List Fl)(rs:List Rc)(ev:Value):Prop where
 kw:KW w Sw Sd kb wb db room n x pre fs k mv ev mg
 ok:ZN x fs rs k
 syn:QdL fs
 ne:fs≠[]
 cnt:Qp x fs<=Qp x fs0+j/\n<=n0+j
 tot:total (Qo pre fs)<=total (Qo pre fs0)+100*j
 sw: ∀i,Sw i->Sw0 i\/w0.heap.size<=i
 ev: ∀g,ev.ownBlock=some g->ev0.ownBlock=some g\/w0.heap.size<=g
 upd:Qa (fun i=>i=kb\/Sw0 i) w0 w
def QfI(Sw0:Nat->Prop)(kb wb db room n0 x:Nat)(pre:ByteArray)(fs0:List Fl)(k:Kp)(mv ev0:Value)(mg j:Nat)(w0:World)(e:Ending)(w:World):Prop:=
 e= .returned (.int .i64 0)/\ ∃Sw Sd n fs rs ev,Qah w0 w Sw0 kb wb db room n0 x pre fs0 k mv ev0 mg j Sw Sd n fs rs ev/\WN fs
section
variable {w:World} {Sw Sd:Nat->Prop} {kb wb db room n x:Nat} {pre:ByteArray} {fs:List Fl} {k:Kp} {mv ev:Value} {mg:Nat}
theorem KW.step(h:KW w Sw Sd kb wb db room n x pre fs k mv ev mg){w':World}(W:Qa (fun i=>i=kb) w w'){k':Kp}{E ev':Value}{D:Nat}(Q:Xz w' (fun i=>i=kb\/Sw i) kb wb k' E ev' D)(M: ∀g,ev'.ownBlock=some g->g<w'.heap.size)(U:D<w'.heap.size):KW w' Sw Sd kb wb db room n x pre fs k' E ev' D:=by
 obtain⟨I,J,Y,N⟩:=h.wal;exact⟨Q,⟨I,J,Y.upd W (fun i O e=>h.kbw (by rw[<-e];exact O)) (fun e=>h.kb2 e.symm),N⟩,h.kbw,M,U,h.kb2⟩
theorem KW.hard(h:KW w Sw Sd kb wb db room n x pre fs k mv ev mg)(t:Nat)(v:Option Nat)(I:t<=30000):KW ((w.setCell ⟨kb,1,none⟩ (.int .u64 t)).setCell ⟨kb,2,none⟩ (.int .i64 (Qd v))) Sw Sd kb wb db room n x pre fs {k with t:=t,v:=v} mv ev mg/\Qa (fun i=>i=kb) w ((w.setCell ⟨kb,1,none⟩ (.int .u64 t)).setCell ⟨kb,2,none⟩ (.int .i64 (Qd v))):=by
 have D:Qa (fun i=>i=kb) w ((w.setCell ⟨kb,1,none⟩ (.int .u64 t)).setCell ⟨kb,2,none⟩ (.int .i64 (Qd v))):=((Zr (fun i=>i=kb) w).setCell (p:=⟨kb,1,none⟩) (fun _=>rfl) _).setCell (p:=⟨kb,2,none⟩) (fun _=>rfl) _;have J:=D.size;have E:=Qi (o:=2) (Qi (o:=1) h.keep.row (.int .u64 t)) (.int .i64 (Qd v));refine⟨h.step D ⟨by rw[E];rfl,h.keep.mem.upd D (fun e=>h.keep.mfar (.inl e)),Qr.X3 h.keep.Qq D (fun g hg e=>h.keep.efar g hg (.inl e)),h.keep.efar,h.keep.mfar,h.keep.sk,⟨h.keep.few.1,I,h.keep.few.2.2⟩⟩ (fun g hg=>by have:=h.elt g hg;omega) (by have:=h.mlt;omega),D⟩
theorem Qah.more{E:World}{I:Nat->Prop}{U j:Nat}{M:List Fl}{J:Value}{W:List Rc}(h:Qah E w I kb wb db room U x pre M k mv J mg j Sw Sd n fs W ev){Y w2:World}{r:Rc}{Sw' Sd':Nat->Prop}(ab: ∀i,Sw' i->Sw i\/w.heap.size<=i)(ac:Qa (fun i=>i=kb\/Sw i) w Y)
  (Q:Wp r) (ai:Qcp r) (ag: ∀k',r≠ .whole k') (al:(QR r).size <=92) (N:Qp x fs+1<=QV) {k':Kp} (ah:Qdk k r=some k') {ev':Value} (ad:KW w2 Sw' Sd' kb wb db room (n+1) x pre (XE x fs (QR r)) k' mv ev' mg) (ae:Qa (fun i=>i=kb) Y w2)
  (af: ∀g,ev'.ownBlock=some g->ev.ownBlock=some g\/E.heap.size<=g):Qah E w2 I kb wb db room U x pre M k' mv J mg (j+1) Sw' Sd' (n+1) (XE x fs (QR r)) (W++[r]) ev':=by
 have am:=h.upd.size;obtain⟨aj,ak,Z,aa⟩:=QbU h.ok.fsok (QaW Q).2 N;refine⟨ad,h.ok.more Q ai ag N ah,appF_but h.syn,aa,⟨?_,?_⟩,?_,fun i O=> ?_,fun g hg=> ?_,?_⟩
 ·rw[Z];have:=h.cnt.1;omega
 ·have:=h.cnt.2;omega
 ·rw[QrA];have:=h.tot;omega
 ·rcases ab i O with D|D
  ·exact h.sw i D
  ·exact .inr (by omega)
 ·rcases af g hg with D|D
  ·exact h.ev g D
  ·exact .inr D
 ·refine h.upd.trans (ac.trans ae (fun _ _ h=>.inl h)) (fun i O e=> ?_)
  rcases e with e|e
  ·exact .inl e
  ·exact (h.sw i e).elim .inr (fun h=>by omega)
theorem Qah.mono{O:World}{E:Nat->Prop}{M j D:Nat}{J:List Fl}{I:Value}{N:List Rc}(h:Qah O w E kb wb db room M x pre J k mv I mg j Sw Sd n fs N ev)(Q:j<=D):Qah O w E kb wb db room M x pre J k mv I mg D Sw Sd n fs N ev:=
 ⟨h.kw,h.ok,h.syn,h.ne,⟨by have:=h.cnt.1;omega,by have:=h.cnt.2;omega⟩,by have:=h.tot;have:100*j<=100*D:=Nat.mul_le_mul_left _ Q;omega,h.sw,h.ev,h.upd⟩
theorem Qah.Qc{O:World}{D:Nat->Prop}{M j:Nat}{I:List Fl}{E:Value}{N:List Rc}(h:Qah O w D kb wb db room M x pre I k mv E mg j Sw Sd n fs N ev){w':World}(J:Qa Ze w w'):Qah O w' D kb wb db room M x pre I k mv E mg j Sw Sd n fs N ev:=
 ⟨h.kw.Qc J,h.ok,h.syn,h.ne,h.cnt,h.tot,h.sw,h.ev,h.upd.trans J (fun _ _ f=>f.elim)⟩
theorem Qmf(a b:Nat)(c d:Int)(w:World):(binOp .eql 42 (.agg #[.int .u64 a,.int .i64 c]) (.agg #[.int .u64 b,.int .i64 d])).run Tryz.prog w= .ok (.bool (decide (a=b/\c=d))) w:=by
 go_simp;by_cases h1:a=b
 ·subst h1
  by_cases h2:c=d<;>simp[h2]
 ·have D: ¬(a:Int)=b:=by omega
  simp[h1,D]
theorem Qmg(a b:Nat)(c d:Int)(w:World):(binOp .neq 42 (.agg #[.int .u64 a,.int .i64 c]) (.agg #[.int .u64 b,.int .i64 d])).run Tryz.prog w= .ok (.bool (!decide (a=b/\c=d))) w:=by
 go_simp;by_cases h1:a=b
 ·subst h1
  by_cases h2:c=d<;>simp[h2]
 ·have D: ¬(a:Int)=b:=by omega
  simp[h1,D]
theorem QrL: ∀{a b:Option Nat},Qd a=Qd b->a=b
 |none,none,_=>rfl
 |none,some b,h=>by have h:(-1:Int)=(b:Int):=h;omega
 |some a,none,h=>by have h:(a:Int)= -1:=h;omega
 |some a,some b,h=>by have h:(a:Int)=b:=h;congr 1;omega
theorem Qp3(h:KW w Sw Sd kb wb db room n x pre fs k mv ev mg){aP:List Rc}(bN:ZN x fs aP k)(b1:WN fs)(bV:fs≠[])(t:Nat)(v:Option Nat)(aM:t<=30000)(aj:Xx v)(c1:Xx k.v){x0:Nat}{lv:Value}{L:List En}
  (aG:x0=0/\L=[]/\(∃a c,lv= .slice a 0 c)\/L≠[]/\QA w lv (x0 - 1) L/\k.bi<x0/\x0<=k.last+1) (bK: ∀g,lv.ownBlock=some g->g≠kb/\ ¬Sw g) (cT:x0+L.length<=20001) (bd: ∀e∈L,1<=e.1/\e.1<=30000/\e.2<=30000)
  (bI:Qp x fs+L.length+1<=QV) (b0:total (Qo pre fs)+100*(L.length+1)<=room) (bT:n+L.length+1<=1000000):
  Calls Tryz.prog 37 #[.pointer (some ⟨kb,0,none⟩),.agg #[.int .u64 t,.int .i64 (Qd v)],.int .u64 x0,lv] w (QfI Sw kb wb db room n x pre fs (k.saved t v x0 L) mv ev mg (L.length+1) w):=by
 have aW:Hid (∀w',Qa (fun _=>False) w w'->Calls Tryz.prog 86 #[.pointer (some ⟨kb,0,none⟩),.agg #[.int .u64 t,.int .i64 (Qd v)],.int .u64 x0,lv] w' (Qk (.bool true) w')):=Zh (fun w' hu=>by
  rcases aG with ⟨rfl,rfl,a,c,rfl⟩|⟨aE,ah,cB,cC⟩
  ·exact QmX t v aj a c w'
  ·exact QmY (h.keep.Qc hu) t v aj (ah.Qc hu) aE cB cC cT bd)
 have aX:Hid (∀w',Qa (fun _=>False) w w'->Calls Tryz.prog 28 #[.pointer (some ⟨kb,0,none⟩)] w' (Is (.bool false) w')):=Zh (fun w' hu=>Qeo (h.keep.Qc hu));have aU:=Zh (QgY t v (by omega) aj);obtain⟨b6,b7,cO⟩: ∃a c,lv= .slice a L.length c:=by
  rcases aG with ⟨_,rfl,a,c,rfl⟩|⟨_,ah,_⟩
  ·exact⟨a,c,rfl⟩
  ·obtain⟨a,c,e,_⟩:=ah.slice;exact⟨a,c,e⟩
 subst cO;have bA:w.cell? ⟨kb,1,none⟩=some (.int .u64 k.t):=Qb h.keep.row 1;have bB:w.cell? ⟨kb,2,none⟩=some (.int .i64 (Qd k.v)):=Qb h.keep.row 2;have aO:=Qf (w:=w) (.cells #[.int .u64 t,.int .i64 (Qd v)] 42);have ap:Hid (Qa (fun _=>False) w (w.alloc (.cells #[.int .u64 t,.int .i64 (Qd v)] 42))):=Zh ((Zr _ w).alloc _);have aS:=Zh h;have ch:=Zh bN;have bw:=Zh b1;have aV:=Zh aG;have cf:=Zh bK;have cp:=Zh bd;have cn:=Zh bV;have bp:=Zh bI;have bu:=Zh b0;have bs:=Zh bT;have aC:=Zh (Qmf t k.t (Qd v) (Qd k.v));have an:=Zh (Qmg t k.t (Qd v) (Qd k.v));obtain⟨b,a8⟩: ∃b,b=decide (t=k.t/\Qd v=Qd k.v):=⟨_,rfl⟩
 rw[<-a8] at aC an;have ca:=Zh a8;clear a8;clear h bN b1 aG bK bd bV bI b0 bT;go_enter Tryz.func37,Tryz.ntmps37;go_upto_region 1 with fail
 generalize w.alloc (.cells #[.int .u64 t,.int .i64 (Qd v)] 42)=w1 at*
 generalize hhb:w.heap.size=hb at*
 have bq:=Zh hhb;clear hhb;have c10:=Qe ap.out bA (fun f=>f);have bC:=Qe ap.out bB (fun f=>f);have bD:=Qb aO 0;have bE:=Qb aO 1;go_wp2_with fail;refine (aX.out _ ap.out).mono ?_
 rintro e w' ⟨rfl,rfl⟩;go_wp2_with fail;refine (aW.out _ ap.out).mono ?_
 rintro e w2 ⟨rfl,bk⟩;have aq:=Zh (ap.out.trans bk (fun _ _ f=>f));have a3:=Zh aO;have ad:Hid (∀w',Qa (fun _=>False) w1 w'->w'.cell? ⟨kb,1,none⟩=some (.int .u64 k.t)/\w'.cell? ⟨kb,2,none⟩=some (.int .i64 (Qd k.v))/\w'.cell? ⟨hb,0,none⟩=some (.int .u64 t)/\w'.cell? ⟨hb,1,none⟩=some (.int .i64 (Qd v))):=Zh (fun w' hu=>⟨Qe hu c10 (fun f=>f),Qe hu bC (fun f=>f),Qe hu bD (fun f=>f),Qe hu bE (fun f=>f)⟩);have ar:=Zh bk;clear bA bB c10 bC bD bE aO bk;obtain⟨e1,Q,U,W⟩:=ad.out _ ar.out;have bX:=aC.out;generalize hvi:Qd v=vi at*
 generalize hvk:Qd k.v=vk at*
 have aD:=Zh hvi;have a2:=Zh hvk;clear hvi hvk;have ao:Hid (Qah w w Sw kb wb db room n x pre fs k mv ev mg 0 Sw Sd n fs aP ev):=Zh ⟨aS.out,ch.out,bw.out.but,cn.out,⟨Zf _,Zf _⟩,Zf _,fun i ai=>.inl ai,fun g aa=>.inl aa,Zr _ _⟩
 cases b
 case' true=>
  have bh:k.mid t v x0 L 0=k:=by
   have aE:=ca.out;rw[<-aD.out,<-a2.out] at aE;have ah:=of_decide_eq_true aE.symm;rw[QnN,ah.1,QrL ah.2]
  by_cases hL0:L=[]
  ·have cR:x0=0:=by
    rcases aV.out with h|h
    ·exact h.1
    ·exact absurd hL0 h.1
   subst hL0;subst cR;go_upto_region 5 with fail
   go_quiet (fail);go_wp2_with fail;go_ret;refine⟨rfl,Sw,Sd,n,fs,aP,ev,?_,bw.out⟩;rw[show k.saved t v 0 []=k from bh];exact (ao.out.mono (Zz _)).Qc (aq.out.drewN _)
  have bP: ¬(L.length:Int)=0:=by
   intro e;exact hL0 (List.eq_nil_of_length_eq_zero (by omega))
  have cK:((L.length:Int)==0)=false:=beq_eq_false_iff_ne.2 bP;have be:=an.out;go_upto_region 5 with fail
  go_quiet (fail);have au:=Zh (aq.out.drewN nq);have ae:=Zh (ar.out.drewN nq);clear e1 Q U W;obtain⟨e1,Q,U,W⟩:=ad.out _ ae.out;generalize w2.drewN nq=w3 at*
  go_upto_region 7 with fail
  go_quiet (fail);have av:=Zh (au.out.drewN nq);generalize w3.drewN nq=w4 at*
  have bv:Hid (∃O af N I ac Y,Qah w w4 Sw kb wb db room n x pre fs (k.mid t v x0 L 0) mv ev mg (1+0) O af N I ac Y):=Zh ⟨Sw,Sd,n,fs,aP,ev,by rw[bh];exact (ao.out.mono (Zz _)).Qc av.out⟩;clear e1 Q U W bX be bh av ae au bP cK ad ao aU a3 ar aq aW aX aD a2 aC an
 case' false=>
  have be:=an.out;go_upto_region 5 with fail
  go_quiet (fail);have au:=Zh (aq.out.drewN nq);have ae:=Zh (ar.out.drewN nq);clear e1 Q U W;obtain⟨e1,Q,U,W⟩:=ad.out _ ae.out;generalize w2.drewN nq=w3 at*
  go_upto_region 7 with fail
  go_quiet (fail);have av:=Zh (au.out.drewN nq);have a1:=Zh (ae.out.drewN nq);clear e1 Q U W;obtain⟨e1,Q,U,W⟩:=ad.out _ a1.out;generalize w3.drewN nq=w4 at*
  go_wp2_with fail;refine (aU.out _).mono ?_
  rintro e w5 ⟨rfl,bm⟩;have az:(QR (.hard t v)).size <=92:=by
   have:=Qbt aM aj;show (str [1]++XJ t v).size <=92;rw[ByteArray.size_append,Zq];simp only[List.length_singleton];omega
  have bZ:Wp (.hard t v):=⟨aM,aj⟩
  have ab:Qp x fs+1<=QV:=by have:=bp.out;omega
  have aY:=Zh (ao.out.Qc (av.out.trans bm (fun _ _ f=>f)));have am:=Zh (Qcu aY.out.kw (r:=QR (.hard t v)) (by omega) ab (by have:=bu.out;omega) (by have:=bs.out;omega));rw[show QR (.hard t v)=(⟨#[1]⟩:ByteArray)++XJ t v from rfl] at am;have aQ:Hid (hb≠kb/\ ¬Sw hb):=Zh ⟨fun e=>by have:=Ql aS.out.keep.row;have:=bq.out;omega,fun e=>by have:=aS.out.lt hb (.inr e);have:=bq.out;omega⟩;have bz:=Zh ((a1.out.trans bm (fun _ _ f=>f)).keep a3.out (fun f=>f));have a9: ¬9223372036854775807<1+(XJ t v).size :=by have:=Qbt aM aj;omega
  clear e1 Q U W bm;go_wp2_with fail;refine am.out.mono ?_
  rintro e w6 M;have ay:=M.1;subst ay;have cP:=M;obtain⟨_,ax,aw,E,Z,J⟩:=cP;have bo:=J.keep bz.out (fun e=>e.elim aQ.out.1 aQ.out.2);have cW:=Qb bo 0;have cX:=Qb bo 1;have cU:w6.cell? ⟨kb,1,none⟩=some (.int .u64 k.t):=Qb E.keep.row 1;have cV:w6.cell? ⟨kb,2,none⟩=some (.int .i64 (Qd k.v)):=Qb E.keep.row 2;have cx:=Qg E.keep.row 1 none;have cy:=Qg E.keep.row 2 none;have ak:=Zh E;have aA:=Zh Z;have al:=Zh J;clear M E Z J bo bX be;go_upto_region 12 with fail
  have aT:=Zh (ak.out.hard t v aM);have aZ:=Zh (aY.out.more (r:=.hard t v) (Sw':=ax) (Sd':=aw) aA.out al.out bZ trivial (fun k' e=>(by cases e)) az ab (k':={k with t:=t,v:=v}) rfl (ev':=ev) aT.out.1 aT.out.2 (fun g aa=>.inl aa));rw[aD.out] at aZ;generalize ((w6.setCell ⟨kb,1,none⟩ (.int .u64 t)).setCell ⟨kb,2,none⟩ (.int .i64 vi))=w9 at*
  have bv:Hid (∃O af N I ac Y,Qah w w9 Sw kb wb db room n x pre fs (k.mid t v x0 L 0) mv ev mg (1+0) O af N I ac Y):=Zh (by
   exact⟨_,_,_,_,_,_,aZ.out⟩)
  clear cW cX cU cV cx cy aZ ak aA al aT bz aQ am aY az bZ ab a9 a1 av ae au ad ao aU a3 ar aq aW aX aD a2 aC an
 all_goals
  go_upto_block 0 with fail
  go_wp2_with fail;go_loopw [54] (fun s wr=> ∃j:Nat,s= .int .i64 j/\j<=L.length/\ ∃O af N I ac Y,Qah w wr Sw kb wb db room n x pre fs (k.mid t v x0 L j) mv ev mg (1+j) O af N I ac Y) (fun s _=>L.length - (Go.RowKit.intOf s).toNat)
  case atStart=>exact⟨0,rfl,by omega,bv.out⟩
  case round=>
   obtain⟨j,rfl,cZ,O,af,N,I,ac,Y,bH⟩:=hrel;have D:=Zh bH;clear bH;by_cases hlt:j<L.length
   ·have c2:(j:Int)< (L.length:Int):=by omega
    have c0:(0:Int)<=j:=by omega
    have cE:L≠[]/\QA w (.slice b6 L.length b7) (x0 - 1) L/\k.bi<x0/\x0<=k.last+1:=by
     rcases aV.out with h|h
     ·rw[h.2.1] at hlt;simp at hlt
     ·exact h
    obtain⟨cF,bF,a6,bG⟩:=cE;have aH:=Qr.X3 bF D.out.upd (fun g aa e=>by
     have:=cf.out g aa;exact e.elim this.1 this.2)
    have aH:QA wr (.slice b6 L.length b7) (x0 - 1) L:=aH;obtain⟨g,o,cJ,aL⟩:=aH.range hlt;subst cJ;have bM:x0 - 1+j+1=x0+j:=by omega
    rw[bM] at aL;have aJ:=cp.out L[j] (List.getElem_mem hlt);have a5:=ZJ (x0+j) L[j].1 L[j].2;have a7:=Z3 (x0+j) L[j].1 L[j].2;have aR:=Zh (fun w=>Qgo (x0+j) L[j].1 L[j].2 (by omega) (by omega) (by omega) (by omega) (by omega) w);have bg:Wp (.ent (x0+j) L[j].1 L[j].2):=⟨⟨by omega,by omega⟩,⟨aJ.1,aJ.2.1⟩,aJ.2.2⟩
    have ba:=Qbl (i:=x0+j) (e:=(L[j].1,L[j].2)) bg;have az:(QR (.ent (x0+j) L[j].1 L[j].2)).size <=92:=by
     show (str [2]++Xy (x0+j) L[j].1 L[j].2).size <=92;rw[ByteArray.size_append,Zq];simp only[List.length_singleton];have:(Xy (x0+j) L[j].1 L[j].2).size <=80:=ba;omega
    have ab:Qp x I+1<=QV:=by have:=bp.out;have:=D.out.cnt.1;omega
    have bY:(QR (.ent (x0+j) L[j].1 L[j].2)).size +8+total (Qo pre I)<=room:=by have:=bu.out;have:=D.out.tot;omega
    have bU:N<=1000000:=by have:=bs.out;have:=D.out.cnt.2;omega
    obtain⟨bQ,bR,bS⟩:=QnP (t:=t) (v:=v) hlt a6 bG;have am:Hid (∀w',Qa (fun _=>False) wr w'->Calls Tryz.prog 33 #[.pointer (some ⟨kb,0,none⟩),.string ((⟨#[2]⟩:ByteArray)++Xy (x0+j) L[j].1 L[j].2)] w' (Qcl O kb wb db room (N+1) x pre (XE x I (QR (.ent (x0+j) L[j].1 L[j].2))) (k.mid t v x0 L j) mv Y mg (.int .i64 0) w')):=Zh (fun w' hu=>Qcu (D.out.kw.Qc hu) (r:=QR (.ent (x0+j) L[j].1 L[j].2)) (by omega) ab bY bU);have a9: ¬9223372036854775807<1+(Xy (x0+j) L[j].1 L[j].2).size :=by
     have:(Xy (x0+j) L[j].1 L[j].2).size <=80:=ba;omega
    obtain⟨A,aF⟩: ∃A,A=Qh (x0+j) L[j].1 L[j].2:=⟨_,rfl⟩
    rw[<-aF] at aL a5 a7;unfold Qfu QS at aR;rw[<-aF] at aR;have b9:=Zh aF;have aB:=Zh a5;have ct:=Zh aL;have cs:=Zh bg;have cw:=Zh az;have cb:=Zh ab;have cl:=Zh bR;have cj:=Zh bQ;have cm:=Zh bS;have ci:=Zh a6;have co:=Zh a7;clear aF bg ba az ab bY bU bQ bR bS aJ aH cF bF a6 bG aL bM a5 a7;generalize Xy (x0+j) L[j].1 L[j].2=EB8 at*
    have cL:=W3 (n:=24) ct.out aB.out;have cQ:=Qde wr aB.out co.out;have b4:=Qdv wr A;have b3:=Qdw (Zr (fun _=>False) wr) A;go_upto_region 15 with fail
    have a4:=Zh b4;have bx:=Zh b3;obtain⟨ag,aI⟩: ∃ag,ag=wr.heap.size:=⟨_,rfl⟩
    rw[<-aI] at a4 bx;have ce:=Zh aI;clear cL cQ b4 b3;rw[<-aI];clear aI;generalize (wr.alloc (.cells QG 116)).setRow ag A=w14 at*
    have cM:=Xc a4.out aB.out;go_wp2_with fail;refine (aR.out _).mono ?_
    rintro e c3 ⟨rfl,bj⟩;have a0:=Zh (bx.out.trans bj (fun _ _ f=>f));have cv:=Zh (bj.keep a4.out (fun f=>f));clear bj cM;go_wp2_with fail;refine (am.out _ a0.out).mono ?_
    rintro e b8 M;have ay:=M.1;subst ay;obtain⟨_,ax,aw,E,Z,J⟩:=M;have cG: ¬(ag=kb\/O ag):=fun e=>by have:=D.out.kw.lt ag e;have:=ce.out;omega
    have b5:=J.keep cv.out cG;have cN:=Xc b5 aB.out;have aK:=Qep E.keep E.lt (i:=x0+j) (t:=L[j].1) (s:=L[j].2) (by show k.bi<x0+j;have:=ci.out;omega) cm.out (by omega);unfold QS at aK;rw[<-b9.out,cj.out] at aK;have cr:=Zh aK;have ak:=Zh E;have aA:=Zh Z;have al:=Zh J;clear aK E Z J b5;go_wp2_with fail;refine cr.out.mono ?_
    rintro e cY ⟨ev',g',rfl,bb,bL,cH,aN⟩;have bW:(k.mid t v x0 L (j+1)).l ≠[]:=by
     unfold Kp.mid;rw[if_neg (by omega),List.take_succ_eq_append_getElem hlt];exact List.append_ne_nil_of_right_ne_nil _ (List.append_ne_nil_of_right_ne_nil _ (by simp))
    have cA:=aN.size;have bO:=ak.out.step aN bb (bb.Qq.lt bW) (by have:=ak.out.mlt;omega);have cD:=al.out.size;have cz:=a0.out.size;have bn:=D.out.upd.size;have b2:=D.out.more (r:=.ent (x0+j) L[j].1 L[j].2) (w2:=cY) (Sw':=ax) (Sd':=aw) (fun i ai=>(aA.out i ai).imp id (fun h=>by omega)) ((a0.out.mono (fun _ _ f=>f.elim)).trans al.out (fun _ _ h=>h)) cs.out (show x0+j<=20000 by omega) (fun k' e=>(by cases e)) cw.out cb.out cl.out bO aN (fun g aa=>by
     rw[bL] at aa
     cases aa
     exact .inr (by omega))
    have cu:=Zh b2;clear b2 bO bb bL cH aN bW cN cA cD cz bn a9;go_wp2_with fail;exact⟨⟨j+1,by go_num,by omega,_,_,_,_,_,_,cu.out⟩,by simp[Go.RowKit.intOf];omega⟩
   ·have cI:j=L.length:=by omega
    subst cI;have cg:=Zh (Qe8 D.out.kw D.out.ne);go_wp2_with fail;refine cg.out.mono ?_
    rintro e b8 M;have ay:=M.1;subst ay;obtain⟨_,ax,aw,E,Z,J⟩:=M;have br:Hid (k.mid t v x0 L L.length=k.saved t v x0 L):=Zh (QnO (by
     rcases aV.out with h|h
     ·exact .inl ⟨h.1,h.2.1⟩
     ·exact .inr ⟨h.1,by omega⟩))
    rw[br.out] at E;have bc:=D.out.ok.syn;rw[br.out] at bc;have bJ:=(Qe7 D.out.ok.fsok)
    have bn:=D.out.upd.size;have cq:Hid (QfI Sw kb wb db room n x pre fs (k.saved t v x0 L) mv ev mg (L.length+1) w (.returned (.int .i64 0)) b8):=Zh ⟨rfl,ax,aw,N,ZF I,ac,Y,⟨E,bc,(Qi1 D.out.syn).but,fun e=>D.out.ne (by
      rcases WI I with h|⟨a,f,h⟩
      ·exact h
      ·rw[h,WL] at e;simp at e),⟨by rw[bJ.2.2];have:=D.out.cnt.1;omega,by have:=D.out.cnt.2;omega⟩,by rw[Qfg];have:=D.out.tot;omega,fun i ai=>(Z i ai).elim (D.out.sw i) (fun h=>.inr (by omega)),D.out.ev,D.out.upd.trans J (fun i ai e=>e.elim .inl (fun e=>(D.out.sw i e).elim .inr (fun h=>by omega)))⟩,Qi1 D.out.syn⟩
    clear E Z J bc bJ bn;go_wp2_with fail;go_ret;exact cq.out
end
def KG:Rc->Nat
 | .hard _ _=>1
 | .ent _ _ _=>2
 | .whole _=>3
def WT:Rc->ByteArray
 | .hard t v=>XJ t v
 | .ent i t s=>Xy i t s
 | .whole k=>XJ k.t k.v++Xw (allT k)
theorem Qij(r:Rc):QR r=str [KG r]++WT r:=by
 cases r with
 |hard t v=>rfl
 |ent i t s=>rfl
 |whole k=>exact KF _ _ _
theorem Qik(r:Rc): ∃h:0< (QR r).size,((QR r)[0]'h).toNat =KG r/\(QR r).extract 1 (QR r).size =WT r:=by
 have J:(QR r).size =1+(WT r).size :=by rw[Qij,ByteArray.size_append,Zq];rfl
 have E:0< (QR r).size :=by omega
 have M:KG r<256:=by cases r<;>simp[KG]
 have D:(QR r).data.toList =UInt8.ofNat (KG r)::(WT r).data.toList :=by
  rw[Qij,ByteArray.data_append,Array.toList_append];have:(str [KG r]).data.toList =[UInt8.ofNat (KG r)]:=by cases r<;>rfl
  rw[this];rfl
 refine⟨E,?_,?_⟩
 ·have I:(QR r)[0]=(QR r).data.toList[0]'(by rw[D];simp):=by
   show (QR r).data[0]=_;simp
  rw[I];simp only[D,List.getElem_cons_zero,UInt8.toNat_ofNat'];omega
 ·apply ByteArray.ext
  apply Array.ext';rw[ByteArray.data_extract,Array.toList_extract,D,List.extract_eq_take_drop,List.drop_succ_cons,List.drop_zero,J,List.take_of_length_le (by rw[Array.length_toList];show (WT r).size <=_;omega)]
theorem Xe.tail{w:World}{g o n cap:Nat}{s:ByteArray}{E:List ByteArray}(h:Xe w (.slice (some ⟨g,o,none⟩) n cap) (s::E)):Xe w (.slice (some ⟨g,o+1,none⟩) (n - 1) (cap - 1)) E:=by
 obtain⟨N,a,c,D,O,Q,_,I⟩:=h;simp only[Value.slice.injEq] at D;obtain⟨rfl,rfl,rfl⟩:=D;simp only[List.length_cons,List.map_cons] at*
 refine⟨by simp,_,_,by rw[Nat.add_sub_cancel],by omega,by omega,fun e=>(by cases e),fun hne=> ?_⟩;obtain⟨g',o',e,J⟩:=I (by simp);simp only[Option.some.injEq,Addr.mk.injEq,and_true] at e;obtain⟨rfl,rfl⟩:=e;refine⟨g,o+1,rfl,fun i M=> ?_⟩;have:=J (i+1) (by simp at M ⊢;omega);rw[show o+1+i=o+(i+1) by omega,this,List.getElem?_cons_succ]
def Qnu:Value->Nat
 | .slice _ n _=>n
 |_=>0
structure Qbb(w0 w:World)(S:Nat->Prop)(kb wb:Nat)(mg0:Nat)(ev0:Value)(k:Kp)(mv ev:Value)(mg:Nat):Prop where
 keep:Xz w S kb wb k mv ev mg
 mgs:mg=mg0\/w0.heap.size<=mg
 evs: ∀g,ev.ownBlock=some g->ev0.ownBlock=some g\/w0.heap.size<=g
 elt: ∀g,ev.ownBlock=some g->g<w.heap.size
 mlt:mg<w.heap.size
 upd:Qa (fun i=>i=kb) w0 w
theorem Xz.hard{w:World}{S:Nat->Prop}{kb wb:Nat}{k:Kp}{mv E:Value}{I:Nat}(h:Xz w S kb wb k mv E I)(t:Nat)(v:Option Nat)(M:t<=30000):Xz ((w.setCell ⟨kb,1,none⟩ (.int .u64 t)).setCell ⟨kb,2,none⟩ (.int .i64 (Qd v))) S kb wb {k with t:=t,v:=v} mv E I/\Qa (fun i=>i=kb) w ((w.setCell ⟨kb,1,none⟩ (.int .u64 t)).setCell ⟨kb,2,none⟩ (.int .i64 (Qd v))):=by
 have D:Qa (fun i=>i=kb) w ((w.setCell ⟨kb,1,none⟩ (.int .u64 t)).setCell ⟨kb,2,none⟩ (.int .i64 (Qd v))):=((Zr (fun i=>i=kb) w).setCell (p:=⟨kb,1,none⟩) (fun _=>rfl) _).setCell (p:=⟨kb,2,none⟩) (fun _=>rfl) _;have J:=Qi (o:=2) (Qi (o:=1) h.row (.int .u64 t)) (.int .i64 (Qd v));exact⟨⟨by rw[J];rfl,h.mem.upd D (fun e=>h.mfar (by rw[e];exact h.sk)),Qr.X3 h.Qq D (fun g hg e=>h.efar g hg (by rw[e];exact h.sk)),h.efar,h.mfar,h.sk,⟨h.few.1,M,h.few.2.2⟩⟩,D⟩
theorem Ko.lt{w:World}{mv:Value}{n g:Nat}(h:Ko w mv n g)(I:1<=n):g<w.heap.size:=by
 rcases h with ⟨E,_⟩|⟨cap,_,_,_,_,_,D⟩
 ·omega
 ·exact World.block_lt_of_cell? w _ (D 0 (by omega))
theorem Qbb.next{Q wr:World}{S:Nat->Prop}{kb wb mg0 N:Nat}{ev0:Value}{ac:Kp}{mv I:Value}(h:Qbb Q wr S kb wb mg0 ev0 ac mv I N){E:World}(ab:Qa (fun i=>i=kb) wr E){M:Kp}{O ev':Value}{D:Nat}(Y:Xz E S kb wb M O ev' D)(J:D=N\/wr.heap.size<=D)
  (U: ∀g,ev'.ownBlock=some g->I.ownBlock=some g\/wr.heap.size<=g) (Z: ∀g,ev'.ownBlock=some g->g<E.heap.size) (aa:D<E.heap.size):Qbb Q E S kb wb mg0 ev0 M O ev' D:=by
 have ad:=h.upd.size;refine⟨Y,?_,fun g W=> ?_,Z,aa,h.upd.trans ab (fun _ _ h=>h)⟩
 ·rcases J with rfl|J
  ·exact h.mgs
  ·exact .inr (by omega)
 ·rcases U g W with e|e
  ·exact h.evs g e
  ·exact .inr (by omega)
section
variable {w:World} {S:Nat->Prop} {kb wb:Nat} {mv0 ev0:Value} {mg0:Nat}
def QfE(S:Nat->Prop)(kb wb mg0:Nat)(ev0:Value)(k:Kp)(w:World)(e:Ending)(w':World):Prop:=e= .returned (.bool true)/\ ∃mv ev mg,Qbb w w' S kb wb mg0 ev0 k mv ev mg
theorem Qm0{aD:Kp}(h:Xz w S kb wb aD mv0 ev0 mg0)(a7: ∀j,S j->j<w.heap.size)(bb: ∀g,ev0.ownBlock=some g->g<w.heap.size)(bo:mg0<w.heap.size){aE:List Rc}{rv:Value}(aU:Xe w rv (aE.map QR))(bd: ∀g,rv.ownBlock=some g->g≠kb/\g<w.heap.size)(bp: ∀r∈aE,Wp r/\Qcp r){k:Kp}(bR:QbD aD aE=some k):
  Calls Tryz.prog 25 #[.pointer (some ⟨kb,0,none⟩),rv] w (QfE S kb wb mg0 ev0 k w):=by
 obtain⟨ra,b0,am⟩:=aU.slice;have bE:=Zh (show Qbb w w S kb wb mg0 ev0 aD mv0 ev0 mg0 from ⟨h,.inl rfl,fun g J=>.inl J,bb,bo,Zr _ _⟩);have a2:=Zh aU;have a0:=Zh bd;have bB:=Zh bp;have a3:=Zh a7;have b1:=Zh (Ql h.row);clear h a7 bb bo aU bd bp;subst am;rw[List.length_map] at a2 a0 ⊢;go_enter Tryz.func25,Tryz.ntmps25;go_wp2_with fail;refine Qfp 0 rfl ?_
 go_wp2_with fail;refine wp_label ?_
 go_upto_block 0 with fail
 go_wp2_with fail;go_loopw [1] (fun aX wr=> ∃(R:List Rc) (a:Option Addr) (c:Nat) (D:Kp) (mv aN:Value) (aW:Nat),aX= .slice a R.length c/\Xe wr (.slice a R.length c) (R.map QR)/\(∀g o,a=some ⟨g,o,none⟩->g≠kb/\g<w.heap.size)/\(∀r∈R,Wp r/\Qcp r)/\QbD D R=some k/\Qbb w wr S kb wb mg0 ev0 D mv aN aW) (fun aX _=>Qnu aX)
 case atStart=>
  exact⟨aE,ra,b0,aD,mv0,ev0,mg0,rfl,a2.out,fun g o e=>a0.out g (by rw[e];rfl),bB.out,bR,bE.out⟩
 case round=>
  obtain⟨R,a,c,D,mv,aN,aW,rfl,an,bc,az,ax,av⟩:=hrel
  cases R with
  |
   nil=>
   have E:D=k:=by
    have:some D=some k:=ax;exact Option.some.inj this
   subst E;have bw:Hid (QfE S kb wb mg0 ev0 D w (.returned (.bool true)) wr):=Zh ⟨rfl,mv,aN,aW,av⟩;clear an az ax av;go_wp2_with fail;go_ret;exact bw.out
  |
   cons r R=>
   obtain⟨g,o,bN,a9⟩:=Xe.cell an (i:=0) (by simp);subst bN;have bg:=bc g o rfl;have am:=az r List.mem_cons_self;have bM:=(QaW am.1).2;obtain⟨T,aw⟩: ∃T,T=QR r:=⟨_,rfl⟩
   obtain⟨bK,ag,bL⟩: ∃h:0<T.size,(T[0]'h).toNat =KG r/\T.extract 1 T.size=WT r:=by
    subst aw;exact Qik r
   have b6:wr.cell? ⟨g,o,none⟩=some (.string T):=by
    rw[aw]
    simpa using a9
   rw[<-aw] at bM;have a8:T.toList.isEmpty=false:=Qek bK;have b5: ¬T.toList=[]:=by
    intro e;rw[e] at a8
    cases a8
   obtain⟨Y,aR⟩: ∃Y,Y=WT r:=⟨_,rfl⟩
   rw[<-aR] at bL;have b8:(0:Int)< (T.size:Int):=by omega
   have b9:(1:Int)<=T.size:=by omega
   have bm:(0:Int)< (((r::R).length :Nat):Int):=by rw[List.length_cons];omega
   have bn:(1:Int)<=(((r::R).length :Nat):Int):=by rw[List.length_cons];omega
   have aC:=Xe.tail (show Xe wr (.slice (some ⟨g,o,none⟩) (r::R).length c) (QR r::R.map QR) from an);obtain⟨m,ay⟩: ∃m,m=(r::R).length :=⟨_,rfl⟩
   have bO:m<=c:=by
    obtain⟨_,b2,c',br,bI,_⟩:=an;simp only[Value.slice.injEq] at br;obtain⟨_,_,rfl⟩:=br;rw[ay]
    simpa using bI
   rw[<-ay] at bm bn aC ⊢;have ai:Hid (m=R.length+1):=Zh ay;have N:=Zh av;have aI:Hid (∀x∈R,Wp x/\Qcp x):=Zh (fun x bZ=>az x (List.mem_cons_of_mem _ bZ));have aH:=Zh ax;have aj:=Zh am;have a1:=Zh bg;have aK:=Zh aR;clear an az ax av am bg aR bc ay aw a9;by_cases hc1':c=1
   case' pos=>
    have bT:m=1:=by omega
    have bJ:R=[]:=List.eq_nil_of_length_eq_zero (by have:=ai.out;omega);subst bJ;subst bT;subst hc1';have au:Hid (Xe wr (.slice (some ⟨g,o,none⟩) 0 0) (([]:List Rc).map QR)):=Zh ⟨rfl,_,_,rfl,Zf _,Zz _,fun e=>(by cases e),fun e=>absurd rfl e⟩;have ac:Hid (∀x y,(some ⟨g,o,none⟩:Option Addr)=some ⟨x,y,none⟩->x≠kb/\x<w.heap.size):=Zh (fun x y e=>by
     simp only[Option.some.injEq,Addr.mk.injEq,and_true] at e;rw[<-e.1];exact a1.out)
    have ad:Hid (([]:List Rc).length =0):=Zh rfl;clear aC bO bm bn;generalize ([]:List Rc)=R at*
   case' neg=>
    have au:=Zh aC;have ac:Hid (∀x y,(some ⟨g,o+1,none⟩:Option Addr)=some ⟨x,y,none⟩->x≠kb/\x<w.heap.size):=Zh (fun x y e=>by
     simp only[Option.some.injEq,Addr.mk.injEq,and_true] at e;rw[<-e.1];exact a1.out)
    have ad:Hid (R.length=m - 1):=Zh (by have:=ai.out;omega);clear aC
   all_goals
    cases r with
    |
     hard t v=>
     have ag:T[0].toNat =1:=ag;go_upto_region 6 with fail
     go_wp2_with fail;refine (Qds _ _).mono ?_
     rintro e aF ⟨rfl,ab⟩;have W:=Qf (w:=wr) (.cells #[.string Y] 213);have I:Qa (fun _=>False) wr (wr.alloc (.cells #[.string Y] 213)):=(Zr _ wr).alloc _;rw[<-ab] at W I;obtain⟨rb,M⟩: ∃rb,rb=wr.heap.size:=⟨_,rfl⟩
     rw[<-M] at W;have aJ:=Zh M;have af:=Zh I;rw[<-M];clear ab M I;have Q:t<=30000/\Xx v:=aj.out.1;have ao:Xo 213 aF rb (XJ t v++⟨#[]⟩):=by
      rw[WJ];have:=aK.out;rw[show WT (.hard t v)=XJ t v from rfl] at this;rw[<-this];exact W
     have b7:=Qbt Q.1 Q.2;have a4:=Zh (Qi4 ao (by rw[WJ];omega) Q.1 Q.2);have bD:=Zh Q;clear W ao Q;go_wp2_with fail;refine a4.out.mono ?_
     rintro e w2 ⟨rfl,aB,aq⟩;have bz:Hid (∀w',Qa (fun _=>False) w2 w'->Calls Tryz.prog 66 #[.pointer (some ⟨rb,0,none⟩)] w' (Is (.int .i64 0) w')):=Zh (fun w' hu=>Qew (show Xo 213 w' rb ⟨#[]⟩ from hu.keep aB (fun f=>f)));have aM:Hid (Qa (fun i=>i=rb) wr w2):=Zh ((af.out.mono (fun _ _ f=>f.elim)).trans aq (fun _ _ h=>h));have aV:=Qf (w:=w2) (.cells #[.int .u64 t,.int .i64 (Qd v)] 42);have a5:Hid (Qa (fun _=>False) w2 (w2.alloc (.cells #[.int .u64 t,.int .i64 (Qd v)] 42))):=Zh ((Zr _ w2).alloc _);clear aB aq a4;go_upto_region 10 with fail
     change Code.wp _ _ _ _ (w2.alloc (.cells #[.int .u64 t,.int .i64 (Qd v)] 42));generalize w2.alloc (.cells #[.int .u64 t,.int .i64 (Qd v)] 42)=w3 at*
     generalize w2.heap.size=hb at*
     have cg:=Qb aV 0;have ch:=Qb aV 1;have a6:Hid (Qa (fun _=>False) wr w3):=Zh ((aM.out.trans a5.out (fun _ _ f=>f.elim)).mono (fun i hi e=>by have:=aJ.out;omega));have ah:=Zh (N.out.keep.Qc a6.out);have ce:w3.cell? ⟨kb,1,none⟩=some (.int .u64 D.t):=Qb ah.out.row 1;have cf:w3.cell? ⟨kb,2,none⟩=some (.int .i64 (Qd D.v)):=Qb ah.out.row 2;have b3:=Qg ah.out.row 1 none;have b4:=Qg ah.out.row 2 none;clear aV;go_wp2_with fail;refine (bz.out _ a5.out).mono ?_
     rintro e ci ⟨rfl,rfl⟩;obtain⟨bh,bj⟩:=ah.out.hard t v bD.out.1;have E:Qa (fun i=>i=kb) wr _:=(a6.out.mono (fun _ _ f=>f.elim)).trans bj (fun _ _ h=>h);have hsz:=E.size;have Z:=N.out.next E bh (.inl rfl) (fun g J=>.inl J) (fun g J=>by have:=N.out.elt g J;omega) (by have:=N.out.mlt;omega);have aa:=Qr.X3 au.out E (fun q U e=>by
      have O:=ac.out q _ (by cases U;rfl);exact O.1 e)
     have ak:=Zh Z;have al:=Zh aa;clear bh bj E hsz Z aa;go_wp2_with fail;exact⟨⟨R,_,_,_,_,_,_,by rw[ad.out],by rw[ad.out];exact al.out,ac.out,aI.out,aH.out,ak.out⟩,by first|(show 0<1;omega)|(show m - 1<m;have:=ai.out;omega)⟩
    |
     ent i t s=>
     have ag:T[0].toNat =2:=ag;have Q:Qcj i (t,s):=aj.out.1;have bV:=Q.i;have aB:=Q.t;have bW:=Q.s;have bQ:i<=20000:=aj.out.2;have ba:(D.bi<i/\i<=D.bi+D.l.length+1)/\QbD (D.put i t s) R=some k:=by
      have O:=aH.out;rw[QbD,Qdk] at O;by_cases hc:D.bi<i/\i<=D.bi+D.l.length+1
      ·rw[if_pos hc] at O
       exact⟨hc,O⟩
      ·rw[if_neg hc] at O
       cases O
     have aG:=Zh ba;have ar:=Zh (fun w=>decode_any i t s (by omega) (by have:(t,s).1=t:=rfl;omega) (by omega) (by have:(t,s).1=t:=rfl;omega) (by have:(t,s).2=s:=rfl;omega) w);have aO:=ZJ i t s;have aQ:=Z3 i t s;obtain⟨A,aP⟩: ∃A,A=Qh i t s:=⟨_,rfl⟩
     unfold QdB QS at ar;rw[<-aP] at ar aO aQ;have bu:=Zh aP;have aZ:=Zh aO;have bA:=Zh aQ;have bF:Hid (Xy i t s=Y):=Zh aK.out.symm;rw[bF.out] at ar;clear Q bV aB bW ba aP aO aQ;go_upto_region 6 with fail
     go_wp2_with fail;refine (Qds _ _).mono ?_
     rintro e aF ⟨rfl,ab⟩;have I:Qa (fun _=>False) wr (wr.alloc (.cells #[.string Y] 213)):=(Zr _ wr).alloc _;rw[<-ab] at I;have af:=Zh I;obtain⟨rb,M⟩: ∃rb,rb=wr.heap.size:=⟨_,rfl⟩
     rw[<-M];clear ab I M;go_wp2_with fail;refine (ar.out _).mono ?_
     rintro e w2 ⟨rfl,aq⟩;have aM:=Zh (af.out.trans aq (fun _ _ f=>f));clear aq;have bX:=Qde w2 aZ.out bA.out;have bs:=Qdv w2 A;have bq:=Qdw aM.out A;have bG:=Zh bs;have aL:=Zh bq;clear bs bq;go_upto_region 14 with fail
     clear bX;generalize (w2.alloc (.cells QG 116)).setRow w2.heap.size A=w14 at*
     generalize w2.heap.size=eb at*
     have bS:=Xc bG.out aZ.out;have bY:=aL.out.size;have aA:=Qep (N.out.keep.Qc aL.out) (fun q U=>by have:=a3.out q U;have:=N.out.upd.size;omega) (i:=i) (t:=t) (s:=s) aG.out.1.1 aG.out.1.2 bQ;unfold QS at aA;rw[<-bu.out] at aA;have bC:=Zh aA;clear aA;go_wp2_with fail;refine bC.out.mono ?_
     rintro e aY ⟨ev',g',rfl,ae,be,bP,ap⟩;have E:Qa (fun i=>i=kb) wr aY:=(aL.out.mono (fun _ _ f=>f.elim)).trans ap (fun _ _ h=>h);have Z:=N.out.next E ae (.inl rfl) (fun g J=>by
      rw[be] at J
      cases J
      exact .inr (by omega)) (ae.Qq.lt (by
       show D.l.take _++[_]≠[];simp)) (by have:=N.out.mlt;have:=E.size;omega)
     have aa:=Qr.X3 au.out E (fun q U e=>by
      have O:=ac.out q _ (by cases U;rfl);exact O.1 e)
     have ak:=Zh Z;have al:=Zh aa;clear ae be bP ap E Z aa bS bY;go_wp2_with fail;exact⟨⟨R,_,_,_,_,_,_,by rw[ad.out],by rw[ad.out];exact al.out,ac.out,aI.out,aG.out.2,ak.out⟩,by first|(show 0<1;omega)|(show m - 1<m;have:=ai.out;omega)⟩
    |
     whole k'=>
     have ag:T[0].toNat =3:=ag;have aT:ZY k':=aj.out.1;have bk:k'.last<=20000:=aj.out.2;have bx:=Zh aT;go_upto_region 6 with fail
     go_wp2_with fail;refine (Qds _ _).mono ?_
     rintro e aF ⟨rfl,ab⟩;have W:=Qf (w:=wr) (.cells #[.string Y] 213);have I:Qa (fun _=>False) wr (wr.alloc (.cells #[.string Y] 213)):=(Zr _ wr).alloc _;rw[<-ab] at W I;obtain⟨rb,M⟩: ∃rb,rb=wr.heap.size:=⟨_,rfl⟩
     rw[<-M] at W;have aJ:=Zh M;have af:=Zh I;rw[<-M];have ao:Xo 213 aF rb (XJ k'.t k'.v++Xw (allT k')):=by
      have:=aK.out;rw[show WT (.whole k')=XJ k'.t k'.v++Xw (allT k') from rfl] at this;rw[<-this];exact W
     have bv:=Zh (QmN (N.out.keep.Qc I) (fun q U=>by have:=a3.out q U;have:=N.out.upd.size;have:=I.size;omega) aT bk ao);clear ab M I W ao aT bk;go_wp2_with fail;refine bv.out.mono ?_
     rintro e aY ⟨cb,ev',ca,rfl,ae,bU,aS,ap⟩;have E:Qa (fun i=>i=kb) wr aY:=((af.out.mono (T:=fun i=>i=kb\/i=rb) (fun _ _ f=>f.elim)).trans ap (fun _ _ h=>h)).mono (fun i hi e=>e.elim id (fun e=>by have:=aJ.out;omega));have bH:=af.out.size;have Z:=N.out.next E ae (.inr (by omega)) (fun g J=>.inr (by have:=(aS g J).1;omega)) (fun g J=>(aS g J).2) (ae.mem.lt bx.out.n.1);have aa:=Qr.X3 au.out E (fun q U e=>by
      have O:=ac.out q _ (by cases U;rfl);exact O.1 e)
     have ak:=Zh Z;have al:=Zh aa;clear ae bU aS ap E Z aa bH;go_wp2_with fail;exact⟨⟨R,_,_,_,_,_,_,by rw[ad.out],by rw[ad.out];exact al.out,ac.out,aI.out,aH.out,ak.out⟩,by first|(show 0<1;omega)|(show m - 1<m;have:=ai.out;omega)⟩
end
def Kp.restored(k:Kp)(t:Nat)(v:Option Nat)(n b bt:Nat):Kp:=⟨t,v,n,b,bt,Q1 k.bi k.bt k.l b bt⟩
structure QfG(w0 w:World)(Sw0:Nat->Prop)(kb wb db room n x:Nat)(pre:ByteArray)(fs0:List Fl)(k':Kp)(Sw Sd:Nat->Prop)(f:Fl)(rs:List Rc)(mv ev:Value)(mg:Nat):Prop where
 kw:KW w Sw Sd kb wb db room (n+1) f.first pre [f] k' mv ev mg
 ok:ZN f.first [f] rs k'
 syn:WN [f]
 cnt:Qp f.first [f]=Qp x fs0+1
 tot:total (Qo pre [f])<=total (Qo pre fs0)+((allB k').size +8)
 sw: ∀i,Sw i->Sw0 i\/w0.heap.size<=i
 mgs:w0.heap.size<=mg
 evs: ∀g,ev.ownBlock=some g->w0.heap.size<=g
 upd:Qa (fun i=>i=kb\/Sw0 i) w0 w
def Wq(Sw0:Nat->Prop)(kb wb db room n x:Nat)(pre:ByteArray)(fs0:List Fl)(k':Kp)(w0:World)(e:Ending)(w:World):Prop:=
 e= .returned (.int .i64 0)/\ ∃Sw Sd f rs mv ev mg,QfG w0 w Sw0 kb wb db room n x pre fs0 k' Sw Sd f rs mv ev mg
section
variable {w:World} {Sw Sd:Nat->Prop} {kb wb db room n x:Nat} {pre:ByteArray} {fs:List Fl} {k:Kp} {mv ev:Value} {mg:Nat}
theorem Qhn{aH:List Rc}(aA:ZN x fs aH k){t:Nat}{v:Option Nat}{n2 b bt:Nat}(Q:ZY (k.restored t v n2 b bt))(ap:(k.restored t v n2 b bt).last <=20000)(av:Qp x fs+1<=QV)
  {U J M:World} (ah:Qa Ze w U) (ag:Qa (fun i=>i=kb\/Sw i) U J) {Sw14 Sd14:Nat->Prop} {x14:Nat} {O:List FV} {ai:Value} (af: ∀i,Sw14 i->Sw i\/U.heap.size<=i) (aq: ∀i,(i=kb\/Sw i)->i<w.heap.size)
  (ad:QZ J Sw14 Sd14 wb db room (n+1) x14 pre O ai) (aw:Qn O=Z2 (Qp x fs) (ZF (XE x fs (allB (k.restored t v n2 b bt))))) (aB:Xz J (fun i=>i=kb\/Sw14 i) kb wb k mv ev mg) (an: ¬Sw14 kb) (ao:kb≠2)
  (ab:Qa Ze J M) {I E:Value} {N:Nat} (ar:QD M I n2 N) (aN:J.heap.size<=N) (aG:QA J E b (Q1 k.bi k.bt k.l b bt)) (ae: ∀q,E.ownBlock=some q->w.heap.size<=q/\q<U.heap.size):
  Wq Sw kb wb db room n x pre fs (k.restored t v n2 b bt) w (.returned (.int .i64 0)) ((((((M.setCell ⟨kb,1,none⟩ (.int .u64 t)).setCell ⟨kb,2,none⟩ (.int .i64 (Qd v))).setCell ⟨kb,3,none⟩ (.int .u64 b)).setCell ⟨kb,4,none⟩ (.int .u64 bt)).setCell ⟨kb,5,none⟩ I).setCell ⟨kb,6,none⟩ E):=by
 have ac:Qa (fun i=>i=kb) M ((((((M.setCell ⟨kb,1,none⟩ (.int .u64 t)).setCell ⟨kb,2,none⟩ (.int .i64 (Qd v))).setCell ⟨kb,3,none⟩ (.int .u64 b)).setCell ⟨kb,4,none⟩ (.int .u64 bt)).setCell ⟨kb,5,none⟩ I).setCell ⟨kb,6,none⟩ E):=((((((Zr (fun i=>i=kb) M).setCell (p:=⟨kb,1,none⟩) (fun _=>rfl) _).setCell (p:=⟨kb,2,none⟩) (fun _=>rfl) _).setCell (p:=⟨kb,3,none⟩) (fun _=>rfl) _).setCell (p:=⟨kb,4,none⟩) (fun _=>rfl) _).setCell (p:=⟨kb,5,none⟩) (fun _=>rfl) _).setCell (p:=⟨kb,6,none⟩) (fun _=>rfl) _;have aD:=ab.keep aB.row (fun f=>f);have aC:=Qi (o:=6) (Qi (o:=5) (Qi (o:=4) (Qi (o:=3) (Qi (o:=2) (Qi (o:=1) aD (.int .u64 t)) (.int .i64 (Qd v))) (.int .u64 b)) (.int .u64 bt)) I) E;have aE: ∀(W:World),W.heap[kb]? =some (.cells ((((((((keepA wb k mv ev).setIfInBounds 1 (.int .u64 t)).setIfInBounds 2 (.int .i64 (Qd v))).setIfInBounds 3 (.int .u64 b)).setIfInBounds 4 (.int .u64 bt)).setIfInBounds 5 I).setIfInBounds 6 E)) 97 (0,0))->W.heap[kb]? =some (.cells (keepA wb (k.restored t v n2 b bt) I E) 97 (0,0)):=fun W h=>by
  rw[h];simp[keepA,Kp.restored]
 obtain⟨f,aI,ak,ax,ay,az,aM⟩:=aA.whole Q ap av;have al:Qn O=[f]:=by rw[aw];exact ak
 have aF:x14=f.first:=by
  have:=ad.ok.chain;rw[al] at this;exact this.1.symm
 subst aF;have aJ:=ah.size;have aK:=ag.size;have aL:=ab.size;have au:=ac.size;have aO:kb<w.heap.size:=aq kb (.inl rfl);have am:N≠kb:=by omega
 have aa:Qa (fun i=>i=kb) J ((((((M.setCell ⟨kb,1,none⟩ (.int .u64 t)).setCell ⟨kb,2,none⟩ (.int .i64 (Qd v))).setCell ⟨kb,3,none⟩ (.int .u64 b)).setCell ⟨kb,4,none⟩ (.int .u64 bt)).setCell ⟨kb,5,none⟩ I).setCell ⟨kb,6,none⟩ E):=(ab.mono (fun _ _ f=>f.elim)).trans ac (fun _ _ h=>h);have Z: ∀q,E.ownBlock=some q->q≠kb/\ ¬Sw14 q:=fun q D=>by
  have Y:=ae q D;refine⟨by omega,fun e=> ?_⟩;rcases af q e with aj|aj
  ·have:=aq q (.inr aj);omega
  ·omega
 refine⟨rfl,Sw14,Sd14,f,aI,I,E,N,⟨⟨⟨aE _ aC,.inr (ar.upd ac am),Qr.X3 aG aa (fun q D e=>(Z q D).1 e),fun q D e=>e.elim (Z q D).1 (Z q D).2,fun e=> ?_,.inl rfl,⟨ap,?_,?_⟩⟩,⟨O,ai,ad.upd aa (fun i hi e=>an (by rw[<-e];exact hi)) (fun e=>ao e.symm),al⟩,an,fun q D=> ?_,?_,ao⟩,ax,ay,az,?_,fun i hi=>(af i hi).imp id (fun h=>by omega),by omega,fun q D=>(ae q D).1,?_⟩⟩
 ·rcases e with e|e
  ·exact am e
  ·have:=ad.lt N e;omega
 ·exact Q.t
 ·exact Q.bt.2
 ·have:=(ae q D).2;omega
 ·exact Zu (Ko.lt (.inr ar) Q.n.1) au
 ·have Y:=QbL pre (Qp x fs) (ZF (XE x fs (QR (.whole (k.restored t v n2 b bt)))))
  rw[ak,Qfg,QrA] at Y;exact Y
 ·exact ((ah.mono (T:=fun i=>i=kb\/Sw i) (fun _ _ f=>f.elim)).trans ag (fun _ _ h=>h)).trans aa (fun _ _ h=>.inl h)
theorem Qeq(h:KW w Sw Sd kb wb db room n x pre fs k mv ev mg){dI:List Rc}(cQ:ZN x fs dI k)(t:Nat)(v:Option Nat)(d3:t<=30000)(bB:Xx v){n2 b bt D:Nat}{bn:Value}(aQ:QD w bn n2 D)(cN:1<=b/\b<=20000)(dv:1<=bt/\bt<=30000)(dU:k.bi<=b)(c0:ZY (k.restored t v n2 b bt))(cV:(k.restored t v n2 b bt).last <=20000)
  (cO:Qp x fs+1<=QV) (c1:(allB (k.restored t v n2 b bt)).size +8+total (Qo pre fs)<=room) (cY:n<=1000000) (dY:k.l.length<=20000) (dz:D≠kb/\ ¬Sw D):
  Calls Tryz.prog 9 #[.pointer (some ⟨kb,0,none⟩),.agg #[.int .u64 t,.int .i64 (Qd v)],QC b bt bn] w (Wq Sw kb wb db room n x pre fs (k.restored t v n2 b bt) w):=by
 have cG:Hid (∀w',Qa Ze w w'->Calls Tryz.prog 28 #[.pointer (some ⟨kb,0,none⟩)] w' (Is (.bool false) w')):=Zh (fun w' hu=>Qeo (h.keep.Qc hu));have cE:=Zh (Qeh t v bB);have bM:Hid (∀w',Qa Ze w w'->Calls Tryz.prog 30 #[QC b bt bn] w' (Qk (.bool true) w')):=Zh (fun w' hu=>QeB b bt (aQ.upd hu (fun f=>f)) cN.1 dv.1);have cC:Hid (∀w',Qa Ze w w'->Calls Tryz.prog 31 #[.pointer (some ⟨kb,0,none⟩),.int .u64 b] w' (Qk (XT (Qu k.bi k.bt k.l b)) w')):=Zh (fun w' hu=>Qg5 (h.keep.Qc hu) b cN.1 (by omega));have di:Hid (∀w',Qa Ze w w'->Calls Tryz.prog 26 #[QC b bt bn] w' (KV b bt n2 w')):=Zh (fun w' hu=>QcO b bt (aQ.upd hu (fun f=>f)));obtain⟨J,cX,_⟩:=aQ;have aQ:QD w bn n2 D:=⟨J,cX,by assumption⟩
 have br:=Zh aQ;subst cX;have cJ:w.cell? ⟨kb,3,none⟩=some (.int .u64 k.bi):=Qb h.keep.row 3;have cK:w.cell? ⟨kb,6,none⟩=some ev:=Qb h.keep.row 6;have bo:=Zh dz;have ai:=Zh h;have bq:=Zh cQ;have aN:=Zh c0;have cF:=Zh cV;have ap:=Zh cO;have cI:=Zh c1;clear h cQ aQ c0 cV cO c1;unfold QC at bM di ⊢;have c8:=heap_alloc2_old w (.cells #[.int .u64 t,.int .i64 (Qd v)] 42) (.cells #[.int .u64 b,.int .u64 bt,.slice (some ⟨D,0,none⟩) n2 J] 44);have da:=heap_alloc2_new w (.cells #[.int .u64 t,.int .i64 (Qd v)] 42) (.cells #[.int .u64 b,.int .u64 bt,.slice (some ⟨D,0,none⟩) n2 J] 44);have bs:Hid (Qa Ze w ((w.alloc (.cells #[.int .u64 t,.int .i64 (Qd v)] 42)).alloc (.cells #[.int .u64 b,.int .u64 bt,.slice (some ⟨D,0,none⟩) n2 J] 44))):=Zh (((Zr _ w).alloc _).alloc _);go_enter Tryz.func9,Tryz.ntmps9;go_upto_region 1 with fail
 change Code.wp _ _ _ _ ((w.alloc (.cells #[.int .u64 t,.int .i64 (Qd v)] 42)).alloc (.cells #[.int .u64 b,.int .u64 bt,.slice (some ⟨D,0,none⟩) n2 J] 44));generalize (w.alloc (.cells #[.int .u64 t,.int .i64 (Qd v)] 42)).alloc (.cells #[.int .u64 b,.int .u64 bt,.slice (some ⟨D,0,none⟩) n2 J] 44)=w1 at*
 generalize hhb:w.heap.size=hb1 at*
 have bp:=Zh hhb;clear hhb;have bv:=Zh c8;have a3:=Zh da;clear c8 da;go_wp2_with fail;refine (cG.out _ bs.out).mono ?_
 rintro e w' ⟨rfl,rfl⟩;have cP:=Qe bs.out cJ (fun f=>f);have aM:Hid (∀w',Qa Ze w1 w'->w'.cell? ⟨hb1,0,none⟩=some (.int .u64 t)/\w'.cell? ⟨hb1,1,none⟩=some (.int .i64 (Qd v))/\w'.cell? ⟨hb1+1,0,none⟩=some (.int .u64 b)/\w'.cell? ⟨hb1+1,1,none⟩=some (.int .u64 bt)/\w'.cell? ⟨hb1+1,2,none⟩=some (.slice (some ⟨D,0,none⟩) n2 J)/\w'.cell? ⟨kb,3,none⟩=some (.int .u64 k.bi)):=Zh (fun w' hu=>⟨Qe hu (Qb bv.out 0) (fun f=>f),Qe hu (Qb bv.out 1) (fun f=>f),Qe hu (Qb a3.out 0) (fun f=>f),Qe hu (Qb a3.out 1) (fun f=>f),Qe hu (Qb a3.out 2) (fun f=>f),Qe hu cP (fun f=>f)⟩);clear cP cJ;generalize hvi:Qd v=vi at*
 have bu:=Zh hvi;clear hvi;have dR: ¬(b:Int)=0:=by omega
 have dS:((b:Int)==0)=false:=by simp;omega
 have du: ¬(b:Int)< (k.bi:Int):=by omega
 have dV:decide ((b:Int)< (k.bi:Int))=false:=decide_eq_false du;have dW:decide (b<k.bi)=false:=decide_eq_false (by omega);have dT:decide (b=0)=false:=decide_eq_false (by omega);go_upto_region 3 with fail
 have hcur:Qa Ze w1 w1.drew:=(Zr _ w1).drew;obtain⟨U,W,Y,Z,aa,an⟩:=aM.out _ hcur;go_region_held3 (fun w'=>w'.cell? ⟨hb1,0,none⟩=some (.int .u64 t)/\w'.cell? ⟨hb1,1,none⟩=some (.int .i64 vi)/\w'.cell? ⟨hb1+1,0,none⟩=some (.int .u64 b)/\w'.cell? ⟨hb1+1,1,none⟩=some (.int .u64 bt)/\w'.cell? ⟨hb1+1,2,none⟩=some (.slice (some ⟨D,0,none⟩) n2 J)/\w'.cell? ⟨kb,3,none⟩=some (.int .u64 k.bi)) (first|exact⟨U,W,Y,Z,aa,an⟩|exact aM.out _ (by assumption)) ((first
  |(go_at_call 29;refine (cE.out _).mono ?_;clear cE;rintro e dM ⟨rfl,c6⟩;have ca:Qa Ze w1 dM:=Qa.trans hcur c6 (fun _ _ f=>f);have dw:=bs.out.trans ca (fun _ _ f=>f))
  |(go_at_call 30;refine (bM.out _ (by assumption)).mono ?_;rintro e dL ⟨rfl,c4⟩;have b9:Qa Ze w1 dL:=Qa.trans ca c4 (fun _ _ f=>f))))
 all_goals
  have bR:=Zh (bs.out.trans b9 (fun _ _ f=>f));have bS:=Zh b9;clear U W Y Z aa an hcur ca c6 dw c4 b9;obtain⟨U,W,Y,Z,aa,an⟩:=aM.out _ bS.out;clear U W Z aa an;go_upto_region 6 with fail
  go_wp2_with fail;refine (cC.out _ bR.out).mono ?_
  rintro e ao ⟨rfl,cn⟩;have a0:=Zh (bR.out.trans cn (fun _ _ f=>f));have bQ:=Zh (bS.out.trans cn (fun _ _ f=>f));clear cn Y bR bS bM cC cG;obtain⟨U,W,Y,Z,aa,an⟩:=aM.out _ bQ.out;have dx:(Qu k.bi k.bt k.l b=some bt)\/(Q1 k.bi k.bt k.l b bt=[]/\ ∃(x:Nat) (c:Bool),XT (Qu k.bi k.bt k.l b)= .tuple #[.int .u64 (x:Int),.bool c]/\(c=false\/c=true/\x≠bt)):=by
   unfold Q1
   cases hta:Qu k.bi k.bt k.l b with
   |none=>exact .inr ⟨by rw[if_neg (by simp)],0,false,rfl,.inl rfl⟩
   |
    some t'=>
    by_cases htt:t'=bt
    ·exact .inl (by rw[htt])
    ·exact .inr ⟨by rw[if_neg (by simp[htt])],t',true,rfl,.inr ⟨rfl,htt⟩⟩
  rcases dx with bz|⟨cZ,cz,cc,dG,ba⟩
  ·have dC:=QbI bz
   have cM:Q1 k.bi k.bt k.l b bt=k.l.drop (b - k.bi):=by unfold Q1;rw[if_pos bz]
   rw[bz];unfold XT;simp only[Option.getD_some,Option.isSome_some];have bx:=ai.out.keep.Qq;obtain⟨bw,aP,ce,dX,dZ⟩:=bx.slice;have dn:ao.cell? ⟨kb,6,none⟩=some (.slice bw k.l.length aP):=by rw[<-ce];exact Qe a0.out cK (fun f=>f)
   rw[ce] at bx;have cD:=Zh (bx.Qc a0.out);have c7:IntKind.u64.wrap ((b:Int) - (k.bi:Int))=((b - k.bi:Nat):Int):=by rw[IntWalk.u64_in _ (by omega)];omega
   have cR:(0:Int)<=((b - k.bi:Nat):Int):=by omega
   have cT:((b - k.bi:Nat):Int)<=(k.l.length:Int):=by omega
   have dB:(k.l.length:Int)<=aP:=by omega
   have cU:((b - k.bi:Nat):Int)<=(aP:Int):=by omega
   have cW:b - k.bi<=k.l.length:=by omega
   have cg:k.bi+(b - k.bi)=b:=by omega
   have cH:=Zh cM;clear bz cM dC bx ce;obtain⟨j,ch⟩: ∃j,j=b - k.bi:=⟨_,rfl⟩
   rw[<-ch] at c7 cR cT cU cW cg cH;have dN:=Zh ch;clear ch;have cA:Hid (∀w',Qa Ze ao w'->aP=j->Calls Tryz.prog 27 #[.slice bw (k.l.length - j) 0] w' (QbR b (k.l.drop j) w')):=Zh (fun w' hu am=>by
    have dy:(k.l.drop j).length =k.l.length - j:=List.length_drop;have ak:k.l.length - j=0:=by omega
    have cj:k.l.drop j=[]:=List.eq_nil_of_length_eq_zero (by omega);rw[ak,cj];exact Qb0 (QaG w' _ _ _ (fun _=>rfl) (by omega)) (by simp))
   have cB:Hid (∀w',Qa Ze ao w'-> ¬aP=j->Calls Tryz.prog 27 #[.slice (Option.map (fun x=>x.add (j*24)) bw) (k.l.length - j) (aP - j)] w' (QbR b (k.l.drop j) w')):=Zh (fun w' hu am=>by
    have dy:(k.l.drop j).length =k.l.length - j:=List.length_drop;by_cases hlt:j<k.l.length
    ·obtain⟨g',o',dA,c2⟩:=(cD.out.Qc hu).sub (k:=j) (m:=k.l.length - j) hlt (Zf _)
     subst dA;rw[List.take_of_length_le (by omega),cg] at c2;simp only[Option.map_some,Addr.add_mid];exact Qb0 c2 (by omega)
    ·have ak:k.l.length - j=0:=by omega
     have cj:k.l.drop j=[]:=List.eq_nil_of_length_eq_zero (by omega);rw[ak,cj];refine Qb0 (QaG w' _ _ _ ?_ (by omega)) (by simp);intro dF
     cases bw with
     |
      none=>
      obtain⟨_,dO,c',bB,_,_,cL,_⟩:=cD.out;simp only[Value.slice.injEq] at bB;obtain⟨rfl,_,rfl⟩:=bB;have:=cL rfl;omega
     |some x=>cases dF)
   go_upto_region 8 with fail
   go_still_tail 13,(by kernel_rfl)
   go_wp2_with fail
   all_goals
    have bA:=(Zr Ze ao).drew;refine Calls.mono (by first|(have N:=cA.out _ bA (by assumption);exact N)|(have N:=cB.out _ bA (by assumption);exact N)) ?_
    rintro e w9 ⟨dc,rfl,cl,c3⟩;have co:=bA.trans c3 (fun _ _ f=>f);have aw:=Zh (a0.out.trans co (fun _ _ f=>f));have a1:=Zh (bQ.out.trans co (fun _ _ f=>f));have aO:Hid (QA w9 dc b (Q1 k.bi k.bt k.l b bt)):=Zh (by rw[cH.out];exact QA.Q7 cl);have az:Hid (∀q,dc.ownBlock=some q->w.heap.size<=q/\q<w9.heap.size):=Zh (fun q N=>by
     have dP:=cl.lt q N;have dQ:=a0.out.size;have cL:ao.drew.heap.size=ao.heap.size:=rfl;omega)
    obtain⟨dd,de,dH,_,_⟩:=aO.out.slice;subst dH;clear cl c3 co bA cA cB c7 cR cT dB cU cW cg dn cK;go_upto_region 9 with fail
    obtain⟨U,W,Y,Z,aa,an⟩:=aM.out _ a1.out;clear an;have ax:Hid (Calls Tryz.prog 32 #[.agg #[.int .u64 t,.int .i64 vi],.agg #[.int .u64 b,.int .u64 bt,.slice (some ⟨D,0,none⟩) n2 J],(.slice dd (Q1 k.bi k.bt k.l b bt).length de)] w9 (Qk (.string (allB (k.restored t v n2 b bt))) w9)):=Zh (by
     rw[<-bu.out];exact Qjg (k:=k.restored t v n2 b bt) aN.out (br.out.upd aw.out (fun f=>f)) aO.out)
    have aI:Wp (.whole (k.restored t v n2 b bt)):=aN.out;have a9:=(QaW aI).2;have aT:Hid (QR (.whole (k.restored t v n2 b bt))=allB (k.restored t v n2 b bt)):=Zh rfl;rw[aT.out] at a9;have bg:=cI.out;have dj:=Zh aI;clear aI;obtain⟨I,aB⟩: ∃I,I=allB (k.restored t v n2 b bt):=⟨_,rfl⟩
    rw[<-aB] at a9 bg ax aT;have bD:=Zh aB;clear aB;have dt: ¬(1048576:Int)< (I.size:Int):=by omega
    go_wp2_with fail;refine ax.out.mono ?_
    rintro e cx ⟨rfl,ae⟩;have aY:=Zh (aw.out.trans ae (fun _ _ f=>f));have bP:=Zh (a1.out.trans ae (fun _ _ f=>f));have au:=Zh (ai.out.Qc aY.out);have bV:=Zh (aO.out.Qc ae);have b4:=ae.size;obtain⟨df,dp,bj,bb⟩:=au.out.wal;have aj:=Zh (Qcf bj);rw[bb] at aj;have aJ:cx.cell? ⟨kb,0,none⟩=some (.pointer (some ⟨wb,0,none⟩)):=Qb au.out.keep.row 0;have ar:Hid (∀q,w.heap.size<=q->q≠kb/\ ¬Sw q):=Zh (fun q N=>by
     have:=ai.out.lt;exact⟨fun e=>by have:=this q (.inl e);omega,fun e=>by have:=this q (.inr e);omega⟩)
    have cb:Qp x fs<=500000:=by have:=ap.out;unfold QV at this;omega
    clear ae U W Y Z aa bj bb ax;obtain⟨aK,aH⟩: ∃aK,aK=Qp x fs:=⟨_,rfl⟩
    rw[<-aH] at aj cb;have bN:=Zh aH;clear aH;go_wp2_with fail;refine aj.out.mono ?_
    rintro e aL ⟨rfl,Q⟩;have av:=Zh (aY.out.trans Q (fun _ _ f=>f));have aZ:=Zh (bP.out.trans Q (fun _ _ f=>f));have b5:=Q.size;have bI:=Zh (au.out.Qc Q);have bW:=Zh (bV.out.Qc Q);have aU:=Zh (Qcu bI.out (r:=I) (by omega) ap.out bg cY);clear Q aJ aj;go_wp2_with fail;refine aU.out.mono ?_
    rintro e dK ac;have am:=ac.1;subst am;obtain⟨_,Sw12,Sd12,aA,a4,a5⟩:=ac;have aF:XE x fs I≠[]:=(QbU bq.out.fsok (by omega:I.size<=1000000) ap.out).2.2.2;have aX:=Zh (Qe8 aA aF);have dh:=Zh aA;have ag:=Zh a4;have aR:=Zh a5;clear aA a4 a5;go_wp2_with fail;refine aX.out.mono ?_
    rintro e cy ac;have am:=ac.1;subst am;obtain⟨_,Sw13,Sd13,al,a6,a7⟩:=ac;obtain⟨bC,dq,bk,aD⟩:=al.wal;have a8:bC≠[]:=by
     rintro rfl;have ak:([]:List Fl)=ZF (XE x fs I):=aD;rcases WI (XE x fs I) with h|⟨a,f,h⟩
     ·exact aF h
     ·rw[h,WL] at ak
      simp at ak
    have aW:=Zh (Qjf bk a8 aK (by omega));have aJ:cy.cell? ⟨kb,0,none⟩=some (.pointer (some ⟨wb,0,none⟩)):=Qb al.keep.row 0;have ah:=Zh al;have aq:=Zh a6;have aS:=Zh a7;have bF:=Zh aD;clear al a6 a7 bk aD a8 aF;go_wp2_with fail;refine aW.out.mono ?_
    rintro e E ⟨rfl,x14,Sw14,Sd14,dg,dr,bm,bc,dE,ad,af⟩;obtain⟨aG,be⟩:=ah.out.keep.turn ah.out.kbw ah.out.elt ah.out.mlt ad af;have b6:=aR.out.size;have b7:=aS.out.size;have b8:=af.size;have cp:=aw.out.size;have cm:=av.out.size;have ab:Hid (Qa (fun i=>i=kb\/Sw i) aL E):=Zh ((aR.out.trans aS.out (fun i M e=>e.elim .inl (fun e=>(ag.out i e).elim .inr (fun h=>by omega)))).trans af (fun i M e=>by
     rcases aq.out i e with h|h
     ·exact (ag.out i h).elim .inr (fun h=>by omega)
     ·omega))
    have dl:Hid (∀i,Sw14 i->Sw i\/w.heap.size<=i):=Zh (fun i M=>by
     rcases ad i M with h|h
     ·rcases aq.out i h with h|h
      ·exact (ag.out i h).imp id (fun h=>by omega)
      ·exact .inr (by omega)
     ·exact .inr (by omega))
    have bO:Hid (∀i,Sw14 i->Sw i\/aL.heap.size<=i):=Zh (fun i M=>by
     rcases ad i M with h|h
     ·rcases aq.out i h with h|h
      ·exact ag.out i h
      ·exact .inr (by omega)
     ·exact .inr (by omega))
    have bU:Hid (w9.heap.size<=aL.heap.size):=Zh (by omega);have a2:=Zh (ab.out.keep (aZ.out.keep bv.out (fun f=>f)) (fun e=>by have:=ar.out hb1 (by have:=bp.out;omega);exact e.elim this.1 this.2));have ay:=Zh (ab.out.keep (aZ.out.keep a3.out (fun f=>f)) (fun e=>by have:=ar.out (hb1+1) (by have:=bp.out;omega);exact e.elim this.1 this.2));have bL:Hid (QD E (.slice (some ⟨D,0,none⟩) n2 J) n2 D):=Zh ((br.out.upd av.out (fun f=>f)).upd ab.out (fun e=>e.elim bo.out.1 bo.out.2));have bX:Hid (QA E (.slice dd (Q1 k.bi k.bt k.l b bt).length de) b (Q1 k.bi k.bt k.l b bt)):=Zh (Qr.X3 bW.out ab.out (fun g cf e=>by have:=ar.out g (az.out g cf).1;exact e.elim this.1 this.2));have bE:Hid (∀w',Qa Ze E w'->Calls Tryz.prog 26 #[.agg #[.int .u64 b,.int .u64 bt,.slice (some ⟨D,0,none⟩) n2 J]] w' (KV b bt n2 w')):=Zh (fun w' hu=>QcO b bt (bL.out.upd hu (fun f=>f)));have aV:Hid (∀w',Qa Ze E w'->(w'.cell? ⟨hb1,0,none⟩=some (.int .u64 t)/\w'.cell? ⟨hb1,1,none⟩=some (.int .i64 vi)/\w'.cell? ⟨hb1+1,0,none⟩=some (.int .u64 b)/\w'.cell? ⟨hb1+1,1,none⟩=some (.int .u64 bt)/\w'.cell? ⟨hb1+1,2,none⟩=some (.slice (some ⟨D,0,none⟩) n2 J))/\w'.heap[kb]? =some (.cells (keepA wb k mv ev) 97 (0,0))):=Zh (fun w' hu=>⟨⟨Qe hu (Qb a2.out 0) (fun f=>f),Qe hu (Qb a2.out 1) (fun f=>f),Qe hu (Qb ay.out 0) (fun f=>f),Qe hu (Qb ay.out 1) (fun f=>f),Qe hu (Qb ay.out 2) (fun f=>f)⟩,hu.keep aG.row (fun f=>f)⟩);have bT:=Zh bm;have bG:=Zh bc;have dk:=Zh ad;have dm:=Zh af;have bJ:=Zh aG;have bK:=Zh be
    clear bm bc ad af aG be aJ b6 b7 b8 b4 b5 cp cm aW aX aU;go_upto_region 20 with fail
    have hcur:Qa Ze E E.drew:=(Zr _ E).drew;obtain⟨⟨U,W,Y,Z,aa⟩,cq⟩:=aV.out _ hcur;go_region_with (go_at_call 26;refine (bE.out _ hcur).mono ?_;rintro e O ⟨dJ,ds,rfl,ci,bd,bh⟩;obtain⟨c5,hv5,hm51⟩:=ci;subst hv5;unfold QC;have aC:Qa Ze E O:=Qa.trans hcur bh (fun _ _ f=>f);obtain⟨⟨j0,j1,j2,j3,j4⟩,jr⟩:=aV.out _ aC;have cr:O.cell? ⟨kb,1,none⟩=some (.int .u64 k.t):=Qb jr 1;have cs:O.cell? ⟨kb,2,none⟩=some (.int .i64 (Qd k.v)):=Qb jr 2;have ct:O.cell? ⟨kb,3,none⟩=some (.int .u64 k.bi):=Qb jr 3;have cu:O.cell? ⟨kb,4,none⟩=some (.int .u64 k.bt):=Qb jr 4;have cv:O.cell? ⟨kb,5,none⟩=some mv:=Qb jr 5;have cw:O.cell? ⟨kb,6,none⟩=some ev:=Qb jr 6;have bY:=Qg jr 1 none;have bZ:=Qg jr 2 none;have b0:=Qg jr 3 none;have b1:=Qg jr 4 none;have b2:=Qg jr 5 none;have b3:=Qg jr 6 none)
    all_goals
     have aE:=Qhn bq.out aN.out cF.out ap.out av.out ab.out (fun i M=>bO.out i M) ai.out.lt bT.out (by rw[<-bN.out,<-bD.out,bG.out,bF.out]) bJ.out bK.out ai.out.kb2 aC ⟨c5,rfl,hm51⟩ bd bX.out (fun q N=>⟨(az.out q N).1,by have:=(az.out q N).2;have:=bU.out;omega⟩);rw[bu.out] at aE;have bH:=Zh aE;clear aE cr cs ct cu cv cw bY bZ b0 b1 b2 b3 U W Y Z aa cq j0 j1 j2 j3 j4 jr hm51 bd bh aC hcur;go_wp2_with fail;go_ret;exact bH.out
  ·have aO:Hid (QA ao (.slice none 0 0) b (Q1 k.bi k.bt k.l b bt)):=Zh (by rw[cZ];exact Qr.nil _ _)
   have az:Hid (∀q,(Value.slice none 0 0).ownBlock =some q->w.heap.size<=q/\q<ao.heap.size):=Zh (fun q N=>by cases N);have d2:(Q1 k.bi k.bt k.l b bt).length =0:=by rw[cZ];rfl
   rw[dG];have d4:cc=true->((cz:Int)=bt)=False:=fun e=>by
    rcases ba with h|h
    ·rw[h] at e;cases e
    ·simp only[eq_iff_iff,iff_false]
     omega
   rcases ba with ba|⟨ba,d0⟩
   case' inr=>
    have dD: ¬(cz:Int)=bt:=by omega
    have d1:((cz:Int)==(bt:Int))=false:=by simpa using dD
   all_goals
    subst ba;go_upto_region 9 with fail
    generalize ao=w9 at*
    have aw:=a0;have a1:=bQ;obtain⟨U,W,Y,Z,aa,an⟩:=aM.out _ a1.out;clear an;have ax:Hid (Calls Tryz.prog 32 #[.agg #[.int .u64 t,.int .i64 vi],.agg #[.int .u64 b,.int .u64 bt,.slice (some ⟨D,0,none⟩) n2 J],(.slice none 0 0)] w9 (Qk (.string (allB (k.restored t v n2 b bt))) w9)):=Zh (by
     rw[<-bu.out];exact Qjg (k:=k.restored t v n2 b bt) aN.out (br.out.upd aw.out (fun f=>f)) aO.out)
    have aI:Wp (.whole (k.restored t v n2 b bt)):=aN.out;have a9:=(QaW aI).2;have aT:Hid (QR (.whole (k.restored t v n2 b bt))=allB (k.restored t v n2 b bt)):=Zh rfl;rw[aT.out] at a9;have bg:=cI.out;have dj:=Zh aI;clear aI;obtain⟨I,aB⟩: ∃I,I=allB (k.restored t v n2 b bt):=⟨_,rfl⟩
    rw[<-aB] at a9 bg ax aT;have bD:=Zh aB;clear aB;have dt: ¬(1048576:Int)< (I.size:Int):=by omega
    go_wp2_with fail;refine ax.out.mono ?_
    rintro e cx ⟨rfl,ae⟩;have aY:=Zh (aw.out.trans ae (fun _ _ f=>f));have bP:=Zh (a1.out.trans ae (fun _ _ f=>f));have au:=Zh (ai.out.Qc aY.out);have bV:=Zh (aO.out.Qc ae);have b4:=ae.size;obtain⟨df,dp,bj,bb⟩:=au.out.wal;have aj:=Zh (Qcf bj);rw[bb] at aj;have aJ:cx.cell? ⟨kb,0,none⟩=some (.pointer (some ⟨wb,0,none⟩)):=Qb au.out.keep.row 0;have ar:Hid (∀q,w.heap.size<=q->q≠kb/\ ¬Sw q):=Zh (fun q N=>by
     have:=ai.out.lt;exact⟨fun e=>by have:=this q (.inl e);omega,fun e=>by have:=this q (.inr e);omega⟩)
    have cb:Qp x fs<=500000:=by have:=ap.out;unfold QV at this;omega
    clear ae U W Y Z aa bj bb ax;obtain⟨aK,aH⟩: ∃aK,aK=Qp x fs:=⟨_,rfl⟩
    rw[<-aH] at aj cb;have bN:=Zh aH;clear aH;go_wp2_with fail;refine aj.out.mono ?_
    rintro e aL ⟨rfl,Q⟩;have av:=Zh (aY.out.trans Q (fun _ _ f=>f));have aZ:=Zh (bP.out.trans Q (fun _ _ f=>f));have b5:=Q.size;have bI:=Zh (au.out.Qc Q);have bW:=Zh (bV.out.Qc Q);have aU:=Zh (Qcu bI.out (r:=I) (by omega) ap.out bg cY);clear Q aJ aj;go_wp2_with fail;refine aU.out.mono ?_
    rintro e dK ac;have am:=ac.1;subst am;obtain⟨_,Sw12,Sd12,aA,a4,a5⟩:=ac;have aF:XE x fs I≠[]:=(QbU bq.out.fsok (by omega:I.size<=1000000) ap.out).2.2.2;have aX:=Zh (Qe8 aA aF);have dh:=Zh aA;have ag:=Zh a4;have aR:=Zh a5;clear aA a4 a5;go_wp2_with fail;refine aX.out.mono ?_
    rintro e cy ac;have am:=ac.1;subst am;obtain⟨_,Sw13,Sd13,al,a6,a7⟩:=ac;obtain⟨bC,dq,bk,aD⟩:=al.wal;have a8:bC≠[]:=by
     rintro rfl;have ak:([]:List Fl)=ZF (XE x fs I):=aD;rcases WI (XE x fs I) with h|⟨a,f,h⟩
     ·exact aF h
     ·rw[h,WL] at ak
      simp at ak
    have aW:=Zh (Qjf bk a8 aK (by omega));have aJ:cy.cell? ⟨kb,0,none⟩=some (.pointer (some ⟨wb,0,none⟩)):=Qb al.keep.row 0;have ah:=Zh al;have aq:=Zh a6;have aS:=Zh a7;have bF:=Zh aD;clear al a6 a7 bk aD a8 aF;go_wp2_with fail;refine aW.out.mono ?_
    rintro e E ⟨rfl,x14,Sw14,Sd14,dg,dr,bm,bc,dE,ad,af⟩;obtain⟨aG,be⟩:=ah.out.keep.turn ah.out.kbw ah.out.elt ah.out.mlt ad af;have b6:=aR.out.size;have b7:=aS.out.size;have b8:=af.size;have cp:=aw.out.size;have cm:=av.out.size;have ab:Hid (Qa (fun i=>i=kb\/Sw i) aL E):=Zh ((aR.out.trans aS.out (fun i M e=>e.elim .inl (fun e=>(ag.out i e).elim .inr (fun h=>by omega)))).trans af (fun i M e=>by
     rcases aq.out i e with h|h
     ·exact (ag.out i h).elim .inr (fun h=>by omega)
     ·omega))
    have dl:Hid (∀i,Sw14 i->Sw i\/w.heap.size<=i):=Zh (fun i M=>by
     rcases ad i M with h|h
     ·rcases aq.out i h with h|h
      ·exact (ag.out i h).imp id (fun h=>by omega)
      ·exact .inr (by omega)
     ·exact .inr (by omega))
    have bO:Hid (∀i,Sw14 i->Sw i\/aL.heap.size<=i):=Zh (fun i M=>by
     rcases ad i M with h|h
     ·rcases aq.out i h with h|h
      ·exact ag.out i h
      ·exact .inr (by omega)
     ·exact .inr (by omega))
    have bU:Hid (w9.heap.size<=aL.heap.size):=Zh (by omega);have a2:=Zh (ab.out.keep (aZ.out.keep bv.out (fun f=>f)) (fun e=>by have:=ar.out hb1 (by have:=bp.out;omega);exact e.elim this.1 this.2));have ay:=Zh (ab.out.keep (aZ.out.keep a3.out (fun f=>f)) (fun e=>by have:=ar.out (hb1+1) (by have:=bp.out;omega);exact e.elim this.1 this.2));have bL:Hid (QD E (.slice (some ⟨D,0,none⟩) n2 J) n2 D):=Zh ((br.out.upd av.out (fun f=>f)).upd ab.out (fun e=>e.elim bo.out.1 bo.out.2));have bX:Hid (QA E (.slice none 0 0) b (Q1 k.bi k.bt k.l b bt)):=Zh (Qr.X3 bW.out ab.out (fun g cf e=>by have:=ar.out g (az.out g cf).1;exact e.elim this.1 this.2));have bE:Hid (∀w',Qa Ze E w'->Calls Tryz.prog 26 #[.agg #[.int .u64 b,.int .u64 bt,.slice (some ⟨D,0,none⟩) n2 J]] w' (KV b bt n2 w')):=Zh (fun w' hu=>QcO b bt (bL.out.upd hu (fun f=>f)));have aV:Hid (∀w',Qa Ze E w'->(w'.cell? ⟨hb1,0,none⟩=some (.int .u64 t)/\w'.cell? ⟨hb1,1,none⟩=some (.int .i64 vi)/\w'.cell? ⟨hb1+1,0,none⟩=some (.int .u64 b)/\w'.cell? ⟨hb1+1,1,none⟩=some (.int .u64 bt)/\w'.cell? ⟨hb1+1,2,none⟩=some (.slice (some ⟨D,0,none⟩) n2 J))/\w'.heap[kb]? =some (.cells (keepA wb k mv ev) 97 (0,0))):=Zh (fun w' hu=>⟨⟨Qe hu (Qb a2.out 0) (fun f=>f),Qe hu (Qb a2.out 1) (fun f=>f),Qe hu (Qb ay.out 0) (fun f=>f),Qe hu (Qb ay.out 1) (fun f=>f),Qe hu (Qb ay.out 2) (fun f=>f)⟩,hu.keep aG.row (fun f=>f)⟩);have bT:=Zh bm;have bG:=Zh bc;have dk:=Zh ad;have dm:=Zh af;have bJ:=Zh aG;have bK:=Zh be;clear bm bc ad af aG be aJ b6 b7 b8 b4 b5 cp cm aW aX aU
    go_upto_region 20 with fail
    have hcur:Qa Ze E E.drew:=(Zr _ E).drew;obtain⟨⟨U,W,Y,Z,aa⟩,cq⟩:=aV.out _ hcur;go_region_with (go_at_call 26;refine (bE.out _ hcur).mono ?_;rintro e O ⟨dJ,ds,rfl,ci,bd,bh⟩;obtain⟨c5,hv5,hm51⟩:=ci;subst hv5;unfold QC;have aC:Qa Ze E O:=Qa.trans hcur bh (fun _ _ f=>f);obtain⟨⟨j0,j1,j2,j3,j4⟩,jr⟩:=aV.out _ aC;have cr:O.cell? ⟨kb,1,none⟩=some (.int .u64 k.t):=Qb jr 1;have cs:O.cell? ⟨kb,2,none⟩=some (.int .i64 (Qd k.v)):=Qb jr 2;have ct:O.cell? ⟨kb,3,none⟩=some (.int .u64 k.bi):=Qb jr 3;have cu:O.cell? ⟨kb,4,none⟩=some (.int .u64 k.bt):=Qb jr 4;have cv:O.cell? ⟨kb,5,none⟩=some mv:=Qb jr 5;have cw:O.cell? ⟨kb,6,none⟩=some ev:=Qb jr 6;have bY:=Qg jr 1 none;have bZ:=Qg jr 2 none;have b0:=Qg jr 3 none;have b1:=Qg jr 4 none;have b2:=Qg jr 5 none;have b3:=Qg jr 6 none)
    all_goals
     have aE:=Qhn bq.out aN.out cF.out ap.out av.out ab.out (fun i M=>bO.out i M) ai.out.lt bT.out (by rw[<-bN.out,<-bD.out,bG.out,bF.out]) bJ.out bK.out ai.out.kb2 aC ⟨c5,rfl,hm51⟩ bd bX.out (fun q N=>⟨(az.out q N).1,by have:=(az.out q N).2;have:=bU.out;omega⟩);rw[bu.out] at aE;have bH:=Zh aE;clear aE cr cs ct cu cv cw bY bZ b0 b1 b2 b3 U W Y Z aa cq j0 j1 j2 j3 j4 jr hm51 bd bh aC hcur;go_wp2_with fail;go_ret;exact bH.out
end
end
end Go.Proofs.YtbleblbfadeciaaGreatDoor
