/- For TopKept. -/
import Derived.Test.YtbleblbfadeciaaGreatDoorWc
import Derived.Test.YtbleblbfadeciaaGreatDoorDit
set_option linter.all false
set_option maxHeartbeats 16000000
set_option maxRecDepth 10000
namespace Go.Proofs
open Go.RowKit Go.Maps Go.Sort Go.Shelf
theorem Tryz.Qqy(m:Nat):AnyZ.SortsIn Tryz.prog Tryz.QiP Fence.wide m:=
 ⟨fun blk off cap J D E I hsz=>callsIn_wide.2 (AnyM.slices_Sort_string Tryz.QiO blk off cap J D E I hsz),
  fun p cap D=>callsIn_wide.2 (AnyM.slices_Sort_string_none Tryz.QiO p cap D)⟩
theorem Tryz.Qem(E:Nat)(D:World):Calls Tryz.prog 112 #[.map (some E)] D fun e w'=>e= .returned (.func (.func 163) #[] #[.pointer (some ⟨D.heap.size,0,none⟩)])/\w'=D.alloc (.cells #[.map (some E)] 87):=
 (callsIn_wide (n:=5)).1 (AnyZ.keys_in Tryz.Qhe Fence.wide 5 trivial rfl (some E) D)
theorem Tryz.Qqw{H:Type}(b nn:Nat)(D:DataW H)(R:Value->Option (DataW H×List MemPlace))(w:World)(I:w.ownsMap Tryz.prog 9 R b nn D)(W:Maps.size D<=maxLen)(U:Maps.size D*16<=140737488355328):
  Calls Tryz.prog 111 #[.func (.func 163) #[] #[.pointer (some ⟨w.heap.size,0,none⟩)]] (w.alloc (.cells #[.map (some b)] 87)) fun e w'=> ∃(v:Value) (E:List (List UInt8)),e= .returned v/\E.Perm (strKeys D)/\
   w'.ownsRow (w.alloc (.cells #[.map (some b)] 87)).heap.size 9 1 v E.length ((E.mergeSort (fun x y=>decide (x<=y))).map encStr)/\(v= .slice none 0 0↔E=[])/\Below (w.alloc (.cells #[.map (some b)] 87)).heap.size (w.alloc (.cells #[.map (some b)] 87)) w':=by
 refine (callsIn_wide (n:=5)).1 ?_
 have Q:=I.lt;have Z:SeqGives Fence.wide 2 Tryz.prog 163 #[.pointer (some ⟨w.heap.size,0,none⟩)] encStr (fun E=>E.Perm (strKeys D)) (Maps.size D) (w.alloc (.cells #[.map (some b)] 87)):=
  AnyZ.keys_gives (ρ:=Tryz.Qhf) {Tryz.Qhe with} Fence.wide _ trivial rfl (by omega) w.heap.size b nn D _ (by simp) (by simp) (by
   obtain⟨M,clock,O,J,Y,N⟩:=I;exact⟨M,clock,(Below.heap_alloc _ _ b Q).trans O,J,Y,N⟩)
 exact AnyZ.sorted_in Tryz.Qqv Fence.wide 5 trivial trivial trivial trivial rfl (by omega) (Tryz.Qqy _) (enters_of Tryz.func162 (by kernel_rfl) rfl) 163 #[.pointer (some ⟨w.heap.size,0,none⟩)] trivial (enters_of Tryz.func163 (by kernel_rfl) rfl) _ _ W U _ Z
end Go.Proofs
namespace Go.Proofs.YtbleblbfadeciaaGreatDoor
open Go.RowKit Go.Acre Go.Acre.Dk Go.Maps Go.Sort Go.Shelf
theorem Qf3: ∀(a b:List UInt8),bytesBefore a b=true->a<b
 |[],[],h=>by cases h
 |[],_::_,_=>by simp
 |_::_,[],h=>by cases h
 |
  x::r,y::s,h=>by
  simp only[bytesBefore,Bool.or_eq_true,Bool.and_eq_true,decide_eq_true_eq,beq_iff_eq] at h
  rw[List.cons_lt_cons_iff]
  rcases h with h|⟨rfl,h⟩
  ·exact .inl h
  ·exact .inr ⟨rfl,Qf3 r s h⟩
def raw(D:QT):List (List UInt8):=D.map fun f=>f.name.data.toList
theorem QpJ{D:QT}(h:QQ Dk.En D):(raw D).mergeSort (fun x y=>decide (x<=y))=raw D:=by
 refine List.mergeSort_of_pairwise ?_
 unfold raw;rw[List.pairwise_map];refine List.Pairwise.imp ?_ h
 intro a b E;simp only[decide_eq_true_eq];exact List.le_of_lt (Qf3 _ _ E)
theorem Qhg(D:List EB):strKeys (DataW.map (Qq D))=raw (plain D):=by
 simp[strKeys,Qq,raw,plain,Dk.key];intro a b _;rfl
theorem Qqx{D:List EB}(h:QQ Dk.En (plain D)){E:List (List UInt8)}(I:E.Perm (strKeys (DataW.map (Qq D)))):E.mergeSort (fun x y=>decide (x<=y))=raw (plain D):=by
 have:=mergeSort_of_perm I;rw[Qhg] at this;exact this.trans (QpJ h)
def X5(s p:ByteArray):Bool:=p.data.toList.isPrefixOf s.data.toList
theorem QoD{s p:ByteArray}(h:p.size<=s.size):((s.extract 0 p.size).toList ==p.toList)=X5 s p:=by
 rw[Qq2];unfold X5;rw[Bool.eq_iff_iff];simp only[decide_eq_true_eq,List.isPrefixOf_iff_prefix];rw[List.prefix_iff_eq_take];constructor
 ·intro e
  have:=congrArg (fun b:ByteArray=>b.data.toList) e;simp only[ByteArray.data_extract,Array.toList_extract,List.extract_eq_take_drop,List.drop_zero,Nat.sub_zero] at this;exact this.symm
 ·intro e
  apply ByteArray.ext;apply Array.ext';simp only[ByteArray.data_extract,Array.toList_extract,List.extract_eq_take_drop,List.drop_zero,Nat.sub_zero];exact e.symm
theorem QoE{s p:ByteArray}(h: ¬p.size<=s.size):X5 s p=false:=by
 unfold X5;rw[Bool.eq_false_iff];intro e;rw[List.isPrefixOf_iff_prefix] at e;have:=e.length_le;rw[Array.length_toList,Array.length_toList] at this;exact h this
theorem QoG(s p:ByteArray)(w:World):Calls Tryz.prog 164 #[.string s,.string p] w (Qdy (X5 s p) w):=by
 by_cases h:p.size<=s.size
 ·have E:decide ((p.size:Int)<=s.size)=true:=by simp;omega
  have D:=QoD h;have I:(p.size:Int)<=s.size:=by omega
  go_enter Tryz.func164,Tryz.ntmps164;go_wp2_with fail;go_ret;exact⟨rfl,rfl⟩
 ·have E:decide ((p.size:Int)<=s.size)=false:=by simp;omega
  have D:=Lib.hid (QoE h);go_enter Tryz.func164,Tryz.ntmps164;go_wp2_with fail;go_ret;exact⟨by rw[D.out];rfl,rfl⟩
theorem Qq3(s p:ByteArray)(w:World):Calls Tryz.prog 114 #[.string s,.string p] w (Qdy (X5 s p) w):=by
 go_enter Tryz.func114,Tryz.ntmps114;go_wp2_with fail;refine (QoG s p _).mono ?_
 rintro e w' ⟨rfl,rfl⟩;go_wp2_with fail;go_ret;exact⟨rfl,rfl⟩
theorem QgX(p:ByteArray)(x:List UInt8)(B:Nat)(D:World)(E:D.cell? ⟨B,0,none⟩=some (.string p)):
  FnGives Tryz.prog 113 #[.pointer (some ⟨B,0,none⟩)] #[encStr x] (.bool (!X5 ⟨x.toArray⟩ p)) D:=by
 show Calls Tryz.prog 113 #[.string ⟨x.toArray⟩,.pointer (some ⟨B,0,none⟩)] D _;generalize (⟨x.toArray⟩:ByteArray)=s;go_enter Tryz.func113,Tryz.ntmps113;go_wp2_with fail;refine (Qq3 s p _).mono ?_
 rintro e w' ⟨rfl,rfl⟩;go_wp2_with fail;go_ret;exact⟨rfl,0,rfl⟩
theorem QoF(p:ByteArray)(B:Nat)(w:World)(D:w.cell? ⟨B,0,none⟩=some (.string p)):
  PredAt Tryz.prog 113 #[.pointer (some ⟨B,0,none⟩)] encStr (fun x=> !X5 ⟨x.toArray⟩ p) w:=
 fun E x I=>QgX p x B E ((I.cell (p:=⟨B,0,none⟩) (World.block_lt_of_cell? w _ D)).trans D)
theorem Qop(p:ByteArray)(B blk off size:Nat)(w:World)(E:B≠blk)(D:w.cell? ⟨B,0,none⟩=some (.string p)):
  PredOver Tryz.prog 113 #[.pointer (some ⟨B,0,none⟩)] encStr (fun x=> !X5 ⟨x.toArray⟩ p) blk off size w:=
 fun n os I x _=>QgX p x B _ (by
  unfold sortWorld
  rw[cell?_grow _ _ _ (by show B< (putRow _ _ _ _ _).heap.size;rw[size_putRow];exact World.block_lt_of_cell? w _ D),cell?_putRow_other _ _ blk off _ _ (Or.inl E)]
  exact D)
theorem zero9(w:World):(zeroValue (Tryz.Qgi.t 23)).run Tryz.prog w= .ok (encStr []) w:=by kernel_rfl
theorem Qli{w:World}{base g cap:Nat}{l:List (List UInt8)}(p:ByteArray)(B:Nat)(ae:w.ownsRow base 9 1 (.slice (some ⟨g,0,none⟩) l.length cap) l.length (l.map encStr))(J:B≠g)(O:w.cell? ⟨B,0,none⟩=some (.string p)):
  Calls Tryz.prog 110 #[.slice (some ⟨g,0,none⟩) l.length cap,.func (.func 113) #[] #[.pointer (some ⟨B,0,none⟩)]] w fun e w'=> ∃v,e= .returned v/\v.ownBlock=some g/\
   w'.ownsRow base 9 1 v (l.filter fun x=>X5 ⟨x.toArray⟩ p).length ((l.filter fun x=>X5 ⟨x.toArray⟩ p).map encStr)/\Qa (fun i=>i=g) w w':=by
 obtain⟨hlen,h|⟨g',af,cur,Q,Z,I,U,M,W,N⟩⟩:=ae
 ·simp at h
 simp only[Value.slice.injEq,Option.some.injEq,Addr.mk.injEq,and_true] at Q;obtain⟨rfl,_,rfl⟩:=Q;simp only[Nat.mul_one] at W N;have hcur: ∀j,j<l.length->cur[j]? =some (encStr l[j]!):=fun j D=>by
  have e:=congrArg (fun x=>x[j]?) N;simp only[List.getElem?_take,D,if_true,Array.getElem?_toList,List.getElem?_map] at e;rw[e,List.getElem?_eq_getElem D];simp[D]
 have Y:Holds encStr w g 0 l.toArray:=fun j D=>by
  have ab:j<l.length:=by simpa using D
  refine⟨?_,Qg I _ _⟩;rw[Qb I,Nat.zero_add,hcur j ab];simp
 have ad:l.length<=9223372036854775807:=by unfold maxLen at M;omega
 have E:=AnyE.slices_DeleteFunc Tryz.Qlg encStr (fun _=>rfl) (fun x=> !X5 ⟨x.toArray⟩ p) 113 #[.pointer (some ⟨B,0,none⟩)] (enters_of Tryz.func113 (by kernel_rfl) rfl) [] zero9 g 0 cap l.toArray w
  (QoF p B w O) (Qop p B g 0 _ w J O) Y (by simpa using ad) (by simpa using U)
 have aa:(fun x:List UInt8=> !(!X5 ⟨x.toArray⟩ p))=fun x=>X5 ⟨x.toArray⟩ p:=by funext x;simp
 simp only[aa] at E;change Calls Tryz.prog 110 _ _ _ at E;simp only[List.size_toArray] at E;refine E.mono ?_
 rintro e w' ⟨rfl,q,rfl⟩;have ag:(l.filter fun x=>X5 ⟨x.toArray⟩ p).length <=l.length:=List.length_filter_le _ _;generalize (l.filter fun x=>X5 ⟨x.toArray⟩ p)=r at*
 refine⟨_,rfl,rfl,⟨by simp,.inr ⟨g,cap,putCells encStr 0 (r++List.replicate (l.length - r.length) []).toArray cur,rfl,Z,?_,by omega,M,?_,?_⟩⟩,⟨rfl,rfl,rfl,?_,?_⟩⟩
 ·show ((Sort.ahead w q).heap.modify g (onCells _))[g]? =_
  rw[Array.getElem?_modify,if_pos rfl];show (w.heap[g]?).map _=_;rw[I];rfl
 ·simp[putCells];omega
 ·apply List.ext_getElem?
  intro j;simp only[Nat.mul_one,List.getElem?_take,List.getElem?_map];by_cases D:j<r.length
  ·have ac:j<cur.size:=by omega
   rw[if_pos D,Array.getElem?_toList];simp only[putCells,Array.getElem?_mapIdx,Array.getElem?_eq_getElem ac,Option.map_some];rw[if_pos (by simp;omega)];simp[D];rw[List.getElem?_append_left D,List.getElem?_eq_getElem D];rfl
  ·rw[if_neg D,List.getElem?_eq_none (by omega)]
   rfl
 ·show w.heap.size<=((Sort.ahead w q).heap.modify g _).size
  simp
 ·intro k _ J
  show ((Sort.ahead w q).heap.modify g _)[k]? =w.heap[k]?;rw[Array.getElem?_modify,if_neg (fun e=>J e.symm)];rfl
theorem Qmq(D:Value)(w:World):Calls Tryz.prog 160 #[.slice none 0 0,D] w fun e w'=>e= .returned (.int .i64 (-1))/\w=w':=by
 go_enter Tryz.func160,Tryz.ntmps160;go_wp2_with fail;go_loop [8] (fun i=>i= .int .i64 0) (fun _=>0)
 case atStart=>rfl
 case round=>
  obtain rfl:=hrel;go_wp2_with fail;go_ret;exact⟨rfl,rfl⟩
theorem Qlh(D:Value)(w:World):Calls Tryz.prog 110 #[.slice none 0 0,D] w fun e w'=>e= .returned (.slice none 0 0)/\w=w':=by
 go_enter Tryz.func110,Tryz.ntmps110;go_wp2_with fail;refine (Qmq D _).mono ?_
 rintro e w' ⟨rfl,rfl⟩;go_wp2_with fail;go_ret;exact⟨rfl,rfl⟩
theorem own_base{w:World}{b D:Nat}{e:TypeId}{size n:Nat}{v:Value}{E:List Value}(h:w.ownsRow b e size v n E)(J:D<=b):w.ownsRow D e size v n E:=by
 refine⟨h.1,?_⟩;rcases h.2 with M|⟨g,cap,cur,rfl,I,rest⟩
 ·exact .inl M
 ·exact .inr ⟨g,cap,cur,rfl,Nat.le_trans J I,rest⟩
def QjH(ss:List ByteArray)(w:World)(e:Ending)(w':World):Prop:= ∃v,e= .returned v/\X4 w' w.heap.size v ss/\Qa (fun _=>False) w w'
theorem QhF(D:QT)(p:ByteArray):((raw D).filter fun x=>X5 ⟨x.toArray⟩ p).map encStr=(ZK D p).map Value.string:=by
 unfold raw ZK;rw[List.filter_map,List.filter_map,List.map_map,List.map_map];have e:((fun x:List UInt8=>X5 ⟨x.toArray⟩ p)∘fun f:Xj=>f.name.data.toList)=((fun s:ByteArray=>p.data.toList.isPrefixOf s.data.toList)∘fun f:Xj=>f.name):=by
  funext f
  simp[Function.comp,X5]
 rw[e];apply List.map_congr_left;intro f _;simp[Function.comp,encStr]
theorem Qnz(D:QT)(p:ByteArray):((raw D).filter fun x=>X5 ⟨x.toArray⟩ p).length =(ZK D p).length :=by
 have:=congrArg List.length (QhF D p)
 simpa using this
set_option maxRecDepth 100000 in
theorem Qgm{w:World}{S:Nat->Prop}{db room n:Nat}{U:QT}(h:Has w S db room n U)(p:ByteArray)(ax:n<=1000000):
  Calls Tryz.prog 54 #[.pointer (some ⟨db,0,none⟩),.string p] w (QjH (ZK U p) w):=by
 obtain⟨D,M,rfl⟩:=h;obtain⟨E,_,ac,N⟩:=M.root;obtain⟨_,_,ah,_⟩:=K9 ac;have ad:=M.may.srt;have hsz:Maps.size (DataW.map (Qq D))<=n:=N.size_le;have ab:(w.alloc (.cells #[.string p] 9)).ownsMap Tryz.prog 9 RB E n (.map (Qq D)):=N.alloc _;have ai:(w.alloc (.cells #[.string p] 9)).cell? ⟨db,2,none⟩=some (.map (some E)):=Qe ((Qa.refl (fun _=>False) w).alloc _) ah (fun f=>f);have an:(w.alloc (.cells #[.string p] 9)).cell? ⟨w.heap.size,0,none⟩=some (.string p):=by rw[Qb (Qf _)];rfl
 have ae:Qa (fun _=>False) w (w.alloc (.cells #[.string p] 9)):=(Qa.refl _ w).alloc _;have ap:(w.alloc (.cells #[.string p] 9)).heap.size =w.heap.size+1:=by simp
 have ag:=Lib.hid ad;have af:=Lib.hid ab;have Y:=Lib.hid ae;clear M ac N ad ab ae;go_enter Tryz.func54,Tryz.ntmps54;go_wp2_with fail;generalize hB:w.heap.size=B at*
 have W:=Lib.hid hB;clear hB;generalize w.alloc (.cells #[.string p] 9)=w1 at*
 refine (QaO db E _ ai).mono ?_
 rintro e w' ⟨rfl,rfl⟩;go_wp2_with fail;refine (Tryz.Qem E _).mono ?_
 rintro e w2 ⟨rfl,rfl⟩;go_wp2_with fail;rw[<-ap];refine (Tryz.Qqw E n (.map (Qq D)) RB w1 af.out (by unfold maxLen;omega) (by omega)).mono ?_
 rintro e w2 ⟨v,au,rfl,O,I,ay,aa⟩;have hlen:au.length=(raw (plain D)).length :=by rw[O.length_eq,Qhg]
 have Q:Qa (fun _=>False) w1 w2:=((Qa.refl _ w1).alloc _).trans (Qa.of_below aa) (fun _ _ h=>h);rw[Qqx ag.out O,hlen] at I;have J:Hid ((ZK (plain D) p).length =((raw (plain D)).filter fun x=>X5 ⟨x.toArray⟩ p).length /\(ZK (plain D) p).map Value.string=((raw (plain D)).filter fun x=>X5 ⟨x.toArray⟩ p).map encStr):=⟨(Qnz _ _).symm,(QhF _ _).symm⟩
 have ao:=Qe Q an (fun f=>f);have Z:(w1.alloc (.cells #[.map (some E)] 87)).heap.size =B+2:=by simp;omega
 rw[Z] at I;generalize hrl:raw (plain D)=l at*
 clear hrl O aa Z;rcases I.2 with ⟨rfl,aj⟩|⟨g,cap,cur,ar,aw,_⟩
 ·have al:l=[]:=List.eq_nil_of_length_eq_zero aj
  go_wp2_with fail;refine (Qlh _ _).mono ?_
  rintro e av ⟨rfl,rfl⟩;go_wp2_with fail;go_ret;refine⟨_,rfl,?_,Y.out.trans Q (fun _ _ h=>h)⟩;unfold X4;rw[J.out.1,J.out.2,al];exact World.ownsRow_nil _ _ _ _
 ·subst ar
  have ak:=Qli p B I (by omega) ao;clear I;go_wp2_with fail;refine ak.mono ?_
  rintro e av ⟨aA,rfl,az,am,aq⟩;go_wp2_with fail;go_ret;refine⟨_,rfl,?_,(Y.out.trans Q (fun _ _ h=>h)).trans aq (fun i hi e=>by have:=W.out;omega)⟩;unfold X4;rw[J.out.1,J.out.2,W.out];exact own_base am (by omega)
end Go.Proofs.YtbleblbfadeciaaGreatDoor
namespace Go.Proofs.YtbleblbfadeciaaGreatDoor
variable{zs:List Int}{b db n t':Nat}{S:Nat->Prop}{v:Value}{w w':World}
section
open Go.RowKit Go.Acre Go.Acre.Dk Go.Maps
structure KY(zs:List Int)(E A B:List EB):Prop where
 left:B=E.drop A.length
 done:plain A=Qal (plain (E.take A.length)) zs
 len:A.length<=E.length
theorem KY.start(zs:List Int)(D:List EB):KY zs D [] D:=⟨rfl,rfl,Zz _⟩
theorem Qk9(D:QT)(f:Xj)(zs:List Int):Qal (D++[f]) zs=Qal D zs++[QaE zs[D.length]? f]:=by
 unfold Qal;rw[List.mapIdx_append];simp
theorem KY.next{D A B:List EB}{f:Xj}(h:KY zs D A ((f,b)::B)):KY zs D (A++[(QaE zs[A.length]? f,b)]) B/\A.length<D.length:=by
 have E:A.length<D.length:=by
  have:=congrArg List.length h.left;simp at this;omega
 have I:D[A.length]=(f,b):=by
  have:=h.left;rw[List.drop_eq_getElem_cons E] at this;simp only[List.cons.injEq] at this;exact this.1.symm
 refine⟨⟨?_,?_,by simp;omega⟩,E⟩
 ·have:=h.left
  rw[List.drop_eq_getElem_cons E] at this;simp only[List.cons.injEq] at this
  simpa using this.2
 ·simp only[List.length_append,List.length_singleton]
  rw[List.take_succ_eq_append_getElem E,I];simp only[List.map_append,List.map_cons,List.map_nil];rw[Qk9,<-h.done];simp[List.length_take,Nat.min_eq_left h.len]
theorem KY.last{D A:List EB}(h:KY zs D A []):plain A=Qal (plain D) zs:=by
 have E:D.length<=A.length:=by
  have:=congrArg List.length h.left;simp at this;omega
 rw[h.done,List.take_of_length_le E]
theorem KY.name{D A B:List EB}{f:Xj}(h:KY zs D A ((f,b)::B))(M:A.length< (ZK (plain D) ⟨#[]⟩).length):(ZK (plain D) ⟨#[]⟩)[A.length]=f.name:=by
 have J:=(h.next).2;have I:D[A.length]=(f,b):=by
  have:=h.left;rw[List.drop_eq_getElem_cons J] at this;simp only[List.cons.injEq] at this;exact this.1.symm
 have E:ZK (plain D) ⟨#[]⟩=(plain D).map (·.name):=by
  unfold ZK;rw[List.filter_eq_self];intro s _;rfl
 simp[E,I]
theorem QhE(D:QT):(ZK D ⟨#[]⟩).length =D.length:=by
 have E:ZK D ⟨#[]⟩=D.map (·.name):=by
  unfold ZK;rw[List.filter_eq_self];intro s _;rfl
 rw[E,List.length_map]
theorem Xn.Qld{room:Nat}{A B:List EB}{f:Xj}(h:Xn w S db room n (A++(f,b)::B)){nn:Nat}(ac:nn<=f.bytes.size - f.synced)(af:t'=total (plain (A++(f,b)::B)) - (f.bytes.size - f.synced - nn))
  (aa:Qa (fun i=>i=b\/i=db) w w') (N:fileAt w' (⟨f.name,f.bytes.extract 0 (f.synced+nn),f.synced+nn⟩,b)) (Y: ∀E,XB w db room (total (plain (A++(f,b)::B))) E->XB w' db room t' E):
  Xn w' S db room n (A++(⟨f.name,f.bytes.extract 0 (f.synced+nn),f.synced+nn⟩,b)::B):=by
 have M:QQ Bn (A++(f,b)::B):=(QcW Bn Dk.En (fun x:EB=>x.1) (fun _=>rfl)).1 h.may.srt;have I:(f,b)∈A++(f,b)::B:=by simp
 have D:f∈plain (A++(f,b)::B):=List.mem_map.2 ⟨_,I,rfl⟩;have ae:f.synced<=f.bytes.size:=h.may.syn f D;have O:get Bn (A++(f,b)::B) f.name=some (f,b):=QbY Bn M I;have hsz:(f.bytes.extract 0 (f.synced+nn)).size =f.synced+nn:=by rw[ByteArray.size_extract];omega
 have Q:get Dk.En (plain (A++(f,b)::B)) f.name=some f:=QbY Dk.En h.may.srt D;have Z:=Qdq h.may.srt (x:=⟨f.name,f.bytes.extract 0 (f.synced+nn),f.synced+nn⟩) (f:=f) Q;simp only[hsz] at Z;have ab:=h.may.fits;have ad:=Qa4 D;have J:=h.set O (f':=⟨f.name,f.bytes.extract 0 (f.synced+nn),f.synced+nn⟩) rfl (h.may.put (h.may.names f D) (by simp only[hsz];exact Zf _) (by omega)) aa N (fun E W=>by
  have:=Y E W;have e:total (put Dk.En ⟨f.name,f.bytes.extract 0 (f.synced+nn),f.synced+nn⟩ (plain (A++(f,b)::B)))=t':=by omega
  rw[e];exact this)
 have U:put Bn (⟨f.name,f.bytes.extract 0 (f.synced+nn),f.synced+nn⟩,b) (A++(f,b)::B)=A++(⟨f.name,f.bytes.extract 0 (f.synced+nn),f.synced+nn⟩,b)::B:=Qc8 Bn M rfl;rw[U] at J;exact J.1
theorem QmJ{k:IntKind}(h:QN k w v zs):zs.length<=9223372036854775807:=by
 obtain⟨_,_,_,_,E,D,_⟩:=h;unfold maxLen at D;omega
theorem QnT{s:ByteArray}(h:Zp s=true):s.size<=maxLen:=by
 unfold Zp at h;simp only[decide_eq_true_eq] at h;unfold maxLen;omega
theorem Qkn(a m:Int)(D:0<m):(0<=a.tmod m/\a.tmod m<m)\/(a.tmod m<0/\0<=a.tmod m+m):=by
 have E:=Int.tmod_lt_of_pos a D;have I:=Int.lt_tmod_of_pos a D;omega
def K7(zs:List Int)(k u:Nat):Nat:=match zs[k]? with|some z=>K6 z u|none=>0
theorem QmU(zs:List Int)(k u:Nat):K7 zs k u<=u:=by
 unfold K7;split
 ·exact Qg6 _ _
 ·exact Zz _
theorem Qlc(zs:List Int)(k:Nat)(f:Xj):QaE zs[k]? f=⟨f.name,f.bytes.extract 0 (f.synced+K7 zs k (f.bytes.size - f.synced)),f.synced+K7 zs k (f.bytes.size - f.synced)⟩:=by
 unfold QaE K7
 cases zs[k]? <;>rfl
def Qjp(S:Nat->Prop)(w:World)(db room n:Nat)(D':QT)(e:Ending)(w':World):Prop:=
 e= .returned (.tuple #[])/\Has w' S db room n D'/\Qa S w w'
set_option maxRecDepth 100000 in
theorem Qla{room:Nat}{ak:QT}(h:Has w S db room n ak)(a:Option Addr)(aW:Nat)(zs:List Int)(M:Nat)(ao:M=zs.length)(aB:QN .i64 w (.slice a M aW) zs)(aV: ∀z∈zs,-9223372036854775808<=z/\z<=9223372036854775807)
  (aU: ∀g o,zs≠[]->a=some ⟨g,o,none⟩-> ¬S g) (br:n<=1000000) (bz:total ak<=4611686018427387904):
  Calls Tryz.prog 19 #[.pointer (some ⟨db,0,none⟩),.slice a M aW] w (Qjp S w db room n (Qal ak zs)):=by
 obtain⟨I,ac,rfl⟩:=h;have aO:=Qgm ⟨I,ac,rfl⟩ ⟨#[]⟩ br;have bj:=ac.below;have aY:=Zh ac;have a9:=Zh aB;have aF:=Zh ao;have bb:=Zh aV;have ba:=Zh aU;have bU:M<=9223372036854775807:=by rw[ao];exact QmJ aB
 clear ac aB ao aV aU;go_enter Tryz.func19,Tryz.ntmps19;go_wp2_with fail;refine aO.mono ?_
 rintro e bI ⟨v,rfl,aw,aA⟩;have ai:=Xe.Q7 aw;have bh:=aY.out.upd aA (fun _ _ f=>f);have bs:Hid (∀g,v.ownBlock=some g-> ¬S g):=fun g af bv=>by
  have ab:=(aw.lt g af).1;have bL:=bj g bv;omega
 obtain⟨b9,ca,rfl⟩:=ai.slice;have ar:(ZK (plain I) ⟨#[]⟩).length =I.length:=by rw[QhE,List.length_map]
 obtain⟨m,ag⟩: ∃m,m=I.length:=⟨_,rfl⟩
 have bq:m<=maxLen:=by rw[ag,<-ar];exact ai.bound
 unfold maxLen at bq;rw[ar,<-ag];have W:=Zh ag;have a5:=Zh ai;have aH:=Zh aA;clear aw ai ar ag aO aA;go_wp2_with fail;go_loopw [12] (fun i wr=> ∃A B,i= .int .i64 A.length/\Hid (KY zs I A B)/\Hid (Xn wr S db room n (A++B))/\Hid (Qa S bI wr)) (fun i _=>m - (intOf i).toNat)
 case atStart=>exact⟨[],I,rfl,KY.start zs I,bh,Zr _ _⟩
 case round=>
  obtain⟨A,B,rfl,J,D,Y⟩:=hrel;have aK:=J.out.len;rw[<-W.out] at aK
  cases B with
  |
   nil=>
   have bM:A.length=m:=by
    have:=congrArg List.length J.out.left;simp at this;rw[W.out];have:=J.out.len;omega
   have a1:=Zh J.out.last;have bT:decide ((A.length:Int)< (m:Int))=false:=by simp;omega
   clear aK;go_wp2_with fail;go_end0;have aN:=D.out;rw[List.append_nil] at aN;exact⟨rfl,⟨A,aN,a1.out⟩,(aH.out.mono (fun _ _ f=>f.elim)).trans Y.out (fun _ _ h=>h)⟩
  |
   cons x B=>
   obtain⟨f,b⟩:=x;have bg:A.length<m:=by rw[W.out];exact J.out.next.2
   have aq:A.length< (ZK (plain I) ⟨#[]⟩).length :=by rw[QhE,List.length_map,<-W.out];exact bg
   obtain⟨bB,cb,rfl,ap⟩:=a5.out.cell aq;rw[J.out.name aq] at ap;have bV:=Qe Y.out ap (bs.out bB rfl);have Q:(f,b)∈A++(f,b)::B:=by simp
   have ah:f∈plain (A++(f,b)::B):=List.mem_map.2 ⟨_,Q,rfl⟩;have aT:QQ Bn (A++(f,b)::B):=(QcW Bn Dk.En (fun x:EB=>x.1) (fun _=>rfl)).1 D.out.may.srt;have af:get Bn (A++(f,b)::B) f.name=some (f,b):=QbY Bn aT Q;have b2:f.synced<=f.bytes.size:=D.out.may.syn f ah;have bw:=Qa4 ah;have bn:=D.out.may.fits;have bR:=D.out.big;have aR:=QnT (D.out.may.names f ah);obtain⟨N,_,ay,aP⟩:=D.out.root;obtain⟨_,al,bc,aX⟩:=K9 ay;have bo:=Qez aP aR af;have ae:=(D.out.file _ Q).2;have av:=Qbn ae ay;obtain⟨am,an,aC,aD⟩:=QaH ae;have a6:=Zh (D.out.file _ Q).1;have a7:=Zh D.out.sdb;have aZ:=Zh ae;simp only at am an aC aD av;have a3:=Zh av;obtain⟨t,az⟩: ∃t,t=total (plain (A++(f,b)::B)):=⟨_,rfl⟩
   have aG:=Zh az;rw[<-az] at bw bn al;have bW:(A.length:Int)< (m:Int):=by omega
   clear az ay aP af aT ah Q aq ap ae aR av;have bA:IntKind.i64.wrap ((f.bytes.size:Int) - (f.synced:Int))=(f.bytes.size:Int) - (f.synced:Int):=by rw[IntKind.wrap_i64];omega
   obtain⟨u,aj⟩: ∃u,u=f.bytes.size - f.synced:=⟨_,rfl⟩
   have bx:(f.bytes.size:Int) - (f.synced:Int)=u:=by omega
   have b6:IntKind.i64.wrap (u:Int)=u:=by rw[IntKind.wrap_i64];omega
   have b5:u<=t:=by omega
   have bm:f.bytes.size<=4611686018427387904:=by
    have ab:(f,b)∈I:=by
     have:=J.out.left;exact List.mem_of_mem_drop (by rw[<-this];simp)
    exact Zt (Qa4 (List.mem_map.2 ⟨_,ab,rfl⟩)) bz
   have b4:u<=4611686018427387904:=by omega
   clear bm;have Z:=Zh aj;clear aj;go_wp2_with fail;go_quiet (fail);have aa:Hid (Qa Ze wr (wr.drewN nq)):=(Zr _ wr).drewN nq;have bC:(wr.drewN nq).cell? ⟨db,1,none⟩=some (.int .i64 t):=al;have bD:(wr.drewN nq).frozen? ⟨db,1,none⟩=false:=aX;have bE:(wr.drewN nq).cell? ⟨b,0,none⟩=some (.string f.bytes):=am;have bF:(wr.drewN nq).cell? ⟨b,1,none⟩=some (.int .i64 f.synced):=an;have bG:(wr.drewN nq).frozen? ⟨b,0,none⟩=false:=aC;have bH:(wr.drewN nq).frozen? ⟨b,1,none⟩=false:=aD;have a0:Hid (fileAt (wr.drewN nq) (f,b)):=aZ.out.upd aa.out (fun f=>f);generalize wr.drewN nq=wq at*
   clear al aX am an aC aD bo bc bA bx;go_upto_if 36 with fail
   go_cut [8] (fun x bJ=>x= .int .i64 (K7 zs A.length u:Nat)/\wq=bJ)
   case first=>
    by_cases hk:A.length<M
    ·have O:A.length<zs.length:=by rw[<-aF.out];exact hk
     obtain⟨g,o,rfl,aM⟩:=a9.out.cell O;have bS:=Qe aa.out (Qe Y.out (Qe aH.out aM (fun f=>f)) (ba.out g o (fun e=>by rw[e] at O;simp at O) rfl)) (fun f=>f);have b8:=bb.out zs[A.length] (List.getElem_mem O);have U:Hid (K7 zs A.length u=K6 zs[A.length] u):=by show _=_;unfold K7;rw[List.getElem?_eq_getElem O]
     clear aM;generalize zs[A.length]=z at*
     have E:=Qkn z ((u:Int)+1) (by omega);have bp:(A.length:Int)< (M:Int):=by omega
     have bX: ¬((u:Int)+1=0):=by omega
     have bY:(0:Int)< (u:Int)+1:=by omega
     rcases E with E|E
     ·obtain⟨P,ad⟩: ∃P:Nat,z.tmod ((u:Int)+1)=(P:Int):=⟨_,(Int.toNat_of_nonneg E.1).symm⟩
      have bN:decide ((P:Int)<0)=false:=by simp
      have HP:Hid (K6 z u=P):=by
       show _=_;unfold K6;rw[if_neg (by omega),ad];rfl
      clear E;go_wp2_with fail;go_meet
      case rel=>exact⟨by rw[U.out,HP.out],rfl⟩
     ·obtain⟨q,ax⟩: ∃q,q=z.tmod ((u:Int)+1):=⟨_,rfl⟩
      obtain⟨P,ad⟩: ∃P:Nat,z.tmod ((u:Int)+1)+((u:Int)+1)=(P:Int):=⟨_,(Int.toNat_of_nonneg E.2).symm⟩
      have HP:Hid (K6 z u=P):=by
       show _=_;unfold K6;rw[if_pos E.1,ad];rfl
      rw[<-ax] at E ad;have bZ:decide (q<0)=true:=by simp;exact E.1
      have b0:q<0:=E.1;have b1: -(u:Int) - 1<=q:=by omega
      have bO:=ax.symm;clear E ax;go_wp2_with fail;go_meet
      case rel=>exact⟨by rw[U.out,HP.out],rfl⟩
    ·have aL:K7 zs A.length u=0:=by unfold K7;rw[List.getElem?_eq_none (by rw[<-aF.out];omega)]
     have U:=Zh aL;have bp:decide ((A.length:Int)< (M:Int))=false:=by simp;omega
     clear aL;go_wp2_with fail;go_meet
     case rel=>exact⟨by rw[U.out];rfl,rfl⟩
   case rest=>
    obtain⟨rfl,rfl⟩:=hcut;have aS:=QmU zs A.length u;obtain⟨nn,au⟩: ∃nn,nn=K7 zs A.length u:=⟨_,rfl⟩
    have a2:=Zh au;rw[<-au] at aS ⊢;clear au;have aj:=Z.out;have b7:IntKind.i64.wrap ((f.synced:Int)+(nn:Int))=(f.synced:Int)+(nn:Int):=by rw[IntKind.wrap_i64];omega
    have bP:(0:Int)<=f.synced+(nn:Int):=by omega
    have bQ:(f.synced:Int)+(nn:Int)<=f.bytes.size:=by omega
    have b3:((f.synced:Int)+(nn:Int)).toNat =f.synced+nn:=by omega
    have hsz:(f.bytes.extract 0 (f.synced+nn)).size =f.synced+nn:=by rw[ByteArray.size_extract];omega
    have a8:Hid ((t:Int) - ((u:Int) - (nn:Int))=((t - (u - nn):Nat):Int)):=by show _=_;omega
    clear aj;go_upto_region 11 with fail
    have aQ:b≠db:=a3.out;have aI:Hid (Qa (fun i=>i=db) wq (wq.setCell ⟨db,1,none⟩ (.int .i64 ((t:Int) - ((u:Int) - (nn:Int)))))):=(Zr (fun i=>i=db) wq).setCell (p:=⟨db,1,none⟩) (fun _=>rfl) _;have a4:Hid (∀N,XB wq db room t N->XB (wq.setCell ⟨db,1,none⟩ (.int .i64 ((t:Int) - ((u:Int) - (nn:Int))))) db room (t - (u - nn)) N):=fun N h=>by
     rw[a8.out];exact Qe0 h
    generalize wq.setCell ⟨db,1,none⟩ (.int .i64 ((t:Int) - ((u:Int) - (nn:Int))))=wa at*
    have aE:Hid (fileAt wa (f,b)):=a0.out.upd aI.out aQ;obtain⟨bd,be,x0,bK⟩:=QaH aE.out;simp only at bd be x0 bK;clear bC bD bE bF bG bH;go_still_tail 14,(by kernel_rfl)
    go_wp2_with fail;have aJ:Hid (Qa (fun i=>i=b\/i=db) wr ((wa.setCell ⟨b,0,none⟩ (.string (f.bytes.extract 0 (f.synced+nn)))).setCell ⟨b,1,none⟩ (.int .i64 ((f.synced:Int)+(nn:Int)))).drew):=
     ((((aa.out.mono (T:=fun i=>i=b\/i=db) (fun _ _ f=>f.elim)).trans (aI.out.mono (T:=fun i=>i=b\/i=db) (fun _ _ h=>.inr h)) (fun _ _ h=>h)).setCell (p:=⟨b,0,none⟩) (fun _=>.inl rfl) _).setCell (p:=⟨b,1,none⟩) (fun _=>.inl rfl) _).drew
    have bk:(f.synced:Int)+(nn:Int)=((f.synced+nn:Nat):Int):=by omega
    have bu:=D.out.Qld (nn:=nn) (by rw[<-Z.out];exact aS) (t':=t - (u - nn)) (by rw[aG.out,Z.out]) aJ.out (by rw[bk];exact QgB (QgA aE.out)) (fun N h=>by
     rw[<-aG.out] at h;have ab:=a4.out N (h.upd aa.out (fun f=>f));exact ab.upd (((Zr (fun i=>i=b) wa).setCell (p:=⟨b,0,none⟩) (fun _=>rfl) _).setCell (p:=⟨b,1,none⟩) (fun _=>rfl) _).drew (fun e=>aQ e.symm))
    have hcut:=Qlc zs A.length f;rw[<-Z.out,<-a2.out] at hcut;refine⟨⟨A++[(QaE zs[A.length]? f,b)],B,by simp,J.out.next.1,?_,?_⟩,by simp[intOf];omega⟩
    ·show Xn _ _ _ _ _ _
     rw[hcut,List.append_assoc];exact bu
    ·exact Y.out.trans (aJ.out.mono (T:=S) (fun i _ h=>by rcases h with rfl|rfl;exact a6.out;exact a7.out)) (fun _ _ h=>h)
end
end Go.Proofs.YtbleblbfadeciaaGreatDoor
