/- For TopKept. -/
import Derived.Test.YtbleblbfadeciaaGreatDoorLc
import Derived.Test.YtbleblbfadeciaaGreatDoorKa
import Derived.Test.YtbleblbfadeciaaGreatDoorWc
import Derived.Test.YtbleblbfadeciaaGreatDoorTm
set_option linter.all false
set_option maxHeartbeats 16000000
set_option maxRecDepth 10000
namespace Go.Proofs.YtbleblbfadeciaaGreatDoor
variable{A:Array Value}{D:ByteArray}{i na nb nc rb s t xb xo:Nat}{S:Nat->Prop}{P:Program}{ty:TypeId}{V v:Value}{w w' w0 w2:World}
section
open Go.RowKit Go.Acre
attribute [local go_sem ↓] LcG ScG
attribute [local go_sem] Sc1 Sc2 Sc3 Lc2 Lc3
attribute [local go_sem] Kv Kw
structure XZ(w:World)(pb sb:Nat)(b:ByteArray):Prop where
 ptr:w.heap[pb]? =some (.cells #[.pointer (some ⟨sb,0,none⟩)] 232 (0,0))
 str:w.heap[sb]? =some (.cells #[.string b] 9 (0,0))
 ne:pb≠sb
 few:b.size<=1000000
theorem XZ.upd{b:ByteArray}(h:XZ w na nb b)(D:Qa S w w')(E: ¬S na)(I: ¬S nb):XZ w' na nb b:=⟨D.keep h.ptr E,D.keep h.str I,h.ne,h.few⟩
theorem XZ.Qc{b:ByteArray}(h:XZ w na nb b)(D:Qa Ze w w'):XZ w' na nb b:=h.upd D (fun f=>f) (fun f=>f)
def Qcm(pb sb:Nat)(b':ByteArray)(w:World)(e:Ending)(w':World):Prop:=e= .returned (.tuple #[])/\XZ w' pb sb b'/\Qa (fun i=>i=sb) w w'
theorem Qes{b:ByteArray}(h:XZ w na nb b)(J:Qa Ze w w2)(M:D.size<=1000000):
  XZ (w2.setCell ⟨nb,0,none⟩ (.string D)) na nb D/\Qa (fun i=>i=nb) w (w2.setCell ⟨nb,0,none⟩ (.string D)):=by
 have E:=h.Qc J;have I:Qa (fun i=>i=nb) w2 (w2.setCell ⟨nb,0,none⟩ (.string D)):=(Zr (fun i=>i=nb) w2).setCell (p:=⟨nb,0,none⟩) (fun _=>rfl) _;exact⟨⟨I.keep E.ptr E.ne,Qi (o:=0) E.str (.string D),E.ne,M⟩,(J.mono (fun _ _ f=>f.elim)).trans I (fun _ _ h=>h)⟩
theorem Qet{b:ByteArray}(h:XZ w na nb b){v:Nat}(U:w.cell? ⟨xb,xo,none⟩=some (.int .u64 v))(I:v<=2000000)(Q:b.size<=500000)(J:Int):
  Calls Tryz.prog 203 #[.pointer (some ⟨xb,xo,none⟩),.int .u64 J,.pointer (some ⟨na,0,none⟩)] w (Qcm na nb (b++str (num v)) w):=by
 have hsz:(b++str (num v)).size <=1000000:=by
  rw[ByteArray.size_append,QaP];have:=W7 I;omega
 have H:=Zh h;have HP:=Zh (Qb7 b v w.drew (by omega) (by omega));have M:w.cell? ⟨na,0,none⟩=some (.pointer (some ⟨nb,0,none⟩)):=Qb h.ptr 0;have N:w.cell? ⟨nb,0,none⟩=some (.string b):=Qb h.str 0;clear h;go_enter Tryz.func203,Tryz.ntmps203;go_region_with (go_at_call 137;refine HP.out.mono ?_;rintro e w2 ⟨rfl,E⟩;have D:=((Zr Ze w).drew).trans E (fun _ _ f=>f);have t0:w2.cell? ⟨nb,0,none⟩=some (.string b):=Qe D N (fun f=>f);have W:w2.cell? ⟨na,0,none⟩=some (.pointer (some ⟨nb,0,none⟩)):=Qe D M (fun f=>f);have O:=Qg (D.keep H.out.str (fun f=>f)) 0 none)
 all_goals
  go_wp2_with fail;go_end0;exact⟨rfl,Qes H.out D hsz⟩
theorem Qna{b:ByteArray}(h:XZ w na nb b){v:ByteArray}(U:w.cell? ⟨xb,xo,none⟩=some (.string v))(Q:v.size<=400000)(O:b.size<=500000)(I:Int):
  Calls Tryz.prog 204 #[.pointer (some ⟨xb,xo,none⟩),.int .i64 I,.pointer (some ⟨na,0,none⟩)] w (Qcm na nb (b++txt v) w):=by
 have hsz:(b++txt v).size <=1000000:=by
  rw[ByteArray.size_append,Qfh];have:=W7 (v:=v.size) (by omega);omega
 have H:=Zh h;have HP:=Zh (Qif b v w.drew (by omega) (by omega));have J:w.cell? ⟨na,0,none⟩=some (.pointer (some ⟨nb,0,none⟩)):=Qb h.ptr 0;have M:w.cell? ⟨nb,0,none⟩=some (.string b):=Qb h.str 0;clear h;go_enter Tryz.func204,Tryz.ntmps204;go_region_with (go_at_call 139;refine HP.out.mono ?_;rintro e w2 ⟨rfl,E⟩;have D:=((Zr Ze w).drew).trans E (fun _ _ f=>f);have t0:w2.cell? ⟨nb,0,none⟩=some (.string b):=Qe D M (fun f=>f);have W:w2.cell? ⟨na,0,none⟩=some (.pointer (some ⟨nb,0,none⟩)):=Qe D J (fun f=>f);have N:=Qg (D.keep H.out.str (fun f=>f)) 0 none)
 all_goals
  go_wp2_with fail;go_end0;exact⟨rfl,Qes H.out D hsz⟩
end
section
open Go.RowKit Go.Acre
set_option maxRecDepth 100000 in
theorem Qpy(b:ByteArray)(x:Nat)(w:World)(ak:b.size<=1099511627776)(an:x<128):Calls Tryz.prog 206 #[.string b,.int .u8 x] w (Qbe b (str [x]) w):=by
 obtain⟨ah,ab,ae,af,ag⟩:=info_parts Qg1;have al:=run_bytes_of_string (P:=Tryz.prog) w 9 22 5 b Tryz.underlying9 Tryz.underlying22 Tryz.underlying5;have Q:=Qf4 w.drew b (grownCap w b.size 0 5) (grownCap_ge w b.size 0 5) (grownCap_le_maxLen w b.size 0 5 (by unfold maxLen;omega));have U:Qa Ze w (w.drew.alloc (.cells (bytesRow b (grownCap w b.size 0 5)) 5 ((bytesRow b (grownCap w b.size 0 5)).size,(bytesRow b (grownCap w b.size 0 5)).size +1))):=((Zr _ w).drew).alloc _;have E:ZC (w.alloc (.cells (bytesRow b (grownCap w b.size 0 5)) 5 ((bytesRow b (grownCap w b.size 0 5)).size,(bytesRow b (grownCap w b.size 0 5)).size +1))).drew w.heap.size 5 (.slice (some ⟨w.heap.size,0,none⟩) b.size (grownCap w b.size 0 5)) b.size (KT (nums b)):=Q;have D:Qa Ze w (w.alloc (.cells (bytesRow b (grownCap w b.size 0 5)) 5 ((bytesRow b (grownCap w b.size 0 5)).size,(bytesRow b (grownCap w b.size 0 5)).size +1))).drew :=U;have aj:=Zh E;have I:=Zh D;have N:=E.upd ((Zr Ze _).alloc (.cells #[.int .u8 (x:Int)] 5));clear Q U E D;have ao:w.heap.size<=(w.alloc (.cells (bytesRow b (grownCap w b.size 0 5)) 5 ((bytesRow b (grownCap w b.size 0 5)).size,(bytesRow b (grownCap w b.size 0 5)).size +1))).drew.heap.size :=I.out.size;go_enter Tryz.func206,Tryz.ntmps206;go_wp2_with (at_builtin;refine Qfl rfl _ _ 22 rfl w.heap.size 5 ah (.int .u8 0) 1 Tryz.underlying22 ab ae af ag rfl _ _ _ rfl N _ 1 (.int .u8 (x:Int)) rfl ?c1 ?c2 rfl ?c3 ?c4 ?c5 ?_)
 case c1=>
  have h:=Qb (Qf (w:=w.alloc (.cells (bytesRow b (grownCap w b.size 0 5)) 5 ((bytesRow b (grownCap w b.size 0 5)).size,(bytesRow b (grownCap w b.size 0 5)).size +1))) (.cells #[.int .u8 (x:Int)] 5)) 0;have ad:(w.alloc (.cells (bytesRow b (grownCap w b.size 0 5)) 5 ((bytesRow b (grownCap w b.size 0 5)).size,(bytesRow b (grownCap w b.size 0 5)).size +1))).heap.size =w.heap.size+1:=by simp
  rw[ad] at h;exact h
 case c2=>rfl
 case c3=>unfold maxLen;omega
 case c4=>omega
 case c5=>simp;omega
 intro ai w2 O J;have D:=(I.out.alloc (.cells #[.int .u8 (x:Int)] 5)).X8 J (by
  intro j ac am;simp only[Value.ownBlock,Option.some.injEq] at ac;omega)
 have M:QN .u8 w2 ai ((nums b++[x]).map fun b:Nat=>(b:Int)):=by
  have W:=O.row;have Y:((nums b++[x]).map fun b:Nat=>(b:Int)).length =b.size+1:=by simp[nums_length]
  have Z:((nums b++[x]).map fun b:Nat=>(b:Int)).map (Value.int .u8)=KT (nums b)++[Value.int .u8 (x:Int)]:=by
   unfold KT;rw[List.map_map,List.map_append];rfl
  unfold QN;rw[Y,Z];exact W
 have aa:=QdY (P:=Tryz.prog) M 22 9 5 Tryz.underlying22 Tryz.underlying5 Tryz.underlying9;rw[QiZ,QiX,QiY] at aa;clear O N M J;go_wp2_with fail;go_ret;exact⟨rfl,D⟩
section
attribute [local go_sem ↓] LcG ScG
attribute [local go_sem] Sc1 Sc2 Sc3 Lc2 Lc3
attribute [local go_sem] Kv Kw
set_option maxRecDepth 10000
theorem Qm6{b:ByteArray}(h:XZ w na nb b)(O:w.cell? ⟨xb,xo,none⟩=some (.bool false))(N:b.size<=500000):
  Calls Tryz.prog 205 #[.pointer (some ⟨xb,xo,none⟩),.pointer (some ⟨na,0,none⟩)] w (Qcm na nb (b++str [0]) w):=by
 have hsz:(b++str [0]).size <=1000000:=by
  rw[ByteArray.size_append,Zq];simp only[List.length_singleton];omega
 have H:=Zh h;have HP:=Zh (Qpy b 0 w.drew (by omega) (by omega));have I:w.cell? ⟨na,0,none⟩=some (.pointer (some ⟨nb,0,none⟩)):=Qb h.ptr 0;have J:w.cell? ⟨nb,0,none⟩=some (.string b):=Qb h.str 0;clear h;go_enter Tryz.func205,Tryz.ntmps205;go_upto_region 3 with fail
 go_region_with (go_at_call 206;refine HP.out.mono ?_;rintro e w2 ⟨rfl,E⟩;have D:=((Zr Ze w).drew).trans E (fun _ _ f=>f);have t0:w2.cell? ⟨nb,0,none⟩=some (.string b):=Qe D J (fun f=>f);have Q:w2.cell? ⟨na,0,none⟩=some (.pointer (some ⟨nb,0,none⟩)):=Qe D I (fun f=>f);have M:=Qg (D.keep H.out.str (fun f=>f)) 0 none)
 all_goals
  go_wp2_with fail;go_end0;exact⟨rfl,Qes H.out D hsz⟩
def K0(pb sb xb:Nat)(A:Array Value)(ty:TypeId)(b':ByteArray)(w:World)(e:Ending)(w':World):Prop:=
 e= .returned (.tuple #[])/\XZ w' pb sb b'/\w'.heap[xb]? =some (.cells A ty (0,0))/\Qa (fun i=>i=sb\/i=xb) w w'
theorem QiG(h:A[i]? =some v):A.setIfInBounds i v=A:=by
 apply Array.ext_getElem?;intro j;rw[Array.getElem?_setIfInBounds];have D:i<A.size:=(Array.getElem?_eq_some_iff.1 h).1;split
 ·rename_i e
  subst e;exact h.symm
 ·rfl
def Xb(pb:Nat):Array Value:= #[.func (.func 203) #[] #[.pointer (some ⟨pb,0,none⟩)],.func (.func 204) #[] #[.pointer (some ⟨pb,0,none⟩)],.func (.func 205) #[] #[.pointer (some ⟨pb,0,none⟩)]]
theorem W1{b:ByteArray}(h:XZ w na nb b){v:Nat}(E:w.heap[xb]? =some (.cells A ty (0,0)))(O:A[xo]? =some (.int .i64 v))(am:xb≠na)(aa:xb≠nb)(ap:v<=2000000)(an:b.size<=500000):
  Calls Tryz.prog 195 #[.agg #[.func (.func 203) #[] #[.pointer (some ⟨na,0,none⟩)],.func (.func 204) #[] #[.pointer (some ⟨na,0,none⟩)],.func (.func 205) #[] #[.pointer (some ⟨na,0,none⟩)]],.pointer (some ⟨xb,xo,none⟩)] w (K0 na nb xb A ty (b++str (num v)) w):=by
 have H:=Zh h;have ak:=Zh E;have W:=Zh O;have x0:w.cell? ⟨xb,xo,none⟩=some (.int .i64 v):=(Qb E xo).trans O;have aq:=Ql E;have ar:IntKind.u64.wrap (v:Int)=v:=IntWalk.u64_in _ (by omega);clear h E O;go_enter Tryz.func195,Tryz.ntmps195;go_upto_region 2 with fail
 have ae:=Qf (w:=w) (.cells (Xb na) 220);have ag:(w.alloc (.cells (Xb na) 220)).heap.size =w.heap.size+1:=by simp
 have I:=Qf (w:=w.alloc (.cells (Xb na) 220)) (.cells #[.int .u64 v] 30);rw[ag] at I;have u1:Qa Ze w (w.alloc (.cells (Xb na) 220)):=(Zr _ w).alloc _;have u2:Qa Ze (w.alloc (.cells (Xb na) 220)) ((w.alloc (.cells (Xb na) 220)).alloc (.cells #[.int .u64 v] 30)):=(Zr _ _).alloc _;have af:=u2.keep ae (fun f=>f);have M:=u1.trans u2 (fun _ _ f=>f);change Code.wp _ _ _ _ ((w.alloc (.cells (Xb na) 220)).alloc (.cells #[.int .u64 v] 30));clear u1 u2 ae ag;generalize (w.alloc (.cells (Xb na) 220)).alloc (.cells #[.int .u64 v] 30)=w2 at*
 generalize hwb:w.heap.size=wb at*
 have Z:=Zh M;have ai:=Zh I;have al:w2.cell? ⟨wb,0,none⟩=some (.func (.func 203) #[] #[.pointer (some ⟨na,0,none⟩)]):=Qb af 0;have U:w2.cell? ⟨wb+1,0,none⟩=some (.int .u64 v):=Qb I 0;have Y:=Zh (Qet (H.out.Qc M) U ap an 1073741824);clear M I af hwb;have ao:wb+1≠nb:=by
  have:=Ql H.out.str;intro e;have ab:=Z.out.keep H.out.str (fun f=>f);rw[<-e,ai.out] at ab;simp at ab
 go_wp2_with fail;refine Y.out.mono ?_
 rintro e D ⟨rfl,ac,N⟩;have ah:=Zh ac;have Q:=(Z.out.mono (T:=fun i=>i=nb) (fun _ _ f=>f.elim)).trans N (fun _ _ h=>h);have J:=Zh (Q.keep ak.out aa);have av:D.cell? ⟨wb+1,0,none⟩=some (.int .u64 v):=Qe N U ao;have aw:D.cell? ⟨xb,xo,none⟩=some (.int .i64 v):=(Qb J.out xo).trans W.out;have ax:=Qg J.out xo none;have aj:=Zh Q;have au:IntKind.i64.wrap (v:Int)=v:=IntWalk.i64_in _ (by omega);clear ac N Q al U Y;go_wp2_with fail;go_end0;have ad:Qa (fun i=>i=xb) D (D.setCell ⟨xb,xo,none⟩ (.int .i64 (v:Int))):=(Zr (fun i=>i=xb) D).setCell (p:=⟨xb,xo,none⟩) (fun _=>rfl) _;refine⟨rfl,ah.out.upd ad (fun e=>am e.symm) (fun e=>aa e.symm),?_,(aj.out.mono (T:=fun i=>i=nb\/i=xb) (fun i _ e=>.inl e)).trans ad (fun i _ e=>.inr e)⟩;have:=Qi (o:=xo) J.out (.int .i64 (v:Int));rw[QiG W.out] at this;exact this
end
end
section
open Go.RowKit Go.Acre
attribute [local go_sem ↓] LcG ScG
attribute [local go_sem] Sc1 Sc2 Sc3 Lc2 Lc3
attribute [local go_sem] Kv Kw
theorem Qeu{pb sb xb:Nat}{A:Array Value}{ty:TypeId}{D:ByteArray}{w:World}(N:w.heap[xb]? =some (.cells A ty (0,0)))(I:xb≠sb){e:Ending}{w':World}(h:Qcm pb sb D w e w'):K0 pb sb xb A ty D w e w':=by
 obtain⟨J,M,E⟩:=h;exact⟨J,M,E.keep N I,E.mono (fun i _ e=>.inl e)⟩
section
variable {w:World} {pb sb:Nat} {b:ByteArray} {xb xo:Nat} {A:Array Value} {ty:TypeId}
theorem Qb1{v:Nat}(h:XZ w pb sb b)(D:w.heap[xb]? =some (.cells A ty (0,0)))(N:A[xo]? =some (.int .u64 v))(I:xb≠sb)(M:v<=2000000)(J:b.size<=500000)(E:Int):
  Calls Tryz.prog 203 #[.pointer (some ⟨xb,xo,none⟩),.int .u64 E,.pointer (some ⟨pb,0,none⟩)] w (K0 pb sb xb A ty (b++str (num v)) w):=
 (Qet h ((Qb D xo).trans N) M J E).mono (fun _ _=>Qeu D I)
theorem QaL{v:ByteArray}(h:XZ w pb sb b)(D:w.heap[xb]? =some (.cells A ty (0,0)))(N:A[xo]? =some (.string v))(I:xb≠sb)(M:v.size<=400000)(J:b.size<=500000)(E:Int):
  Calls Tryz.prog 204 #[.pointer (some ⟨xb,xo,none⟩),.int .i64 E,.pointer (some ⟨pb,0,none⟩)] w (K0 pb sb xb A ty (b++txt v) w):=
 (Qna h ((Qb D xo).trans N) M J E).mono (fun _ _=>Qeu D I)
theorem Qhw(h:XZ w pb sb b)(D:w.heap[xb]? =some (.cells A ty (0,0)))(J:A[xo]? =some (.bool false))(E:xb≠sb)(I:b.size<=500000):
  Calls Tryz.prog 205 #[.pointer (some ⟨xb,xo,none⟩),.pointer (some ⟨pb,0,none⟩)] w (K0 pb sb xb A ty (b++str [0]) w):=
 (Qm6 h ((Qb D xo).trans J) I).mono (fun _ _=>Qeu D E)
end
theorem QcN(s:Nat):kI s=((kN s:Nat):Int):=by unfold kI kN;split<;>rfl
theorem Qc4(s:Nat):oI s=((oN s:Nat):Int):=by unfold oI oN;split<;>rfl
theorem QaK(s:Nat):kN s<=1:=by unfold kN;split<;>omega
theorem QaT(s:Nat):oN s<=2:=by unfold oN;split<;>omega
theorem XN{b:ByteArray}{n v:Nat}(h:b.size<=n)(D:v<=2000000):(b++str (num v)).size <=n+20:=by
 rw[ByteArray.size_append,QaP];have:=W7 D;omega
theorem Ky{b v:ByteArray}{n:Nat}(h:b.size<=n)(D:v.size<=10):(b++txt v).size <=n+20:=by
 rw[ByteArray.size_append,Qfh];have:=W7 (v:=v.size) (by omega);omega
theorem Qdj{b:ByteArray}{n:Nat}(h:b.size<=n):(b++str [0]).size <=n+20:=by
 rw[ByteArray.size_append,Zq];simp only[List.length_singleton];omega
theorem QiM{b:ByteArray}{n s:Nat}(h:b.size<=n):(Wy b (QaU s)).size <=n+120:=by
 have D:=XN (v:=oN s) h (by have:=QaT s;omega);have E:=Ky (v:=rS s) D (by have:=W9 s;omega);have I:=Ky (v:=cS s) E (by have:=WU s;omega);have J:=Ky (v:=⟨#[]⟩) I (by decide);have M:=Qdj J;exact Ky (v:=⟨#[]⟩) M (by decide)
theorem Qqj{b:ByteArray}{n s:Nat}(h:b.size<=n)(ad:s<=2000000):(Wy b (QaD s)).size <=n+400:=by
 have D:=XN (v:=kN s) h (by have:=QaK s;omega);have Q:=XN (v:=0) D (by omega);have U:=XN (v:=s) Q ad;have W:=XN (v:=0) U (by omega);have Y:=QiM (s:=s) W;have Z:=XN (v:=0) Y (by omega);have aa:=XN (v:=0) Z (by omega);have ab:=Ky (v:=⟨#[]⟩) aa (by decide);have ac:=Ky (v:=⟨#[]⟩) ab (by decide);have E:=XN (v:=0) ac (by omega);have I:=Qdj E;have J:=XN (v:=0) I (by omega);have M:=Ky (v:=⟨#[]⟩) J (by decide);have N:=XN (v:=0) M (by omega);have O:=XN (v:=0) N (by omega);exact Zt O (by omega)
theorem Qm9{w:World}{pb sb:Nat}{b:ByteArray}(h:XZ w pb sb b){xb i t s:Nat}(ah:w.heap[xb]? =some (.cells (Qh i t s) 116 (0,0)))(bV:xb≠pb)(J:xb≠sb)(bZ:i<=2000000)(b6:t<=2000000)(b4:s<=2000000)(aZ:b.size<=450000):
  Calls Tryz.prog 243 #[.agg #[.func (.func 203) #[] #[.pointer (some ⟨pb,0,none⟩)],.func (.func 204) #[] #[.pointer (some ⟨pb,0,none⟩)],.func (.func 205) #[] #[.pointer (some ⟨pb,0,none⟩)]],.pointer (some ⟨xb,7,none⟩)] w (K0 pb sb xb (Qh i t s) 116 (Wy b (QaU s)) w):=by
 have bj:(Qh i t s)[0]? =some (.int .u64 (i:Int)):=rfl;have bk:(Qh i t s)[1]? =some (.int .u64 (t:Int)):=rfl;have bu:(Qh i t s)[2]? =some (.int .i64 ((1:Nat):Int)):=rfl;have bz:(Qh i t s)[3]? =some (.int .i64 ((kN s:Nat):Int)):=by
  show some (Value.int .i64 (kI s))=_;rw[QcN]
 have bA:(Qh i t s)[4]? =some (.int .i64 ((0:Nat):Int)):=rfl;have bB:(Qh i t s)[5]? =some (.int .u64 (s:Int)):=rfl;have bC:(Qh i t s)[6]? =some (.int .u64 ((0:Nat):Int)):=rfl;have aW:(Qh i t s)[7]? =some (.int .i64 ((oN s:Nat):Int)):=by
  show some (Value.int .i64 (oI s))=_;rw[Qc4]
 have aX:(Qh i t s)[8]? =some (.string (rS s)):=rfl;have aY:(Qh i t s)[9]? =some (.string (cS s)):=rfl;have aT:(Qh i t s)[10]? =some (.string (⟨#[]⟩)):=rfl;have aU:(Qh i t s)[11]? =some (.bool false):=rfl;have aV:(Qh i t s)[12]? =some (.string (⟨#[]⟩)):=rfl;have bm:(Qh i t s)[13]? =some (.int .u64 ((0:Nat):Int)):=rfl;have bn:(Qh i t s)[14]? =some (.int .i64 ((0:Nat):Int)):=rfl;have bo:(Qh i t s)[15]? =some (.string (⟨#[]⟩)):=rfl;have bp:(Qh i t s)[16]? =some (.string (⟨#[]⟩)):=rfl;have bq:(Qh i t s)[17]? =some (.int .i64 ((0:Nat):Int)):=rfl;have br:(Qh i t s)[18]? =some (.bool false):=rfl;have bs:(Qh i t s)[19]? =some (.int .i64 ((0:Nat):Int)):=rfl;have bv:(Qh i t s)[20]? =some (.string (⟨#[]⟩)):=rfl;have bw:(Qh i t s)[21]? =some (.int .i64 ((0:Nat):Int)):=rfl;have bx:(Qh i t s)[22]? =some (.int .i64 ((0:Nat):Int)):=rfl;have b0:=QaK s;have b1:=QaT s;have b3:=W9 s;have bY:=WU s;have b2:(⟨#[]⟩:ByteArray).size <=1:=by decide
 have bc:=Zh h;have aM:=Zh ah;have aa:=Zh aZ;have b5:=Ql h.str;have b7:=Ql ah;clear h ah aZ;obtain⟨A,ag⟩: ∃A,A=Qh i t s:=⟨_,rfl⟩
 have bW:=Zh ag;rw[<-ag] at aM bj bk bu bz bA bB bC aW aX aY aT aU aV bm bn bo bp bq br bs bv bw bx ⊢;clear ag;go_enter Tryz.func243,Tryz.ntmps243;go_upto_region 1 with fail
 have M:=Qf (w:=w) (.cells (Xb pb) 220);have Z:Qa Ze w (w.alloc (.cells (Xb pb) 220)):=(Zr _ w).alloc _;change Code.wp _ _ _ _ (w.alloc (.cells (Xb pb) 220));generalize w.alloc (.cells (Xb pb) 220)=w0 at*
 have Y: ¬(w.heap.size=sb\/w.heap.size=xb):=by omega
 generalize w.heap.size=wb at*
 have an:=Zh (bc.out.Qc Z);have aN:=Zh (Z.keep aM.out (fun f=>f));have aH:=Zh M;have aB:Hid (Qa (fun i=>i=sb\/i=xb) w w0):=Zh (Z.mono (fun _ _ f=>f.elim));have bD:w0.cell? ⟨wb,0,none⟩=some (.func (.func 203) #[] #[.pointer (some ⟨pb,0,none⟩)]):=Qb M 0;have bJ:w0.cell? ⟨wb,1,none⟩=some (.func (.func 204) #[] #[.pointer (some ⟨pb,0,none⟩)]):=Qb M 1;have bP:w0.cell? ⟨wb,2,none⟩=some (.func (.func 205) #[] #[.pointer (some ⟨pb,0,none⟩)]):=Qb M 2;clear Z M;have av:=Zh (W1 (v:=oN s) (an.out.Qc ((Zr Ze w0).drew)) (show w0.drew.heap[xb]? =_ from aN.out) aW bV J (by omega) (Zt aa.out (by decide)));have ab:=Zh (XN (v:=oN s) aa.out (by omega));go_region_with (go_at_call 195;refine av.out.mono ?_;rintro e D ⟨rfl,a0,hx1,ai⟩);have ao:=Zh a0;have aO:=Zh hx1;have aC:Hid (Qa (fun i=>i=sb\/i=xb) w D):=Zh ((aB.out.drew).trans ai (fun _ _ h=>h));have N:=(((Zr (fun i=>i=sb\/i=xb) w0).drew).trans ai (fun _ _ h=>h)).keep aH.out Y;have aI:=Zh N;have bE:D.cell? ⟨wb,0,none⟩=some (.func (.func 203) #[] #[.pointer (some ⟨pb,0,none⟩)]):=Qb N 0;have bK:D.cell? ⟨wb,1,none⟩=some (.func (.func 204) #[] #[.pointer (some ⟨pb,0,none⟩)]):=Qb N 1;have bQ:D.cell? ⟨wb,2,none⟩=some (.func (.func 205) #[] #[.pointer (some ⟨pb,0,none⟩)]):=Qb N 2;clear a0 hx1 ai N bD bJ bP av an aN aH aB aa;go_upto_region 2 with fail
 have aw:=Zh (QaL (v:=rS s) (ao.out.Qc ((Zr Ze D).drew)) (show D.drew.heap[xb]? =_ from aO.out) aX J (by omega) (Zt ab.out (by decide)) 65536);have ac:=Zh (Ky (v:=rS s) ab.out (by omega));go_region_with (go_at_call 204;refine aw.out.mono ?_;rintro e w2 ⟨rfl,a1,a7,aj⟩);have ap:=Zh a1;have aP:=Zh a7;have aD:Hid (Qa (fun i=>i=sb\/i=xb) w w2):=Zh ((aC.out.drew).trans aj (fun _ _ h=>h));have O:=(((Zr (fun i=>i=sb\/i=xb) D).drew).trans aj (fun _ _ h=>h)).keep aI.out Y;have aJ:=Zh O;have bF:w2.cell? ⟨wb,0,none⟩=some (.func (.func 203) #[] #[.pointer (some ⟨pb,0,none⟩)]):=Qb O 0;have bL:w2.cell? ⟨wb,1,none⟩=some (.func (.func 204) #[] #[.pointer (some ⟨pb,0,none⟩)]):=Qb O 1;have bR:w2.cell? ⟨wb,2,none⟩=some (.func (.func 205) #[] #[.pointer (some ⟨pb,0,none⟩)]):=Qb O 2;clear a1 a7 aj O bE bK bQ aw ao aO aI aC ab;go_upto_region 3 with fail
 have ax:=Zh (QaL (v:=cS s) (ap.out.Qc ((Zr Ze w2).drew)) (show w2.drew.heap[xb]? =_ from aP.out) aY J (by omega) (Zt ac.out (by decide)) 65536);have ad:=Zh (Ky (v:=cS s) ac.out (by omega));go_region_with (go_at_call 204;refine ax.out.mono ?_;rintro e E ⟨rfl,a2,a8,ak⟩);have aq:=Zh a2;have aQ:=Zh a8;have aE:Hid (Qa (fun i=>i=sb\/i=xb) w E):=Zh ((aD.out.drew).trans ak (fun _ _ h=>h));have Q:=(((Zr (fun i=>i=sb\/i=xb) w2).drew).trans ak (fun _ _ h=>h)).keep aJ.out Y;have aK:=Zh Q;have bG:E.cell? ⟨wb,0,none⟩=some (.func (.func 203) #[] #[.pointer (some ⟨pb,0,none⟩)]):=Qb Q 0;have bM:E.cell? ⟨wb,1,none⟩=some (.func (.func 204) #[] #[.pointer (some ⟨pb,0,none⟩)]):=Qb Q 1;have bS:E.cell? ⟨wb,2,none⟩=some (.func (.func 205) #[] #[.pointer (some ⟨pb,0,none⟩)]):=Qb Q 2;clear a2 a8 ak Q bF bL bR ax ap aP aJ aD ac;go_upto_region 4 with fail
 have ay:=Zh (QaL (v:=⟨#[]⟩) (aq.out.Qc ((Zr Ze E).drew)) (show E.drew.heap[xb]? =_ from aQ.out) aT J (by omega) (Zt ad.out (by decide)) 65536);have ae:=Zh (Ky (v:=⟨#[]⟩) ad.out (by omega));go_region_with (go_at_call 204;refine ay.out.mono ?_;rintro e I ⟨rfl,a3,a9,al⟩);have ar:=Zh a3;have aR:=Zh a9;have aF:Hid (Qa (fun i=>i=sb\/i=xb) w I):=Zh ((aE.out.drew).trans al (fun _ _ h=>h));have U:=(((Zr (fun i=>i=sb\/i=xb) E).drew).trans al (fun _ _ h=>h)).keep aK.out Y;have aL:=Zh U;have bH:I.cell? ⟨wb,0,none⟩=some (.func (.func 203) #[] #[.pointer (some ⟨pb,0,none⟩)]):=Qb U 0;have bN:I.cell? ⟨wb,1,none⟩=some (.func (.func 204) #[] #[.pointer (some ⟨pb,0,none⟩)]):=Qb U 1;have bT:I.cell? ⟨wb,2,none⟩=some (.func (.func 205) #[] #[.pointer (some ⟨pb,0,none⟩)]):=Qb U 2;clear a3 a9 al U bG bM bS ay aq aQ aK aE ad;go_upto_region 5 with fail
 have az:=Zh (Qhw (ar.out.Qc ((Zr Ze I).drew)) (show I.drew.heap[xb]? =_ from aR.out) aU J (Zt ae.out (by decide)));have af:=Zh (Qdj ae.out);go_region_with (go_at_call 205;refine az.out.mono ?_;rintro e w5 ⟨rfl,a4,ba,am⟩);have au:=Zh a4;have aS:=Zh ba;have aG:Hid (Qa (fun i=>i=sb\/i=xb) w w5):=Zh ((aF.out.drew).trans am (fun _ _ h=>h));have W:=(((Zr (fun i=>i=sb\/i=xb) I).drew).trans am (fun _ _ h=>h)).keep aL.out Y;have bg:=Zh W;have bI:w5.cell? ⟨wb,0,none⟩=some (.func (.func 203) #[] #[.pointer (some ⟨pb,0,none⟩)]):=Qb W 0;have bO:w5.cell? ⟨wb,1,none⟩=some (.func (.func 204) #[] #[.pointer (some ⟨pb,0,none⟩)]):=Qb W 1;have bU:w5.cell? ⟨wb,2,none⟩=some (.func (.func 205) #[] #[.pointer (some ⟨pb,0,none⟩)]):=Qb W 2;clear a4 ba am W bH bN bT az ar aR aL aF ae;go_upto_region 6 with fail
 have aA:=Zh (QaL (v:=⟨#[]⟩) (au.out.Qc ((Zr Ze w5).drew)) (show w5.drew.heap[xb]? =_ from aS.out) aV J (by omega) (Zt af.out (by decide)) 65536);have bX:=Zh (Ky (v:=⟨#[]⟩) af.out (by omega));go_region_with (go_at_call 204;refine aA.out.mono ?_;rintro e w6 ⟨rfl,a5,bb,a6⟩);have bd:=Zh a5;have bh:=Zh bb;have be:Hid (Qa (fun i=>i=sb\/i=xb) w w6):=Zh ((aG.out.drew).trans a6 (fun _ _ h=>h));clear a5 bb a6 bI bO bU aA au aS bg aG af;go_wp2_with fail;go_end0;exact⟨rfl,bd.out,bh.out,be.out⟩
theorem Qm4{w:World}{pb sb:Nat}{b:ByteArray}(h:XZ w pb sb b){xb i t s:Nat}(aH:w.heap[xb]? =some (.cells (Qh i t s) 116 (0,0)))(I:xb≠pb)(D:xb≠sb)(d3:i<=2000000)(d5:t<=2000000)(d4:s<=2000000)(cw:b.size<=440000):
  Calls Tryz.prog 196 #[.agg #[.func (.func 203) #[] #[.pointer (some ⟨pb,0,none⟩)],.func (.func 204) #[] #[.pointer (some ⟨pb,0,none⟩)],.func (.func 205) #[] #[.pointer (some ⟨pb,0,none⟩)]],.pointer (some ⟨xb,3,none⟩)] w (K0 pb sb xb (Qh i t s) 116 (Wy b (QaD s)) w):=by
 have c8:(Qh i t s)[0]? =some (.int .u64 (i:Int)):=rfl;have da:(Qh i t s)[1]? =some (.int .u64 (t:Int)):=rfl;have df:(Qh i t s)[2]? =some (.int .i64 ((1:Nat):Int)):=rfl;have cs:(Qh i t s)[3]? =some (.int .i64 ((kN s:Nat):Int)):=by
  show some (Value.int .i64 (kI s))=_;rw[QcN]
 have ct:(Qh i t s)[4]? =some (.int .i64 ((0:Nat):Int)):=rfl;have cu:(Qh i t s)[5]? =some (.int .u64 (s:Int)):=rfl;have cv:(Qh i t s)[6]? =some (.int .u64 ((0:Nat):Int)):=rfl;have dg:(Qh i t s)[7]? =some (.int .i64 ((oN s:Nat):Int)):=by
  show some (Value.int .i64 (oI s))=_;rw[Qc4]
 have dh:(Qh i t s)[8]? =some (.string (rS s)):=rfl;have di:(Qh i t s)[9]? =some (.string (cS s)):=rfl;have dc:(Qh i t s)[10]? =some (.string (⟨#[]⟩)):=rfl;have dd:(Qh i t s)[11]? =some (.bool false):=rfl;have de:(Qh i t s)[12]? =some (.string (⟨#[]⟩)):=rfl;have ch:(Qh i t s)[13]? =some (.int .u64 ((0:Nat):Int)):=rfl;have ci:(Qh i t s)[14]? =some (.int .i64 ((0:Nat):Int)):=rfl;have cj:(Qh i t s)[15]? =some (.string (⟨#[]⟩)):=rfl;have cl:(Qh i t s)[16]? =some (.string (⟨#[]⟩)):=rfl;have cm:(Qh i t s)[17]? =some (.int .i64 ((0:Nat):Int)):=rfl;have cn:(Qh i t s)[18]? =some (.bool false):=rfl;have co:(Qh i t s)[19]? =some (.int .i64 ((0:Nat):Int)):=rfl;have cp:(Qh i t s)[20]? =some (.string (⟨#[]⟩)):=rfl;have cq:(Qh i t s)[21]? =some (.int .i64 ((0:Nat):Int)):=rfl;have cr:(Qh i t s)[22]? =some (.int .i64 ((0:Nat):Int)):=rfl;have d9:=QaK s;have ea:=QaT s;have ec:=W9 s;have d8:=WU s;have eb:(⟨#[]⟩:ByteArray).size <=1:=by decide
 have c2:=Zh h;have bZ:=Zh aH;have ap:=Zh cw;have ed:=Ql h.str;have ee:=Ql aH;clear h aH cw;obtain⟨A,aG⟩: ∃A,A=Qh i t s:=⟨_,rfl⟩
 have aW:=Zh aG;rw[<-aG] at bZ c8 da df cs ct cu cv dg dh di dc dd de ch ci cj cl cm cn co cp cq cr ⊢;clear aG;go_enter Tryz.func196,Tryz.ntmps196;go_upto_region 1 with fail
 have Z:=Qf (w:=w) (.cells (Xb pb) 220);have ao:Qa Ze w (w.alloc (.cells (Xb pb) 220)):=(Zr _ w).alloc _;change Code.wp _ _ _ _ (w.alloc (.cells (Xb pb) 220));generalize w.alloc (.cells (Xb pb) 220)=w0 at*
 have E: ¬(w.heap.size=sb\/w.heap.size=xb):=by omega
 generalize w.heap.size=wb at*
 have aX:=Zh (c2.out.Qc ao);have b0:=Zh (ao.keep bZ.out (fun f=>f));have bL:=Zh Z;have bv:Hid (Qa (fun i=>i=sb\/i=xb) w w0):=Zh (ao.mono (fun _ _ f=>f.elim));have dj:w0.cell? ⟨wb,0,none⟩=some (.func (.func 203) #[] #[.pointer (some ⟨pb,0,none⟩)]):=Qb Z 0;have dz:w0.cell? ⟨wb,1,none⟩=some (.func (.func 204) #[] #[.pointer (some ⟨pb,0,none⟩)]):=Qb Z 1;have dO:w0.cell? ⟨wb,2,none⟩=some (.func (.func 205) #[] #[.pointer (some ⟨pb,0,none⟩)]):=Qb Z 2;clear ao Z;have bc:=Zh (W1 (v:=kN s) (aX.out.Qc ((Zr Ze w0).drew)) (show w0.drew.heap[xb]? =_ from b0.out) cs I D (by omega) (Zt ap.out (by decide)));have aq:=Zh (XN (v:=kN s) ap.out (by omega));go_region_with (go_at_call 195;refine bc.out.mono ?_;rintro e J ⟨rfl,cx,hx1,aI⟩);have aY:=Zh cx;have b1:=Zh hx1;have bw:Hid (Qa (fun i=>i=sb\/i=xb) w J):=Zh ((bv.out.drew).trans aI (fun _ _ h=>h));have aa:=(((Zr (fun i=>i=sb\/i=xb) w0).drew).trans aI (fun _ _ h=>h)).keep bL.out E;have bM:=Zh aa;have dk:J.cell? ⟨wb,0,none⟩=some (.func (.func 203) #[] #[.pointer (some ⟨pb,0,none⟩)]):=Qb aa 0;have dA:J.cell? ⟨wb,1,none⟩=some (.func (.func 204) #[] #[.pointer (some ⟨pb,0,none⟩)]):=Qb aa 1;have dP:J.cell? ⟨wb,2,none⟩=some (.func (.func 205) #[] #[.pointer (some ⟨pb,0,none⟩)]):=Qb aa 2;clear cx hx1 aI aa dj dz dO bc aX b0 bL bv ap;go_upto_region 2 with fail
 have bd:=Zh (W1 (v:=0) (aY.out.Qc ((Zr Ze J).drew)) (show J.drew.heap[xb]? =_ from b1.out) ct I D (by omega) (Zt aq.out (by decide)));have ay:=Zh (XN (v:=0) aq.out (by omega));go_region_with (go_at_call 195;refine bd.out.mono ?_;rintro e w2 ⟨rfl,cE,cU,aO⟩);have a4:=Zh cE;have b7:=Zh cU;have bD:Hid (Qa (fun i=>i=sb\/i=xb) w w2):=Zh ((bw.out.drew).trans aO (fun _ _ h=>h));have ag:=(((Zr (fun i=>i=sb\/i=xb) J).drew).trans aO (fun _ _ h=>h)).keep bM.out E;have bR:=Zh ag;have dr:w2.cell? ⟨wb,0,none⟩=some (.func (.func 203) #[] #[.pointer (some ⟨pb,0,none⟩)]):=Qb ag 0;have dG:w2.cell? ⟨wb,1,none⟩=some (.func (.func 204) #[] #[.pointer (some ⟨pb,0,none⟩)]):=Qb ag 1;have dV:w2.cell? ⟨wb,2,none⟩=some (.func (.func 205) #[] #[.pointer (some ⟨pb,0,none⟩)]):=Qb ag 2;clear cE cU aO ag dk dA dP bd aY b1 bM bw aq;go_upto_region 3 with fail
 have bm:=Zh (Qb1 (v:=s) (a4.out.Qc ((Zr Ze w2).drew)) (show w2.drew.heap[xb]? =_ from b7.out) cu D (by omega) (Zt ay.out (by decide)) 1099511627776);have az:=Zh (XN (v:=s) ay.out (by omega));go_region_with (go_at_call 203;refine bm.out.mono ?_;rintro e U ⟨rfl,cF,cV,aP⟩);have a5:=Zh cF;have b8:=Zh cV;have bE:Hid (Qa (fun i=>i=sb\/i=xb) w U):=Zh ((bD.out.drew).trans aP (fun _ _ h=>h));have ah:=(((Zr (fun i=>i=sb\/i=xb) w2).drew).trans aP (fun _ _ h=>h)).keep bR.out E;have bS:=Zh ah;have ds:U.cell? ⟨wb,0,none⟩=some (.func (.func 203) #[] #[.pointer (some ⟨pb,0,none⟩)]):=Qb ah 0;have dH:U.cell? ⟨wb,1,none⟩=some (.func (.func 204) #[] #[.pointer (some ⟨pb,0,none⟩)]):=Qb ah 1;have dW:U.cell? ⟨wb,2,none⟩=some (.func (.func 205) #[] #[.pointer (some ⟨pb,0,none⟩)]):=Qb ah 2;clear cF cV aP ah dr dG dV bm a4 b7 bR bD ay;go_upto_region 4 with fail
 have bn:=Zh (Qb1 (v:=0) (a5.out.Qc ((Zr Ze U).drew)) (show U.drew.heap[xb]? =_ from b8.out) cv D (by omega) (Zt az.out (by decide)) 1099511627776);have aA:=Zh (XN (v:=0) az.out (by omega));go_region_with (go_at_call 203;refine bn.out.mono ?_;rintro e W ⟨rfl,cG,cW,aQ⟩);have a6:=Zh cG;have b9:=Zh cW;have bF:Hid (Qa (fun i=>i=sb\/i=xb) w W):=Zh ((bE.out.drew).trans aQ (fun _ _ h=>h));have ai:=(((Zr (fun i=>i=sb\/i=xb) U).drew).trans aQ (fun _ _ h=>h)).keep bS.out E;have bT:=Zh ai;have dt:W.cell? ⟨wb,0,none⟩=some (.func (.func 203) #[] #[.pointer (some ⟨pb,0,none⟩)]):=Qb ai 0;have dI:W.cell? ⟨wb,1,none⟩=some (.func (.func 204) #[] #[.pointer (some ⟨pb,0,none⟩)]):=Qb ai 1;have dX:W.cell? ⟨wb,2,none⟩=some (.func (.func 205) #[] #[.pointer (some ⟨pb,0,none⟩)]):=Qb ai 2;clear cG cW aQ ai ds dH dW bn a5 b8 bS bE az;go_upto_region 5 with fail
 have bo:=Zh (by
  have h:=Qm9 (i:=i) (t:=t) (s:=s) (a6.out.Qc ((Zr Ze W).drew)) (show W.drew.heap[xb]? =_ by rw[<-aW.out];exact b9.out) I D d3 d5 d4 (Zt aA.out (by decide));rw[<-aW.out] at h;exact h)
 have aB:=Zh (QiM (s:=s) aA.out);go_region_with (go_at_call 243;refine bo.out.mono ?_;rintro e w5 ⟨rfl,cH,cX,aR⟩);have a7:=Zh cH;have ca:=Zh cX;have bG:Hid (Qa (fun i=>i=sb\/i=xb) w w5):=Zh ((bF.out.drew).trans aR (fun _ _ h=>h));have aj:=(((Zr (fun i=>i=sb\/i=xb) W).drew).trans aR (fun _ _ h=>h)).keep bT.out E;have bU:=Zh aj;have du:w5.cell? ⟨wb,0,none⟩=some (.func (.func 203) #[] #[.pointer (some ⟨pb,0,none⟩)]):=Qb aj 0;have dJ:w5.cell? ⟨wb,1,none⟩=some (.func (.func 204) #[] #[.pointer (some ⟨pb,0,none⟩)]):=Qb aj 1;have dY:w5.cell? ⟨wb,2,none⟩=some (.func (.func 205) #[] #[.pointer (some ⟨pb,0,none⟩)]):=Qb aj 2;clear cH cX aR aj dt dI dX bo a6 b9 bT bF aA;go_upto_region 6 with fail
 have bp:=Zh (Qb1 (v:=0) (a7.out.Qc ((Zr Ze w5).drew)) (show w5.drew.heap[xb]? =_ from ca.out) ch D (by omega) (Zt aB.out (by decide)) 1099511627776);have aC:=Zh (XN (v:=0) aB.out (by omega));go_region_with (go_at_call 203;refine bp.out.mono ?_;rintro e w6 ⟨rfl,cI,cY,aS⟩);have a8:=Zh cI;have cb:=Zh cY;have bH:Hid (Qa (fun i=>i=sb\/i=xb) w w6):=Zh ((bG.out.drew).trans aS (fun _ _ h=>h));have ak:=(((Zr (fun i=>i=sb\/i=xb) w5).drew).trans aS (fun _ _ h=>h)).keep bU.out E;have bV:=Zh ak;have dv:w6.cell? ⟨wb,0,none⟩=some (.func (.func 203) #[] #[.pointer (some ⟨pb,0,none⟩)]):=Qb ak 0;have dK:w6.cell? ⟨wb,1,none⟩=some (.func (.func 204) #[] #[.pointer (some ⟨pb,0,none⟩)]):=Qb ak 1;have dZ:w6.cell? ⟨wb,2,none⟩=some (.func (.func 205) #[] #[.pointer (some ⟨pb,0,none⟩)]):=Qb ak 2;clear cI cY aS ak du dJ dY bp a7 ca bU bG aB;go_upto_region 7 with fail
 have bq:=Zh (W1 (v:=0) (a8.out.Qc ((Zr Ze w6).drew)) (show w6.drew.heap[xb]? =_ from cb.out) ci I D (by omega) (Zt aC.out (by decide)));have aD:=Zh (XN (v:=0) aC.out (by omega));go_region_with (go_at_call 195;refine bq.out.mono ?_;rintro e w7 ⟨rfl,cJ,cZ,aT⟩);have a9:=Zh cJ;have ce:=Zh cZ;have bI:Hid (Qa (fun i=>i=sb\/i=xb) w w7):=Zh ((bH.out.drew).trans aT (fun _ _ h=>h));have al:=(((Zr (fun i=>i=sb\/i=xb) w6).drew).trans aT (fun _ _ h=>h)).keep bV.out E;have bW:=Zh al;have dw:w7.cell? ⟨wb,0,none⟩=some (.func (.func 203) #[] #[.pointer (some ⟨pb,0,none⟩)]):=Qb al 0;have dL:w7.cell? ⟨wb,1,none⟩=some (.func (.func 204) #[] #[.pointer (some ⟨pb,0,none⟩)]):=Qb al 1;have d0:w7.cell? ⟨wb,2,none⟩=some (.func (.func 205) #[] #[.pointer (some ⟨pb,0,none⟩)]):=Qb al 2;clear cJ cZ aT al dv dK dZ bq a8 cb bV bH aC;go_upto_region 8 with fail
 have br:=Zh (QaL (v:=⟨#[]⟩) (a9.out.Qc ((Zr Ze w7).drew)) (show w7.drew.heap[xb]? =_ from ce.out) cj D (by omega) (Zt aD.out (by decide)) 65536);have aE:=Zh (Ky (v:=⟨#[]⟩) aD.out (by omega));go_region_with (go_at_call 204;refine br.out.mono ?_;rintro e w8 ⟨rfl,cK,c0,aU⟩);have ba:=Zh cK;have cf:=Zh c0;have bJ:Hid (Qa (fun i=>i=sb\/i=xb) w w8):=Zh ((bI.out.drew).trans aU (fun _ _ h=>h));have am:=(((Zr (fun i=>i=sb\/i=xb) w7).drew).trans aU (fun _ _ h=>h)).keep bW.out E;have bX:=Zh am;have dx:w8.cell? ⟨wb,0,none⟩=some (.func (.func 203) #[] #[.pointer (some ⟨pb,0,none⟩)]):=Qb am 0;have dM:w8.cell? ⟨wb,1,none⟩=some (.func (.func 204) #[] #[.pointer (some ⟨pb,0,none⟩)]):=Qb am 1;have d1:w8.cell? ⟨wb,2,none⟩=some (.func (.func 205) #[] #[.pointer (some ⟨pb,0,none⟩)]):=Qb am 2;clear cK c0 aU am dw dL d0 br a9 ce bW bI aD;go_upto_region 9 with fail
 have bs:=Zh (QaL (v:=⟨#[]⟩) (ba.out.Qc ((Zr Ze w8).drew)) (show w8.drew.heap[xb]? =_ from cf.out) cl D (by omega) (Zt aE.out (by decide)) 65536);have aF:=Zh (Ky (v:=⟨#[]⟩) aE.out (by omega));go_region_with (go_at_call 204;refine bs.out.mono ?_;rintro e w9 ⟨rfl,cL,c1,aV⟩);have bb:=Zh cL;have cg:=Zh c1;have bK:Hid (Qa (fun i=>i=sb\/i=xb) w w9):=Zh ((bJ.out.drew).trans aV (fun _ _ h=>h));have an:=(((Zr (fun i=>i=sb\/i=xb) w8).drew).trans aV (fun _ _ h=>h)).keep bX.out E;have bY:=Zh an;have dy:w9.cell? ⟨wb,0,none⟩=some (.func (.func 203) #[] #[.pointer (some ⟨pb,0,none⟩)]):=Qb an 0;have dN:w9.cell? ⟨wb,1,none⟩=some (.func (.func 204) #[] #[.pointer (some ⟨pb,0,none⟩)]):=Qb an 1;have d2:w9.cell? ⟨wb,2,none⟩=some (.func (.func 205) #[] #[.pointer (some ⟨pb,0,none⟩)]):=Qb an 2;clear cL c1 aV an dx dM d1 bs ba cf bX bJ aE;go_upto_region 10 with fail
 have bu:=Zh (W1 (v:=0) (bb.out.Qc ((Zr Ze w9).drew)) (show w9.drew.heap[xb]? =_ from cg.out) cm I D (by omega) (Zt aF.out (by decide)));have ar:=Zh (XN (v:=0) aF.out (by omega));go_region_with (go_at_call 195;refine bu.out.mono ?_;rintro e M ⟨rfl,cy,cN,aJ⟩);have aZ:=Zh cy;have b2:=Zh cN;have bx:Hid (Qa (fun i=>i=sb\/i=xb) w M):=Zh ((bK.out.drew).trans aJ (fun _ _ h=>h));have ab:=(((Zr (fun i=>i=sb\/i=xb) w9).drew).trans aJ (fun _ _ h=>h)).keep bY.out E;have bN:=Zh ab;have dl:M.cell? ⟨wb,0,none⟩=some (.func (.func 203) #[] #[.pointer (some ⟨pb,0,none⟩)]):=Qb ab 0;have dB:M.cell? ⟨wb,1,none⟩=some (.func (.func 204) #[] #[.pointer (some ⟨pb,0,none⟩)]):=Qb ab 1;have dQ:M.cell? ⟨wb,2,none⟩=some (.func (.func 205) #[] #[.pointer (some ⟨pb,0,none⟩)]):=Qb ab 2;clear cy cN aJ ab dy dN d2 bu bb cg bY bK aF;go_upto_region 11 with fail
 have be:=Zh (Qhw (aZ.out.Qc ((Zr Ze M).drew)) (show M.drew.heap[xb]? =_ from b2.out) cn D (Zt ar.out (by decide)));have au:=Zh (Qdj ar.out);go_region_with (go_at_call 205;refine be.out.mono ?_;rintro e N ⟨rfl,cz,cO,aK⟩);have a0:=Zh cz;have b3:=Zh cO;have bz:Hid (Qa (fun i=>i=sb\/i=xb) w N):=Zh ((bx.out.drew).trans aK (fun _ _ h=>h));have ac:=(((Zr (fun i=>i=sb\/i=xb) M).drew).trans aK (fun _ _ h=>h)).keep bN.out E;have bO:=Zh ac;have dm:N.cell? ⟨wb,0,none⟩=some (.func (.func 203) #[] #[.pointer (some ⟨pb,0,none⟩)]):=Qb ac 0;have dC:N.cell? ⟨wb,1,none⟩=some (.func (.func 204) #[] #[.pointer (some ⟨pb,0,none⟩)]):=Qb ac 1;have dR:N.cell? ⟨wb,2,none⟩=some (.func (.func 205) #[] #[.pointer (some ⟨pb,0,none⟩)]):=Qb ac 2;clear cz cO aK ac dl dB dQ be aZ b2 bN bx ar;go_upto_region 12 with fail
 have bg:=Zh (W1 (v:=0) (a0.out.Qc ((Zr Ze N).drew)) (show N.drew.heap[xb]? =_ from b3.out) co I D (by omega) (Zt au.out (by decide)));have av:=Zh (XN (v:=0) au.out (by omega));go_region_with (go_at_call 195;refine bg.out.mono ?_;rintro e O ⟨rfl,cA,cP,aL⟩);have a1:=Zh cA;have b4:=Zh cP;have bA:Hid (Qa (fun i=>i=sb\/i=xb) w O):=Zh ((bz.out.drew).trans aL (fun _ _ h=>h));have ad:=(((Zr (fun i=>i=sb\/i=xb) N).drew).trans aL (fun _ _ h=>h)).keep bO.out E;have bP:=Zh ad;have dn:O.cell? ⟨wb,0,none⟩=some (.func (.func 203) #[] #[.pointer (some ⟨pb,0,none⟩)]):=Qb ad 0;have dD:O.cell? ⟨wb,1,none⟩=some (.func (.func 204) #[] #[.pointer (some ⟨pb,0,none⟩)]):=Qb ad 1;have dS:O.cell? ⟨wb,2,none⟩=some (.func (.func 205) #[] #[.pointer (some ⟨pb,0,none⟩)]):=Qb ad 2;clear cA cP aL ad dm dC dR bg a0 b3 bO bz au;go_upto_region 13 with fail
 have bh:=Zh (QaL (v:=⟨#[]⟩) (a1.out.Qc ((Zr Ze O).drew)) (show O.drew.heap[xb]? =_ from b4.out) cp D (by omega) (Zt av.out (by decide)) 65536);have aw:=Zh (Ky (v:=⟨#[]⟩) av.out (by omega));go_region_with (go_at_call 204;refine bh.out.mono ?_;rintro e Q ⟨rfl,cB,cQ,aM⟩);have a2:=Zh cB;have b5:=Zh cQ;have bB:Hid (Qa (fun i=>i=sb\/i=xb) w Q):=Zh ((bA.out.drew).trans aM (fun _ _ h=>h));have ae:=(((Zr (fun i=>i=sb\/i=xb) O).drew).trans aM (fun _ _ h=>h)).keep bP.out E;have bQ:=Zh ae;have dp:Q.cell? ⟨wb,0,none⟩=some (.func (.func 203) #[] #[.pointer (some ⟨pb,0,none⟩)]):=Qb ae 0;have dE:Q.cell? ⟨wb,1,none⟩=some (.func (.func 204) #[] #[.pointer (some ⟨pb,0,none⟩)]):=Qb ae 1;have dT:Q.cell? ⟨wb,2,none⟩=some (.func (.func 205) #[] #[.pointer (some ⟨pb,0,none⟩)]):=Qb ae 2;clear cB cQ aM ae dn dD dS bh a1 b4 bP bA av;go_upto_region 14 with fail
 have bj:=Zh (W1 (v:=0) (a2.out.Qc ((Zr Ze Q).drew)) (show Q.drew.heap[xb]? =_ from b5.out) cq I D (by omega) (Zt aw.out (by decide)));have ax:=Zh (XN (v:=0) aw.out (by omega));go_region_with (go_at_call 195;refine bj.out.mono ?_;rintro e Y ⟨rfl,cC,cR,aN⟩);have a3:=Zh cC;have b6:=Zh cR;have bC:Hid (Qa (fun i=>i=sb\/i=xb) w Y):=Zh ((bB.out.drew).trans aN (fun _ _ h=>h));have af:=(((Zr (fun i=>i=sb\/i=xb) Q).drew).trans aN (fun _ _ h=>h)).keep bQ.out E;have c6:=Zh af;have dq:Y.cell? ⟨wb,0,none⟩=some (.func (.func 203) #[] #[.pointer (some ⟨pb,0,none⟩)]):=Qb af 0;have dF:Y.cell? ⟨wb,1,none⟩=some (.func (.func 204) #[] #[.pointer (some ⟨pb,0,none⟩)]):=Qb af 1;have dU:Y.cell? ⟨wb,2,none⟩=some (.func (.func 205) #[] #[.pointer (some ⟨pb,0,none⟩)]):=Qb af 2;clear cC cR aN af dp dE dT bj a2 b5 bQ bB aw;go_upto_region 15 with fail
 have bk:=Zh (W1 (v:=0) (a3.out.Qc ((Zr Ze Y).drew)) (show Y.drew.heap[xb]? =_ from b6.out) cr I D (by omega) (Zt ax.out (by decide)));have d7:=Zh (XN (v:=0) ax.out (by omega));go_region_with (go_at_call 195;refine bk.out.mono ?_;rintro e d6 ⟨rfl,cD,cT,cM⟩);have c3:=Zh cD;have c7:=Zh cT;have c4:Hid (Qa (fun i=>i=sb\/i=xb) w d6):=Zh ((bC.out.drew).trans cM (fun _ _ h=>h));clear cD cT cM dq dF dU bk a3 b6 c6 bC ax;go_wp2_with fail;go_end0;exact⟨rfl,c3.out,c7.out,c4.out⟩
theorem Qm7{b:ByteArray}(h:XZ w na nb b)(E:w.heap[xb]? =some (.cells A ty (0,0)))(O:A[xo]? =some (.slice none 0 0))(aq:xb≠nb)(ar:b.size<=500000)(ap:Value):
  Calls Tryz.prog 244 #[.agg #[.func (.func 203) #[] #[.pointer (some ⟨na,0,none⟩)],.func (.func 204) #[] #[.pointer (some ⟨na,0,none⟩)],.func (.func 205) #[] #[.pointer (some ⟨na,0,none⟩)]],.pointer (some ⟨xb,xo,none⟩),.int .u64 5,ap] w (K0 na nb xb A ty (b++str (num 0)) w):=by
 have H:=Zh h;have am:=Zh E;have ag:=Zh O;have x0:w.cell? ⟨xb,xo,none⟩=some (.slice none 0 0):=(Qb E xo).trans O;have aw:=Ql E;clear h E O;go_enter Tryz.func244,Tryz.ntmps244;go_upto_region 2 with fail
 have ac:=Qf (w:=w) (.cells (Xb na) 220);have ae:(w.alloc (.cells (Xb na) 220)).heap.size =w.heap.size+1:=by simp
 have I:=Qf (w:=w.alloc (.cells (Xb na) 220)) (.cells #[.int .u64 0] 30);rw[ae] at I;have u1:Qa (fun _=>False) w (w.alloc (.cells (Xb na) 220)):=(Zr _ w).alloc _;have u2:Qa (fun _=>False) (w.alloc (.cells (Xb na) 220)) ((w.alloc (.cells (Xb na) 220)).alloc (.cells #[.int .u64 0] 30)):=(Zr _ _).alloc _;have ad:=u2.keep ac (fun f=>f);have M:=u1.trans u2 (fun _ _ f=>f);change Code.wp _ _ _ _ ((w.alloc (.cells (Xb na) 220)).alloc (.cells #[.int .u64 0] 30));clear u1 u2 ac ae;generalize (w.alloc (.cells (Xb na) 220)).alloc (.cells #[.int .u64 0] 30)=w2 at*
 generalize hwb:w.heap.size=wb at*
 have Y:=Zh M;have aj:=Zh I;have ao:w2.cell? ⟨wb,0,none⟩=some (.func (.func 203) #[] #[.pointer (some ⟨na,0,none⟩)]):=Qb ad 0;have U:w2.cell? ⟨wb+1,0,none⟩=some (.int .u64 ((0:Nat):Int)):=Qb I 0;have W:=Zh (Qet (H.out.Qc M) U (by omega) ar 5);clear M I ad hwb;have au:wb+1≠nb:=by
  have:=Ql H.out.str;intro e;have aa:=Y.out.keep H.out.str (fun f=>f);rw[<-e,aj.out] at aa;simp at aa
 go_wp2_with fail;refine W.out.mono ?_
 rintro e D ⟨rfl,ab,N⟩;have ah:=Zh ab;have Q:=(Y.out.mono (T:=fun i=>i=nb) (fun _ _ f=>f.elim)).trans N (fun _ _ h=>h);have Z:=Zh (Q.keep am.out aq);have av:D.cell? ⟨wb+1,0,none⟩=some (.int .u64 0):=Qe N U au;have af:D.cell? ⟨xb,xo,none⟩=some (.slice none 0 0):=(Qb Z.out xo).trans ag.out;have al:=Zh Q;clear ab N Q ao U W;go_upto_region 3 with fail
 go_quiet (fail);have J:=(Zr (fun _=>False) D).drewN nq;have ax:(D.drewN nq).cell? ⟨xb,xo,none⟩=some (.slice none 0 0):=af;have ai:=Zh (ah.out.Qc J);have an:=Zh (J.keep Z.out (fun f=>f));have ak:=Zh (al.out.drewN nq);clear J af av;generalize D.drewN nq=w4 at*
 go_wp2_with fail;go_loopw [37] (fun x wr=>x= .int .i64 0/\wr=w4) (fun x _=>0)
 case atStart=>exact⟨rfl,rfl⟩
 case round=>
  obtain⟨rfl,rfl⟩:=hrel;go_wp2_with fail;go_end0;exact⟨rfl,ai.out,an.out,ak.out.mono (fun i _ e=>.inl e)⟩
theorem Qm8{b:ByteArray}(h:XZ w na nb b)(J:w.heap[xb]? =some (.cells A ty (0,0)))(O:A[xo]? =some (.slice none 0 0))(ad:xb≠nb)(ae:b.size<=500000):
  Calls Tryz.prog 197 #[.agg #[.func (.func 203) #[] #[.pointer (some ⟨na,0,none⟩)],.func (.func 204) #[] #[.pointer (some ⟨na,0,none⟩)],.func (.func 205) #[] #[.pointer (some ⟨na,0,none⟩)]],.pointer (some ⟨xb,xo,none⟩)] w (K0 na nb xb A ty (b++str (num 0)) w):=by
 have H:=Zh h;have ab:=Zh J;have U:=Zh O;have aj:=Ql J;have ai:=Ql h.str;clear h J O;go_enter Tryz.func197,Tryz.ntmps197;go_upto_region 1 with fail
 have E:=Qf (w:=w) (.cells (Xb na) 220);have D:Qa Ze w (w.alloc (.cells (Xb na) 220)):=(Zr _ w).alloc _;change Code.wp _ _ _ _ (w.alloc (.cells (Xb na) 220));generalize w.alloc (.cells (Xb na) 220)=w2 at*
 generalize hwb:w.heap.size=wb at*
 have Z:=Zh D;have af:w2.cell? ⟨wb,0,none⟩=some (.func (.func 203) #[] #[.pointer (some ⟨na,0,none⟩)]):=Qb E 0;have ag:w2.cell? ⟨wb,1,none⟩=some (.func (.func 204) #[] #[.pointer (some ⟨na,0,none⟩)]):=Qb E 1;have ah:w2.cell? ⟨wb,2,none⟩=some (.func (.func 205) #[] #[.pointer (some ⟨na,0,none⟩)]):=Qb E 2;have Y:Hid (∀I,Calls Tryz.prog 244 #[.agg #[.func (.func 203) #[] #[.pointer (some ⟨na,0,none⟩)],.func (.func 204) #[] #[.pointer (some ⟨na,0,none⟩)],.func (.func 205) #[] #[.pointer (some ⟨na,0,none⟩)]],.pointer (some ⟨xb,xo,none⟩),.int .u64 5,I] w2 (K0 na nb xb A ty (b++str (num 0)) w2)):=Zh (fun I=>Qm7 (H.out.Qc D) (D.keep ab.out (fun f=>f)) U.out ad ae I);clear D E hwb;go_wp2_with fail;refine (Y.out _).mono ?_
 rintro e ak ⟨rfl,M,Q,N⟩;have W:=Zh M;have ac:=Zh Q;have aa:=Zh N;clear M Q N;go_wp2_with fail;go_end0;exact⟨rfl,W.out,ac.out,(Z.out.mono (T:=fun i=>i=nb\/i=xb) (fun _ _ f=>f.elim)).trans aa.out (fun _ _ h=>h)⟩
theorem Qm5{b:ByteArray}(h:XZ w na nb b)(af:w.heap[xb]? =some (.cells (Qh i t s) 116 (0,0)))(aQ:xb≠na)(J:xb≠nb)(bM:i<=2000000)(bN:t<=2000000)(aX:s<=2000000)(aR:b.size<=400000):
  Calls Tryz.prog 129 #[.agg #[.func (.func 203) #[] #[.pointer (some ⟨na,0,none⟩)],.func (.func 204) #[] #[.pointer (some ⟨na,0,none⟩)],.func (.func 205) #[] #[.pointer (some ⟨na,0,none⟩)]],.pointer (some ⟨xb,0,none⟩)] w (K0 na nb xb (Qh i t s) 116 (Wy b (Wu i t s)) w):=by
 have aM:(Qh i t s)[0]? =some (.int .u64 (i:Int)):=rfl;have aN:(Qh i t s)[1]? =some (.int .u64 (t:Int)):=rfl;have aO:(Qh i t s)[2]? =some (.int .i64 ((1:Nat):Int)):=rfl;have bo:(Qh i t s)[3]? =some (.int .i64 ((kN s:Nat):Int)):=by
  show some (Value.int .i64 (kI s))=_;rw[QcN]
 have bp:(Qh i t s)[4]? =some (.int .i64 ((0:Nat):Int)):=rfl;have bq:(Qh i t s)[5]? =some (.int .u64 (s:Int)):=rfl;have br:(Qh i t s)[6]? =some (.int .u64 ((0:Nat):Int)):=rfl;have bs:(Qh i t s)[7]? =some (.int .i64 ((oN s:Nat):Int)):=by
  show some (Value.int .i64 (oI s))=_;rw[Qc4]
 have bu:(Qh i t s)[8]? =some (.string (rS s)):=rfl;have bv:(Qh i t s)[9]? =some (.string (cS s)):=rfl;have a8:(Qh i t s)[10]? =some (.string (⟨#[]⟩)):=rfl;have a9:(Qh i t s)[11]? =some (.bool false):=rfl;have ba:(Qh i t s)[12]? =some (.string (⟨#[]⟩)):=rfl;have bb:(Qh i t s)[13]? =some (.int .u64 ((0:Nat):Int)):=rfl;have bc:(Qh i t s)[14]? =some (.int .i64 ((0:Nat):Int)):=rfl;have bd:(Qh i t s)[15]? =some (.string (⟨#[]⟩)):=rfl;have be:(Qh i t s)[16]? =some (.string (⟨#[]⟩)):=rfl;have bg:(Qh i t s)[17]? =some (.int .i64 ((0:Nat):Int)):=rfl;have bh:(Qh i t s)[18]? =some (.bool false):=rfl;have bj:(Qh i t s)[19]? =some (.int .i64 ((0:Nat):Int)):=rfl;have bk:(Qh i t s)[20]? =some (.string (⟨#[]⟩)):=rfl;have bm:(Qh i t s)[21]? =some (.int .i64 ((0:Nat):Int)):=rfl;have bn:(Qh i t s)[22]? =some (.int .i64 ((0:Nat):Int)):=rfl;have aP:(Qh i t s)[23]? =some (.slice none 0 0):=rfl;have bQ:=QaK s;have bR:=QaT s;have bT:=W9 s;have bP:=WU s;have bS:(⟨#[]⟩:ByteArray).size <=1:=by decide
 have a3:=Zh h;have aG:=Zh af;have Z:=Zh aR;have bU:=Ql h.str;have bV:=Ql af;clear h af aR;obtain⟨A,ae⟩: ∃A,A=Qh i t s:=⟨_,rfl⟩
 have ak:=Zh ae;rw[<-ae] at aG aM aN aO bo bp bq br bs bu bv a8 a9 ba bb bc bd be bg bh bj bk bm bn aP ⊢;clear ae;go_enter Tryz.func129,Tryz.ntmps129;go_upto_region 1 with fail
 have M:=Qf (w:=w) (.cells (Xb na) 220);have W:Qa Ze w (w.alloc (.cells (Xb na) 220)):=(Zr _ w).alloc _;change Code.wp _ _ _ _ (w.alloc (.cells (Xb na) 220));generalize w.alloc (.cells (Xb na) 220)=w0 at*
 have Y: ¬(w.heap.size=nb\/w.heap.size=xb):=by omega
 generalize w.heap.size=wb at*
 have al:=Zh (a3.out.Qc W);have aH:=Zh (W.keep aG.out (fun f=>f));have aC:=Zh M;have ax:Hid (Qa (fun i=>i=nb\/i=xb) w w0):=Zh (W.mono (fun _ _ f=>f.elim));have bw:w0.cell? ⟨wb,0,none⟩=some (.func (.func 203) #[] #[.pointer (some ⟨na,0,none⟩)]):=Qb M 0;have bC:w0.cell? ⟨wb,1,none⟩=some (.func (.func 204) #[] #[.pointer (some ⟨na,0,none⟩)]):=Qb M 1;have bH:w0.cell? ⟨wb,2,none⟩=some (.func (.func 205) #[] #[.pointer (some ⟨na,0,none⟩)]):=Qb M 2;clear W M;have aq:=Zh (Qb1 (v:=i) (al.out.Qc ((Zr Ze w0).drew)) (show w0.drew.heap[xb]? =_ from aH.out) aM J (by omega) (Zt Z.out (by decide)) 18446744073709551615);have aa:=Zh (XN (v:=i) Z.out (by omega));go_region_with (go_at_call 203;refine aq.out.mono ?_;rintro e D ⟨rfl,aS,hx1,ag⟩);have am:=Zh aS;have aI:=Zh hx1;have ay:Hid (Qa (fun i=>i=nb\/i=xb) w D):=Zh ((ax.out.drew).trans ag (fun _ _ h=>h));have N:=(((Zr (fun i=>i=nb\/i=xb) w0).drew).trans ag (fun _ _ h=>h)).keep aC.out Y;have aD:=Zh N;have bx:D.cell? ⟨wb,0,none⟩=some (.func (.func 203) #[] #[.pointer (some ⟨na,0,none⟩)]):=Qb N 0;have bD:D.cell? ⟨wb,1,none⟩=some (.func (.func 204) #[] #[.pointer (some ⟨na,0,none⟩)]):=Qb N 1;have bI:D.cell? ⟨wb,2,none⟩=some (.func (.func 205) #[] #[.pointer (some ⟨na,0,none⟩)]):=Qb N 2;clear aS hx1 ag N bw bC bH aq al aH aC ax Z;go_upto_region 2 with fail
 have ar:=Zh (Qb1 (v:=t) (am.out.Qc ((Zr Ze D).drew)) (show D.drew.heap[xb]? =_ from aI.out) aN J (by omega) (Zt aa.out (by decide)) 18446744073709551615);have ab:=Zh (XN (v:=t) aa.out (by omega));go_region_with (go_at_call 203;refine ar.out.mono ?_;rintro e w2 ⟨rfl,aT,aZ,ah⟩);have an:=Zh aT;have aJ:=Zh aZ;have az:Hid (Qa (fun i=>i=nb\/i=xb) w w2):=Zh ((ay.out.drew).trans ah (fun _ _ h=>h));have O:=(((Zr (fun i=>i=nb\/i=xb) D).drew).trans ah (fun _ _ h=>h)).keep aD.out Y;have aE:=Zh O;have bz:w2.cell? ⟨wb,0,none⟩=some (.func (.func 203) #[] #[.pointer (some ⟨na,0,none⟩)]):=Qb O 0;have bE:w2.cell? ⟨wb,1,none⟩=some (.func (.func 204) #[] #[.pointer (some ⟨na,0,none⟩)]):=Qb O 1;have bJ:w2.cell? ⟨wb,2,none⟩=some (.func (.func 205) #[] #[.pointer (some ⟨na,0,none⟩)]):=Qb O 2;clear aT aZ ah O bx bD bI ar am aI aD ay aa;go_upto_region 3 with fail
 have au:=Zh (W1 (v:=1) (an.out.Qc ((Zr Ze w2).drew)) (show w2.drew.heap[xb]? =_ from aJ.out) aO aQ J (by omega) (Zt ab.out (by decide)));have ac:=Zh (XN (v:=1) ab.out (by omega));go_region_with (go_at_call 195;refine au.out.mono ?_;rintro e E ⟨rfl,aU,a0,ai⟩);have ao:=Zh aU;have aK:=Zh a0;have aA:Hid (Qa (fun i=>i=nb\/i=xb) w E):=Zh ((az.out.drew).trans ai (fun _ _ h=>h));have Q:=(((Zr (fun i=>i=nb\/i=xb) w2).drew).trans ai (fun _ _ h=>h)).keep aE.out Y;have aF:=Zh Q;have bA:E.cell? ⟨wb,0,none⟩=some (.func (.func 203) #[] #[.pointer (some ⟨na,0,none⟩)]):=Qb Q 0;have bF:E.cell? ⟨wb,1,none⟩=some (.func (.func 204) #[] #[.pointer (some ⟨na,0,none⟩)]):=Qb Q 1;have bK:E.cell? ⟨wb,2,none⟩=some (.func (.func 205) #[] #[.pointer (some ⟨na,0,none⟩)]):=Qb Q 2;clear aU a0 ai Q bz bE bJ au an aJ aE az ab;go_upto_region 4 with fail
 have av:=Zh (by
  have h:=Qm4 (i:=i) (t:=t) (s:=s) (ao.out.Qc ((Zr Ze E).drew)) (show E.drew.heap[xb]? =_ by rw[<-ak.out];exact aK.out) aQ J bM bN aX (Zt ac.out (by decide));rw[<-ak.out] at h;exact h)
 have ad:=Zh (Qqj (s:=s) ac.out aX);go_region_with (go_at_call 196;refine av.out.mono ?_;rintro e I ⟨rfl,aV,a1,aj⟩);have ap:=Zh aV;have aL:=Zh a1;have aB:Hid (Qa (fun i=>i=nb\/i=xb) w I):=Zh ((aA.out.drew).trans aj (fun _ _ h=>h));have U:=(((Zr (fun i=>i=nb\/i=xb) E).drew).trans aj (fun _ _ h=>h)).keep aF.out Y;have a6:=Zh U;have bB:I.cell? ⟨wb,0,none⟩=some (.func (.func 203) #[] #[.pointer (some ⟨na,0,none⟩)]):=Qb U 0;have bG:I.cell? ⟨wb,1,none⟩=some (.func (.func 204) #[] #[.pointer (some ⟨na,0,none⟩)]):=Qb U 1;have bL:I.cell? ⟨wb,2,none⟩=some (.func (.func 205) #[] #[.pointer (some ⟨na,0,none⟩)]):=Qb U 2;clear aV a1 aj U bA bF bK av ao aK aF aA ac;go_upto_region 5 with fail
 have aw:=Zh (Qm8 (ap.out.Qc ((Zr Ze I).drew)) (show I.drew.heap[xb]? =_ from aL.out) aP J (Zt ad.out (by decide)));have bO:=Zh (XN (v:=0) ad.out (by omega));go_region_with (go_at_call 197;refine aw.out.mono ?_;rintro e w5 ⟨rfl,aW,a2,aY⟩);have a4:=Zh aW;have a7:=Zh a2;have a5:Hid (Qa (fun i=>i=nb\/i=xb) w w5):=Zh ((aB.out.drew).trans aY (fun _ _ h=>h));clear aW a2 aY bB bG bL aw ap aL a6 aB ad;go_wp2_with fail;go_end0;exact⟨rfl,a4.out,a7.out,a5.out⟩
end
section
open Go.RowKit Go.Acre
theorem QfV(a b:Nat)(h:a<b)(w:World):Calls Tryz.prog 134 #[.int .i64 a,.int .i64 b] w (Is (.bool true) w):=by
 have D:(0:Int)<=a:=by omega
 have E:(a:Int)< (b:Int):=by omega
 go_enter Tryz.func134,Tryz.ntmps134;go_wp2_with fail;go_ret;exact⟨rfl,rfl⟩
theorem Qc5(w:World):Calls Tryz.prog 135 #[.bool true] w (Is (.int .i64 0) w):=by
 go_enter Tryz.func135,Tryz.ntmps135;go_wp2_with fail;go_ret;exact⟨rfl,rfl⟩
theorem Qn4(s:Nat)(h:1<=s)(E:s<=2000000)(w:World):Calls Tryz.prog 246 #[.int .u64 s] w (Is (.bool true) w):=by
 have D:(1:Int)<=s:=by omega
 have I:(s:Int)<=1099511627776:=by omega
 go_enter Tryz.func246,Tryz.ntmps246;go_wp2_with fail;go_ret;exact⟨rfl,rfl⟩
theorem QrJ(w:World):Calls Tryz.prog 249 #[.string ⟨#[114]⟩] w (Is (.bool true) w):=by
 go_enter Tryz.func249,Tryz.ntmps249;go_wp2_with fail;go_ret;exact⟨rfl,rfl⟩
def WC:Array Value:= #[.int .i64 2,.string ⟨#[114]⟩,.string ⟨#[120]⟩,.string ⟨#[]⟩,.bool false,.string ⟨#[]⟩]
theorem QnV(w:World):(binOp .neq 60 (.agg WC) (.agg WC)).run Tryz.prog w= .ok (.bool false) w:=by kernel_rfl
theorem QlI(w:World):(binOp .eql 70 (.agg (Xp 0)) (.agg (Xp 0))).run Tryz.prog w= .ok (.bool true) w:=by kernel_rfl
theorem QrE:Tryz.prog.underlying 60=some (.struct (Tryz.prog.fieldsOf 60)):=by kernel_rfl
theorem QrF:Tryz.prog.underlying 68=some (.struct (Tryz.prog.fieldsOf 68)):=by kernel_rfl
theorem QrG:Tryz.prog.underlying 70=some (.struct (Tryz.prog.fieldsOf 70)):=by kernel_rfl
theorem QqX:Tryz.prog.stoodInHeld 60=false:=by kernel_rfl
theorem QqY:Tryz.prog.stoodInHeld 68=false:=by kernel_rfl
theorem QqZ:Tryz.prog.stoodInHeld 70=false:=by kernel_rfl
theorem QlH(x y:Operand)(w:World):(eqGuard .neq 60 x y (.agg WC) (.agg WC)).run Tryz.prog w= .ok () w:=run_eqGuard_agg w _ _ _ _ _ _ (by kernel_rfl)
theorem QnI(w:World):Calls Tryz.prog 247 #[.agg WC] w (Qk (.int .i64 0) w):=by
 have D:=Zh QrJ;have e1:=QnV;have E:=QlH;have I:Tryz.prog.eqGuardType Tryz.prog.depth 60=false:=by kernel_rfl
 unfold WC at*
 go_enter Tryz.func247,Tryz.ntmps247;go_wp2_with (go_at_call 249;refine (D.out _).mono ?_;rintro e w' ⟨rfl,rfl⟩);go_ret;exact⟨rfl,((Zr _ w).alloc _).alloc _⟩
def X0(s:Nat):Array Value:= #[.int .i64 1,.int .i64 0,.int .u64 s,.int .u64 0,.int .i64 2,.string ⟨#[114]⟩,.string ⟨#[120]⟩,.string ⟨#[]⟩,.bool false,.string ⟨#[]⟩,.int .u64 0,.int .i64 0,.string ⟨#[]⟩,.string ⟨#[]⟩,.int .i64 0,.bool false,.int .i64 0,.string ⟨#[]⟩,.int .i64 0,.int .i64 0]
theorem QkM(h:s≠0):Xp s=X0 s:=by
 unfold Xp X0 kI oI rS cS;simp only[if_neg h]
theorem QlJ(s:Nat)(w:World):(binOp .eql 70 (.agg (X0 s)) (.agg (X0 s))).run Tryz.prog w= .ok (.bool true) w:=by
 have E:(Tryz.prog.fieldsOf 70).toList =(Tryz.prog.fieldsOf 70).toList :=rfl;rw[run_eql_struct,run_equalIn_struct _ _ _ _ _ QrG QqZ];have D:=Tryz.underlying70;simp only[Program.fieldsOf,D];have M:=QrE;have N:=QrF;have I:=QqX;have J:=QqY;simp[go_sem,X0]
end
section
open Go.RowKit Go.Acre
attribute [local go_sem ↓] LcG ScG
theorem Qnm(a:Addr):LdC a 6=(do let x<-load (a.add 0);let y<-load (a.add 1);let z<-load (a.add 2);let u<-load (a.add 3);let v<-load (a.add 4);let t<-load (a.add 5);pure #[x,y,z,u,v,t]):=rfl
theorem Qp5(a:Addr)(x y z u v t:Value):StC a [x,y,z,u,v,t]=(do store (a.add 0) x;store (a.add 1) y;store (a.add 2) z;store (a.add 3) u;store (a.add 4) v;store (a.add 5) t;pure ()):=rfl
attribute [local go_sem] Sc1 Sc2 Sc3 Lc2 Lc3 Qnm Qp5
set_option maxRecDepth 10000
theorem Qfm{ops:Array Oper}{rest:List Oper}{o:Oper}{a:Act}{D:Exit->Act->World->Prop}(J:o.guard=none)(t:TypeId)(i:Nat)(x:Operand)(M:o.op= .build t #[(i,x)])
  (E:Value) (N:a.eval x=E) (cells:Array Value) (I:P.built t [(i,E)]=some cells) (h:wpList P ops D rest (a.put o.dst (.agg cells)) w):wpList P ops D (o::rest) a w:=by
 refine wpList_buildTo J t _ M _ rfl cells ?_ h
 simpa [N] using I
theorem QfZ(k:Int):Tryz.prog.built 70 [(0,.int .i64 k)]=some #[.int .i64 k,.int .i64 0,.int .u64 0,.int .u64 0,.int .i64 0,.string ⟨#[]⟩,.string ⟨#[]⟩,.string ⟨#[]⟩,.bool false,.string ⟨#[]⟩,.int .u64 0,.int .i64 0,.string ⟨#[]⟩,.string ⟨#[]⟩,.int .i64 0,.bool false,.int .i64 0,.string ⟨#[]⟩,.int .i64 0,.int .i64 0]:=by kernel_rfl
def KC(z:Int):Array Value:= #[.int .i64 0,.int .i64 0,.int .u64 0,.int .u64 z,.int .i64 0,.string ⟨#[]⟩,.string ⟨#[]⟩,.string ⟨#[]⟩,.bool false,.string ⟨#[]⟩,.int .u64 0,.int .i64 0,.string ⟨#[]⟩,.string ⟨#[]⟩,.int .i64 0,.bool false,.int .i64 0,.string ⟨#[]⟩,.int .i64 0,.int .i64 0]
theorem Qg2(h:A.size=20):(Tryz.prog.info? 70).map (·.size)=some A.size:=by rw[h];kernel_rfl
theorem Qgw:Tryz.prog.eqGuardType Tryz.prog.depth 70=false:=by
 simp[Program.eqGuardType]
theorem QkP(w:World):Calls Tryz.prog 202 #[.agg (Xp 0)] w (Qk (.int .i64 0) w):=by
 have e1:=QlI;have ai: ∀(x y:Operand) (w:World),(eqGuard .eql 70 x y (.agg (Xp 0)) (.agg (Xp 0))).run Tryz.prog w= .ok () w:=fun x y w=>run_eqGuard_agg w _ _ _ _ _ _ Qgw
 have aa:=Zh Qc5;have I:=QfZ 0;have E:(Xp 0).size =20:=rfl;have W:(Xp 0).all (·.oneCell')=true:=by simp[Xp,Value.oneCell']
 have M:(Xp 0)[0]? =some (.int .i64 0):=rfl;obtain⟨z,Z⟩: ∃z:Int,z=0:=⟨_,rfl⟩
 have Q:(Xp 0)[3]? =some (.int .u64 z):=by rw[Z];rfl
 have ac:z<=1099511627776:=by omega
 have aj:decide (z<=1099511627776)=true:=decide_eq_true ac;clear Z;have ad:Xp 0=KC 0:=rfl;have I:Tryz.prog.built 70 [(0,.int .i64 0)]=some (Xp 0):=I;clear ad;have N:=Qf (w:=w) (.cells (Xp 0) 70);have Y:(w.alloc (.cells (Xp 0) 70)).heap.size =w.heap.size+1:=by simp
 have J:=Qf (w:=w.alloc (.cells (Xp 0) 70)) (.cells (KC 0) 70);rw[Y] at J;have ae:Hid ((KC 0).size =20):=Zh rfl;generalize Xp 0=C at*
 go_enter Tryz.func202,Tryz.ntmps202;have U:(w.alloc (.cells C 70)).cell? ⟨w.heap.size,0,none⟩=some (.int .i64 0):=(Qb N 0).trans M;go_upto_region 2 with (first|refine Qfm rfl 70 0 _ rfl _ rfl C I ?_|refine wpList_store_row rfl 70 _ _ rfl _ _ rfl rfl _ _ J (Qg2 E) (by rw[E];rfl) W ?_)
 have O:=Xr _ _ C J;have u2:Qa (fun i=>i=w.heap.size+1) (w.alloc (.cells C 70)) (((w.alloc (.cells C 70)).alloc (.cells (KC 0) 70)).setRow (w.heap.size+1) C):=QL ((Zr (fun i=>i=w.heap.size+1) _).alloc _) (g:=w.heap.size+1) (fun _=>rfl) C;have D:=u2.keep N (by omega);have ab:Hid (Qa Ze w (((w.alloc (.cells C 70)).alloc (.cells (KC 0) 70)).setRow (w.heap.size+1) C)):=Zh (QL (((Zr _ w).alloc _).alloc _) (g:=w.heap.size+1) (fun h=>by omega) C);clear J u2 N Y U;change Code.wp _ _ _ _ (((w.alloc (.cells C 70)).alloc (.cells (KC 0) 70)).setRow (w.heap.size+1) C);generalize ((w.alloc (.cells C 70)).alloc (.cells (KC 0) 70)).setRow (w.heap.size+1) C=w2 at*
 generalize w.heap.size=b at*
 have U:w2.cell? ⟨b,0,none⟩=some (.int .i64 0):=(Qb D 0).trans M;have ah:w2.cell? ⟨b,3,none⟩=some (.int .u64 z):=(Qb D 3).trans Q;have ak:(LdC ⟨b,0,none⟩ 20).run Tryz.prog w2= .ok C w2:=Xc D E;have al:(LdC ⟨b+1,0,none⟩ 20).run Tryz.prog w2= .ok C w2:=Xc O E;have af:=Zh D;have ag:=Zh O;clear D O M Q I W;go_frame;go_wp2_with fail;refine (aa.out _).mono ?_
 rintro e w' ⟨rfl,rfl⟩;go_wp2_with fail;go_ret;exact⟨rfl,ab.out⟩
def Z0(k:Int):Array Value:= #[.int .i64 k,.int .i64 0,.int .u64 0,.int .u64 0,.int .i64 0,.string ⟨#[]⟩,.string ⟨#[]⟩,.string ⟨#[]⟩,.bool false,.string ⟨#[]⟩,.int .u64 0,.int .i64 0,.string ⟨#[]⟩,.string ⟨#[]⟩,.int .i64 0,.bool false,.int .i64 0,.string ⟨#[]⟩,.int .i64 0,.int .i64 0]
theorem QkO(s:Nat)(bj:s≠0)(bk:s<=2000000)(w:World):Calls Tryz.prog 202 #[.agg (Xp s)] w (Qk (.int .i64 0) w):=by
 rw[QkM bj];have e1:=QlJ s;have bp: ∀(x y:Operand) (w:World),(eqGuard .eql 70 x y (.agg (X0 s)) (.agg (X0 s))).run Tryz.prog w= .ok () w:=fun x y w=>run_eqGuard_agg w _ _ _ _ _ _ Qgw
 have aO:=Zh Qc5;have aL:=Zh (QfV 0 4 (by omega));have aN:=Zh (Qn4 s (by omega) bk);have ai:=Zh QnI;have ax:Tryz.prog.built 70 [(0,.int .i64 1)]=some (Z0 1):=QfZ 1;have au:(X0 s).size =20:=rfl;have av:(Z0 1).size =20:=rfl;have ay:(Z0 1).all (·.oneCell')=true:=by simp[Z0,Value.oneCell']
 have aj:(X0 s)[0]? =some (.int .i64 1):=rfl;have ak:(X0 s)[1]? =some (.int .i64 0):=rfl;have al:(X0 s)[2]? =some (.int .u64 s):=rfl;have am:(X0 s)[4]? =some (.int .i64 2):=rfl;have an:(X0 s)[5]? =some (.string ⟨#[114]⟩):=rfl;have ao:(X0 s)[6]? =some (.string ⟨#[120]⟩):=rfl;have ap:(X0 s)[7]? =some (.string ⟨#[]⟩):=rfl;have aq:(X0 s)[8]? =some (.bool false):=rfl;have ar:(X0 s)[9]? =some (.string ⟨#[]⟩):=rfl;have aB:(Z0 1)[1]? =some (.int .i64 0):=rfl;have aC:(Z0 1)[2]? =some (.int .u64 0):=rfl;have aD:(Z0 1)[3]? =some (.int .u64 0):=rfl;have aE:(Z0 1)[4]? =some (.int .i64 0):=rfl;have aF:(Z0 1)[5]? =some (.string ⟨#[]⟩):=rfl;have aG:(Z0 1)[6]? =some (.string ⟨#[]⟩):=rfl;have aH:(Z0 1)[7]? =some (.string ⟨#[]⟩):=rfl;have aI:(Z0 1)[8]? =some (.bool false):=rfl;have aJ:(Z0 1)[9]? =some (.string ⟨#[]⟩):=rfl;obtain⟨z,ah⟩: ∃z:Int,z=0:=⟨_,rfl⟩
 have O:(X0 s)[3]? =some (.int .u64 z):=by rw[ah];rfl
 have bh:z<=1099511627776:=by omega
 have bq:decide (z<=1099511627776)=true:=decide_eq_true bh;have aw:((((((((((Z0 1).setIfInBounds 1 (.int .i64 0)).setIfInBounds 2 (.int .u64 s)).setIfInBounds 3 (.int .u64 z)).setIfInBounds 4 (.int .i64 2)).setIfInBounds 5 (.string ⟨#[114]⟩)).setIfInBounds 6 (.string ⟨#[120]⟩)).setIfInBounds 7 (.string ⟨#[]⟩)).setIfInBounds 8 (.bool false)).setIfInBounds 9 (.string ⟨#[]⟩))=X0 s:=by rw[ah];rfl
 have aV:=Zh aw;clear ah aw;have ae:=Qf (w:=w) (.cells (X0 s) 70);have az:(w.alloc (.cells (X0 s) 70)).heap.size =w.heap.size+1:=by simp
 have N:=Qf (w:=w.alloc (.cells (X0 s) 70)) (.cells (KC 0) 70);rw[az] at N;have bm:Hid ((KC 0).size =20):=Zh rfl;generalize X0 s=C at*
 generalize Z0 1=X at*
 go_enter Tryz.func202,Tryz.ntmps202;have Q:(w.alloc (.cells C 70)).cell? ⟨w.heap.size,0,none⟩=some (.int .i64 1):=(Qb ae 0).trans aj;go_upto_region 2 with (first|refine Qfm rfl 70 0 _ rfl _ rfl X ax ?_|refine wpList_store_row rfl 70 _ _ rfl _ _ rfl rfl _ _ N (Qg2 av) (by rw[av];rfl) ay ?_)
 have D:=Xr _ _ X N;have u2:Qa (fun i=>i=w.heap.size+1) (w.alloc (.cells C 70)) (((w.alloc (.cells C 70)).alloc (.cells (KC 0) 70)).setRow (w.heap.size+1) X):=QL ((Zr (fun i=>i=w.heap.size+1) _).alloc _) (g:=w.heap.size+1) (fun _=>rfl) X;have E:=u2.keep ae (by omega);have aP:Hid (Qa Ze w (((w.alloc (.cells C 70)).alloc (.cells (KC 0) 70)).setRow (w.heap.size+1) X)):=Zh (QL (((Zr _ w).alloc _).alloc _) (g:=w.heap.size+1) (fun h=>by omega) X);clear N u2 ae az Q;change Code.wp _ _ _ _ (((w.alloc (.cells C 70)).alloc (.cells (KC 0) 70)).setRow (w.heap.size+1) X);generalize ((w.alloc (.cells C 70)).alloc (.cells (KC 0) 70)).setRow (w.heap.size+1) X=w2 at*
 have bn:Hid (w.heap.size=w.heap.size):=Zh rfl;generalize hbb:w.heap.size=b at*
 have aK:=Zh hbb;have Q:w2.cell? ⟨b,0,none⟩=some (.int .i64 1):=(Qb E 0).trans aj;have U:w2.cell? ⟨b,1,none⟩=some (.int .i64 0):=(Qb E 1).trans ak;have W:w2.cell? ⟨b,2,none⟩=some (.int .u64 s):=(Qb E 2).trans al;have Y:w2.cell? ⟨b,3,none⟩=some (.int .u64 z):=(Qb E 3).trans O;have Z:w2.cell? ⟨b,4,none⟩=some (.int .i64 2):=(Qb E 4).trans am;have c5:w2.cell? ⟨b,5,none⟩=some (.string ⟨#[114]⟩):=(Qb E 5).trans an;have aa:w2.cell? ⟨b,6,none⟩=some (.string ⟨#[120]⟩):=(Qb E 6).trans ao;have ab:w2.cell? ⟨b,7,none⟩=some (.string ⟨#[]⟩):=(Qb E 7).trans ap;have ac:w2.cell? ⟨b,8,none⟩=some (.bool false):=(Qb E 8).trans aq;have c9:w2.cell? ⟨b,9,none⟩=some (.string ⟨#[]⟩):=(Qb E 9).trans ar;have aY:=(Qb D 1).trans aB;have aZ:=(Qb D 2).trans aC;have a0:=(Qb D 3).trans aD;have a1:=(Qb D 4).trans aE;have a2:=(Qb D 5).trans aF;have a3:=(Qb D 6).trans aG;have a4:=(Qb D 7).trans aH;have a5:=(Qb D 8).trans aI;have a6:=(Qb D 9).trans aJ;have a7:=Qg D 1 none;have a8:=Qg D 2 none;have a9:=Qg D 3 none;have ba:=Qg D 4 none;have bb:=Qg D 5 none;have bc:=Qg D 6 none;have bd:=Qg D 7 none;have be:=Qg D 8 none;have bg:=Qg D 9 none;have aT:=Zh E;have aW:=Zh D;clear E D ax ay aB aC aD aE aF aG aH aI aJ hbb;go_frame;go_upto_region 7 with fail
 go_region;have ad:Qa (fun i=>i=b+1) w2 (((((((((w2.setCell ⟨b+1,1,none⟩ (.int .i64 0)).setCell ⟨b+1,2,none⟩ (.int .u64 s)).setCell ⟨b+1,3,none⟩ (.int .u64 z)).setCell ⟨b+1,4,none⟩ (.int .i64 2)).setCell ⟨b+1,5,none⟩ (.string ⟨#[114]⟩)).setCell ⟨b+1,6,none⟩ (.string ⟨#[120]⟩)).setCell ⟨b+1,7,none⟩ (.string ⟨#[]⟩)).setCell ⟨b+1,8,none⟩ (.bool false)).setCell ⟨b+1,9,none⟩ (.string ⟨#[]⟩)):=(((((((((Zr (fun i=>i=b+1) w2).setCell (p:=⟨b+1,1,none⟩) (fun _=>rfl) _).setCell (p:=⟨b+1,2,none⟩) (fun _=>rfl) _).setCell (p:=⟨b+1,3,none⟩) (fun _=>rfl) _).setCell (p:=⟨b+1,4,none⟩) (fun _=>rfl) _).setCell (p:=⟨b+1,5,none⟩) (fun _=>rfl) _).setCell (p:=⟨b+1,6,none⟩) (fun _=>rfl) _).setCell (p:=⟨b+1,7,none⟩) (fun _=>rfl) _).setCell (p:=⟨b+1,8,none⟩) (fun _=>rfl) _).setCell (p:=⟨b+1,9,none⟩) (fun _=>rfl) _;have ag:=Qi (o:=9) (Qi (o:=8) (Qi (o:=7) (Qi (o:=6) (Qi (o:=5) (Qi (o:=4) (Qi (o:=3) (Qi (o:=2) (Qi (o:=1) aW.out (.int .i64 0)) (.int .u64 s)) (.int .u64 z)) (.int .i64 2)) (.string ⟨#[114]⟩)) (.string ⟨#[120]⟩)) (.string ⟨#[]⟩)) (.bool false)) (.string ⟨#[]⟩);rw[aV.out] at ag;have I:=ad.keep aT.out (by omega)
 have aQ:Hid (Qa Ze w (((((((((w2.setCell ⟨b+1,1,none⟩ (.int .i64 0)).setCell ⟨b+1,2,none⟩ (.int .u64 s)).setCell ⟨b+1,3,none⟩ (.int .u64 z)).setCell ⟨b+1,4,none⟩ (.int .i64 2)).setCell ⟨b+1,5,none⟩ (.string ⟨#[114]⟩)).setCell ⟨b+1,6,none⟩ (.string ⟨#[120]⟩)).setCell ⟨b+1,7,none⟩ (.string ⟨#[]⟩)).setCell ⟨b+1,8,none⟩ (.bool false)).setCell ⟨b+1,9,none⟩ (.string ⟨#[]⟩))):=Zh (aP.out.trans ad (fun i hi e=>by have:=aK.out;omega));clear Q U W Y Z c5 aa ab ac c9 aY aZ a0 a1 a2 a3 a4 a5 a6 a7 a8 a9 ba bb bc bd be bg ad;generalize ((((((((w2.setCell ⟨b+1,1,none⟩ (.int .i64 0)).setCell ⟨b+1,2,none⟩ (.int .u64 s)).setCell ⟨b+1,3,none⟩ (.int .u64 z)).setCell ⟨b+1,4,none⟩ (.int .i64 2)).setCell ⟨b+1,5,none⟩ (.string ⟨#[114]⟩)).setCell ⟨b+1,6,none⟩ (.string ⟨#[120]⟩)).setCell ⟨b+1,7,none⟩ (.string ⟨#[]⟩)).setCell ⟨b+1,8,none⟩ (.bool false)).setCell ⟨b+1,9,none⟩ (.string ⟨#[]⟩)=w3 at*
 have U:w3.drew.cell? ⟨b,1,none⟩=some (.int .i64 0):=(Qb I 1).trans ak;have W:w3.drew.cell? ⟨b,2,none⟩=some (.int .u64 s):=(Qb I 2).trans al;have Y:w3.drew.cell? ⟨b,3,none⟩=some (.int .u64 z):=(Qb I 3).trans O;have Z:w3.drew.cell? ⟨b,4,none⟩=some (.int .i64 2):=(Qb I 4).trans am;have c5:w3.drew.cell? ⟨b,5,none⟩=some (.string ⟨#[114]⟩):=(Qb I 5).trans an;have aa:w3.drew.cell? ⟨b,6,none⟩=some (.string ⟨#[120]⟩):=(Qb I 6).trans ao;have ab:w3.drew.cell? ⟨b,7,none⟩=some (.string ⟨#[]⟩):=(Qb I 7).trans ap;have ac:w3.drew.cell? ⟨b,8,none⟩=some (.bool false):=(Qb I 8).trans aq;have c9:w3.drew.cell? ⟨b,9,none⟩=some (.string ⟨#[]⟩):=(Qb I 9).trans ar;have M:=(Zr Ze w3).drew;have aU:=Zh (M.keep I (fun f=>f));have aX:=Zh (M.keep ag (fun f=>f));have aR:=Zh (aQ.out.trans M (fun _ _ f=>f));clear I ag M;generalize w3.drew=w4 at*
 have aM:Hid (Calls Tryz.prog 134 #[.int .i64 0,.int .i64 4] w4 (Is (.bool true) w4)):=Zh (aL.out w4);unfold WC at ai;go_wp2_with fail;refine aM.out.mono ?_
 rintro e w' ⟨rfl,rfl⟩;go_wp2_with fail;refine (aN.out _).mono ?_
 rintro e w' ⟨rfl,rfl⟩;go_wp2_with fail;refine (ai.out _).mono ?_
 rintro e w5 ⟨rfl,J⟩;have af:=J.keep aU.out (fun f=>f);have aA:=J.keep aX.out (fun f=>f);have aS:=Zh (aR.out.trans J (fun _ _ f=>f));have bo:w5.cell? ⟨b,3,none⟩=some (.int .u64 z):=(Qb af 3).trans O;have br:(LdC ⟨b,0,none⟩ 20).run Tryz.prog w5= .ok C w5:=Xc af au;have bs:(LdC ⟨b+1,0,none⟩ 20).run Tryz.prog w5= .ok C w5:=Xc aA au;clear U W Y Z c5 aa ab ac c9 af aA J;go_wp2_with fail;refine (aO.out _).mono ?_
 rintro e w' ⟨rfl,rfl⟩;go_wp2_with fail;go_ret;exact⟨rfl,aS.out⟩
end
section
open Go.RowKit Go.Acre
attribute [local go_sem ↓] LcG ScG
attribute [local go_sem] Sc1 Sc2 Sc3 Lc2 Lc3
theorem QkN(s:Nat)(D:s<=2000000)(w:World):Calls Tryz.prog 202 #[.agg (Xp s)] w (Qk (.int .i64 0) w):=by
 by_cases h:s=0
 ·subst h
  exact QkP w
 ·exact QkO s h D w
theorem Qd7(i t s:Nat)(ah:1<=i)(am:1<=t)(ab:s<=2000000)(w:World):Calls Tryz.prog 131 #[QS i t s] w (Qk (.int .i64 0) w):=by
 have W:=Zh Qc5;have U:=Zh (QkN s ab);have ag:=ZJ i t s;have E:=Wt i t s;have I:=Qbm i t s;have J:=QcD i t s;have M:=Qgq i t s;have aa:(Xp s).size =20:=rfl;have O: ∀j v,(Xp s).toList[j]? =some v->(Qh i t s)[3+j]? =some v:=by
  intro j v h;have ak:j<20:=by
   have:=(List.getElem?_eq_some_iff.1 h).1
   simpa [Xp] using this
  rw[<-h];rcases (show j=0\/j=1\/j=2\/j=3\/j=4\/j=5\/j=6\/j=7\/j=8\/j=9\/j=10\/j=11\/j=12\/j=13\/j=14\/j=15\/j=16\/j=17\/j=18\/j=19 by omega) with e|e|e|e|e|e|e|e|e|e|e|e|e|e|e|e|e|e|e|e<;>subst e<;>rfl
 unfold QS;generalize Qh i t s=A at*
 generalize Xp s=C at*
 have D:=Qf (w:=w) (.cells A 116);have Y:Hid (Qa Ze w (w.alloc (.cells A 116))):=Zh ((Zr _ w).alloc _);go_enter Tryz.func131,Tryz.ntmps131;go_upto_block 0 with fail
 generalize w.alloc (.cells A 116)=w1 at*
 generalize w.heap.size=b at*
 have ac:=(Qb D 0).trans E;have ad:=(Qb D 1).trans I;have ae:=(Qb D 2).trans J;have af:=(Qb D 23).trans M;have N:w1.rangeAt b 3 C.toList:=fun j v h=>by
  rw[Qb D (3+j)];exact O j v h
 have al:(LdC ⟨b,3,none⟩ 20).run Tryz.prog w1= .ok C w1:=W3 N aa;have ai: ¬(i:Int)=0:=by omega
 have an: ¬(t:Int)=0:=by omega
 have aj:((i:Int)==0)=false:=by simp;omega
 have ao:((t:Int)==0)=false:=by simp;omega
 clear D N O E I J M;go_wp2_with fail;refine (U.out _).mono ?_
 rintro e w2 ⟨rfl,Q⟩;have Z:=Zh (Y.out.trans Q (fun _ _ f=>f));clear Q;go_wp2_with fail;refine (W.out _).mono ?_
 rintro e w' ⟨rfl,rfl⟩;go_wp2_with fail;go_ret;exact⟨rfl,Z.out⟩
end
section
open Go.RowKit Go.Acre
attribute [local go_sem ↓] LcG ScG
attribute [local go_sem] Sc1 Sc2 Sc3 Lc2 Lc3
attribute [local go_sem] Kv Kw
theorem Qg0(a b c:Value):(Tryz.prog.info? 220).map (·.size)=some (#[a,b,c]:Array Value).size :=by kernel_rfl
def QjG(sb:Nat)(b:ByteArray)(w:World)(e:Ending)(w':World):Prop:= ∃pb,e= .returned (.agg (Xb pb))/\XZ w' pb sb b/\w.heap.size<=pb/\Qa Ze w w'
theorem Qnc{b:ByteArray}(h:w.heap[na]? =some (.cells #[.string b] 9 (0,0)))(J:b.size<=1000000):Calls Tryz.prog 141 #[.pointer (some ⟨na,0,none⟩)] w (QjG na b w):=by
 have H:=Zh h;have N:=Ql h;clear h;go_enter Tryz.func141,Tryz.ntmps141;go_wp2_with fail;have I:=Qf (w:=w) (.cells #[.pointer (some ⟨na,0,none⟩)] 232);have M:(w.alloc (.cells #[.pointer (some ⟨na,0,none⟩)] 232)).heap.size =w.heap.size+1:=by simp
 have D:=Qf (w:=w.alloc (.cells #[.pointer (some ⟨na,0,none⟩)] 232)) (.cells (Xb w.heap.size) 220);rw[M] at D;have u1:Qa Ze w (w.alloc (.cells #[.pointer (some ⟨na,0,none⟩)] 232)):=(Zr _ w).alloc _;have u2:Qa Ze (w.alloc (.cells #[.pointer (some ⟨na,0,none⟩)] 232)) ((w.alloc (.cells #[.pointer (some ⟨na,0,none⟩)] 232)).alloc (.cells (Xb w.heap.size) 220)):=(Zr _ _).alloc _;have E:=u1.trans u2 (fun _ _ f=>f);refine bodyPost_ret (v:=.agg (Xb w.heap.size)) ?_ rfl ⟨w.heap.size,rfl,⟨u2.keep I (fun f=>f),E.keep H.out (fun f=>f),by omega,J⟩,Zf _,E⟩
 exact results_cell_row rfl _ _ _ _ _ _ _ rfl D Tryz.underlying220 rfl (Qg0 _ _ _)
def Qfu(x:ByteArray)(w:World)(e:Ending)(w':World):Prop:=e= .returned (.tuple #[.string x,.int .i64 0])/\Qa Ze w w'
theorem Qgo(i t s:Nat)(av:1<=i)(aA:1<=t)(aw:i<=2000000)(aB:t<=2000000)(ag:s<=2000000)(w:World):Calls Tryz.prog 76 #[QS i t s] w (Qfu (Xy i t s) w):=by
 have D:=Zh (Qd7 i t s av aA ag);have ad:=ZJ i t s;obtain⟨A,E⟩: ∃A,A=Qh i t s:=⟨_,rfl⟩
 have W:=Zh E;unfold QS at D ⊢;rw[<-E] at ad D ⊢;clear E;have O:=Qf (w:=w) (.cells A 116);have ai:Qa Ze w (w.alloc (.cells A 116)):=(Zr _ w).alloc _;have ax:(LdC ⟨w.heap.size,0,none⟩ 24).run Tryz.prog (w.alloc (.cells A 116))= .ok A (w.alloc (.cells A 116)):=Xc O ad;go_enter Tryz.func76,Tryz.ntmps76;go_upto_region 1 with fail
 generalize w.alloc (.cells A 116)=w1 at*
 generalize hbb:w.heap.size=b at*
 have Y:=Zh hbb;have au:=Zh O;have am:=Zh ai;clear O ai hbb;go_wp2_with fail;refine (D.out _).mono ?_
 rintro e w2 ⟨rfl,M⟩;have ab:=Zh (M.keep au.out (fun f=>f));have an:=Zh (am.out.trans M (fun _ _ f=>f));have U:Qa Ze w2 (w2.alloc (.cells #[.string ⟨#[]⟩] 9)):=(Zr _ w2).alloc _;have J:=Qf (w:=w2) (.cells #[.string ⟨#[]⟩] 9);have ac:=Zh (U.keep ab.out (fun f=>f));have ao:=Zh (an.out.trans U (fun _ _ f=>f));have af:=Ql ab.out;clear M ax U;go_upto_region 4 with fail
 generalize w2.alloc (.cells #[.string ⟨#[]⟩] 9)=w3 at*
 generalize hsb:w2.heap.size=sb at*
 have al:Hid (b<sb):=Zh af;have ar:Hid (w.heap.size<=sb):=Zh (by have:=Y.out;omega);have aG:=Zh J;have aa:=Zh (Qnc J (by decide));clear J af hsb;go_wp2_with fail;refine aa.out.mono ?_
 rintro e aJ ⟨aD,rfl,I,az,N⟩;have aF:=Zh I;have ap:=Zh (ao.out.trans N (fun _ _ f=>f));have ak:=N.keep ac.out (fun f=>f);have ay:b≠aD:=by
  have:=Ql ac.out;omega
 have Q:=ak;rw[W.out] at Q;have Z:=Zh (Qm5 I Q ay (by have:=al.out;omega) aw aB ag (by decide));rw[<-W.out] at Z;unfold Xb;clear I N ak Q az aa;go_wp2_with fail;refine Z.out.mono ?_
 rintro e w5 ⟨rfl,ae,aC,aj⟩;have aE:w5.cell? ⟨sb,0,none⟩=some (.string (Wy ⟨#[]⟩ (Wu i t s))):=Qb ae.str 0;have ah:Wy ⟨#[]⟩ (Wu i t s)=Xy i t s:=by rw[Qhv,Qas];rfl
 rw[ah] at aE;have aq:Hid (Qa Ze w w5):=Zh (ap.out.trans aj (fun j hj h=>by
  have aH:=Y.out;have aI:=ar.out;omega))
 clear ae aC aj ah;go_wp2_with fail;go_ret2;exact⟨rfl,aq.out⟩
theorem Qc3{v:Nat}(r:ByteArray)(h:v<18446744073709551616):W8 (str (num v)++r)=(v,true,r):=by
 unfold W8;rw[QhT r h];simp only;rw[<-QaP,Qd1]
theorem Qi7{t:ByteArray}(r:ByteArray)(h:t.size<=na)(D:t.size<18446744073709551616):textS na (txt t++r)=(t,true,r):=by
 unfold textS;rw[Qrm r h D];simp only;rw[Qd1]
structure QP(w:World)(rp gp rb gb:Nat)(r:ByteArray):Prop where
 rptr:w.heap[rp]? =some (.cells #[.pointer (some ⟨rb,0,none⟩)] 154 (0,0))
 gptr:w.heap[gp]? =some (.cells #[.pointer (some ⟨gb,0,none⟩)] 222 (0,0))
 rdr:Xo 213 w rb r
 good:w.heap[gb]? =some (.cells #[.bool true] 4 (0,0))
 few:r.size<=2000000
theorem QP.upd{r:ByteArray}(h:QP w na nb rb nc r)(D:Qa S w w')(E: ¬S na)(I: ¬S nb)(J: ¬S rb)(M: ¬S nc):QP w' na nb rb nc r:=⟨D.keep h.rptr E,D.keep h.gptr I,D.keep h.rdr J,D.keep h.good M,h.few⟩
theorem QP.Qc{r:ByteArray}(h:QP w na nb rb nc r)(D:Qa Ze w w'):QP w' na nb rb nc r:=h.upd D (fun f=>f) (fun f=>f) (fun f=>f) (fun f=>f)
theorem QP.ne{r:ByteArray}(h:QP w na nb rb nc r):na≠nb/\na≠rb/\na≠nc/\nb≠rb/\nb≠nc/\rb≠nc:=by
 have J:=h.rptr;have I:=h.gptr;have E:w.heap[rb]? =_:=h.rdr;have D:=h.good;refine⟨?_,?_,?_,?_,?_,?_⟩<;>rintro rfl
 ·rw[J] at I;simp at I
 ·rw[J] at E;simp at E
 ·rw[J] at D;simp at D
 ·rw[I] at E;simp at E
 ·rw[I] at D;simp at D
 ·rw[E] at D;simp at D
def KB(rp gp rb gb:Nat)(r':ByteArray)(xb:Nat)(A':Array Value)(ty:TypeId)(w:World)(e:Ending)(w':World):Prop:=
 e= .returned (.tuple #[])/\QP w' rp gp rb gb r'/\w'.heap[xb]? =some (.cells A' ty (0,0))/\Qa (fun i=>i=rb\/i=gb\/i=xb) w w'
def Far(xb rp gp rb gb:Nat):Prop:=xb≠rp/\xb≠gp/\xb≠rb/\xb≠gb
theorem Qe9{r:ByteArray}(h:QP w na nb rb nc r)(W:w.heap[xb]? =some (.cells A ty (0,0)))(Y:Far xb na nb rb nc)(aa:Xo 213 w2 rb D)(J:Qa (fun i=>i=rb) w w2)(E:Qa (fun i=>i=nc) w2 w0)(Z:w0.heap[nc]? =some (.cells #[.bool true] 4 (0,0)))(ab:D.size<=2000000):
  KB na nb rb nc D xb (A.setIfInBounds xo V) ty w (.returned (.tuple #[])) (w0.setCell ⟨xb,xo,none⟩ V):=by
 obtain⟨ag,n2,ac,ad,ae,af⟩:=h.ne;obtain⟨O,Q,M,N⟩:=Y;have I:Qa (fun i=>i=xb) w0 (w0.setCell ⟨xb,xo,none⟩ V):=(Zr (fun i=>i=xb) w0).setCell (p:=⟨xb,xo,none⟩) (fun _=>rfl) _;have U:=(J.mono (T:=fun i=>i=rb\/i=nc\/i=xb) (fun i _ e=>.inl e)).trans E (fun i _ e=>.inr (.inl e));refine⟨rfl,⟨I.keep (E.keep (J.keep h.rptr n2) ac) (fun e=>O e.symm),I.keep (E.keep (J.keep h.gptr ad) ae) (fun e=>Q e.symm),I.keep (E.keep aa af) (fun e=>M e.symm),I.keep Z (fun e=>N e.symm),ab⟩,?_,U.trans I (fun i _ e=>.inr (.inr e))⟩;exact Qi (o:=xo) (E.keep (J.keep W M) N) V
theorem Qa5{v:Nat}(h:QP w na nb rb nc (str (num v)++D))(Z:w.heap[xb]? =some (.cells A ty (0,0))){y:Int}(ac:A[xo]? =some (.int .u64 y))(aa:Far xb na nb rb nc)(au:v<=2000000)(Q:Int)(ak:(v:Int)<=Q):
  Calls Tryz.prog 198 #[.pointer (some ⟨xb,xo,none⟩),.int .u64 Q,.pointer (some ⟨na,0,none⟩),.pointer (some ⟨nb,0,none⟩)] w (KB na nb rb nc D xb (A.setIfInBounds xo (.int .u64 v)) ty w):=by
 have hsz:D.size<=2000000:=by
  have:=h.few;rw[ByteArray.size_append] at this;omega
 have E:=Zh (Qda h.rdr (by have:=h.few;omega));unfold QbQ at E;rw[Qc3 D (by omega)] at E;have H:=Zh h;have W:=Zh Z;have an:w.cell? ⟨na,0,none⟩=some (.pointer (some ⟨rb,0,none⟩)):=Qb h.rptr 0;have ah:=Zh ac;obtain⟨av,n2,aw,al,ax,am⟩:=h.ne;have N:=Zh aa;have ar:decide ((v:Int)<=Q)=true:=decide_eq_true ak;clear h Z ac aa;go_enter Tryz.func198,Tryz.ntmps198;go_wp2_with fail;refine E.out.mono ?_
 rintro e w2 ⟨rfl,ab,J⟩;have ag:=Zh ab;have U:=Zh J;have ao:w2.cell? ⟨nb,0,none⟩=some (.pointer (some ⟨nc,0,none⟩)):=Qb (J.keep H.out.gptr al) 0;have I:=J.keep H.out.good (fun e=>am e.symm);have ai:w2.cell? ⟨nc,0,none⟩=some (.bool true):=Qb I 0;have aj:=Qg I 0 none;have af:=Zh I;clear ab J I E an;go_upto_region 1 with fail
 go_region;have M:Qa (fun i=>i=nc) w2 (w2.setCell ⟨nc,0,none⟩ (.bool true)).drew :=((Zr (fun i=>i=nc) w2).setCell (p:=⟨nc,0,none⟩) (fun _=>rfl) _).drew;have O:(w2.setCell ⟨nc,0,none⟩ (.bool true)).drew.heap[nc]? =some (.cells #[.bool true] 4 (0,0)):=Qi (o:=0) af.out (.bool true);have ad:=M.keep (U.out.keep W.out N.out.2.2.1) N.out.2.2.2;have aq:=Zh M;have ap:=Zh O;have Y:=Zh ad;have ae:Hid (∀V,KB na nb rb nc D xb (A.setIfInBounds xo V) ty w (.returned (.tuple #[])) (((w2.setCell ⟨nc,0,none⟩ (.bool true)).drew).setCell ⟨xb,xo,none⟩ V)):=Zh (fun V=>Qe9 H.out W.out N.out ag.out U.out M O hsz);clear ao ai aj M O ad;generalize (w2.setCell ⟨nc,0,none⟩ (.bool true)).drew =w4 at*
 have x0:=(Qb Y.out xo).trans ah.out;have ay:=Qg Y.out xo none;go_wp2_with fail;go_end0;exact ae.out _
theorem Qa6{v:ByteArray}(h:QP w na nb rb nc (txt v++D))(Z:w.heap[xb]? =some (.cells A ty (0,0))){y:ByteArray}(ac:A[xo]? =some (.string y))(aa:Far xb na nb rb nc)(N:Nat)(ak:v.size<=N)(al:N<=1048576):
  Calls Tryz.prog 199 #[.pointer (some ⟨xb,xo,none⟩),.int .i64 N,.pointer (some ⟨na,0,none⟩),.pointer (some ⟨nb,0,none⟩)] w (KB na nb rb nc D xb (A.setIfInBounds xo (.string v)) ty w):=by
 have hsz:D.size<=2000000:=by
  have:=h.few;rw[ByteArray.size_append] at this;omega
 have E:=Zh (Qil h.rdr (by have:=h.few;omega) N al);unfold QdM at E;rw[Qi7 D ak (by omega)] at E;have H:=Zh h;have W:=Zh Z;have ao:w.cell? ⟨na,0,none⟩=some (.pointer (some ⟨rb,0,none⟩)):=Qb h.rptr 0;have ah:=Zh ac;obtain⟨au,n2,av,am,aw,an⟩:=h.ne;have O:=Zh aa;clear h Z ac aa;go_enter Tryz.func199,Tryz.ntmps199;go_wp2_with fail;refine E.out.mono ?_
 rintro e w2 ⟨rfl,ab,J⟩;have ag:=Zh ab;have U:=Zh J;have ap:w2.cell? ⟨nb,0,none⟩=some (.pointer (some ⟨nc,0,none⟩)):=Qb (J.keep H.out.gptr am) 0;have I:=J.keep H.out.good (fun e=>an e.symm);have ai:w2.cell? ⟨nc,0,none⟩=some (.bool true):=Qb I 0;have aj:=Qg I 0 none;have af:=Zh I;clear ab J I E ao;go_upto_region 1 with fail
 go_region;have M:Qa (fun i=>i=nc) w2 (w2.setCell ⟨nc,0,none⟩ (.bool true)).drew :=((Zr (fun i=>i=nc) w2).setCell (p:=⟨nc,0,none⟩) (fun _=>rfl) _).drew;have Q:(w2.setCell ⟨nc,0,none⟩ (.bool true)).drew.heap[nc]? =some (.cells #[.bool true] 4 (0,0)):=Qi (o:=0) af.out (.bool true);have ad:=M.keep (U.out.keep W.out O.out.2.2.1) O.out.2.2.2;have ar:=Zh M;have aq:=Zh Q;have Y:=Zh ad;have ae:Hid (∀V,KB na nb rb nc D xb (A.setIfInBounds xo V) ty w (.returned (.tuple #[])) (((w2.setCell ⟨nc,0,none⟩ (.bool true)).drew).setCell ⟨xb,xo,none⟩ V)):=Zh (fun V=>Qe9 H.out W.out O.out ag.out U.out M Q hsz);clear ap ai aj M Q ad;generalize (w2.setCell ⟨nc,0,none⟩ (.bool true)).drew =w4 at*
 have x0:=(Qb Y.out xo).trans ah.out;have ax:=Qg Y.out xo none;go_wp2_with fail;go_end0;exact ae.out _
def Qjo(rb:Nat)(x:Nat)(r':ByteArray)(w:World)(e:Ending)(w':World):Prop:=e= .returned (.tuple #[.int .u8 x,.bool true])/\Xo 213 w' rb r'/\Qa (fun i=>i=rb) w w'
theorem QkD(r:ByteArray):(str [0]++r).extract 0 1=⟨#[0]⟩/\(str [0]++r).extract 1 (str [0]++r).size =r:=by
 have D:(str [0]).size =1:=rfl;constructor
 ·rw[QlM (by rw[D];exact Zf 1)]
  rfl
 ·have:=Qd1 (str [0]) r
  rwa [D] at this
theorem QkC(h:Xo 213 w rb (str [0]++D))(Q:D.size<=2000000):Calls Tryz.prog 201 #[.pointer (some ⟨rb,0,none⟩)] w (Qjo rb 0 D w):=by
 have hsz:(str [0]++D).size =1+D.size:=by rw[ByteArray.size_append];rfl
 have E:=Zh (take_any h 1 (by omega) (by omega));obtain⟨e1,I⟩:=QkD D;unfold QfJ at E;rw[e1,I] at E;clear h Q hsz e1 I;go_enter Tryz.func201,Tryz.ntmps201;go_wp2_with fail;refine E.out.mono ?_
 rintro e w2 ⟨rfl,J,M⟩;have N:=Zh J;have O:=Zh M;clear J M E;go_wp2_with fail;go_ret2;exact⟨rfl,N.out,O.out⟩
theorem Qi3(h:QP w na nb rb nc (str [0]++D))(Y:w.heap[xb]? =some (.cells A ty (0,0))){y:Bool}(ab:A[xo]? =some (.bool y))(Z:Far xb na nb rb nc):
  Calls Tryz.prog 200 #[.pointer (some ⟨xb,xo,none⟩),.pointer (some ⟨na,0,none⟩),.pointer (some ⟨nb,0,none⟩)] w (KB na nb rb nc D xb (A.setIfInBounds xo (.bool false)) ty w):=by
 have hsz:D.size<=2000000:=by
  have:=h.few;rw[ByteArray.size_append] at this;omega
 have O:=Zh (QkC h.rdr hsz);have H:=Zh h;have U:=Zh Y;have al:w.cell? ⟨na,0,none⟩=some (.pointer (some ⟨rb,0,none⟩)):=Qb h.rptr 0;have ag:=Zh ab;obtain⟨ap,n2,aq,aj,ar,ak⟩:=h.ne;have M:=Zh Z;clear h Y ab Z;go_enter Tryz.func200,Tryz.ntmps200;go_wp2_with fail;refine O.out.mono ?_
 rintro e w2 ⟨rfl,aa,I⟩;have af:=Zh aa;have Q:=Zh I;have am:w2.cell? ⟨nb,0,none⟩=some (.pointer (some ⟨nc,0,none⟩)):=Qb (I.keep H.out.gptr aj) 0;have E:=I.keep H.out.good (fun e=>ak e.symm);have ah:w2.cell? ⟨nc,0,none⟩=some (.bool true):=Qb E 0;have ai:=Qg E 0 none;have ae:=Zh E;clear aa I E O al;go_upto_region 1 with fail
 go_region;have J:Qa (fun i=>i=nc) w2 (w2.setCell ⟨nc,0,none⟩ (.bool true)).drew :=((Zr (fun i=>i=nc) w2).setCell (p:=⟨nc,0,none⟩) (fun _=>rfl) _).drew;have N:(w2.setCell ⟨nc,0,none⟩ (.bool true)).drew.heap[nc]? =some (.cells #[.bool true] 4 (0,0)):=Qi (o:=0) ae.out (.bool true);have ac:=J.keep (Q.out.keep U.out M.out.2.2.1) M.out.2.2.2;have ao:=Zh J;have an:=Zh N;have W:=Zh ac;have ad:Hid (∀V,KB na nb rb nc D xb (A.setIfInBounds xo V) ty w (.returned (.tuple #[])) (((w2.setCell ⟨nc,0,none⟩ (.bool true)).drew).setCell ⟨xb,xo,none⟩ V)):=Zh (fun V=>Qe9 H.out U.out M.out af.out Q.out J N hsz);clear am ah ai J N ac;generalize (w2.setCell ⟨nc,0,none⟩ (.bool true)).drew =w4 at*
 have x0:=(Qb W.out xo).trans ag.out;have au:=Qg W.out xo none;go_wp2_with fail;go_end0;exact ad.out _
def Xd(rp gp:Nat):Array Value:= #[.func (.func 198) #[] #[.pointer (some ⟨rp,0,none⟩),.pointer (some ⟨gp,0,none⟩)],.func (.func 199) #[] #[.pointer (some ⟨rp,0,none⟩),.pointer (some ⟨gp,0,none⟩)],.func (.func 200) #[] #[.pointer (some ⟨rp,0,none⟩),.pointer (some ⟨gp,0,none⟩)]]
theorem Qab{v:Nat}(h:QP w na nb rb nc (str (num v)++D))(I:w.heap[xb]? =some (.cells A ty (0,0)))(Q:A[xo]? =some (.int .i64 0))(ad:Far xb na nb rb nc)(ar:v<=2000000):
  Calls Tryz.prog 195 #[.agg #[.func (.func 198) #[] #[.pointer (some ⟨na,0,none⟩),.pointer (some ⟨nb,0,none⟩)],.func (.func 199) #[] #[.pointer (some ⟨na,0,none⟩),.pointer (some ⟨nb,0,none⟩)],.func (.func 200) #[] #[.pointer (some ⟨na,0,none⟩),.pointer (some ⟨nb,0,none⟩)]],.pointer (some ⟨xb,xo,none⟩)] w (KB na nb rb nc D xb (A.setIfInBounds xo (.int .i64 v)) ty w):=by
 have H:=Zh h;have ao:=Zh I;have ak:=Zh Q;have U:=Zh ad;have x0:w.cell? ⟨xb,xo,none⟩=some (.int .i64 0):=(Qb I xo).trans Q;have au:=Ql I;have l1:=Ql h.rptr;have l2:=Ql h.gptr;have aw:rb<w.heap.size:=Ql h.rdr;have ax:=Ql h.good;clear h I Q ad;go_enter Tryz.func195,Tryz.ntmps195;go_upto_region 2 with fail
 have ah:=Qf (w:=w) (.cells (Xd na nb) 220);have aj:(w.alloc (.cells (Xd na nb) 220)).heap.size =w.heap.size+1:=by simp
 have M:=Qf (w:=w.alloc (.cells (Xd na nb) 220)) (.cells #[.int .u64 0] 30);rw[aj] at M;have u1:Qa Ze w (w.alloc (.cells (Xd na nb) 220)):=(Zr _ w).alloc _;have u2:Qa Ze (w.alloc (.cells (Xd na nb) 220)) ((w.alloc (.cells (Xd na nb) 220)).alloc (.cells #[.int .u64 0] 30)):=(Zr _ _).alloc _;have ai:=u2.keep ah (fun f=>f);have N:=u1.trans u2 (fun _ _ f=>f);change Code.wp _ _ _ _ ((w.alloc (.cells (Xd na nb) 220)).alloc (.cells #[.int .u64 0] 30));clear u1 u2 ah aj;generalize (w.alloc (.cells (Xd na nb) 220)).alloc (.cells #[.int .u64 0] 30)=w2 at*
 generalize hwb:w.heap.size=wb at*
 have an:=Zh hwb;have Y:=Zh N;have aq:w2.cell? ⟨wb,0,none⟩=some (.func (.func 198) #[] #[.pointer (some ⟨na,0,none⟩),.pointer (some ⟨nb,0,none⟩)]):=Qb ai 0;have W:=Zh (Qa5 (xb:=wb+1) (xo:=0) (H.out.Qc N) M rfl ⟨by omega,by omega,by omega,by omega⟩ ar 1073741824 (by omega));clear N M ai hwb;go_wp2_with fail;refine W.out.mono ?_
 rintro e E ⟨rfl,ag,ae,O⟩;have al:=Zh ag;have J:=O.keep (Y.out.keep ao.out (fun f=>f)) (by
  obtain⟨Z,aa,ab,ac⟩:=U.out;omega)
 have ap:=Zh J;have ay:E.cell? ⟨wb+1,0,none⟩=some (.int .u64 v):=Qb ae 0;have az:E.cell? ⟨xb,xo,none⟩=some (.int .i64 0):=(Qb J xo).trans ak.out;have aA:=Qg J xo none;have am:Hid (Qa (fun i=>i=rb\/i=nc\/i=xb) w E):=Zh ((Y.out.mono (T:=fun i=>i=rb\/i=nc\/i=xb) (fun _ _ f=>f.elim)).trans O (fun i hi e=>by
  have:=an.out;omega))
 have av:IntKind.i64.wrap (v:Int)=v:=IntWalk.i64_in _ (by omega);clear ag ae O J aq W;go_wp2_with fail;go_end0;have af:Qa (fun i=>i=xb) E (E.setCell ⟨xb,xo,none⟩ (.int .i64 (v:Int))):=(Zr (fun i=>i=xb) E).setCell (p:=⟨xb,xo,none⟩) (fun _=>rfl) _;obtain⟨Z,aa,ab,ac⟩:=U.out;exact⟨rfl,al.out.upd af (fun e=>Z e.symm) (fun e=>aa e.symm) (fun e=>ab e.symm) (fun e=>ac e.symm),Qi (o:=xo) ap.out (.int .i64 (v:Int)),am.out.trans af (fun i _ e=>.inr (.inr e))⟩
theorem Qrf(h:QP w na nb rb nc (str (num 0)++D))(I:w.heap[xb]? =some (.cells A ty (0,0)))(Q:A[xo]? =some (.slice none 0 0))(Z:Far xb na nb rb nc)(ar:Value):
  Calls Tryz.prog 244 #[.agg #[.func (.func 198) #[] #[.pointer (some ⟨na,0,none⟩),.pointer (some ⟨nb,0,none⟩)],.func (.func 199) #[] #[.pointer (some ⟨na,0,none⟩),.pointer (some ⟨nb,0,none⟩)],.func (.func 200) #[] #[.pointer (some ⟨na,0,none⟩),.pointer (some ⟨nb,0,none⟩)]],.pointer (some ⟨xb,xo,none⟩),.int .u64 5,ar] w (KB na nb rb nc D xb A ty w):=by
 have H:=Zh h;have an:=Zh I;have ag:=Zh Q;have ah:=Zh Z;have x0:w.cell? ⟨xb,xo,none⟩=some (.slice none 0 0):=(Qb I xo).trans Q;have az:=Ql I;have l1:=Ql h.rptr;have l2:=Ql h.gptr;have aA:rb<w.heap.size:=Ql h.rdr;have aB:=Ql h.good;clear h I Q Z;go_enter Tryz.func244,Tryz.ntmps244;go_upto_region 2 with fail
 have ac:=Qf (w:=w) (.cells (Xd na nb) 220);have ae:(w.alloc (.cells (Xd na nb) 220)).heap.size =w.heap.size+1:=by simp
 have J:=Qf (w:=w.alloc (.cells (Xd na nb) 220)) (.cells #[.int .u64 0] 30);rw[ae] at J;have u1:Qa (fun _=>False) w (w.alloc (.cells (Xd na nb) 220)):=(Zr _ w).alloc _;have u2:Qa (fun _=>False) (w.alloc (.cells (Xd na nb) 220)) ((w.alloc (.cells (Xd na nb) 220)).alloc (.cells #[.int .u64 0] 30)):=(Zr _ _).alloc _;have ad:=u2.keep ac (fun f=>f);have N:=u1.trans u2 (fun _ _ f=>f);change Code.wp _ _ _ _ ((w.alloc (.cells (Xd na nb) 220)).alloc (.cells #[.int .u64 0] 30));clear u1 u2 ac ae;generalize (w.alloc (.cells (Xd na nb) 220)).alloc (.cells #[.int .u64 0] 30)=w2 at*
 generalize hwb:w.heap.size=wb at*
 have am:=Zh hwb;have Y:=Zh N;have aq:w2.cell? ⟨wb,0,none⟩=some (.func (.func 198) #[] #[.pointer (some ⟨na,0,none⟩),.pointer (some ⟨nb,0,none⟩)]):=Qb ad 0;have W:=Zh (Qa5 (xb:=wb+1) (xo:=0) (v:=0) (H.out.Qc N) J rfl ⟨by omega,by omega,by omega,by omega⟩ (by omega) 5 (by omega));clear N J ad hwb;go_wp2_with fail;refine W.out.mono ?_
 rintro e E ⟨rfl,ab,aa,O⟩;have ai:=Zh ab;have U:=O.keep (Y.out.keep an.out (fun f=>f)) (by
  obtain⟨av,aw,ax,ay⟩:=ah.out;omega)
 have ao:=Zh U;have au:E.cell? ⟨wb+1,0,none⟩=some (.int .u64 0):=Qb aa 0;have af:E.cell? ⟨xb,xo,none⟩=some (.slice none 0 0):=(Qb U xo).trans ag.out;have ak:Hid (Qa (fun i=>i=rb\/i=nc\/i=xb) w E):=Zh ((Y.out.mono (T:=fun i=>i=rb\/i=nc\/i=xb) (fun _ _ f=>f.elim)).trans O (fun i hi e=>by
  have:=am.out;omega))
 clear ab aa O U aq W;go_upto_region 3 with fail
 go_quiet (fail);have M:=(Zr (fun _=>False) E).drewN nq;have aC:(E.drewN nq).cell? ⟨xb,xo,none⟩=some (.slice none 0 0):=af;have aj:=Zh (ai.out.Qc M);have ap:=Zh (M.keep ao.out (fun f=>f));have al:=Zh (ak.out.drewN nq);clear M af au;generalize E.drewN nq=w4 at*
 go_wp2_with fail;go_loopw [37] (fun x wr=>x= .int .i64 0/\wr=w4) (fun x _=>0)
 case atStart=>exact⟨rfl,rfl⟩
 case round=>
  obtain⟨rfl,rfl⟩:=hrel;go_wp2_with fail;go_end0;exact⟨rfl,aj.out,ap.out,al.out⟩
theorem Qrg(h:QP w na nb rb nc (str (num 0)++D))(J:w.heap[xb]? =some (.cells A ty (0,0)))(Q:A[xo]? =some (.slice none 0 0))(M:Far xb na nb rb nc):
  Calls Tryz.prog 197 #[.agg #[.func (.func 198) #[] #[.pointer (some ⟨na,0,none⟩),.pointer (some ⟨nb,0,none⟩)],.func (.func 199) #[] #[.pointer (some ⟨na,0,none⟩),.pointer (some ⟨nb,0,none⟩)],.func (.func 200) #[] #[.pointer (some ⟨na,0,none⟩),.pointer (some ⟨nb,0,none⟩)]],.pointer (some ⟨xb,xo,none⟩)] w (KB na nb rb nc D xb A ty w):=by
 have H:=Zh h;have ad:=Zh J;have W:=Zh Q;have Y:=Zh M;clear h J Q M;go_enter Tryz.func197,Tryz.ntmps197;go_upto_region 1 with fail
 have I:=Qf (w:=w) (.cells (Xd na nb) 220);have E:Qa Ze w (w.alloc (.cells (Xd na nb) 220)):=(Zr _ w).alloc _;change Code.wp _ _ _ _ (w.alloc (.cells (Xd na nb) 220));generalize w.alloc (.cells (Xd na nb) 220)=w2 at*
 generalize hwb:w.heap.size=wb at*
 have ab:=Zh E;have ag:w2.cell? ⟨wb,0,none⟩=some (.func (.func 198) #[] #[.pointer (some ⟨na,0,none⟩),.pointer (some ⟨nb,0,none⟩)]):=Qb I 0;have ah:w2.cell? ⟨wb,1,none⟩=some (.func (.func 199) #[] #[.pointer (some ⟨na,0,none⟩),.pointer (some ⟨nb,0,none⟩)]):=Qb I 1;have ai:w2.cell? ⟨wb,2,none⟩=some (.func (.func 200) #[] #[.pointer (some ⟨na,0,none⟩),.pointer (some ⟨nb,0,none⟩)]):=Qb I 2;have Z:=Zh (fun af=>Qrf (xo:=xo) (H.out.Qc E) (E.keep ad.out (fun f=>f)) W.out Y.out af);clear E I hwb;go_wp2_with fail;refine (Z.out _).mono ?_
 rintro e aj ⟨rfl,N,U,O⟩;have aa:=Zh N;have ae:=Zh U;have ac:=Zh O;clear N U O;go_wp2_with fail;go_end0;exact⟨rfl,aa.out,ae.out,(ab.out.mono (T:=fun i=>i=rb\/i=nc\/i=xb) (fun _ _ f=>f.elim)).trans ac.out (fun _ _ h=>h)⟩
end
end Go.Proofs.YtbleblbfadeciaaGreatDoor
