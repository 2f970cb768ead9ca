/- For TopKept. -/
import Derived.Test.YtbleblbfadeciaaGreatDoorCards
import Derived.Lib.ItoaNum
import Derived.Lib.LaidU8
import Derived.SevenTiedAt
import Derived.Test.YtbleblbfadeciaaGreatDoorTie
import Derived.Test.YtbleblbfadeciaaGreatDoorS
import Derived.WalkKit
import Derived.ProofKit
import Derived.OpenShut
import Derived.ChangeOld
import Derived.Below
import Derived.SizedLaws
import Derived.JoinedCond
import Derived.LaidMore
import Derived.LaidHandle
import Derived.Stop.Joined
import Derived.MakeChecks
set_option linter.all false
set_option maxHeartbeats 16000000
set_option maxRecDepth 10000
namespace Go.Proofs.YtbleblbfadeciaaGreatDoor.topKept
open Go.RowKit
theorem gTab:Tryz.prog.globalNamed "internal/strconv.uint64pow10" =some 2:=by kernel_rfl
theorem QnL:Rows.topKeptRow.laid[2]? =some ("internal/strconv.uint64pow10",Lib.tabData .u64 Lib.pow10Tab):=by kernel_rfl
theorem Qrb{D:World}(E:laidMet Tryz.prog Rows.topKeptRow.laid D):Lib.TabIs Tryz.prog D "internal/strconv.uint64pow10" .u64 Lib.pow10Tab:=by
 obtain⟨g,t,Q,fuel,p,J,M,O,I⟩:=Lib.laidMet.reads E (List.mem_of_getElem? QnL);obtain rfl:=Option.some.inj (gTab.symm.trans J);have N:(Tryz.prog.globals[2]?).map (·.type)=some 344:=by kernel_rfl
 obtain rfl:=Option.some.inj (N.symm.trans M);unfold Lib.TabIs;rw[O,<-Lib.cells_of_tab (n:=20) (e:=30) (by kernel_rfl) (by kernel_rfl) (by kernel_rfl) (by kernel_rfl) I]
end Go.Proofs.YtbleblbfadeciaaGreatDoor.topKept
namespace Go.Proofs.YtbleblbfadeciaaGreatDoor.topKept
open Go.ChangeShapes Go.WideShapes Go.ChangeAt Go.RowKit
set_option linter.unusedVariables false
theorem own:ownKnob Tryz.prog.godebug=none:=by kernel_rfl
theorem laidOut:laidOutB Tryz.prog=true:=by kernel_rfl
noncomputable def laidWorld(os:Os):World:=
 let w0:=World.doorLaid Tryz.prog 72 os
 {w0 with heap:=w0.heap.modify 3 fun
  | .cells _ t frozen=>.cells (Pinned.utf8FirstZ.map fun (z:Nat)=>Value.int .u8 (z:Int)).toArray t frozen
  |o=>o}
theorem door_met(os:Os)(args:Array Value):laidMetH Tryz.prog Rows.topKeptRow.laid ((laidWorld os).forCall (fun _ _=>0) ⟨#[],args,[]⟩).memory :=by
 rw[MakeChecks.laidMetH_plain _ _ _ (by kernel_rfl)];exact laidMet_of_run' 8 (by kernel_rfl) (by kernel_rfl)
def Qcr:Prop:= ∀(a0:Int) (a1:Option Addr) (len1 cap1:Nat) (z1:List Int) (w:World) (w0:(Lit.int .u8 a0).wf =true) (w1:Acre.QN .u8 w (.slice a1 len1 cap1) z1∧len1=z1.length∧ ∀n∈z1,(Lit.int .u8 n).wf =true) (ht:Lib.TabIs Tryz.prog w "internal/strconv.uint64pow10" .u64 Lib.pow10Tab),
  Calls Tryz.prog 3 #[.int .u8 a0,.slice a1 len1 cap1] w fun e w'=>e= .returned (.bool true)/\Below w.heap.size w w'
set_option maxRecDepth 100000 in
theorem lifted(walk:Qcr)(os:Os)(started:os.Started)(H:Type)(enc:TypeId×Value->H):
  ReturnsInHanded {} Tryz.checked os 3 .any (fun w args=>(Rows.topKeptSpec.pre enc Tryz.prog Tryz.f3 [] false w args/\laidMetH Tryz.prog Rows.topKeptRow.laid w)/\sizedMet enc Tryz.prog Tryz.f3 (OpenSpec.ofChange Rows.topKeptSpec) false w args) (Rows.topKeptSpec.post enc Tryz.prog Tryz.f3 false true false false):=by
 refine returnsInHanded_of_change_and (C:=Tryz.checked) (X:=fun w _=>laidMetH Tryz.prog Rows.topKeptRow.laid w) (fun _ _ _ hh h=>h.of_heap hh) own started (by kernel_rfl) Tryz.func3
  (ChangeSpec.witness_shaped (enc:=enc) (C:=Tryz.checked) (os:=os) (X:=fun w _=>laidMetH Tryz.prog Rows.topKeptRow.laid w) false (laidWorld os) #[.int .u8 0,.slice none 0 0] 8 rfl (World.shaped_of_RefB (by kernel_rfl) (by kernel_rfl)) (by kernel_rfl) (by kernel_rfl) (by kernel_rfl) (door_met os _)) ?_
 intro D base args ae aD before Y W _ _ af _;have J: ∀(j:Nat) t v,Tryz.f3.params[j]? =some t→args[j]? =some v→Value.okWide Tryz.prog D .any base t v:=Y;have U:laidMetH Tryz.prog Rows.topKeptRow.laid D:=af;rw[MakeChecks.laidMetH_plain _ _ _ (by kernel_rfl)] at U;have ak:Lib.TabIs Tryz.prog D "internal/strconv.uint64pow10" .u64 Lib.pow10Tab:=Qrb U;have ah:=W;obtain⟨p,q,Q,ag,rfl,aF,aG⟩:=W;have O:DataW.TrodAll enc Tryz.prog D 0 (fun _=>true) true Tryz.f3.params.toList args.toList ae p:=Q;rw[Tryz.params3] at O J;obtain⟨v0,aK,ay,aA,ao,aI,aE,rfl,rfl,M,aq⟩:=trodAll_cons O;obtain⟨v1,aL,az,aB,ap,aJ,rfl,rfl,rfl,N,ar⟩:=trodAll_cons aq;obtain⟨rfl,rfl,rfl⟩:=trodAll_nil ar;obtain rfl:args= #[v0,v1]:=by cases args;simp_all
 obtain⟨rfl,rfl⟩:=trodVars_none ag;have Z:=M;have am: ∀x∈ao,x.block<D.heap.size:=by obtain⟨m,I⟩:=Z;exact DataW.trod_lt m _ _ _ I
 obtain⟨ab,rfl,rfl,aH,au⟩:=open_int Tryz.underlying5 (J 0 5 v0 rfl rfl) M;have aa:=N;have an: ∀x∈ap,x.block<D.heap.size:=by obtain⟨m,I⟩:=aa;exact DataW.trod_lt m _ _ _ I
 obtain⟨ac,al,ad,rfl⟩:=okWide_slice Tryz.underlying22 (J 1 22 v1 rfl rfl);obtain⟨aC,aj⟩:=N;obtain⟨aw,av⟩:=Acre.Qjy (k:=.u8) Tryz.underlying22 Tryz.underlying5 (by kernel_rfl) aj;clear Q Y;refine (walk ab ac al ad aw D au av ak).mono fun e ax ⟨ai,E⟩=> ?_
 subst ai;exact⟨_,rfl,_,_,_,[],_,[],ah,trodAll_mk1 (shut_bool Tryz.underlying4 _),(trodAll_cons_mk (Below.trod laidOut (by kernel_rfl) (of_decide_eq_true (by kernel_rfl)) Z E am) (trodAll_cons_mk (Below.trod laidOut (by kernel_rfl) (of_decide_eq_true (by kernel_rfl)) aa E an) trodAll_mk0)),rfl,E.frame _,fun h=>by cases h⟩
theorem over(walk:Qcr):Rows.TopKeptSaid:=
 OpenClaim.holds_of_wide 3 Tryz.f3 rfl rfl rfl rfl rfl rfl rfl ⟨rfl,rfl,rfl,rfl,rfl⟩ rfl rfl rfl rfl rfl (by kernel_rfl) Tryz.func3 (by kernel_rfl)
  (of_decide_eq_true (by kernel_rfl)) (by unfold Func.isWrapper;first|(rw[if_pos (by decide+kernel)];kernel_rfl)|(rw[if_neg (by decide+kernel)];exact⟨rfl,rfl⟩))
  (fun os started H enc _=>lifted walk os started H enc)
theorem QoM(walk:Qcr):Rows.TopKeptCardSaid:=
 Claim7.holds_tied_plain_at .later [] [.data,.data,.data,.data,.sentinel,.sentinel,.pinned] true (true,"7d845412652de5c45b022fdba98fb617febd5977d664b665ac6a17db2389192c") true
  (over walk) (fun _ h=>by cases h) (by kernel_rfl) (fun _ h=>by cases h) topKept_row_tie rfl ⟨rfl,rfl⟩ (by kernel_rfl) rfl
  (fun f fn I J=>by
   obtain rfl:f=3:=Option.some.inj ((show Tryz.prog.funcNamed "acreage/acreagetop.TopKept" =some 3 by kernel_rfl).symm.trans I) |>.symm
   obtain rfl:fn=Tryz.f3:=(Option.some.inj (Tryz.func3.symm.trans J)).symm
   exact⟨by kernel_rfl,fun j t D=>by
    rw[Tryz.params3] at D
    have M:t∈[5,22]:=by simpa using Array.mem_of_getElem? D
    have E:([5,22].all fun u=> !Tryz.prog.wantsStandIn u)=true:=by kernel_rfl
    exact (show Tryz.prog.wantsStandIn t=false by simpa using List.all_eq_true.1 E t M)⟩)
  (by kernel_rfl)
end Go.Proofs.YtbleblbfadeciaaGreatDoor.topKept
