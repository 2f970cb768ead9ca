/- For TopKept. -/
import Derived.Test.YtbleblbfadeciaaGreatDoorL
import Derived.SliceStrings
import Derived.OpenShut
import Derived.ProofKit
set_option linter.all false
set_option maxHeartbeats 16000000
set_option maxRecDepth 10000
namespace Go.Acre
open Go.ChangeShapes Go.WideShapes Go.RowKit
theorem Qjy{H:Type}{enc:TypeId×Value->H}{P:Program}{w:World}{base:Nat}{held:Bool}{k:IntKind}{t e:TypeId}{fuel len cap:Nat}{a:Option Addr}{x:DataW H×List MemPlace}
  (O:P.underlying t=some (.slice e)) (J:P.underlying e=some (.int k)) (E:P.cellsOf e=1) (h:DataW.trod enc P w base (fun _=>true) held fuel t (Value.slice a len cap).cells.toList =some x):
  ∃zs,QN k w (.slice a len cap) zs/\len=zs.length/\ ∀n∈zs,(Lit.int k n).wf =true:=by
 rcases open_ints O J E h with ⟨D,_⟩|⟨x,l,c,zs,D,_,M,N,U,_,I,Q⟩
 ·simp[Value.cells] at D
  obtain⟨rfl,rfl,rfl⟩:=D;exact⟨[],QN.nil k w,rfl,by simp⟩
 ·simp[Value.cells] at D
  obtain⟨rfl,rfl,rfl⟩:=D;have W:zs.length=cap:=by simpa using U
  have:=Qjx (k:=k) (w:=w) (a:=some x) (len:=len) (cap:=cap) (zs:=zs) (.inr ⟨x,rfl,M,N,W,I,Q⟩);exact⟨zs.take len,this.1,by simp;omega,this.2⟩
end Go.Acre
