/- TopKept answers true for every first byte and every row of bytes, where the tables of the library that its code reads are as the text of the program lays them. -/
import Derived.Test.YtbleblbfadeciaaGreatDoorFy
import Derived.Test.YtbleblbfadeciaaGreatDoorHjd
set_option linter.all false
set_option maxHeartbeats 16000000
set_option maxRecDepth 10000
namespace Go.Proofs.YtbleblbfadeciaaGreatDoor.topKept
open Go.ChangeShapes Go.WideShapes Go.ChangeAt Go.RowKit
theorem nat_bytes: ∀{z:List Int},(∀n∈z,(Lit.int .u8 n).wf =true)-> ∃E:List Nat,z=E.map (fun (x:Nat)=>(x:Int))/\ ∀x∈E,x<256
 |[],_=>⟨[],rfl,fun x D=>by cases D⟩
 |
  a::z,h=>by
  obtain⟨E,M,J⟩:=nat_bytes (z:=z) (fun n hn=>h n (List.mem_cons_of_mem _ hn))
  obtain⟨I,N⟩:=Go.Acre.byte_of_wf (h a (by simp))
  refine⟨a.toNat::E,?_,fun x D=> ?_⟩
  ·rw[List.map_cons,Int.toNat_of_nonneg I,M]
  ·rcases List.mem_cons.1 D with e|D
   ·omega
   ·exact J x D
theorem walk:Qcr:=by
 intro Q U Z W aa w N O I;obtain⟨D,Y⟩:=Go.Acre.byte_of_wf N;obtain⟨a,rfl⟩:=Int.eq_ofNat_of_zero_le D;obtain⟨wz,E,J⟩:=O;obtain⟨ab,rfl,M⟩:=nat_bytes J;refine (QmV I (by omega) wz (by simpa using E) M (fun _ _=>trivial)).mono fun e w' h=>⟨h.1,h.2.below (fun _ _ f=>f)⟩
theorem proved:Rows.TopKeptCardSaid:=QoM walk
end Go.Proofs.YtbleblbfadeciaaGreatDoor.topKept
