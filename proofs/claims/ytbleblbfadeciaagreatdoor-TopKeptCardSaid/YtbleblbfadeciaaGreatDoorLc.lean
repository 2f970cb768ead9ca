/- For TopKept: loads and stores of many cells, and append, under names that the walk does not open. -/
import Derived.WalkKit
namespace Go.Proofs.YtbleblbfadeciaaGreatDoor
open Go
def LdC(a:Addr)(n:Nat):Sem (Array Value):=loadCells a n
def StC(a:Addr)(vs:List Value)(i:Nat:=0):Sem Unit:=storeCells a vs i
def ApC(x:Array TypeId)(t:TypeId)(y:Array Value):Sem Value:=Builtin.append_ x t y
theorem LcG(a:Addr)(n:Nat):loadCells a n=LdC a n:=rfl
theorem ScG(a:Addr)(vs:List Value)(i:Nat):storeCells a vs i=StC a vs i:=rfl
theorem ApG(x:Array TypeId)(t:TypeId)(y:Array Value):Builtin.append_ x t y=ApC x t y:=rfl
theorem Sc1(a:Addr)(v:Value):StC a [v]=(do store (a.add 0) v;pure ()):=rfl
theorem Sc2(a:Addr)(v u:Value):StC a [v,u]=(do store (a.add 0) v;store (a.add 1) u;pure ()):=rfl
theorem Sc3(a:Addr)(v u x:Value):StC a [v,u,x]=(do store (a.add 0) v;store (a.add 1) u;store (a.add 2) x;pure ()):=rfl
theorem Lc2(a:Addr):LdC a 2=(do let x<-load (a.add 0);let y<-load (a.add 1);pure #[x,y]):=rfl
theorem Lc3(a:Addr):LdC a 3=(do let x<-load (a.add 0);let y<-load (a.add 1);let z<-load (a.add 2);pure #[x,y,z]):=rfl
end Go.Proofs.YtbleblbfadeciaaGreatDoor
