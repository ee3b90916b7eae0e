/- Lemmas and contracts, part 15. -/
import Derived.Test.YtafomdobfmmleaaGreatDoorZk14
import Derived.Lib.DecodeN
/- Lemmas and contracts. -/
namespace Go.Proofs.YtafomdobfmmleaaGreatDoor
open Go.RowKit
set_option linter.unusedVariables false
def AD (c:Nat):Nat:=if c<128 then 1 else if 194<=c/\c<224 then 2 else if 224<=c/\c<240 then 3 else if 240<=c/\c<245 then 4 else 0
def yy (b:Nat):Bool:=decide (128<=b/\b<192)
def Xc (n:Nat):Nat:=if n=2 then 128 else if n=3 then 2048 else if n=4 then 65536 else 0
def G0 (n v:Nat):Nat×Nat:=if v<Xc n\/1114111<v\/(55296<=v/\v<57344) then(0,0) else(v,n)
def Xd (n b0 b1 b2 b3:Nat):Nat×Nat:=
 if AD b0=0\/n<AD b0 then(0,0)
 else if AD b0=1 then(b0,1)
 else if AD b0=2 then(if yy b1 then G0 2 (b0%32*64+b1%64) else(0,0))
 else if AD b0=3 then(if yy b1&&yy b2 then G0 3 ((b0%16*64+b1%64)*64+b2%64) else(0,0))
 else(if yy b1&&yy b2&&yy b3 then G0 4 (((b0%8*64+b1%64)*64+b2%64)*64+b3%64) else(0,0))
end Go.Proofs.YtafomdobfmmleaaGreatDoor
