/- Lemmas and contracts, part 15. -/
import Derived.Test.YtafomdobfmmleaaGreatDoorZp14
import Derived.Lib.DecodeN
namespace Go.Proofs.YtafomdobfmmleaaGreatDoor
set_option linter.unusedVariables false
open Go.RowKit
def eW (c:Nat):Nat:=if c<128 then 1 else if 194<=c/\c<224 then 2 else if 224<=c/\c<240 then 3 else if 240<=c/\c<245 then 4 else 0
def qP (b:Nat):Bool:=decide (128<=b/\b<192)
def BM (n:Nat):Nat:=if n=2 then 128 else if n=3 then 2048 else if n=4 then 65536 else 0
def wA (n v:Nat):Nat×Nat:=if v<BM n\/1114111<v\/(55296<=v/\v<57344) then(0,0) else(v,n)
def qH (n b0 b1 b2 b3:Nat):Nat×Nat:=
 if eW b0=0\/n<eW b0 then(0,0)
 else if eW b0=1 then(b0,1)
 else if eW b0=2 then(if qP b1 then wA 2 (b0%32*64+b1%64) else(0,0))
 else if eW b0=3 then(if qP b1&&qP b2 then wA 3 ((b0%16*64+b1%64)*64+b2%64) else(0,0))
 else(if qP b1&&qP b2&&qP b3 then wA 4 (((b0%8*64+b1%64)*64+b2%64)*64+b3%64) else(0,0))
theorem Kb (k v:Nat) (hk:1<=k):(if(wA k v).2=0 then((65533,1):Nat×Nat) else wA k v)=if v>=BM k/\(v<55296\/(57344<=v/\v<=1114111)) then(v,k) else(65533,1):=by
 unfold wA
 by_cases h:v<BM k\/1114111<v\/(55296<=v/\v<57344)
 ·rw[if_pos h,if_pos rfl,if_neg (by omega)]
 ·rw[if_neg h,if_pos (show v>=BM k/\_ by omega),if_neg (show ¬k=0 by omega)]
theorem BE (b:Nat) (h:b<256):qP b=decide (b/64=2):=by
 unfold qP
 by_cases k:b/64=2
 ·rw[decide_eq_true k,decide_eq_true (by omega)]
 ·rw[decide_eq_false k,decide_eq_false (by omega)]
theorem Vl (n b0 b1 b2 b3:Nat) (hn:1<=n) (h0:b0<256) (h1:b1<256) (h2:b2<256) (h3:b3<256):
 Lib.decodeN n b0 b1 b2 b3=if(qH n b0 b1 b2 b3).2=0 then(65533,1) else qH n b0 b1 b2 b3:=by
 have hc:b0<128\/(128<=b0/\b0<194)\/(194<=b0/\b0<224)\/(224<=b0/\b0<240)\/(240<=b0/\b0<245)\/245<=b0:=by omega
 rcases hc with hc|hc|hc|hc|hc|hc
 ·have hs:eW b0=1:=by unfold eW;rw[if_pos hc]
  unfold Lib.decodeN qH
  rw[hs,if_pos hc,if_neg (show ¬((1:Nat)=0\/n<1) by omega),if_pos rfl]
  simp
 ·have hs:eW b0=0:=by unfold eW;rw[if_neg (by omega),if_neg (by omega),if_neg (by omega),if_neg (by omega)]
  unfold Lib.decodeN qH
  rw[hs]
  simp only[true_or,if_true]
  repeat' split
  all_goals first|rfl|(exfalso;omega)
 ·have hs:eW b0=2:=by unfold eW;rw[if_neg (by omega),if_pos hc]
  have hd:b0/32=6:=by omega
  unfold Lib.decodeN qH
  rw[hs,if_neg (show ¬b0<128 by omega),BE b1 h1]
  by_cases h:1<n/\b1/64=2
  ·rw[if_pos ⟨hd,h⟩,if_neg (show ¬((2:Nat)=0\/n<2) by omega),if_neg (show ¬(2:Nat)=1 by omega),if_pos rfl,if_pos (decide_eq_true h.2),Kb 2 _ (by omega)]
   have hv:b0%32*64+b1%64<2048:=by omega
   generalize b0%32*64+b1%64=v at*
   by_cases h5:v>=128
   ·rw[if_pos h5,if_pos ⟨h5,.inl (by omega)⟩]
   ·rw[if_neg h5,if_neg (fun h6=>h5 h6.1)]
  ·rw[if_neg (fun h'=>h h'.2),if_neg (show ¬(b0/16=14/\_) from fun h'=>by omega),if_neg (show ¬(b0/8=30/\_) from fun h'=>by omega)]
   by_cases xU:n<2
   ·rw[if_pos (show(2:Nat)=0\/n<2 from .inr xU)];rfl
   ·rw[if_neg (show ¬((2:Nat)=0\/n<2) by omega),if_neg (show ¬(2:Nat)=1 by omega),if_pos rfl,if_neg (show ¬decide (b1/64=2)=true by simp;omega)];rfl
 ·have hs:eW b0=3:=by unfold eW;rw[if_neg (by omega),if_neg (by omega),if_pos hc]
  have hd:b0/16=14:=by omega
  unfold Lib.decodeN qH
  rw[hs,if_neg (show ¬b0<128 by omega),BE b1 h1,BE b2 h2,if_neg (show ¬(b0/32=6/\_) from fun h'=>by omega)]
  have e:(b0%16*64+b1%64)*64+b2%64=b0%16*4096+b1%64*64+b2%64:=by omega
  obtain⟨v,hv⟩:∃v,b0%16*4096+b1%64*64+b2%64=v:=⟨_,rfl⟩
  have e2:=e.trans hv
  rw[e2,hv]
  clear hv e e2
  by_cases h:(1<n/\b1/64=2)/\(2<n/\b2/64=2)
  ·rw[if_pos ⟨hd,h⟩,if_neg (show ¬((3:Nat)=0\/n<3) by omega),if_neg (show ¬(3:Nat)=1 by omega),if_neg (show ¬(3:Nat)=2 by omega),if_pos rfl,if_pos (show(decide (b1/64=2)&&decide (b2/64=2))=true by simp;omega),Kb 3 _ (by omega)]
   rfl
  ·rw[if_neg (fun h'=>h h'.2),if_neg (show ¬(b0/8=30/\_) from fun h'=>by omega)]
   by_cases xU:n<3
   ·rw[if_pos (show(3:Nat)=0\/n<3 from .inr xU)];rfl
   ·rw[if_neg (show ¬((3:Nat)=0\/n<3) by omega),if_neg (show ¬(3:Nat)=1 by omega),if_neg (show ¬(3:Nat)=2 by omega),if_pos rfl,if_neg (show ¬(decide (b1/64=2)&&decide (b2/64=2))=true by simp;omega)];rfl
 ·have hs:eW b0=4:=by unfold eW;rw[if_neg (by omega),if_neg (by omega),if_neg (by omega),if_pos hc]
  unfold Lib.decodeN qH
  rw[hs,if_neg (show ¬b0<128 by omega),BE b1 h1,BE b2 h2,BE b3 h3,if_neg (show ¬(b0/32=6/\_) from fun h'=>by omega),if_neg (show ¬(b0/16=14/\_) from fun h'=>by omega)]
  have e:((b0%8*64+b1%64)*64+b2%64)*64+b3%64=b0%8*262144+b1%64*4096+b2%64*64+b3%64:=by omega
  have hd:b0/8=30:=by omega
  obtain⟨v,hv⟩:∃v,b0%8*262144+b1%64*4096+b2%64*64+b3%64=v:=⟨_,rfl⟩
  have e2:=e.trans hv
  rw[e2,hv]
  clear hv e e2
  by_cases h:(1<n/\b1/64=2)/\(2<n/\b2/64=2)/\(3<n/\b3/64=2)
  ·rw[if_pos ⟨hd,h⟩,if_neg (show ¬((4:Nat)=0\/n<4) by omega),if_neg (show ¬(4:Nat)=1 by omega),if_neg (show ¬(4:Nat)=2 by omega),if_neg (show ¬(4:Nat)=3 by omega),if_pos (show(decide (b1/64=2)&&decide (b2/64=2)&&decide (b3/64=2))=true by simp;omega),Kb 4 _ (by omega)]
   rfl
  ·rw[if_neg (fun h'=>h h'.2)]
   by_cases xU:n<4
   ·rw[if_pos (show(4:Nat)=0\/n<4 from .inr xU)];rfl
   ·rw[if_neg (show ¬((4:Nat)=0\/n<4) by omega),if_neg (show ¬(4:Nat)=1 by omega),if_neg (show ¬(4:Nat)=2 by omega),if_neg (show ¬(4:Nat)=3 by omega),if_neg (show ¬(decide (b1/64=2)&&decide (b2/64=2)&&decide (b3/64=2))=true by simp;omega)];rfl
 ·have hs:eW b0=0:=by unfold eW;rw[if_neg (by omega),if_neg (by omega),if_neg (by omega),if_neg (by omega)]
  unfold Lib.decodeN qH
  rw[hs]
  simp only[true_or,if_true]
  repeat' split
  all_goals first|rfl|(exfalso;omega)
end Go.Proofs.YtafomdobfmmleaaGreatDoor
