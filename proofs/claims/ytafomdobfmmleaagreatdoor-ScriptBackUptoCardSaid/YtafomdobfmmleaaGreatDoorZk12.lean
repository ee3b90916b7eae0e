/- Lemmas and contracts, part 12. -/
import Derived.Test.YtafomdobfmmleaaGreatDoorZk11
import Derived.Laws.RangeAny
/- Lemmas and contracts. -/
namespace Go.Proofs.YtafomdobfmmleaaGreatDoor
open Go.RowKit
set_option linter.unusedVariables false
def aK (a b:Int):Int:=if a=0 then b else a
theorem bC {a b:Int}:aK a b=0<->a=0/\b=0:=by
 unfold aK
 split
 ·rename_i h;simp[h]
 ·rename_i h;simp[h]
def AS (r:Nat):Bool:=decide (r<33)||(decide (127<=r)&&decide (r<=159))||decide (r=47)||decide (r=65533)
def kC (s:ByteArray):Nat->Nat->Nat->Option Nat
 |0,_,n=>some n
 |k+1,pos,n=>if pos<s.size then if AS (Utf8.decode s pos).1 then none else kC s k (pos+(Utf8.decode s pos).2) (n+1) else some n
def sO (s:List UInt8):Nat:=
 match kC (au s) (s.length+1) 0 0 with
 |none=>0
 |some n=>if 16<n then 0 else n
def dQ (s:List UInt8):Bool:=decide (0<sO s)
def kF (o:bF):bF:=
 if o.kind=1 then⟨1,o.av,[],0,[]⟩
 else if o.kind=2 then⟨2,o.av,[],0,o.records⟩
 else if o.kind=3 then⟨3,o.av,o.group,o.offset,[]⟩
 else if o.kind=4 then⟨4,o.av,[],o.offset,[]⟩
 else⟨o.kind,[],[],0,[]⟩
def kindOk (o:bF):Bool:=decide (0<=o.kind/\o.kind<=4)
theorem bF.Ut {a b:bF}:a=b<->a.kind=b.kind/\a.av=b.av/\a.group=b.group/\a.offset=b.offset/\a.records=b.records:=by
 cases a;cases b;simp
def vP (a b:bF):Bool:=decide (a.kind=b.kind)&&decide (a.av=b.av)&&decide (a.group=b.group)&&decide (a.offset=b.offset)&&decide (a.records=b.records)
theorem BR {a b:bF}:vP a b=true<->a=b:=by
 rw[bF.Ut];simp[vP,and_assoc]
def vZ (o:bF):Bool:=o.records.any fun r=>decide (64<r.length)
def cw (o:bF):Int:=
 if kindOk o=false\/vP o (kF o)=false then 60
 else if o.kind≠0/\dQ o.av=false then 61
 else if o.kind=3/\dQ o.group=false then 61
 else if o.kind=2/\(o.records.length<1\/4<o.records.length\/vZ o=true) then 62
 else if o.offset<0\/9007199254740992<o.offset then 60
 else 0
def bB (b:List UInt8):List UInt8:=enc b.length++b
def cy (o:bF):List UInt8:=
 enc o.kind.toNat++(if o.kind=0 then[] else bB o.av)++
  (if o.kind=2 then enc o.records.length++o.records.flatMap bB else if o.kind=3 then bB o.group++enc o.offset.toNat else if o.kind=4 then enc o.offset.toNat else[])
def dZ (s:bH):Int:=if s.key<0\/21<=s.key\/s.an<1\/9007199254740992<s.an then 81 else 0
def gK (x:jg):Int:=if x.aQ<0\/8<=x.aQ\/x.time<1\/9007199254740992<x.time then 80 else cw x.op
def kn (x:jg):List UInt8:=enc x.aQ.toNat++enc x.time.toNat++cy x.op
def oG (s:bH):List UInt8:=enc s.key.toNat++enc s.an.toNat
def jl:List cq->Int
 |[]=>0
 |s::r=>aK (gK s.request) (aK (dZ s.sign) (jl r))
def NR (a b:cq):Bool:=decide (a.request.aQ=b.request.aQ)&&decide (a.request.time=b.request.time)
def xV (l:List cq):Bool:=(List.range l.length).any fun i=>(List.range i).any fun k=>match l[i]?,l[k]? with|some a,some b=>NR a b|_,_=>false
def fZ (l:List cq):Int:=if 4<l.length then 3 else aK (jl l) (if xV l then 5 else 0)
def mJ (s:cq):List UInt8:=bB (kn s.request)++oG s.sign
def qt (l:List cq):List UInt8:=enc l.length++l.flatMap mJ
end Go.Proofs.YtafomdobfmmleaaGreatDoor

/- Lemmas and contracts. -/
namespace Go.Proofs.YtafomdobfmmleaaGreatDoor
open Go.RowKit
set_option linter.unusedVariables false
theorem iq (a b c:Int):aK (aK a b) c=aK a (aK b c):=by
 unfold aK
 by_cases h:a=0<;>simp[h]
theorem kR (a:Int):aK a 0=a:=by unfold aK;split<;>simp_all
theorem vX (a:Int):aK 0 a=a:=by simp[aK]
def fE {α:Type} (f:α->Int):List α->Int
 |[]=>0
 |x::r=>aK (f x) (fE f r)
theorem Rq {α:Type} (f:α->Int) (l:List α) (x:α):fE f (l++[x])=aK (fE f l) (f x):=by
 induction l with
 |nil=>simp[fE,kR,vX]
 |cons y r ih=>simp only[List.cons_append,fE,ih,iq]
theorem fH {α:Type} {f:α->Int} {l:List α}:fE f l=0<->∀x∈l,f x=0:=by
 induction l with
 |nil=>simp[fE]
 |cons y r ih=>simp[fE,bC,ih]
def dO (n least aq:Int):Int:=if n<least\/aq<n then 100 else 0
def fX (n:Int):Int:=dO n 0 9007199254740992
def jY (n:Int):Int:=dO n 1 9007199254740992
def nM (n:Int):Int:=dO n 0 12
def jm (n:Nat) (aq:Int):Int:=dO (n:Int) 0 aq
def nN (s:List UInt8):Int:=if dQ s then 0 else 61
def pq (l:List bH):Int:=aK (jm l.length 13) (fE dZ l)
def lE (c:gU):Int:=
 aK (fX c.seq) (aK (fX c.an) (aK (if(decide (c.seq=0)!=decide (c.an=0))||(decide (c.seq=0)&&decide (0<c.cN.length)) then 100 else 0) (pq c.cN)))
def kD (p:gq):Int:=aK (fX p.view) (aK (jY p.seq) (aK (jY p.an) (aK (dZ p.lz) (aK (pq p.cN) (fZ p.batch)))))
def iM (c:cX):Int:=aK (jY c.view) (aK (nM c.src) (aK (lE c.cert) (aK (jm c.cR.length 8) (aK (fE kD c.cR) (dZ c.sign)))))
def qu (h:iS):Int:=aK (jY h.seq) (aK (fX h.prev) (aK (fX h.batch) (aK (fX h.root) (fX h.state))))
def pz (p:jL):Int:=
 aK (nN p.av) (aK (fX p.offset) (aK (jm p.record.length 64) (aK (jm p.headers.length 64) (aK (fE qu p.headers) (aK (fX p.index) (aK (dO p.count 0 16) (aK (dO p.index 0 (p.count-1)) (aK (jm p.path.length 8) (aK (fE fX p.path) (lE p.cert))))))))))
def iK (m:aN):Int:=aK (nM m.src) (aK (fX m.view) (aK (jY m.seq) (jY m.an)))
def qm (x:gH):Int:=aK (fX x.view) (aK (jY x.seq) (aK (fZ x.batch) (dZ x.sign)))
def iN (m:aN):Int:=aK (nM m.src) (aK (jY m.view) (aK (jm m.changes.length 13) (aK (fE iM m.changes) (aK (jm m.entries.length 8) (fE qm m.entries)))))
def qw (m:aN) (c:cX):Int:=aK (iM c) (if c.src≠m.src\/c.view≠m.view then 100 else 0)
def dc (k:Int):Bool:=decide (k=2)||decide (k=3)||decide (k=4)||decide (k=5)||decide (k=6)||decide (k=8)||decide (k=9)
def cG (m:aN):Int:=
 if m.kind=1 then aK (dO (m.batch.length:Int) 1 1) (fZ m.batch)
 else if m.kind=2 then aK (iK m) (fZ m.batch)
 else if m.kind=3 then iK m
 else if m.kind=4 then iK m
 else if m.kind=5 then aK (nM m.src) (aK (fX m.view) (aK (dO m.aQ 0 7) (aK (fX m.time) (aK (dO m.result.err 0 65536) (fX m.result.offset)))))
 else if m.kind=6 then aK (nM m.src) (aK (jY m.seq) (jY m.an))
 else if m.kind=7 then aK (dO (m.changes.length:Int) 1 1) (fE (qw m) m.changes)
 else if m.kind=8 then iN m
 else if m.kind=9 then aK (nM m.src) (fX m.seq)
 else if m.kind=10 then aK (nM m.src) (aK (lE m.cert) (jm m.state.length 262144))
 else if m.kind=11 then aK (dO m.aQ 0 7) (aK (nN m.av) (fX m.offset))
 else if m.kind=12 then aK (nM m.src) (pz m.proof)
 else 100
def mT (m:aN):Int:=aK (cG m) (if dc m.kind then dZ m.sign else 0)
def dD:bH:=⟨0,0⟩
def ud:lT:=⟨0,0⟩
def yf:gU:=⟨0,0,[]⟩
def CT:jL:=⟨[],0,[],[],0,0,[],yf⟩
def aO:aN:=⟨0,0,0,0,0,0,0,ud,[],yf,[],[],[],[],0,CT,dD⟩
def bU:bF:=⟨0,[],[],0,[]⟩
def aH (m:aN):aN:=
 let s:=if dc m.kind then m.sign else dD
 if m.kind=1 then{aO with kind:=m.kind,batch:=m.batch,sign:=s}
 else if m.kind=2 then{aO with kind:=m.kind,src:=m.src,view:=m.view,seq:=m.seq,an:=m.an,batch:=m.batch,sign:=s}
 else if m.kind=3\/m.kind=4 then{aO with kind:=m.kind,src:=m.src,view:=m.view,seq:=m.seq,an:=m.an,sign:=s}
 else if m.kind=5 then{aO with kind:=m.kind,src:=m.src,view:=m.view,aQ:=m.aQ,time:=m.time,result:=m.result,sign:=s}
 else if m.kind=6 then{aO with kind:=m.kind,src:=m.src,seq:=m.seq,an:=m.an,sign:=s}
 else if m.kind=7 then{aO with kind:=m.kind,src:=m.src,view:=m.view,changes:=m.changes,sign:=s}
 else if m.kind=8 then{aO with kind:=m.kind,src:=m.src,view:=m.view,changes:=m.changes,entries:=m.entries,sign:=s}
 else if m.kind=9 then{aO with kind:=m.kind,src:=m.src,seq:=m.seq,sign:=s}
 else if m.kind=10 then{aO with kind:=m.kind,src:=m.src,cert:=m.cert,state:=m.state,sign:=s}
 else if m.kind=11 then{aO with kind:=m.kind,aQ:=m.aQ,av:=m.av,offset:=m.offset,sign:=s}
 else if m.kind=12 then{aO with kind:=m.kind,src:=m.src,proof:=m.proof,sign:=s}
 else{aO with kind:=m.kind,src:=m.src,sign:=s}
def aW (n:Int):List UInt8:=enc (n%18446744073709551616).toNat
theorem ku {n:Int} (h:0<=n) (h2:n<18446744073709551616):aW n=enc n.toNat:=by
 unfold aW;rw[Int.emod_eq_of_lt h h2]
def bw (l:List Int):List UInt8:=l.flatMap aW
def dj (s:bH):List UInt8:=if dZ s=0 then oG s else[]
def iJ (l:List cq):List UInt8:=if fZ l=0 then qt l else[]
def sL (l:List bH):List UInt8:=aW (l.length:Int)++l.flatMap dj
def lF (c:gU):List UInt8:=bw [c.seq,c.an]++sL c.cN
def gi (p:gq):List UInt8:=bw [p.view,p.seq,p.an]++dj p.lz++sL p.cN++iJ p.batch
def ir (c:cX):List UInt8:=bw [c.view,c.src]++lF c.cert++aW (c.cR.length:Int)++c.cR.flatMap gi
def eH (c:cX):List UInt8:=ir c++dj c.sign
def iw (h:iS):List UInt8:=bw [h.seq,h.prev,h.batch,h.root,h.state]
def iE (p:jL):List UInt8:=
 bB p.av++bw [p.offset]++bB p.record++aW (p.headers.length:Int)++p.headers.flatMap iw++bw [p.index,p.count]++aW (p.path.length:Int)++p.path.flatMap aW++lF p.cert
def fK (x:gH):List UInt8:=bw [x.view,x.seq]++iJ x.batch++dj x.sign
def sE (r:lT):List UInt8:=enc (max r.err 0).toNat++enc (max r.offset 0).toNat
def cP (m:aN):List UInt8:=
 (if m.kind=1 then iJ m.batch
 else if m.kind=2 then bw [m.src,m.view,m.seq,m.an]++iJ m.batch
 else if m.kind=3\/m.kind=4 then bw [m.src,m.view,m.seq,m.an]
 else if m.kind=5 then bw [m.src,m.view,m.aQ,m.time]++sE m.result
 else if m.kind=6 then bw [m.src,m.seq,m.an]
 else if m.kind=7 then(match m.changes with|c::_=>ir c|[]=>[])
 else if m.kind=8 then bw [m.src,m.view]++aW (m.changes.length:Int)++m.changes.flatMap eH++aW (m.entries.length:Int)++m.entries.flatMap fK
 else if m.kind=9 then bw [m.src,m.seq]
 else if m.kind=10 then bw [m.src]++lF m.cert++bB m.state
 else if m.kind=11 then bw [m.aQ]++bB m.av++bw [m.offset]
 else if m.kind=12 then bw [m.src]++iE m.proof
 else[])
def bh (m:aN):List UInt8:=aW m.kind++cP m
end Go.Proofs.YtafomdobfmmleaaGreatDoor

/- Lemmas and contracts. -/
namespace Go.Proofs.YtafomdobfmmleaaGreatDoor
open Go.RowKit
set_option linter.unusedVariables false
theorem fY {n a b:Int}:dO n a b=0<->a<=n/\n<=b:=by
 unfold dO;split<;>simp<;>omega
theorem fJ {n:Int}:fX n=0<->0<=n/\n<=9007199254740992:=fY
theorem fW {n:Int}:jY n=0<->1<=n/\n<=9007199254740992:=fY
theorem ji {n:Int}:nM n=0<->0<=n/\n<=12:=fY
theorem gw {n:Nat} {m:Int}:jm n m=0<->(n:Int)<=m:=by unfold jm;rw[fY];omega
theorem Fl {s:bH}:dZ s=0<->0<=s.key/\s.key<21/\1<=s.an/\s.an<=9007199254740992:=by
 unfold dZ;split<;>simp<;>omega
theorem Gg {o:bF} (h:cw o=0):(0<=o.kind/\o.kind<=4)/\o=kF o/\0<=o.offset/\o.offset<=9007199254740992/\(o.kind=2->o.records.length<=4):=by
 unfold cw at h
 split at h
 ·cases h
 ·rename_i h1
  split at h
  ·cases h
  ·split at h
   ·cases h
   ·split at h
    ·cases h
    ·rename_i h4
     split at h
     ·cases h
     ·rename_i h5
      simp only[not_or,Bool.not_eq_false,kindOk,decide_eq_true_eq,BR] at h1
      refine⟨h1.1,h1.2,by omega,by omega,fun hk=>?_⟩
      rcases Nat.lt_or_ge 4 o.records.length with h'|h'
      ·exact absurd ⟨hk,.inr (.inl h')⟩ h4
      ·exact h'
theorem Mq {x:jg} (h:gK x=0):(0<=x.aQ/\x.aQ<8)/\(1<=x.time/\x.time<=9007199254740992)/\cw x.op=0:=by
 unfold gK at h
 split at h
 ·cases h
 ·exact⟨by omega,by omega,h⟩
theorem gQ (n:Nat):n<18446744073709551616->(enc n).length<=10:=fun h=>oz h
theorem mF {α:Type} {f:α->List UInt8} {K:Nat}:∀(l:List α),(∀x∈l,(f x).length<=K)->(l.flatMap f).length<=l.length*K
 |[],_=>by simp
 |x::l,h=>by
  have h1:=h x (by simp)
  have h2:=mF l (fun y hy=>h y (by simp[hy]))
  simp only[List.flatMap_cons,List.length_append,List.length_cons]
  rw[Nat.add_mul];omega
theorem SV {l:List cq}:jl l=0<->∀s∈l,gK s.request=0/\dZ s.sign=0:=by
 induction l with
 |nil=>simp[jl]
 |cons s r ih=>simp[jl,bC,ih,and_assoc]
theorem KA {l:List cq} (h:fZ l=0):l.length<=4/\∀s∈l,gK s.request=0/\dZ s.sign=0:=by
 unfold fZ at h
 split at h
 ·cases h
 ·rw[bC,SV] at h
  exact⟨by omega,h.1⟩
theorem Lm {c:gU} (h:lE c=0):(0<=c.seq/\c.seq<=9007199254740992)/\(0<=c.an/\c.an<=9007199254740992)/\pq c.cN=0:=by
 unfold lE at h
 rw[bC,bC,bC,fJ,fJ] at h
 exact⟨h.1,h.2.1,h.2.2.2⟩
theorem Wj {c:cX} (h:iM c=0):(1<=c.view/\c.view<=9007199254740992)/\(0<=c.src/\c.src<=12)/\lE c.cert=0/\c.cR.length<=8/\(∀p∈c.cR,kD p=0)/\dZ c.sign=0:=by
 unfold iM at h
 rw[bC,bC,bC,bC,bC,fW,ji,gw,fH] at h
 exact⟨h.1,h.2.1,h.2.2.1,by omega,h.2.2.2.2.1,h.2.2.2.2.2⟩
end Go.Proofs.YtafomdobfmmleaaGreatDoor

/- Lemmas and contracts. -/
namespace Go.Proofs.YtafomdobfmmleaaGreatDoor
open Go.RowKit
set_option linter.unusedVariables false
theorem zw {m:aN} (h:cG m=0):1<=m.kind/\m.kind<=12:=by
 unfold cG at h
 repeat' split at h
 all_goals first
  |omega
  |cases h
end Go.Proofs.YtafomdobfmmleaaGreatDoor
