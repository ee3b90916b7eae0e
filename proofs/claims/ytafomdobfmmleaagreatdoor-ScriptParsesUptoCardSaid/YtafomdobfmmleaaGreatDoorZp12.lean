/- Lemmas and contracts, part 12. -/
import Derived.Test.YtafomdobfmmleaaGreatDoorZp11
import Derived.Laws.RangeAny
namespace Go.Proofs.YtafomdobfmmleaaGreatDoor
set_option linter.unusedVariables false
open Go.RowKit
def aF (a b:Int):Int:=if a=0 then b else a
theorem bQ {a b:Int}:aF a b=0<->a=0/\b=0:=by
 unfold aF
 split
 ·rename_i h;simp[h]
 ·rename_i h;simp[h]
def uO (r:Nat):Bool:=decide (r<33)||(decide (127<=r)&&decide (r<=159))||decide (r=47)||decide (r=65533)
def jk (s:ByteArray):Nat->Nat->Nat->Option Nat
 |0,_,n=>some n
 |k+1,pos,n=>if pos<s.size then if uO (Utf8.decode s pos).1 then none else jk s k (pos+(Utf8.decode s pos).2) (n+1) else some n
def uF (s:List UInt8):Nat:=
 match jk (aA s) (s.length+1) 0 0 with
 |none=>0
 |some n=>if 16<n then 0 else n
def jg (s:List UInt8):Bool:=decide (0<uF s)
def jz (o:bt):bt:=
 if o.kind=1 then⟨1,o.av,[],0,[]⟩
 else if o.kind=2 then⟨2,o.av,[],0,o.records⟩
 else if o.kind=3 then⟨3,o.av,o.group,o.offset,[]⟩
 else if o.kind=4 then⟨4,o.av,[],o.offset,[]⟩
 else⟨o.kind,[],[],0,[]⟩
def kindOk (o:bt):Bool:=decide (0<=o.kind/\o.kind<=4)
theorem bt.ZZ {a b:bt}:a=b<->a.kind=b.kind/\a.av=b.av/\a.group=b.group/\a.offset=b.offset/\a.records=b.records:=by
 cases a;cases b;simp
def rC (a b:bt):Bool:=decide (a.kind=b.kind)&&decide (a.av=b.av)&&decide (a.group=b.group)&&decide (a.offset=b.offset)&&decide (a.records=b.records)
theorem E6 {a b:bt}:rC a b=true<->a=b:=by
 rw[bt.ZZ];simp[rC,and_assoc]
def th (o:bt):Bool:=o.records.any fun r=>decide (64<r.length)
def bS (o:bt):Int:=
 if kindOk o=false\/rC o (jz o)=false then 60
 else if o.kind≠0/\jg o.av=false then 61
 else if o.kind=3/\jg o.group=false then 61
 else if o.kind=2/\(o.records.length<1\/4<o.records.length\/th o=true) then 62
 else if o.offset<0\/9007199254740992<o.offset then 60
 else 0
def cB (b:List UInt8):List UInt8:=enc b.length++b
def iy (o:bt):List UInt8:=
 enc o.kind.toNat++(if o.kind=0 then[] else cB o.av)++
  (if o.kind=2 then enc o.records.length++o.records.flatMap cB else if o.kind=3 then cB o.group++enc o.offset.toNat else if o.kind=4 then enc o.offset.toNat else[])
def dw (s:bJ):Int:=if s.key<0\/21<=s.key\/s.ah<1\/9007199254740992<s.ah then 81 else 0
def iR (x:ju):Int:=if x.bD<0\/8<=x.bD\/x.time<1\/9007199254740992<x.time then 80 else bS x.op
def iS (x:ju):List UInt8:=enc x.bD.toNat++enc x.time.toNat++iy x.op
def rL (s:bJ):List UInt8:=enc s.key.toNat++enc s.ah.toNat
def lA:List bX->Int
 |[]=>0
 |s::r=>aF (iR s.request) (aF (dw s.sign) (lA r))
def SE (a b:bX):Bool:=decide (a.request.bD=b.request.bD)&&decide (a.request.time=b.request.time)
def zT (l:List bX):Bool:=(List.range l.length).any fun i=>(List.range i).any fun k=>match l[i]?,l[k]? with|some a,some b=>SE a b|_,_=>false
def fA (l:List bX):Int:=if 4<l.length then 3 else aF (lA l) (if zT l then 5 else 0)
def zO (s:bX):List UInt8:=cB (iS s.request)++rL s.sign
def BI (l:List bX):List UInt8:=enc l.length++l.flatMap zO
theorem eZ (a b c:Int):aF (aF a b) c=aF a (aF b c):=by
 unfold aF
 by_cases h:a=0<;>simp[h]
theorem gH (a:Int):aF a 0=a:=by unfold aF;split<;>simp_all
theorem gu (a:Int):aF 0 a=a:=by simp[aF]
def bG {α:Type} (f:α->Int):List α->Int
 |[]=>0
 |x::r=>aF (f x) (bG f r)
theorem V9 {α:Type} (f:α->Int) (l:List α) (x:α):bG f (l++[x])=aF (bG f l) (f x):=by
 induction l with
 |nil=>simp[bG,gH,gu]
 |cons y r ih=>simp only[List.cons_append,bG,ih,eZ]
theorem gV {α:Type} {f:α->Int} {l:List α}:bG f l=0<->∀x∈l,f x=0:=by
 induction l with
 |nil=>simp[bG]
 |cons y r ih=>simp[bG,bQ,ih]
def cQ (n least most:Int):Int:=if n<least\/most<n then 100 else 0
def cP (n:Int):Int:=cQ n 0 9007199254740992
def gd (n:Int):Int:=cQ n 1 9007199254740992
def ke (n:Int):Int:=cQ n 0 12
def jd (n:Nat) (most:Int):Int:=cQ (n:Int) 0 most
def mh (s:List UInt8):Int:=if jg s then 0 else 61
def lQ (l:List bJ):Int:=aF (jd l.length 13) (bG dw l)
def jl (c:gX):Int:=
 aF (cP c.seq) (aF (cP c.ah) (aF (if(decide (c.seq=0)!=decide (c.ah=0))||(decide (c.seq=0)&&decide (0<c.cM.length)) then 100 else 0) (lQ c.cM)))
def jQ (p:jt):Int:=aF (cP p.view) (aF (gd p.seq) (aF (gd p.ah) (aF (dw p.kG) (aF (lQ p.cM) (fA p.batch)))))
def ir (c:cX):Int:=aF (gd c.view) (aF (ke c.src) (aF (jl c.cert) (aF (jd c.cD.length 8) (aF (bG jQ c.cD) (dw c.sign)))))
def mN (h:j7):Int:=aF (gd h.seq) (aF (cP h.prev) (aF (cP h.batch) (aF (cP h.root) (cP h.state))))
def mB (p:jX):Int:=
 aF (mh p.av) (aF (cP p.offset) (aF (jd p.record.length 64) (aF (jd p.headers.length 64) (aF (bG mN p.headers) (aF (cP p.index) (aF (cQ p.count 0 16) (aF (cQ p.index 0 (p.count-1)) (aF (jd p.path.length 8) (aF (bG cP p.path) (jl p.cert))))))))))
def gI (m:aD):Int:=aF (ke m.src) (aF (cP m.view) (aF (gd m.seq) (gd m.ah)))
def mM (x:gq):Int:=aF (cP x.view) (aF (gd x.seq) (aF (fA x.batch) (dw x.sign)))
def iP (m:aD):Int:=aF (ke m.src) (aF (gd m.view) (aF (jd m.changes.length 13) (aF (bG ir m.changes) (aF (jd m.entries.length 8) (bG mM m.entries)))))
def rK (m:aD) (c:cX):Int:=aF (ir c) (if c.src≠m.src\/c.view≠m.view then 100 else 0)
def bW (k:Int):Bool:=decide (k=2)||decide (k=3)||decide (k=4)||decide (k=5)||decide (k=6)||decide (k=8)||decide (k=9)
def bP (m:aD):Int:=
 if m.kind=1 then aF (cQ (m.batch.length:Int) 1 1) (fA m.batch)
 else if m.kind=2 then aF (gI m) (fA m.batch)
 else if m.kind=3 then gI m
 else if m.kind=4 then gI m
 else if m.kind=5 then aF (ke m.src) (aF (cP m.view) (aF (cQ m.bD 0 7) (aF (cP m.time) (aF (cQ m.result.err 0 65536) (cP m.result.offset)))))
 else if m.kind=6 then aF (ke m.src) (aF (gd m.seq) (gd m.ah))
 else if m.kind=7 then aF (cQ (m.changes.length:Int) 1 1) (bG (rK m) m.changes)
 else if m.kind=8 then iP m
 else if m.kind=9 then aF (ke m.src) (cP m.seq)
 else if m.kind=10 then aF (ke m.src) (aF (jl m.cert) (jd m.state.length 262144))
 else if m.kind=11 then aF (cQ m.bD 0 7) (aF (mh m.av) (cP m.offset))
 else if m.kind=12 then aF (ke m.src) (mB m.proof)
 else 100
def eX (m:aD):Int:=aF (bP m) (if bW m.kind then dw m.sign else 0)
def dx:bJ:=⟨0,0⟩
def me:nH:=⟨0,0⟩
def nk:gX:=⟨0,0,[]⟩
def oJ:jX:=⟨[],0,[],[],0,0,[],nk⟩
def aE:aD:=⟨0,0,0,0,0,0,0,me,[],nk,[],[],[],[],0,oJ,dx⟩
def za:bt:=⟨0,[],[],0,[]⟩
def aH (m:aD):aD:=
 let s:=if bW m.kind then m.sign else dx
 if m.kind=1 then{aE with kind:=m.kind,batch:=m.batch,sign:=s}
 else if m.kind=2 then{aE with kind:=m.kind,src:=m.src,view:=m.view,seq:=m.seq,ah:=m.ah,batch:=m.batch,sign:=s}
 else if m.kind=3\/m.kind=4 then{aE with kind:=m.kind,src:=m.src,view:=m.view,seq:=m.seq,ah:=m.ah,sign:=s}
 else if m.kind=5 then{aE with kind:=m.kind,src:=m.src,view:=m.view,bD:=m.bD,time:=m.time,result:=m.result,sign:=s}
 else if m.kind=6 then{aE with kind:=m.kind,src:=m.src,seq:=m.seq,ah:=m.ah,sign:=s}
 else if m.kind=7 then{aE with kind:=m.kind,src:=m.src,view:=m.view,changes:=m.changes,sign:=s}
 else if m.kind=8 then{aE with kind:=m.kind,src:=m.src,view:=m.view,changes:=m.changes,entries:=m.entries,sign:=s}
 else if m.kind=9 then{aE with kind:=m.kind,src:=m.src,seq:=m.seq,sign:=s}
 else if m.kind=10 then{aE with kind:=m.kind,src:=m.src,cert:=m.cert,state:=m.state,sign:=s}
 else if m.kind=11 then{aE with kind:=m.kind,bD:=m.bD,av:=m.av,offset:=m.offset,sign:=s}
 else if m.kind=12 then{aE with kind:=m.kind,src:=m.src,proof:=m.proof,sign:=s}
 else{aE with kind:=m.kind,src:=m.src,sign:=s}
def aJ (n:Int):List UInt8:=enc (n%18446744073709551616).toNat
theorem eK {n:Int} (h:0<=n) (h2:n<18446744073709551616):aJ n=enc n.toNat:=by
 unfold aJ;rw[Int.emod_eq_of_lt h h2]
def aN (l:List Int):List UInt8:=l.flatMap aJ
def cG (s:bJ):List UInt8:=if dw s=0 then rL s else[]
def jM (l:List bX):List UInt8:=if fA l=0 then BI l else[]
def rB (l:List bJ):List UInt8:=aJ (l.length:Int)++l.flatMap cG
def lR (c:gX):List UInt8:=aN [c.seq,c.ah]++rB c.cM
def iJ (p:jt):List UInt8:=aN [p.view,p.seq,p.ah]++cG p.kG++rB p.cM++jM p.batch
def jy (c:cX):List UInt8:=aN [c.view,c.src]++lR c.cert++aJ (c.cD.length:Int)++c.cD.flatMap iJ
def fq (c:cX):List UInt8:=jy c++cG c.sign
def gZ (h:j7):List UInt8:=aN [h.seq,h.prev,h.batch,h.root,h.state]
def jw (p:jX):List UInt8:=
 cB p.av++aN [p.offset]++cB p.record++aJ (p.headers.length:Int)++p.headers.flatMap gZ++aN [p.index,p.count]++aJ (p.path.length:Int)++p.path.flatMap aJ++lR p.cert
def gG (x:gq):List UInt8:=aN [x.view,x.seq]++jM x.batch++cG x.sign
def wW (r:nH):List UInt8:=enc (max r.err 0).toNat++enc (max r.offset 0).toNat
def cT (m:aD):List UInt8:=
 (if m.kind=1 then jM m.batch
 else if m.kind=2 then aN [m.src,m.view,m.seq,m.ah]++jM m.batch
 else if m.kind=3\/m.kind=4 then aN [m.src,m.view,m.seq,m.ah]
 else if m.kind=5 then aN [m.src,m.view,m.bD,m.time]++wW m.result
 else if m.kind=6 then aN [m.src,m.seq,m.ah]
 else if m.kind=7 then(match m.changes with|c::_=>jy c|[]=>[])
 else if m.kind=8 then aN [m.src,m.view]++aJ (m.changes.length:Int)++m.changes.flatMap fq++aJ (m.entries.length:Int)++m.entries.flatMap gG
 else if m.kind=9 then aN [m.src,m.seq]
 else if m.kind=10 then aN [m.src]++lR m.cert++cB m.state
 else if m.kind=11 then aN [m.bD]++cB m.av++aN [m.offset]
 else if m.kind=12 then aN [m.src]++jw m.proof
 else[])
def aO (m:aD):List UInt8:=aJ m.kind++cT m
theorem iM {n a b:Int}:cQ n a b=0<->a<=n/\n<=b:=by
 unfold cQ;split<;>simp<;>omega
theorem gP {n:Int}:cP n=0<->0<=n/\n<=9007199254740992:=iM
theorem iI {n:Int}:gd n=0<->1<=n/\n<=9007199254740992:=iM
theorem kT {n:Int}:ke n=0<->0<=n/\n<=12:=iM
theorem jc {n:Nat} {m:Int}:jd n m=0<->(n:Int)<=m:=by unfold jd;rw[iM];omega
theorem JH {s:bJ}:dw s=0<->0<=s.key/\s.key<21/\1<=s.ah/\s.ah<=9007199254740992:=by
 unfold dw;split<;>simp<;>omega
theorem KD {o:bt} (h:bS o=0):(0<=o.kind/\o.kind<=4)/\o=jz o/\0<=o.offset/\o.offset<=9007199254740992/\(o.kind=2->o.records.length<=4):=by
 unfold bS at h
 split at h
 ·cases h
 ·rename_i h1
  split at h
  ·cases h
  ·split at h
   ·cases h
   ·split at h
    ·cases h
    ·rename_i h4
     split at h
     ·cases h
     ·rename_i h5
      simp only[not_or,Bool.not_eq_false,kindOk,decide_eq_true_eq,E6] at h1
      refine⟨h1.1,h1.2,by omega,by omega,fun hk=>?_⟩
      rcases Nat.lt_or_ge 4 o.records.length with h'|h'
      ·exact absurd ⟨hk,.inr (.inl h')⟩ h4
      ·exact h'
theorem Q1 {x:ju} (h:iR x=0):(0<=x.bD/\x.bD<8)/\(1<=x.time/\x.time<=9007199254740992)/\bS x.op=0:=by
 unfold iR at h
 split at h
 ·cases h
 ·exact⟨by omega,by omega,h⟩
theorem kV (n:Nat):n<18446744073709551616->(enc n).length<=10:=fun h=>qA h
theorem lz {α:Type} {f:α->List UInt8} {K:Nat}:∀(l:List α),(∀x∈l,(f x).length<=K)->(l.flatMap f).length<=l.length*K
 |[],_=>by simp
 |x::l,h=>by
  have h1:=h x (by simp)
  have h2:=lz l (fun y hy=>h y (by simp[hy]))
  simp only[List.flatMap_cons,List.length_append,List.length_cons]
  rw[Nat.add_mul];omega
theorem X5 {l:List bX}:lA l=0<->∀s∈l,iR s.request=0/\dw s.sign=0:=by
 induction l with
 |nil=>simp[lA]
 |cons s r ih=>simp[lA,bQ,ih,and_assoc]
theorem OR {l:List bX} (h:fA l=0):l.length<=4/\∀s∈l,iR s.request=0/\dw s.sign=0:=by
 unfold fA at h
 split at h
 ·cases h
 ·rw[bQ,X5] at h
  exact⟨by omega,h.1⟩
theorem PR {c:gX} (h:jl c=0):(0<=c.seq/\c.seq<=9007199254740992)/\(0<=c.ah/\c.ah<=9007199254740992)/\lQ c.cM=0:=by
 unfold jl at h
 rw[bQ,bQ,bQ,gP,gP] at h
 exact⟨h.1,h.2.1,h.2.2.2⟩
theorem ab6 {c:cX} (h:ir c=0):(1<=c.view/\c.view<=9007199254740992)/\(0<=c.src/\c.src<=12)/\jl c.cert=0/\c.cD.length<=8/\(∀p∈c.cD,jQ p=0)/\dw c.sign=0:=by
 unfold ir at h
 rw[bQ,bQ,bQ,bQ,bQ,iI,kT,jc,gV] at h
 exact⟨h.1,h.2.1,h.2.2.1,by omega,h.2.2.2.2.1,h.2.2.2.2.2⟩
theorem yd {m:aD} (h:bP m=0):1<=m.kind/\m.kind<=12:=by
 unfold bP at h
 repeat' split at h
 all_goals first|omega
end Go.Proofs.YtafomdobfmmleaaGreatDoor
