/- Lemmas and contracts, part 13. -/
import Derived.Test.YtafomdobfmmleaaGreatDoorZk12
import Derived.Lib.ItoaNum
/- Lemmas and contracts. -/
namespace Go.Proofs.YtafomdobfmmleaaGreatDoor
open Go.RowKit
set_option linter.unusedVariables false
def iy:List (List UInt8)->List UInt8
 |[]=>[]
 |[x]=>x
 |x::y::r=>x++32::iy (y::r)
def eV:List UInt8->List (List UInt8)
 |[]=>[[]]
 |c::r=>if c=32 then[]::eV r else match eV r with|[]=>[[c]]|w::ws=>(c::w)::ws
def vL (x:List UInt8):Prop:=∀c∈x,c≠32
theorem JV:∀(x:List UInt8),vL x->eV x=[x]
 |[],_=>rfl
 |c::r,h=>by
  have hc:c≠32:=h c (by simp)
  have ih:=JV r (fun d hd=>h d (by simp[hd]))
  unfold eV
  rw[if_neg hc,ih]
theorem KB:∀(x r:List UInt8),vL x->eV (x++32::r)=x::eV r
 |[],r,_=>by simp[eV]
 |c::x,r,h=>by
  have hc:c≠32:=h c (by simp)
  have ih:=KB x r (fun d hd=>h d (by simp[hd]))
  rw[List.cons_append,show eV (c::(x++32::r))=if c=32 then[]::eV (x++32::r) else(match eV (x++32::r) with|[]=>[[c]]|w::ws=>(c::w)::ws) from rfl,if_neg hc,ih]
theorem Ev:∀(l:List (List UInt8)),l≠[]->(∀x∈l,vL x)->eV (iy l)=l
 |[],h,_=>absurd rfl h
 |[x],_,h=>JV x (h x (by simp))
 |x::y::r,_,h=>by
  have ih:=Ev (y::r) (by simp) (fun z hz=>h z (by simp[hz]))
  unfold iy
  rw[KB _ _ (h x (by simp)),ih]
def kj (n:Nat):UInt8:=if n<10 then UInt8.ofNat (48+n) else UInt8.ofNat (87+n)
def fN (b:List UInt8):List UInt8:=120::b.flatMap fun c=>[kj (c.toNat/16),kj (c.toNat%16)]
theorem zy {n:Nat} (h:n<16):(kj n).toNat=if n<10 then 48+n else 87+n:=by
 unfold kj;split<;>rw[UInt8.toNat_ofNat']<;>omega
theorem GZ {c:UInt8} (h:c.toNat≠32):c≠32:=fun e=>h (by rw[e];rfl)
theorem EZ (b:List UInt8):vL (fN b):=by
 intro c hc
 unfold fN at hc
 simp only[List.mem_cons,List.mem_flatMap,List.not_mem_nil,or_false] at hc
 rcases hc with rfl|⟨x,_,h⟩
 ·decide
 ·have hx:=x.toNat_lt
  apply GZ
  rcases h with rfl|rfl
  ·rw[zy (by omega)];split<;>omega
  ·rw[zy (by omega)];split<;>omega
def xW (l:List UInt8):Nat:=l.foldl (fun n c=>n*10+(c.toNat-48)) 0
theorem Q9 (l:List UInt8) (c:UInt8):xW (l++[c])=xW l*10+(c.toNat-48):=by unfold xW;rw[List.foldl_append];rfl
theorem BM (u:Nat):xW (Lib.decDigits u)=u:=by
 induction u using Nat.strongRecOn with
 |_ u ih=>
  by_cases h:u<10
  ·rw[Lib.decDigits,dif_pos h]
   show 0*10+((UInt8.ofNat (48+u)).toNat-48)=u
   rw[UInt8.toNat_ofNat'];omega
  ·rw[Lib.decDigits,dif_neg h,Q9,ih (u/10) (by omega),UInt8.toNat_ofNat']
   omega
theorem wZ (u:Nat):∀c∈Lib.decDigits u,48<=c.toNat/\c.toNat<=57:=by
 induction u using Nat.strongRecOn with
 |_ u ih=>
  intro c hc
  by_cases h:u<10
  ·rw[Lib.decDigits,dif_pos h] at hc
   simp only[List.mem_singleton] at hc
   rw[hc,UInt8.toNat_ofNat'];omega
  ·rw[Lib.decDigits,dif_neg h,List.mem_append,List.mem_singleton] at hc
   rcases hc with hc|hc
   ·exact ih (u/10) (by omega) c hc
   ·rw[hc,UInt8.toNat_ofNat'];omega
theorem Cn {a b:Int} (h:Lib.itoa a=Lib.itoa b):a=b:=by
 unfold Lib.itoa at h
 have bS:∀u v:Nat,(45:UInt8)::Lib.decDigits u≠Lib.decDigits v:=fun u v e=>by
  have:=wZ v 45 (by rw[<-e];simp)
  simp at this
 split at h<;>split at h
 ·simp only[List.cons.injEq,true_and] at h
  have:=congrArg xW h
  rw[BM,BM] at this
  omega
 ·exact absurd h (bS _ _)
 ·exact absurd h.symm (bS _ _)
 ·have:=congrArg xW h
  rw[BM,BM] at this
  omega
theorem vm (n:Int):vL (Lib.itoa n):=by
 intro c hc
 unfold Lib.itoa at hc
 split at hc
 ·rcases List.mem_cons.1 hc with rfl|hc
  ·decide
  ·have:=wZ _ c hc;exact GZ (by omega)
 ·have:=wZ _ c hc;exact GZ (by omega)
end Go.Proofs.YtafomdobfmmleaaGreatDoor

/- Lemmas and contracts. -/
namespace Go.Proofs.YtafomdobfmmleaaGreatDoor
open Go.RowKit
set_option linter.unusedVariables false
def bX:bH:=⟨0,1⟩
def eF (m:aN):aN:=
 if m.kind=7/\m.changes.length=1 then{m with changes:=m.changes.map fun c=>{c with sign:=bX}}
 else if dc m.kind then{m with sign:=bX} else m
def lG (m:aN):List UInt8:=bh m++(if m.kind=7 then(match m.changes with|c::_=>dj c.sign|[]=>[]) else if dc m.kind then dj m.sign else[])
noncomputable def dV (m:aN):Int:=open Classical in if mT m=0/\¬m=aH m then 100 else mT m
def Gw (m:aN):Prop:=dV (eF m)=0/\(lG (eF m)).length<=262144
def cH (m:aN):bH:=if m.kind=7 then(match m.changes with|[c]=>c.sign|_=>m.sign) else m.sign
def mj (k:Int):Bool:=decide (k=1)||decide (k=10)||decide (k=11)||decide (k=12)
def qj (m:aN):Prop:=Gw m/\0<=(cH m).key/\0<=(cH m).an/\(mj m.kind=true->cH m=dD)/\(m.kind=7->m.sign=dD)
def oH (s:bH):List UInt8:=fN (enc s.key.toNat++enc s.an.toNat)
def kJ (m:aN):List (List UInt8):=[fN (bh m),oH (cH m)]
theorem zx (m:aN):(eF m).kind=m.kind:=by
 unfold eF
 split
 ·rfl
 ·split<;>rfl
theorem vh (m:aN):bh (eF m)=bh m:=by
 unfold eF
 split
 ·rename_i h
  obtain⟨c,hc⟩:∃c,m.changes=[c]:=by
   cases hx:m.changes with
   |nil=>rw[hx] at h;simp at h
   |cons c r=>cases r with
    |nil=>exact⟨c,rfl⟩
    |cons _ _=>rw[hx] at h;simp at h
  unfold bh cP
  simp only[h.1,hc,List.map_cons,List.map_nil]
  rfl
 ·split<;>rfl
theorem EV {m:aN} (h:dV m=0):mT m=0/\m=aH m:=by
 unfold dV at h
 split at h
 ·cases h
 ·rename_i hn
  refine⟨h,Classical.byContradiction fun e=>hn ⟨h,e⟩⟩
theorem JP {k:Int} (h:1<=k/\k<=12):dc k=!(mj k||decide (k=7)):=by
 have:k=1\/k=2\/k=3\/k=4\/k=5\/k=6\/k=7\/k=8\/k=9\/k=10\/k=11\/k=12:=by omega
 rcases this with rfl|rfl|rfl|rfl|rfl|rfl|rfl|rfl|rfl|rfl|rfl|rfl<;>rfl
theorem vO {α:Type} {l:List α} (h:l.length=1):∃c,l=[c]:=by
 cases l with
 |nil=>simp at h
 |cons c r=>cases r with
  |nil=>exact⟨c,rfl⟩
  |cons _ _=>simp at h
def tV:List UInt8:=[100,101,108,105,118,101,114]
def uH:List UInt8:=[100,114,111,112]
def uj:List UInt8:=[100,111,117,98,108,101]
def uI:List UInt8:=[116,105,99,107]
def uv:List UInt8:=[99,108,111,99,107]
def s6:List UInt8:=[97,115,107]
def uJ:List UInt8:=[114,101,97,100]
def uw:List UInt8:=[99,114,97,115,104]
def ux:List UInt8:=[115,116,97,114,116]
def uK:List UInt8:=[104,97,115,104]
def sS:List UInt8:=[115,101,110,100]
def sU:List UInt8:=[115,101,97,108]
def uy:List UInt8:=[114,111,117,110,100]
def bO:aS:=⟨0,0,0,bU,[],aO,false⟩
def fM (a:aS):aS:=
 if a.kind=1\/a.kind=2\/a.kind=3 then{bO with kind:=a.kind,num:=a.num}
 else if a.kind=4\/a.kind=5\/a.kind=7\/a.kind=9 then{bO with kind:=a.kind,aL:=a.aL}
 else if a.kind=6 then{bO with kind:=a.kind,aL:=a.aL,op:=a.op}
 else if a.kind=8 then{bO with kind:=a.kind,aL:=a.aL,num:=a.num}
 else if a.kind=10 then{bO with kind:=a.kind,bytes:=a.bytes}
 else if a.kind=11 then{bO with kind:=a.kind,aL:=a.aL,msg:=a.msg,fL:=a.fL}
 else if a.kind=12 then{bO with kind:=a.kind}
 else bO
def iQ (n:Nat) (s:Bool):List UInt8:=
 match n with
 |1=>tV
 |2=>uH
 |3=>uj
 |4=>uI
 |5=>uv
 |6=>s6
 |7=>uJ
 |8=>uw
 |9=>ux
 |10=>uK
 |11=>if s then sU else sS
 |_=>uy
def iH (a:aS):List (List UInt8):=
 if a.kind=1\/a.kind=2\/a.kind=3 then[Lib.itoa a.num]
 else if a.kind=4\/a.kind=5\/a.kind=7\/a.kind=9 then[Lib.itoa a.aL]
 else if a.kind=6 then[Lib.itoa a.aL,fN (cy a.op)]
 else if a.kind=8 then[Lib.itoa a.aL,Lib.itoa a.num]
 else if a.kind=10 then[fN a.bytes]
 else if a.kind=11 then Lib.itoa a.aL::kJ a.msg
 else[]
def eG (a:aS):List (List UInt8):=iQ a.kind.toNat a.fL::iH a
theorem Wk:∀(i:Fin 12) (s:Bool),(iQ (i.val+1) s).all (fun c=>c !=32)=true:=by decide+kernel
def lC (a:aS):Prop:=(1<=a.kind/\a.kind<=12)/\(a.kind=6->cw a.op=0)/\(a.kind=11->qj a.msg)
def gR (a:aS):Prop:=lC a/\a=fM a
def eP (a:aS):List UInt8:=iy (eG a)
theorem RH (a:aS) (h:1<=a.kind/\a.kind<=12):∀x∈eG a,vL x:=by
 intro x hx
 unfold eG at hx
 rcases List.mem_cons.1 hx with rfl|hx
 ·intro c hc
  have:=Wk ⟨a.kind.toNat-1,by omega⟩ a.fL
  simp only at this
  rw[show a.kind.toNat-1+1=a.kind.toNat by omega] at this
  have:=List.all_eq_true.1 this c hc
  simpa using this
 ·unfold iH kJ oH at hx
  repeat' split at hx
  all_goals simp only[List.mem_cons,List.not_mem_nil,or_false] at hx
  all_goals first|(rw[hx];exact vm _)|(rw[hx];exact EZ _)|(rcases hx with rfl|rfl|rfl<;>first|exact vm _|exact EZ _)|(rcases hx with rfl|rfl<;>first|exact vm _|exact EZ _)
end Go.Proofs.YtafomdobfmmleaaGreatDoor
