/- Lemmas and contracts, part 13. -/
import Derived.Test.YtafomdobfmmleaaGreatDoorZp12
import Derived.Lib.ItoaNum
namespace Go.Proofs.YtafomdobfmmleaaGreatDoor
set_option linter.unusedVariables false
open Go.RowKit
def kW:List (List UInt8)->List UInt8
 |[]=>[]
 |[x]=>x
 |x::y::r=>x++32::kW (y::r)
def fc:List UInt8->List (List UInt8)
 |[]=>[[]]
 |c::r=>if c=32 then[]::fc r else match fc r with|[]=>[[c]]|w::ws=>(c::w)::ws
def vT (x:List UInt8):Prop:=∀c∈x,c≠32
theorem IN:∀(x:List UInt8),vT x->fc x=[x]
 |[],_=>rfl
 |c::r,h=>by
  have hc:c≠32:=h c (by simp)
  have ih:=IN r (fun d hd=>h d (by simp[hd]))
  unfold fc
  rw[if_neg hc,ih]
theorem I9:∀(x r:List UInt8),vT x->fc (x++32::r)=x::fc r
 |[],r,_=>by simp[fc]
 |c::x,r,h=>by
  have hc:c≠32:=h c (by simp)
  have ih:=I9 x r (fun d hd=>h d (by simp[hd]))
  rw[List.cons_append,show fc (c::(x++32::r))=if c=32 then[]::fc (x++32::r) else(match fc (x++32::r) with|[]=>[[c]]|w::ws=>(c::w)::ws) from rfl,if_neg hc,ih]
theorem N7:∀(l:List (List UInt8)),l≠[]->(∀x∈l,vT x)->fc (kW l)=l
 |[],h,_=>absurd rfl h
 |[x],_,h=>IN x (h x (by simp))
 |x::y::r,_,h=>by
  have ih:=N7 (y::r) (by simp) (fun z hz=>h z (by simp[hz]))
  unfold kW
  rw[I9 _ _ (h x (by simp)),ih]
def kX (n:Nat):UInt8:=if n<10 then UInt8.ofNat (48+n) else UInt8.ofNat (87+n)
def gw (b:List UInt8):List UInt8:=120::b.flatMap fun c=>[kX (c.toNat/16),kX (c.toNat%16)]
theorem IQ {n:Nat} (h:n<16):(kX n).toNat=if n<10 then 48+n else 87+n:=by
 unfold kX;split<;>rw[UInt8.toNat_ofNat']<;>omega
theorem Ls {c:UInt8} (h:c.toNat≠32):c≠32:=fun e=>h (by rw[e];rfl)
theorem OS (b:List UInt8):vT (gw b):=by
 intro c hc
 unfold gw at hc
 simp only[List.mem_cons,List.mem_flatMap,List.not_mem_nil,or_false] at hc
 rcases hc with rfl|⟨x,_,h⟩
 ·decide
 ·have hx:=x.toNat_lt
  apply Ls
  rcases h with rfl|rfl
  ·rw[IQ (by omega)];split<;>omega
  ·rw[IQ (by omega)];split<;>omega
def sO (l:List UInt8):Nat:=l.foldl (fun n c=>n*10+(c.toNat-48)) 0
theorem NL (l:List UInt8) (c:UInt8):sO (l++[c])=sO l*10+(c.toNat-48):=by unfold sO;rw[List.foldl_append];rfl
theorem Ir (u:Nat):sO (Lib.decDigits u)=u:=by
 induction u using Nat.strongRecOn with
 |_ u ih=>
  by_cases h:u<10
  ·rw[Lib.decDigits,dif_pos h]
   show 0*10+((UInt8.ofNat (48+u)).toNat-48)=u
   rw[UInt8.toNat_ofNat'];omega
  ·rw[Lib.decDigits,dif_neg h,NL,ih (u/10) (by omega),UInt8.toNat_ofNat']
   omega
theorem CP (u:Nat):∀c∈Lib.decDigits u,48<=c.toNat/\c.toNat<=57:=by
 induction u using Nat.strongRecOn with
 |_ u ih=>
  intro c hc
  by_cases h:u<10
  ·rw[Lib.decDigits,dif_pos h] at hc
   simp only[List.mem_singleton] at hc
   rw[hc,UInt8.toNat_ofNat'];omega
  ·rw[Lib.decDigits,dif_neg h,List.mem_append,List.mem_singleton] at hc
   rcases hc with hc|hc
   ·exact ih (u/10) (by omega) c hc
   ·rw[hc,UInt8.toNat_ofNat'];omega
theorem OT (n:Int):vT (Lib.itoa n):=by
 intro c hc
 unfold Lib.itoa at hc
 split at hc
 ·rcases List.mem_cons.1 hc with rfl|hc
  ·decide
  ·have:=CP _ c hc;exact Ls (by omega)
 ·have:=CP _ c hc;exact Ls (by omega)
def cq:bJ:=⟨0,1⟩
def eu (m:aD):aD:=
 if m.kind=7/\m.changes.length=1 then{m with changes:=m.changes.map fun c=>{c with sign:=cq}}
 else if bW m.kind then{m with sign:=cq} else m
def kg (m:aD):List UInt8:=aO m++(if m.kind=7 then(match m.changes with|c::_=>cG c.sign|[]=>[]) else if bW m.kind then cG m.sign else[])
noncomputable def eC (m:aD):Int:=open Classical in if eX m=0/\¬m=aH m then 100 else eX m
def KY (m:aD):Prop:=eC (eu m)=0/\(kg (eu m)).length<=262144
def cI (m:aD):bJ:=if m.kind=7 then(match m.changes with|[c]=>c.sign|_=>m.sign) else m.sign
def mO (k:Int):Bool:=decide (k=1)||decide (k=10)||decide (k=11)||decide (k=12)
def qt (m:aD):Prop:=KY m/\0<=(cI m).key/\0<=(cI m).ah/\(mO m.kind=true->cI m=dx)/\(m.kind=7->m.sign=dx)
def nu (s:bJ):List UInt8:=gw (enc s.key.toNat++enc s.ah.toNat)
def ny (m:aD):List (List UInt8):=[gw (aO m),nu (cI m)]
theorem Bd (m:aD):(eu m).kind=m.kind:=by
 unfold eu
 split
 ·rfl
 ·split<;>rfl
theorem wM (m:aD):aO (eu m)=aO m:=by
 unfold eu
 split
 ·rename_i h
  obtain⟨c,hc⟩:∃c,m.changes=[c]:=by
   cases hx:m.changes with
   |nil=>rw[hx] at h;simp at h
   |cons c r=>cases r with
    |nil=>exact⟨c,rfl⟩
    |cons _ _=>rw[hx] at h;simp at h
  unfold aO cT
  simp only[h.1,hc,List.map_cons,List.map_nil]
  rfl
 ·split<;>rfl
theorem Jc {m:aD} (h:eC m=0):eX m=0/\m=aH m:=by
 unfold eC at h
 split at h
 ·cases h
 ·rename_i hn
  refine⟨h,Classical.byContradiction fun e=>hn ⟨h,e⟩⟩
theorem N5 {k:Int} (h:1<=k/\k<=12):bW k=!(mO k||decide (k=7)):=by
 have:k=1\/k=2\/k=3\/k=4\/k=5\/k=6\/k=7\/k=8\/k=9\/k=10\/k=11\/k=12:=by omega
 rcases this with rfl|rfl|rfl|rfl|rfl|rfl|rfl|rfl|rfl|rfl|rfl|rfl<;>rfl
theorem sM {α:Type} {l:List α} (h:l.length=1):∃c,l=[c]:=by
 cases l with
 |nil=>simp at h
 |cons c r=>cases r with
  |nil=>exact⟨c,rfl⟩
  |cons _ _=>simp at h
def pF:List UInt8:=[100,101,108,105,118,101,114]
def pQ:List UInt8:=[100,114,111,112]
def pG:List UInt8:=[100,111,117,98,108,101]
def pR:List UInt8:=[116,105,99,107]
def pM:List UInt8:=[99,108,111,99,107]
def mR:List UInt8:=[97,115,107]
def pS:List UInt8:=[114,101,97,100]
def nL:List UInt8:=[99,114,97,115,104]
def pN:List UInt8:=[115,116,97,114,116]
def nP:List UInt8:=[104,97,115,104]
def mP:List UInt8:=[115,101,110,100]
def nQ:List UInt8:=[115,101,97,108]
def ni:List UInt8:=[114,111,117,110,100]
def aR:bK:=⟨0,0,0,za,[],aE,false⟩
def nv (a:bK):bK:=
 if a.kind=1\/a.kind=2\/a.kind=3 then{aR with kind:=a.kind,num:=a.num}
 else if a.kind=4\/a.kind=5\/a.kind=7\/a.kind=9 then{aR with kind:=a.kind,bA:=a.bA}
 else if a.kind=6 then{aR with kind:=a.kind,bA:=a.bA,op:=a.op}
 else if a.kind=8 then{aR with kind:=a.kind,bA:=a.bA,num:=a.num}
 else if a.kind=10 then{aR with kind:=a.kind,bytes:=a.bytes}
 else if a.kind=11 then{aR with kind:=a.kind,bA:=a.bA,msg:=a.msg,jN:=a.jN}
 else if a.kind=12 then{aR with kind:=a.kind}
 else aR
def pZ (n:Nat) (s:Bool):List UInt8:=
 match n with
 |1=>pF
 |2=>pQ
 |3=>pG
 |4=>pR
 |5=>pM
 |6=>mR
 |7=>pS
 |8=>nL
 |9=>pN
 |10=>nP
 |11=>if s then nQ else mP
 |_=>ni
def pX (a:bK):List (List UInt8):=
 if a.kind=1\/a.kind=2\/a.kind=3 then[Lib.itoa a.num]
 else if a.kind=4\/a.kind=5\/a.kind=7\/a.kind=9 then[Lib.itoa a.bA]
 else if a.kind=6 then[Lib.itoa a.bA,gw (iy a.op)]
 else if a.kind=8 then[Lib.itoa a.bA,Lib.itoa a.num]
 else if a.kind=10 then[gw a.bytes]
 else if a.kind=11 then Lib.itoa a.bA::ny a.msg
 else[]
def jf (a:bK):List (List UInt8):=pZ a.kind.toNat a.jN::pX a
theorem ab7:∀(i:Fin 12) (s:Bool),(pZ (i.val+1) s).all (fun c=>c !=32)=true:=by decide+kernel
def zX (a:bK):Prop:=(1<=a.kind/\a.kind<=12)/\(a.kind=6->bS a.op=0)/\(a.kind=11->qt a.msg)
def kH (a:bK):Prop:=zX a/\a=nv a
def j0 (a:bK):List UInt8:=kW (jf a)
theorem WB (a:bK) (h:1<=a.kind/\a.kind<=12):∀x∈jf a,vT x:=by
 intro x hx
 unfold jf at hx
 rcases List.mem_cons.1 hx with rfl|hx
 ·intro c hc
  have:=ab7 ⟨a.kind.toNat-1,by omega⟩ a.jN
  simp only at this
  rw[show a.kind.toNat-1+1=a.kind.toNat by omega] at this
  have:=List.all_eq_true.1 this c hc
  simpa using this
 ·unfold pX ny nu at hx
  repeat' split at hx
  all_goals simp only[List.mem_cons,List.not_mem_nil,or_false] at hx
  all_goals first|(rw[hx];exact OT _)|(rw[hx];exact OS _)|(rcases hx with rfl|rfl|rfl<;>first|exact OT _|exact OS _)
end Go.Proofs.YtafomdobfmmleaaGreatDoor
