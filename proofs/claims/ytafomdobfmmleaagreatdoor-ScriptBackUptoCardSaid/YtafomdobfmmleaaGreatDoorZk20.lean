/- Lemmas and contracts, part 20. -/
import Derived.Test.YtafomdobfmmleaaGreatDoorZk19
import Derived.Deep.QuietTactic
import Derived.BigQuiet
import Derived.Deep.Light
import Derived.Deep.RegionLaw
import Derived.Deep.RegionHeld3
/- Lemmas and contracts. -/
namespace Go.Proofs.YtafomdobfmmleaaGreatDoor
open Go.RowKit Go.Deep
set_option linter.unusedVariables false
def Eb (l:List UInt8) (i:Nat):Nat:=(l.getD i 0).toNat
def r1 (l:List UInt8):Nat×Nat:=Xd l.length (Eb l 0) (Eb l 1) (Eb l 2) (Eb l 3)
end Go.Proofs.YtafomdobfmmleaaGreatDoor

/- Lemmas and contracts. -/
namespace Go.Proofs.YtafomdobfmmleaaGreatDoor
open Go.RowKit Go.Deep
set_option linter.unusedVariables false
end Go.Proofs.YtafomdobfmmleaaGreatDoor

/- Lemmas and contracts. -/
namespace Go.Proofs.YtafomdobfmmleaaGreatDoor
open Go.RowKit
set_option linter.unusedVariables false
set_option maxRecDepth 20000
end Go.Proofs.YtafomdobfmmleaaGreatDoor

/- Lemmas and contracts. -/
namespace Go.Proofs.YtafomdobfmmleaaGreatDoor
open Go.RowKit
set_option linter.unusedVariables false
set_option maxRecDepth 20000
theorem VL {α:Type} {f:α->List UInt8} {l:List α} {q:Nat} {x:α} (h:l[q]?=some x):(l.take (q+1)).flatMap f=(l.take q).flatMap f++f x:=by
 rw[List.take_add_one,h,List.flatMap_append];simp
end Go.Proofs.YtafomdobfmmleaaGreatDoor

/- Lemmas and contracts. -/
namespace Go.Proofs.YtafomdobfmmleaaGreatDoor
open Go.RowKit
set_option linter.unusedVariables false
set_option maxRecDepth 20000
end Go.Proofs.YtafomdobfmmleaaGreatDoor

/- Lemmas and contracts. -/
namespace Go.Proofs.YtafomdobfmmleaaGreatDoor
open Go.RowKit
set_option linter.unusedVariables false
set_option maxRecDepth 20000
end Go.Proofs.YtafomdobfmmleaaGreatDoor

/- Lemmas and contracts. -/
namespace Go.Proofs.YtafomdobfmmleaaGreatDoor
open Go.RowKit
set_option linter.unusedVariables false
set_option maxRecDepth 20000
end Go.Proofs.YtafomdobfmmleaaGreatDoor

/- Lemmas and contracts. -/
namespace Go.Proofs.YtafomdobfmmleaaGreatDoor
open Go.RowKit
set_option linter.unusedVariables false
set_option maxRecDepth 20000
end Go.Proofs.YtafomdobfmmleaaGreatDoor

/- Lemmas and contracts. -/
namespace Go.Proofs.YtafomdobfmmleaaGreatDoor
open Go.RowKit
set_option linter.unusedVariables false
set_option maxRecDepth 20000
set_option maxHeartbeats 2000000
end Go.Proofs.YtafomdobfmmleaaGreatDoor

/- Lemmas and contracts. -/
namespace Go.Proofs.YtafomdobfmmleaaGreatDoor
open Go.RowKit
set_option linter.unusedVariables false
set_option maxRecDepth 20000
end Go.Proofs.YtafomdobfmmleaaGreatDoor

/- Lemmas and contracts. -/
namespace Go.Proofs.YtafomdobfmmleaaGreatDoor
open Go.RowKit
set_option linter.unusedVariables false
set_option maxRecDepth 20000
end Go.Proofs.YtafomdobfmmleaaGreatDoor

/- Lemmas and contracts. -/
namespace Go.Proofs.YtafomdobfmmleaaGreatDoor
open Go.RowKit Go.Deep
set_option linter.unusedVariables false
end Go.Proofs.YtafomdobfmmleaaGreatDoor

/- Lemmas and contracts. -/
namespace Go.Proofs.YtafomdobfmmleaaGreatDoor
open Go.RowKit Go.Deep
set_option linter.unusedVariables false
theorem XU (y:Nat) (h:y<256):bits BinOp.and IntKind.u8 (y:Int) 15=((y%16:Nat):Int):=by
 have h':∀k:Fin 256,bits BinOp.and IntKind.u8 ((k.val:Int)) 15=((k.val%16:Nat):Int):=by decide+kernel
 exact h' ⟨y,h⟩
theorem Cp (l:List UInt8) (n:Nat) (h:l.length<=4194304):(fN l).length<=8388610:=by
 have:∀l:List UInt8,(l.flatMap fun c=>[kj (c.toNat/16),kj (c.toNat%16)]).length=2*l.length:=by
  intro l
  induction l with
  |nil=>rfl
  |cons x r ih=>simp only[List.flatMap_cons,List.length_append,ih,List.length_cons];simp;omega
 unfold fN
 rw[List.length_cons,this]
 omega
end Go.Proofs.YtafomdobfmmleaaGreatDoor

/- Lemmas and contracts. -/
namespace Go.Proofs.YtafomdobfmmleaaGreatDoor
open Go.RowKit Go.Deep
set_option linter.unusedVariables false
section
variable {P:Program} {ops:Array Oper} {Q:Exit->Act->World->Prop} {md:Region.Mode} {S:World->Prop}
theorem nB {i:Nat} {oi:Oper} {d:Option Tmp} {v:Value} {fuel:Nat} {listed:Array Bool} {a:Act} {w:World} (hi:ops[i]?=some oi) (hd:oi.dst=d)
 (hs:Region.noSelect ops=true) (hf:Region.free md ops listed i=true) (hr:(Region.ready md ops listed).contains i=true)
 (hQ:∀c a w,Q (.panic c) (a.put oi.dst v) w->Q (.panic c) a w) (hw:Region.wanted oi (yielded ops a.tmps)=true) (hv:∀w,S w->(execOp a.eval oi).run P w=.ok (.value v) w) (hS:S w)
 (h:wpAnyH P md ops Q S fuel (listed.setIfInBounds i true) (a.put d v) w):wpAnyH P md ops Q S (fuel+1) listed a w:=by
 subst hd
 exact wpAnyH_take hi hs hf hr hQ (.inl ⟨hw,hv⟩) hS h
theorem zJ {i:Nat} {o:Oper} {d:Option Tmp} {f:FuncId} {vs:Array Value} {v:Value} {fuel:Nat} {listed:Array Bool} {a:Act} {w:World} (hr:Region.ready md ops listed=[i]) (ho:ops[i]?=some o) (hd:o.dst=d)
 (hw:Region.wanted o (yielded ops a.tmps)=true) (he:(execOp a.eval o).run P w=.ok (.enter f vs) w) (hc:Calls P f vs w (fun e w'=>e=.returned v/\B w w')) (hB:∀w',B w w'->S w')
 (h:∀w',S w'->wpAnyH P md ops Q S fuel (listed.setIfInBounds i true) (a.put d v) w'):wpAnyH P md ops Q S (fuel+1) listed a w:=by
 subst hd
 refine wpAnyH_all hr (by simp) (fun j hj=>?_)
 simp only[List.mem_singleton] at hj
 subst hj
 unfold Go.wpOp
 simp only[ho,hw,if_true]
 refine Or.inl ?_
 unfold Oper.wp
 rw[he]
 simp only[Oper.upon]
 refine hc.mono ?_
 rintro e w' ⟨rfl,hb⟩
 exact⟨hB _ hb,h _ (hB _ hb)⟩
theorem zn {op:Oper} {a:Act} {ty:TypeId} {x:Operand} {p v:Value} {w:World} (ho:op.op=.load ty x) (hx:a.eval x=p) (hl:(Instr.loadAt ty p).run P w=.ok v w):
 (execOp a.eval op).run P w=.ok (.value v) w:=by
 unfold execOp
 simp only[ho,hx,Sem.run_bind,Sem.run_pure,Result.andThen_ok,hl]
theorem AE {w:World} {b o:Nat} {ty:TypeId} {v:Value} {d:TypeDesc} (hc:w.cell? ⟨b,o,none⟩=some v) (hu:P.underlying ty=some d) (hd:d.isRow=false):
 (Instr.loadAt ty (.pointer (some ⟨b,o,none⟩))).run P w=.ok v w:=by
 have Zo:(isAgg ty).run P w=.ok false w:=by
  unfold isAgg
  rw[Sem.run_bind,run_underlying hu w]
  cases d<;>simp_all
 simp[Instr.loadAt,Instr.sureAddr,loadVar,Sem.run_bind,Zo,run_load,hc]
end
end Go.Proofs.YtafomdobfmmleaaGreatDoor

/- Lemmas and contracts. -/
namespace Go.Proofs.YtafomdobfmmleaaGreatDoor
open Go.RowKit Go.Deep
set_option linter.unusedVariables false
section
variable {P:Program} {ops:Array Oper} {Q:Exit->Act->World->Prop} {rest:List Oper} {o:Oper} {a:Act} {w:World} {d:Option Tmp} {v:Value}
end
end Go.Proofs.YtafomdobfmmleaaGreatDoor

/- Lemmas and contracts. -/
namespace Go.Proofs.YtafomdobfmmleaaGreatDoor
open Go.RowKit Go.Deep
set_option linter.unusedVariables false
theorem gJ.oG {ay:Nat->Prop} {w:World} {cs:List Value} {x:aN} (hx:gJ.rd ay w cs x):(-9223372036854775808<=x.sign.key/\x.sign.key<=9223372036854775807)/\(-9223372036854775808<=x.sign.an/\x.sign.an<=9223372036854775807):=by
 obtain⟨Ic,Ie,Ig,Ih,Ii,Ij,Ik,Il,Im,rfl,Io,OF,OG,OH,OI,OJ,OK,OL,OM,Ip,NT,NU,G2,AT,G3,DA,NV,NW,NX,NY,DB,G4,NZ,N0,G5,N1,N2,G6,G7,G8⟩:=gJ.parts hx
 exact⟨G7,G8⟩
theorem Xi {ay:Nat->Prop} {w:World} {cs:List Value} {x:aN} (hx:gJ.rd ay w cs x):(-9223372036854775808<=(cH x).key/\(cH x).key<=9223372036854775807)/\(-9223372036854775808<=(cH x).an/\(cH x).an<=9223372036854775807):=by
 unfold cH
 split
 ·split
  ·rename_i c hc
   obtain⟨a,n,_,hq⟩:=gJ.chg hx
   obtain⟨_,b,off,ds,rfl,r1,k1⟩:=tL.at (i:=0) (x:=c) hq (by rw[hc];rfl)
   obtain⟨bv1,bv2,rfl,bf0,bf1,bf2,bf3,bf4,bf5,bf6,bf7⟩:=rz.parts r1
   exact⟨bf6,bf7⟩
  ·exact gJ.oG hx
 ·exact gJ.oG hx
end Go.Proofs.YtafomdobfmmleaaGreatDoor

/- Lemmas and contracts. -/
namespace Go.Proofs.YtafomdobfmmleaaGreatDoor
open Go.RowKit
set_option linter.unusedVariables false
set_option maxRecDepth 20000
def digits:List UInt8:=[48,49,50,51,52,53,54,55,56,57,97,98,99,100,101,102]
theorem Kj:∀n,n<16->digits[n]?=some (kj n):=by decide
def rP (b:List UInt8):List UInt8:=120::b.flatMap fun c=>[kj (c.toNat/16),kj (c.toNat%16)]
theorem Am (b:List UInt8):(rP b).length<=1+2*b.length:=by
 have:=mF (f:=fun c:UInt8=>[kj (c.toNat/16),kj (c.toNat%16)]) (K:=2) b (fun _ _=>by simp)
 unfold rP
 rw[List.length_cons]
 omega
theorem YN {b:List UInt8} (h:b.length<=50000000):(fN b).length<=140737488355328:=by
 have:=Am b
 show(rP b).length<=_
 omega
theorem VM {b:List UInt8} {q:Nat} {x:UInt8} (h:b[q]?=some x):(rP (b.take (q+1))).map aE=(rP (b.take q)).map aE++[[.int .u8 ((kj (x.toNat/16)).toNat:Int)],[.int .u8 ((kj (x.toNat%16)).toNat:Int)]]:=by
 unfold rP
 rw[VL h]
 simp[aE]
theorem MV (s:bH):s=dD<->s.key=0/\s.an=0:=by
 cases s
 simp[dD]
theorem EH (m:aN):qj m<->qo (eF m)=0/\0<=(cH m).key/\0<=(cH m).an/\(mj m.kind=true->(cH m).key=0/\(cH m).an=0)/\(m.kind=7->m.sign.key=0/\m.sign.an=0):=by
 unfold qj
 rw[VN,MV,MV]
end Go.Proofs.YtafomdobfmmleaaGreatDoor

/- Lemmas and contracts. -/
namespace Go.Proofs.YtafomdobfmmleaaGreatDoor
open Go.RowKit
set_option linter.unusedVariables false
set_option maxRecDepth 20000
theorem lW {a:aS} {k:Int} (h:a.kind=k):{a with kind:=k}=a:=by subst h;rfl
end Go.Proofs.YtafomdobfmmleaaGreatDoor

/- Lemmas and contracts. -/
namespace Go.Proofs.YtafomdobfmmleaaGreatDoor
open Go.RowKit Go.Deep
set_option linter.unusedVariables false
def s7 (k wh n:Int) (oc:List Value) (b:Value) (mc:List Value) (s:Bool):List Value:=[.int .i64 k,.int .i64 wh,.int .i64 n]++oc++[b]++mc++[.bool s]
def G9:List Value:=[.int .i64 0,.string ⟨#[]⟩,.string ⟨#[]⟩,.int .i64 0,.slice none 0 0]
def Di:List Value:=[.int .i64 0,.int .i64 0,.int .i64 0,.int .i64 0,.int .i64 0,.int .i64 0,.int .i64 0,.int .i64 0,.int .i64 0,.slice none 0 0,.int .i64 0,.int .i64 0,.slice none 0 0,.slice none 0 0,.slice none 0 0,.slice none 0 0,.string ⟨#[]⟩,.int .i64 0,.string ⟨#[]⟩,.int .i64 0,.slice none 0 0,.slice none 0 0,.int .i64 0,.int .i64 0,.slice none 0 0,.int .i64 0,.int .i64 0,.slice none 0 0,.int .i64 0,.int .i64 0]
theorem gB.mk' {ay:Nat->Prop} {w:World} {oc mc:List Value} {b:Value} {s:aS} (h1:(-9223372036854775808<=s.kind/\s.kind<=9223372036854775807)) (h2:(-9223372036854775808<=s.aL/\s.aL<=9223372036854775807)) (h3:(-9223372036854775808<=s.num/\s.num<=9223372036854775807))
 (ho:cL.rd ay w oc s.op) (hb:tY.rd ay w [b] s.bytes) (hm:gJ.rd ay w mc s.msg):gB.rd ay w (s7 s.kind s.aL s.num oc b mc s.fL) s:=
 ⟨[.int .i64 s.kind],_,by simp[s7],⟨rfl,h1⟩,[.int .i64 s.aL],_,rfl,⟨rfl,h2⟩,[.int .i64 s.num],_,rfl,⟨rfl,h3⟩,oc,_,rfl,ho,[b],_,rfl,hb,mc,[.bool s.fL],rfl,hm,rfl⟩
theorem gB.Nv {ay:Nat->Prop} {w:World} {cs:List Value} {s:aS} (h:gB.rd ay w cs s):∃oc b mc,cs=s7 s.kind s.aL s.num oc b mc s.fL/\((-9223372036854775808<=s.kind/\s.kind<=9223372036854775807)/\(-9223372036854775808<=s.aL/\s.aL<=9223372036854775807)/\(-9223372036854775808<=s.num/\s.num<=9223372036854775807))/\cL.rd ay w oc s.op/\tY.rd ay w [b] s.bytes/\gJ.rd ay w mc s.msg:=by
 obtain⟨c0,e1,rfl,h0,c1,e2,rfl,h1,c2,e3,rfl,h2,c3,e4,rfl,h3,c4,e5,rfl,h4,c5,c6,rfl,h5,h6⟩:=h
 obtain⟨rfl,b0⟩:=h0
 obtain⟨rfl,b1⟩:=h1
 obtain⟨rfl,b2⟩:=h2
 obtain⟨u4,rfl⟩:=oK (tY.len h4)
 have h6':c6=[.bool s.fL]:=h6
 subst h6'
 exact⟨c3,u4,c5,by simp[s7],⟨b0,b1,b2⟩,h3,h4,h5⟩
theorem tL.nil {α:Type} (T:Ty α) (ay:Nat->Prop) (w:World):(tL T).rd ay w [.slice none 0 0] []:=
 ⟨none,0,rfl,Nat.le_refl _,by unfold maxLen;omega,fun _=>⟨rfl,rfl⟩,by simp,fun h=>by simp at h⟩
theorem tY.nil (ay:Nat->Prop) (w:World):tY.rd ay w [.slice none 0 0] []:=
 ⟨_,rfl,Bs.nil w,fun g hg bS=>absurd rfl bS,by simp⟩
theorem M4 (ay:Nat->Prop) (w:World):cL.rd ay w G9 bU:=
 cL.mk (s:=bU) (by simp[bU]) (by simp[bU]) (by simp[bU]) (by simp[bU]) (tL.nil _ _ _)
theorem FP (ay:Nat->Prop) (w:World):gJ.rd ay w Di aO:=by
 refine gJ.mk (s:=aO) ?_ ?_ ?_ ?_ ?_ ?_ ?_ ?_ ?_ (tL.nil _ _ _) ?_ ?_ (tL.nil _ _ _) (tL.nil _ _ _) (tL.nil _ _ _) (tY.nil _ _) ?_ ?_ ?_ ?_ (tY.nil _ _) (tL.nil _ _ _) ?_ ?_ (tL.nil _ _ _) ?_ ?_ (tL.nil _ _ _) ?_ ?_
 all_goals simp[aO,ud,yf,CT,dD]
def nG:Array Value->Nat->List Value->Array Value
 |cs,_,[]=>cs
 |cs,o,v::r=>nG (cs.setIfInBounds o v) (o+1) r
theorem aR.setCells {W:World} {L:List dG} {g:Nat} {t:TypeId}:∀(vs:List Value) {w:World} {cs:Array Value} (o:Nat),St W w (aR g t cs::L)->St W (w.setCells g o vs) (aR g t (nG cs o vs)::L)
 |[],_,_,_,h=>h
 |v::r,w,cs,o,h=>by
  rw[World.setCells]
  exact aR.setCells r (o+1) (aR.set h o v)
theorem Jq:∀(new old a b:List Value),old.length=new.length->nG (a++old++b).toArray a.length new=(a++new++b).toArray
 |[],[],a,b,_=>by simp[nG]
 |[],_::_,_,_,h=>by simp at h
 |v::r,[],_,_,h=>by simp at h
 |v::r,u::s,a,b,h=>by
  have:=Jq r s (a++[v]) b (by simpa using h)
  unfold nG
  rw[show((a++u::s++b).toArray.setIfInBounds a.length v)=(a++[v]++s++b).toArray from by simp]
  rw[List.length_append] at this
  rw[show a.length+1=a.length+[v].length from rfl,this]
  simp
theorem UC {W w:World} {L:List dG} {g:Nat} {t:TypeId} {cs:Array Value} (h:St W w (aR g t cs::L)) (o n:Nat) (hn:o+n<=cs.size):w.there g o n:=by
 intro j hj
 have hb:=aR.get h
 exact⟨by rw[hb.cell];simp;omega,hb.frozen _⟩
theorem Gz:(Tryz.prog.info? 61).map (·.size)=some 40:=by kernel_rfl
end Go.Proofs.YtafomdobfmmleaaGreatDoor

/- Lemmas and contracts. -/
namespace Go.Proofs.YtafomdobfmmleaaGreatDoor
open Go.RowKit Go.Deep
set_option linter.unusedVariables false
section
variable {P:Program} {ops:Array Oper} {Q:Exit->Act->World->Prop} {md:Region.Mode} {S:World->Prop}
theorem Wq {i:Nat} {o:Oper} {d:Option Tmp} {v:Value} {fuel:Nat} {listed:Array Bool} {a:Act} {w w':World} (hr:Region.ready md ops listed=[i]) (ho:ops[i]?=some o) (hd:o.dst=d)
 (hw:Region.wanted o (yielded ops a.tmps)=true) (he:(execOp a.eval o).run P w=.ok (.value v) w') (hS:S w') (h:wpAnyH P md ops Q S fuel (listed.setIfInBounds i true) (a.put d v) w'):wpAnyH P md ops Q S (fuel+1) listed a w:=by
 subst hd
 refine wpAnyH_all hr (by simp) (fun j hj=>?_)
 simp only[List.mem_singleton] at hj
 subst hj
 unfold Go.wpOp
 simp only[ho,hw,if_true]
 refine Or.inl ?_
 unfold Oper.wp
 rw[he]
 exact⟨hS,h⟩
end
end Go.Proofs.YtafomdobfmmleaaGreatDoor

/- Lemmas and contracts. -/
namespace Go.Proofs.YtafomdobfmmleaaGreatDoor
open Go.RowKit Go.Deep
set_option linter.unusedVariables false
theorem Re {old new:Array Value} (h:old.size=new.size):nG old 0 new.toList=new:=by
 have:=Jq new.toList old.toList [] [] (by simpa using h)
 simpa using this
theorem aR.Xj {W w:World} {L:List dG} {g:Nat} {t:TypeId} {old:Array Value} (h:St W w (aR g t old::L)) {new:Array Value} (hs:old.size=new.size):St W (w.setCells g 0 new.toList) (aR g t new::L):=by
 have:=aR.setCells new.toList 0 h
 rwa [Re hs] at this
theorem cL.one {ay:Nat->Prop} {w:World} {cs:List Value} {o:bF} (h:cL.rd ay w cs o):∀v∈cs,v.oneCell'=true:=by
 obtain⟨v5,rfl,a1,a2,a3,a4,a5⟩:=cL.parts h
 obtain⟨A5,c5,e5,l5⟩:=tL.slice a5
 injection e5 with e5 _
 subst e5
 intro v hv
 simp only[List.mem_cons,List.not_mem_nil,or_false] at hv
 rcases hv with rfl|rfl|rfl|rfl|rfl<;>rfl
theorem gJ.one {ay:Nat->Prop} {w:World} {cs:List Value} {x:aN} (hx:gJ.rd ay w cs x):∀v∈cs,v.oneCell'=true:=by
 obtain⟨Ic,Ie,Ig,Ih,Ii,Ij,Ik,Il,Im,rfl,Io,OF,OG,OH,OI,OJ,OK,OL,OM,Ip,NT,NU,G2,AT,G3,DA,NV,NW,NX,NY,DB,G4,NZ,N0,G5,N1,N2,G6,G7,G8⟩:=gJ.parts hx
 obtain⟨aA1,ac1,Iq,al1⟩:=tL.slice Ip
 injection Iq with Iq _
 subst Iq
 obtain⟨aA2,ac2,Ir,al2⟩:=tL.slice G2
 injection Ir with Ir _
 subst Ir
 obtain⟨aA3,ac3,Is,al3⟩:=tL.slice AT
 injection Is with Is _
 subst Is
 obtain⟨aA4,ac4,It,al4⟩:=tL.slice G3
 injection It with It _
 subst It
 obtain⟨aA5,ac5,rfl⟩:=(tY.bs DA).rd.slice
 have al5:=tY.le DA
 obtain⟨aA6,ac6,rfl⟩:=(tY.bs DB).rd.slice
 have al6:=tY.le DB
 obtain⟨aA7,ac7,Iu,al7⟩:=tL.slice G4
 injection Iu with Iu _
 subst Iu
 obtain⟨aA8,ac8,Iw,al8⟩:=tL.slice G5
 injection Iw with Iw _
 subst Iw
 obtain⟨aA9,ac9,Ix,al9⟩:=tL.slice G6
 injection Ix with Ix _
 subst Ix
 intro v hv
 simp only[List.mem_cons,List.not_mem_nil,or_false] at hv
 rcases hv with rfl|rfl|rfl|rfl|rfl|rfl|rfl|rfl|rfl|rfl|rfl|rfl|rfl|rfl|rfl|rfl|rfl|rfl|rfl|rfl|rfl|rfl|rfl|rfl|rfl|rfl|rfl|rfl|rfl|rfl<;>rfl
end Go.Proofs.YtafomdobfmmleaaGreatDoor
