/- Lemmas and contracts, part 16. -/
import Derived.Test.YtafomdobfmmleaaGreatDoorZk15
import Derived.Lib.OthersKept
/- Lemmas and contracts. -/
namespace Go.Proofs.YtafomdobfmmleaaGreatDoor
open Go.RowKit Go.Deep
set_option linter.unusedVariables false
theorem BZ (s:ByteArray) (pos:Nat) (h:pos<s.size):1<=(Utf8.decode s pos).2:=by
 by_cases ha:(s[pos]'h).toNat<128
 ·rw[decode_ascii s pos h ha]
  exact Nat.le_refl _
 ·exact(decode_high s pos h (by omega)).2
theorem Ra (s:ByteArray) (k pos n:Nat) (h:¬pos<s.size):kC s k pos n=some n:=by
 cases k with
 |zero=>rfl
 |succ k=>simp[kC,h]
theorem sx (s:List UInt8):(au s).size=s.length:=by simp[au,ByteArray.size]
set_option maxRecDepth 100000 in
set_option maxHeartbeats 4000000 in
theorem Wl (w:World) (s:List UInt8) (hs:s.length<=4194304):Calls Tryz.prog 59 #[.string (au s)] w fun e w'=>e=.returned (.int .i64 (sO s:Int))/\B w w':=by
 have HE:=Lib.hid (show sO s=(match kC (au s) (s.length+1) 0 0 with|none=>0|some n=>if 16<n then 0 else n) from rfl)
 have HZ:=Lib.hid (sx s)
 have HL:=Lib.hid hs
 generalize hb:au s=b at*
 generalize sO s=z at*
 clear hb hs
 go_enter Tryz.func59,Tryz.ntmps59
 go_wp2
 go_loopw [3,5] (fun n _ wr=>∃(pos fuel k:Nat),n=.int .i64 (k:Int)/\wr.heap[w.heap.size]?=some (.stringIter b pos)/\Hid (B w wr)/\Hid (kC b fuel pos k=kC b (s.length+1) 0 0)/\b.size+1<=pos+fuel/\k<=pos/\k<=4194304) (fun _ _ wr=>b.size-wr.iterPos w.heap.size)
 case atStart=>
  refine⟨0,s.length+1,0,rfl,?_,B.jV _ _,rfl,by rw[HZ.out];omega,Nat.le_refl _,by omega⟩
  exact World.iter_heap w b 0
 case round=>
  obtain⟨pos,fuel,k,rfl,hit,HB,HG,hfu,hkp,hk⟩:=hrel
  have cT:w.heap.size<wr.heap.size:=(Array.getElem?_eq_some_iff.1 hit).1
  by_cases hp:pos<b.size
  ·have hnx:∀ty,(Instr.next (.pointer (some ⟨w.heap.size,0,none⟩)) true ty).run Tryz.prog wr=_:=fun ty=>Lib.run_next_any_at wr w.heap.size b pos ty hit hp
   have hwd:=BZ b pos hp
   have lN:=decode_le b pos
   have Dz:=Lib.iterAt_heap wr w.heap.size b pos (pos+(Utf8.decode b pos).2) hit
   have yK:=Lib.hid (show B w _ from Lib.below_iterAt HB.out (k:=w.heap.size) (by omega) b (pos+(Utf8.decode b pos).2))
   obtain⟨f,rfl⟩:∃f,fuel=f+1:=⟨fuel-1,by omega⟩
   have HD:=Lib.hid (show kC b (f+1) pos k=if AS (Utf8.decode b pos).1 then none else kC b f (pos+(Utf8.decode b pos).2) (k+1) from by simp[kC,hp])
   have Ox:k+1<=4194304:=by have:=HL.out;have:=HZ.out;omega
   generalize (Utf8.decode b pos).1=r at*
   have hc:(r<33)\/(33<=r/\127<=r/\r<=159)\/(33<=r/\r<127/\r=47)\/(33<=r/\127<=r/\159<r/\r=65533)\/(33<=r/\r<127/\r≠47)\/(33<=r/\127<=r/\159<r/\r≠65533):=by omega
   by_cases qH:AS r=true
   ·have HN:=Lib.hid (show z=0 from by rw[HE.out,<-HG.out,HD.out,if_pos qH])
    have qP:(r<33)\/(33<=r/\127<=r/\r<=159)\/(r=47)\/(r=65533):=by
     simp only[AS,Bool.or_eq_true,Bool.and_eq_true,decide_eq_true_eq] at qH;omega
    clear hc qH
    rcases qP with h1|⟨h1,h2,h3⟩|h1|h1
    ·have g1:(r:Int)<33:=by omega
     clear h1
     go_wp2
     go_ret
     exact⟨by rw[HN.out];rfl,yK.out⟩
    ·have g1:¬(r:Int)<33:=by omega
     have g2:(127:Int)<=r:=by omega
     have g3:(r:Int)<=159:=by omega
     clear h1 h2 h3
     go_wp2
     go_ret
     exact⟨by rw[HN.out];rfl,yK.out⟩
    all_goals
     subst h1
     go_wp2
     go_ret
     exact⟨by rw[HN.out];rfl,yK.out⟩
   ·have HR:=Lib.hid (show kC b f (pos+(Utf8.decode b pos).2) (k+1)=kC b (s.length+1) 0 0 from by rw[<-HG.out,HD.out,if_neg qH])
    have qP:(33<=r/\r<127/\r≠47)\/(33<=r/\127<=r/\159<r/\r≠65533):=by
     simp only[AS,Bool.or_eq_true,Bool.and_eq_true,decide_eq_true_eq] at qH;omega
    clear hc qH
    rcases qP with⟨h1,h2,h3⟩|⟨h1,h2,h3,h4⟩
    ·have g1:¬(r:Int)<33:=by omega
     have g2:¬(127:Int)<=r:=by omega
     have g3:((r:Int)==47)=false:=by simp;omega
     have g4:((r:Int)==65533)=false:=by simp;omega
     clear h1 h2 h3
     go_wp2
     go_roundw
     case rel=>exact⟨pos+(Utf8.decode b pos).2,f,k+1,by go_num,Dz,yK.out,HR.out,by omega,by omega,Ox⟩
     case measure=>simp only[World.iterPos,Dz,hit];omega
    ·have g1:¬(r:Int)<33:=by omega
     have g2:(127:Int)<=r:=by omega
     have g5:¬(r:Int)<=159:=by omega
     have g3:((r:Int)==47)=false:=by simp;omega
     have g4:((r:Int)==65533)=false:=by simp;omega
     clear h1 h2 h3 h4
     go_wp2
     go_roundw
     case rel=>exact⟨pos+(Utf8.decode b pos).2,f,k+1,by go_num,Dz,yK.out,HR.out,by omega,by omega,Ox⟩
     case measure=>simp only[World.iterPos,Dz,hit];omega
  ·have hnx:∀ty,(Instr.next (.pointer (some ⟨w.heap.size,0,none⟩)) true ty).run Tryz.prog wr=_:=fun ty=>Lib.run_next_end_at wr w.heap.size b pos ty hit hp
   have HN:=Lib.hid (show z=if 16<k then 0 else k from by rw[HE.out,<-HG.out,Ra b fuel pos k hp])
   by_cases lK:16<k
   ·have g1:(16:Int)<k:=by omega
    rw[if_pos lK] at HN
    clear lK
    go_wp2
    go_ret
    exact⟨by rw[HN.out];rfl,HB.out⟩
   ·have g1:¬(16:Int)<k:=by omega
    rw[if_neg lK] at HN
    clear lK
    go_wp2
    go_ret
    exact⟨by simp[HN.out],HB.out⟩
theorem Ak (w:World) (s:List UInt8) (hs:s.length<=4194304):Calls Tryz.prog 27 #[.string (au s)] w fun e w'=>e=.returned (.bool (dQ s))/\B w w':=by
 have HR:=Lib.hid (Wl w s hs)
 clear hs
 have HN:=Lib.hid (show dQ s=decide (0<sO s) from rfl)
 generalize dQ s=z at*
 generalize sO s=n at*
 by_cases h:0<n
 ·have g:(0:Int)<n:=by omega
  rw[decide_eq_true h] at HN
  clear h
  go_enter Tryz.func27,Tryz.ntmps27
  go_wp2_with (first|(go_at_call 59;(with_reducible refine HR.out.mono ?_);rintro e w1 ⟨rfl,hb⟩;have HB:=Lib.hid hb;clear hb))
  go_ret
  exact⟨by simp[HN.out];omega,HB.out⟩
 ·have g:¬(0:Int)<n:=by omega
  rw[decide_eq_false h] at HN
  clear h
  go_enter Tryz.func27,Tryz.ntmps27
  go_wp2_with (first|(go_at_call 59;(with_reducible refine HR.out.mono ?_);rintro e w1 ⟨rfl,hb⟩;have HB:=Lib.hid hb;clear hb))
  go_ret
  exact⟨by simp[HN.out];omega,HB.out⟩
end Go.Proofs.YtafomdobfmmleaaGreatDoor

/- Lemmas and contracts. -/
namespace Go.Proofs.YtafomdobfmmleaaGreatDoor
open Go.RowKit
set_option linter.unusedVariables false
set_option maxRecDepth 20000
theorem aZ {e:Int} (h1:-9223372036854775808<=e) (h2:e<=9223372036854775807):IntKind.i64.wrap e=e:=by
 simp only[IntKind.wrap,IntKind.signed,IntKind.bits]
 simp
 omega
theorem sA {α:Type} (f:α->Int) {l:List α} {q:Nat} {x:α} (h:l[q]?=some x):fE f (l.take (q+1))=aK (fE f (l.take q)) (f x):=by
 rw[List.take_add_one,h]
 exact Rq f _ x
abbrev qA (e:Int):List AO:=[.cells 320 [.int .i64 e]]
abbrev mg [Wd] (f:FuncId) (ar:List D) (x:Int):Prop:=∀e:Int,bf Tryz.prog f (.ptr 0 0::ar) (qA e) (fun r h=>r=.aD []/\h=qA (aK e x))
section
variable {Q:Exit->S->Prop}
theorem cU [Wd] {f:FuncId} {ar cu:List D} {x e:Int} {hb:List AO} {c:D->List AO->T} (o:Nat) (hF:mg f ar x) (hv:kK hb [o] [o] (qA e)) (hc:aa cu (D.bG.rl [o] (.ptr 0 0::ar))) (hM:([o].all fun o=>(kg hb cu).elem o)=true) (k:(c (.aD []) (mW hb [o] (qA e) (qA (aK e x)))).ok Tryz.prog Q):(T.call f cu hb c).ok Tryz.prog Q:=
 dx [o] (hF e) (.mk' rfl hv) hc hM k
theorem mK [Wd] {tb:TT} {rs:List ResultVar} {ex:Exit} {s:S} {e e':Int} {ds:List D} (σ:List Nat) (he:ex=.normal\/ex=.ret) (hr:jG tb s rs=some ds) (hn:nodupB σ=true) (hv:kK s.h σ σ (qA e')) (hk:rJ 0 (qA e) σ (qA e')) (iZ:Co (lJ ds) (.aD [])) {x:Int} (hx:e'=aK e x):(T.leaf ex s).ok Tryz.prog (Lf tb rs (qA e) (fun r h=>r=.aD []/\h=qA (aK e x))):=by
 subst hx
 exact mL σ he hr hn hv hk iZ
end
theorem ur [Wd] (x:Int):mg 295 [.int .i64 x] x:=by
 intro e
 refine aF 13 [] Tryz.func295 rfl (by kernel_rfl) ?_
 repeat' ((conv=>arg 2;whnf);first|refine ah ?_|refine aj ?_|refine aG (fun h=>?_) (fun h=>?_)|refine mK [0] (.inl rfl) rfl rfl ⟨⟨rfl,rfl⟩,trivial⟩ ⟨⟨rfl,rfl⟩,trivial⟩ (.refl _) ?_)
 all_goals simp_all [aK]
theorem yd [Wd] (n a b:Int):mg 294 [.int .i64 n,.int .i64 a,.int .i64 b] (dO n a b):=by
 intro e
 refine aF 18 [] Tryz.func294 rfl (by kernel_rfl) ?_
 repeat' ((conv=>arg 2;whnf);first|refine ah ?_|refine aj ?_|refine aG (fun h=>?_) (fun h=>?_)|refine cU 0 (ur _) ⟨⟨rfl,rfl⟩,trivial⟩ (aa.refl _) rfl ?_|refine mK [0] (.inl rfl) rfl rfl ⟨⟨rfl,rfl⟩,trivial⟩ ⟨⟨rfl,rfl⟩,trivial⟩ (.refl _) ?_)
 all_goals simp_all [dO]
 all_goals (split<;>first|rfl|omega|(rw[kR]))
theorem sB [Wd] (n:Int):mg 299 [.int .i64 n] (fX n):=by
 intro e
 refine aF 7 [] Tryz.func299 rfl (by kernel_rfl) ?_
 repeat' ((conv=>arg 2;whnf);first|refine cU 0 (yd _ _ _) ⟨⟨rfl,rfl⟩,trivial⟩ (aa.refl _) rfl ?_|exact mK [0] (.inl rfl) rfl rfl ⟨⟨rfl,rfl⟩,trivial⟩ ⟨⟨rfl,rfl⟩,trivial⟩ (.refl _) rfl)
theorem vp [Wd] (n:Int):mg 300 [.int .i64 n] (jY n):=by
 intro e
 refine aF 7 [] Tryz.func300 rfl (by kernel_rfl) ?_
 repeat' ((conv=>arg 2;whnf);first|refine cU 0 (yd _ _ _) ⟨⟨rfl,rfl⟩,trivial⟩ (aa.refl _) rfl ?_|exact mK [0] (.inl rfl) rfl rfl ⟨⟨rfl,rfl⟩,trivial⟩ ⟨⟨rfl,rfl⟩,trivial⟩ (.refl _) rfl)
theorem BN [Wd] (n:Int):mg 298 [.int .i64 n] (nM n):=by
 intro e
 refine aF 7 [] Tryz.func298 rfl (by kernel_rfl) ?_
 repeat' ((conv=>arg 2;whnf);first|refine cU 0 (yd _ _ _) ⟨⟨rfl,rfl⟩,trivial⟩ (aa.refl _) rfl ?_|exact mK [0] (.inl rfl) rfl rfl ⟨⟨rfl,rfl⟩,trivial⟩ ⟨⟨rfl,rfl⟩,trivial⟩ (.refl _) rfl)
theorem vk [Wd] (n m:Int):mg 304 [.int .i64 n,.int .i64 m] (dO n 0 m):=by
 intro e
 refine aF 10 [] Tryz.func304 rfl (by kernel_rfl) ?_
 repeat' ((conv=>arg 2;whnf);first|refine cU 0 (yd _ _ _) ⟨⟨rfl,rfl⟩,trivial⟩ (aa.refl _) rfl ?_|exact mK [0] (.inl rfl) rfl rfl ⟨⟨rfl,rfl⟩,trivial⟩ ⟨⟨rfl,rfl⟩,trivial⟩ (.refl _) rfl)
theorem zZ [Wd] (s:bH):aJ Tryz.prog 307 [.agg (bu s)] (.int .i64 (dZ s)):=by
 refine aF 21 [] Tryz.func307 rfl (by kernel_rfl) ?_
 repeat' ((conv=>arg 2;whnf);first|refine ah ?_|refine aj ?_|refine aG (fun h=>?_) (fun h=>?_)|refine F3 (.inr rfl) rfl ?_)
 all_goals simp_all [dZ]
 all_goals omega
theorem JG [Wd] (l:List bH) (hl:l.length<=4194304):mg 318 [.list 2 (l.map bu)] (pq l):=by
 intro e
 refine aF 21 [] Tryz.func318 rfl (by kernel_rfl) ?_
 repeat' ((conv=>arg 2;whnf);first|refine cU 0 (vk _ _) ⟨⟨rfl,rfl⟩,trivial⟩ (aa.refl _) rfl ?_)
 refine cD (α:=Nat×Int) (fun a=>⟨[(12,.int .i64 a.1),(11,.int .i64 (l.map bu).length),(10,.list 2 (l.map bu)),(0,.ptr 0 0)],qA a.2⟩) (fun a=>a.1<=l.length/\a.2=aK (aK e (jm l.length 13)) (fE dZ (l.take a.1))) (fun a=>l.length-a.1) (0,_) ⟨Nat.zero_le _,by simp[fE,kR,jm];rfl⟩ (Sv.mk' [0] rfl ⟨⟨rfl,rfl⟩,trivial⟩ ⟨rfl,rfl,rfl,rfl,trivial⟩) ?_
 rintro⟨q,e'⟩ ⟨hq,he⟩
 repeat' (conv=>arg 2;whnf);first|refine ah ?_|refine aj ?_|refine aG (fun h=>?_) (fun h=>?_)|refine cV (by simpa using h) (fun x hx=>?_)|refine ak (zZ x) rfl (aa.refl _) ?_|refine cU 0 (ur _) ⟨⟨rfl,rfl⟩,trivial⟩ (aa.refl _) rfl ?_|refine aP (aZ (by simp at h hq;omega) (by simp at h hq;omega)) ?_|refine bV (q+1,_) (Sv.mk' [0] rfl ⟨⟨rfl,rfl⟩,trivial⟩ ⟨rfl,rfl,rfl,rfl,trivial⟩) ⟨?_,?_⟩ ?_|refine bD ?_|refine mK [0] (.inl rfl) rfl rfl ⟨⟨rfl,rfl⟩,trivial⟩ ⟨⟨rfl,rfl⟩,trivial⟩ (.refl _) ?_
 ·show q+1<=l.length
  simp at h;omega
 ·show aK e' (dZ x)=_
  rw[sA dZ hx,<-iq,<-he]
 ·simp at h ⊢;omega
 ·rw[he,show l.take q=l from List.take_of_length_le (by simp at h;omega),pq,iq]
end Go.Proofs.YtafomdobfmmleaaGreatDoor

/- Lemmas and contracts. -/
namespace Go.Proofs.YtafomdobfmmleaaGreatDoor
open Go.RowKit
set_option linter.unusedVariables false
set_option maxRecDepth 20000
theorem AK {α:Type} [DecidableEq α] (a b:α):(a==b)=bK a b:=by
 by_cases h:a=b
 ·rw[xm h];simp[h]
 ·rw[xe h];simp[h]
theorem sX {α:Type} [DecidableEq α] (a b:α):decide (a=b)=bK a b:=AK a b
theorem lV {α:Type} {l k:List α} (h:¬l.length=k.length):bK l k=false:=xe (fun e=>h (by rw[e]))
theorem lu {α:Type} {l k:List α} {q:Nat} (hl:l.length=k.length) (hq:¬q<l.length) (he:l.take q=k.take q):bK l k=true:=by
 refine xm ?_
 rw[List.take_of_length_le (by omega),List.take_of_length_le (by omega)] at he
 exact he
theorem l8 {α:Type} {l k:List α} {q:Nat} {x y:α} (hx:l[q]?=some x) (hy:k[q]?=some y) (h:bK x y=false):bK l k=false:=by
 refine xe (fun e=>?_)
 subst e
 rw[hx] at hy
 injection hy with hy
 rw[xm hy] at h
 cases h
theorem l9 {α:Type} {l k:List α} {q:Nat} {x y:α} (hx:l[q]?=some x) (hy:k[q]?=some y) (h:bK x y=true) (he:l.take q=k.take q):l.take (q+1)=k.take (q+1):=by
 rw[List.take_add_one,List.take_add_one,hx,hy,he,jv.1 h]
theorem Cg (a b:bH):((a.key==b.key)&&(a.an==b.an))=bK a b:=by
 cases a;cases b
 rw[Bool.eq_iff_iff,jv];simp
theorem Ch (a b:iS):(((((a.seq==b.seq)&&(a.prev==b.prev))&&(a.batch==b.batch))&&(a.root==b.root))&&(a.state==b.state))=bK a b:=by
 cases a;cases b
 rw[Bool.eq_iff_iff,jv];simp[and_assoc]
theorem Al (a b:bF):bK a b=((a.kind==b.kind)&&decide (a.av=b.av)&&decide (a.group=b.group)&&(a.offset==b.offset)&&bK a.records b.records):=by
 obtain⟨a0,a1,a2,a3,a4⟩:=a
 obtain⟨b0,b1,b2,b3,b4⟩:=b
 rw[Bool.eq_iff_iff,jv]
 simp[jv,and_assoc]
theorem Jv (a b:jg):bK a b=((a.aQ==b.aQ)&&(a.time==b.time)&&bK a.op b.op):=by
 obtain⟨a0,a1,a2⟩:=a
 obtain⟨b0,b1,b2⟩:=b
 rw[Bool.eq_iff_iff,jv]
 simp[jv,and_assoc]
theorem Es (a b:cq):bK a b=(bK a.request b.request&&(a.sign.key==b.sign.key)&&(a.sign.an==b.sign.an)):=by
 obtain⟨a0,⟨abx,abm⟩⟩:=a
 obtain⟨b0,⟨aby,abn⟩⟩:=b
 rw[Bool.eq_iff_iff,jv]
 simp[jv,and_assoc]
theorem K0 (a b:gU):bK a b=((a.seq==b.seq)&&(a.an==b.an)&&bK a.cN b.cN):=by
 obtain⟨a0,a1,a2⟩:=a
 obtain⟨b0,b1,b2⟩:=b
 rw[Bool.eq_iff_iff,jv]
 simp[jv,and_assoc]
theorem Jj (a b:gq):bK a b=((a.view==b.view)&&(a.seq==b.seq)&&(a.an==b.an)&&(a.lz.key==b.lz.key)&&(a.lz.an==b.lz.an)&&bK a.cN b.cN&&bK a.batch b.batch):=by
 obtain⟨a0,a1,a2,⟨XO,TP⟩,a4,a5⟩:=a
 obtain⟨b0,b1,b2,⟨XP,TQ⟩,b4,b5⟩:=b
 rw[Bool.eq_iff_iff,jv]
 simp[jv,and_assoc]
theorem zo (a b:cX):bK a b=((a.view==b.view)&&(a.src==b.src)&&bK a.cert b.cert&&bK a.cR b.cR&&(a.sign.key==b.sign.key)&&(a.sign.an==b.sign.an)):=by
 obtain⟨a0,a1,a2,a3,⟨abz,abo⟩⟩:=a
 obtain⟨b0,b1,b2,b3,⟨abA,abp⟩⟩:=b
 rw[Bool.eq_iff_iff,jv]
 simp[jv,and_assoc]
theorem EG (a b:gH):bK a b=((a.view==b.view)&&(a.seq==b.seq)&&bK a.batch b.batch&&(a.sign.key==b.sign.key)&&(a.sign.an==b.sign.an)):=by
 obtain⟨a0,a1,a2,⟨XO,TP⟩⟩:=a
 obtain⟨b0,b1,b2,⟨XP,TQ⟩⟩:=b
 rw[Bool.eq_iff_iff,jv]
 simp[jv,and_assoc]
theorem tR (a b:jL):bK a b=(decide (a.av=b.av)&&(a.offset==b.offset)&&bK a.record b.record&&bK a.headers b.headers&&(a.index==b.index)&&(a.count==b.count)&&bK a.path b.path&&bK a.cert b.cert):=by
 obtain⟨a0,a1,a2,a3,a4,a5,a6,a7⟩:=a
 obtain⟨b0,b1,b2,b3,b4,b5,b6,b7⟩:=b
 rw[Bool.eq_iff_iff,jv]
 simp[jv,and_assoc]
theorem vI (a b:aN):bK a b=((a.kind==b.kind)&&(a.src==b.src)&&(a.view==b.view)&&(a.seq==b.seq)&&(a.an==b.an)&&(a.aQ==b.aQ)&&(a.time==b.time)&&(a.result.err==b.result.err)&&(a.result.offset==b.result.offset)&&bK a.batch b.batch&&bK a.cert b.cert&&bK a.changes b.changes&&bK a.entries b.entries&&bK a.state b.state&&decide (a.av=b.av)&&(a.offset==b.offset)&&bK a.proof b.proof&&(a.sign.key==b.sign.key)&&(a.sign.an==b.sign.an)):=by
 obtain⟨a0,a1,a2,a3,a4,a5,a6,⟨abB,abq⟩,a8,a9,a10,a11,a12,a13,a14,a15,⟨abu,abk⟩⟩:=a
 obtain⟨b0,b1,b2,b3,b4,b5,b6,⟨abC,abr⟩,b8,b9,b10,b11,rU,Og,Oh,b15,⟨abv,abl⟩⟩:=b
 rw[Bool.eq_iff_iff,jv]
 simp[jv,and_assoc]
theorem L6 (a b:aS):bK a b=((a.kind==b.kind)&&(a.aL==b.aL)&&(a.num==b.num)&&bK a.op b.op&&bK a.bytes b.bytes&&bK a.msg b.msg&&(a.fL==b.fL)):=by
 obtain⟨a0,a1,a2,a3,a4,a5,a6⟩:=a
 obtain⟨b0,b1,b2,b3,b4,b5,b6⟩:=b
 rw[Bool.eq_iff_iff,jv]
 simp[jv,and_assoc]
theorem De [Wd] (a b:List UInt8) (ha:a.length<=4194304) (hb:b.length<=4194304):aJ Tryz.prog 16 [.list 1 (a.map aE),.list 1 (b.map aE)] (.bool (bK a b)):=by
 refine aF 10 [] Tryz.func16 rfl (by kernel_rfl) ?_
 repeat' (conv=>arg 2;whnf);first|refine kO a rfl ?_|refine kO b rfl ?_|refine af (by omega) ?_|refine af (by kernel_rfl) ?_|refine ah ?_|refine aj ?_|refine aG (fun h=>?_) (fun h=>?_)|(refine bT (.inr rfl) rfl ?_;exact sX a b)
theorem TR [Wd] (a b:List UInt8) (ha:a.length<=4194304) (hb:b.length<=4194304):aJ Tryz.prog 88 [.list 1 (a.map aE),.list 1 (b.map aE)] (.bool (bK a b)):=by
 refine aF 8 [] Tryz.func88 rfl (by kernel_rfl) ?_
 repeat' (conv=>arg 2;whnf);first|refine af (by kernel_rfl) ?_|refine ah ?_|refine aj ?_|refine aG (fun h=>?_) (fun h=>?_)|refine ak (De a b ha hb) rfl (aa.refl _) ?_|refine bT (.inr rfl) rfl rfl
theorem VH [Wd] (l k:List (List UInt8)) (hl:(dL dY).ok l) (hk:(dL dY).ok k):aJ Tryz.prog 87 [.list 1 (l.map kU),.list 1 (k.map kU),.fn 88 0 []] (.bool (bK l k)):=by
 have HL:l.length<=4194304:=hl.1
 refine aF 32 [] Tryz.func87 rfl (by kernel_rfl) ?_
 repeat' (conv=>arg 2;whnf);first|refine af (by kernel_rfl) ?_|refine ah ?_|refine aj ?_|refine aG (fun h=>?_) (fun h=>?_)|(refine bT (.inr rfl) rfl ?_;exact(lV (by simp at h;omega)).symm)
 have hn:l.length=k.length:=by simp at h;omega
 refine cD (α:=Nat) (fun q=>⟨[(17,.int .i64 q),(16,.int .i64 (l.map kU).length),(15,.list 1 (l.map kU)),(2,.fn 88 0 []),(1,.list 1 (k.map kU))],[]⟩) (fun q=>q<=l.length/\l.take q=k.take q) (fun q=>l.length-q) 0 ⟨Nat.zero_le _,rfl⟩ (Sv.mk' [] rfl trivial ⟨rfl,rfl,rfl,rfl,rfl,trivial⟩) ?_
 rintro q ⟨hq,he⟩
 repeat' (conv=>arg 2;whnf);first|refine af (by kernel_rfl) ?_|refine ah ?_|refine aj ?_|refine aG (fun h=>?_) (fun h=>?_)|refine cV (l:=l) (by simp at h;omega) (fun x hx=>?_)|refine cV (l:=k) (by simp at h;omega) (fun y hy=>?_)|refine ak (TR x y (hl.2 x (List.mem_of_getElem? hx)) (hk.2 y (List.mem_of_getElem? hy))) rfl (aa.refl _) ?_|refine aP (aZ (by simp at h hq;omega) (by have:=HL;simp at h hq;omega)) ?_|refine bV (q+1) (Sv.mk' [] rfl trivial ⟨rfl,rfl,rfl,rfl,rfl,trivial⟩) ⟨by have:=(List.getElem?_eq_some_iff.1 hx).1;omega,l9 hx hy (by simpa using h) he⟩ (by have:=(List.getElem?_eq_some_iff.1 hx).1;omega)|refine bD ?_|refine fF ?_|(refine bT (.inr rfl) rfl ?_;have hl:=l8 hx hy (by simpa using h);exact hl.symm;done)|(have hl:=lu hn (by simp at h;omega) he;refine bT (.inr rfl) rfl ?_;exact hl.symm;done)
theorem FG [Wd] (a b:bF) (ha:jc.ok a) (hb:jc.ok b):aJ Tryz.prog 53 [.agg (cI a),.agg (cI b)] (.bool (bK a b)):=by
 refine aF 38 [] Tryz.func53 rfl (by kernel_rfl) ?_
 repeat' (conv=>arg 2;whnf);first|refine af (by kernel_rfl) ?_|refine ah ?_|refine aj ?_|refine aG (fun h=>?_) (fun h=>?_)|refine ak (VH a.records b.records ha.2.2.2.2 hb.2.2.2.2) rfl (aa.refl _) ?_|(refine bT (.inr rfl) rfl ?_;rw[Al];simp_all;done)|(exfalso;simp_all;done)
theorem TS [Wd] (a b:cq) (ha:gF.ok a) (hb:gF.ok b):aJ Tryz.prog 131 [.agg (cZ a),.agg (cZ b)] (.bool (bK a b)):=by
 refine aF 37 [] Tryz.func131 rfl (by kernel_rfl) ?_
 repeat' (conv=>arg 2;whnf);first|refine af (by kernel_rfl) ?_|refine ah ?_|refine aj ?_|refine aG (fun h=>?_) (fun h=>?_)|refine ak (FG a.request.op b.request.op ha.1.2.2 hb.1.2.2) rfl (aa.refl _) ?_|(refine bT (.inr rfl) rfl ?_;rw[Es,Jv];simp_all;done)|(exfalso;simp_all;done)
theorem Rv [Wd] (l k:List (cq)) (hl:(dL gF).ok l) (hk:(dL gF).ok k):aJ Tryz.prog 130 [.list 9 (l.map cZ),.list 9 (k.map cZ),.fn 131 0 []] (.bool (bK l k)):=by
 have HL:l.length<=4194304:=hl.1
 refine aF 32 [] Tryz.func130 rfl (by kernel_rfl) ?_
 repeat' (conv=>arg 2;whnf);first|refine af (by kernel_rfl) ?_|refine ah ?_|refine aj ?_|refine aG (fun h=>?_) (fun h=>?_)|(refine bT (.inr rfl) rfl ?_;exact(lV (by simp at h;omega)).symm)
 have hn:l.length=k.length:=by simp at h;omega
 refine cD (α:=Nat) (fun q=>⟨[(17,.int .i64 q),(16,.int .i64 (l.map cZ).length),(15,.list 9 (l.map cZ)),(2,.fn 131 0 []),(1,.list 9 (k.map cZ))],[]⟩) (fun q=>q<=l.length/\l.take q=k.take q) (fun q=>l.length-q) 0 ⟨Nat.zero_le _,rfl⟩ (Sv.mk' [] rfl trivial ⟨rfl,rfl,rfl,rfl,rfl,trivial⟩) ?_
 rintro q ⟨hq,he⟩
 repeat' (conv=>arg 2;whnf);first|refine af (by kernel_rfl) ?_|refine ah ?_|refine aj ?_|refine aG (fun h=>?_) (fun h=>?_)|refine cV (l:=l) (by simp at h;omega) (fun x hx=>?_)|refine cV (l:=k) (by simp at h;omega) (fun y hy=>?_)|refine ak (TS x y (hl.2 x (List.mem_of_getElem? hx)) (hk.2 y (List.mem_of_getElem? hy))) rfl (aa.refl _) ?_|refine aP (aZ (by simp at h hq;omega) (by have:=HL;simp at h hq;omega)) ?_|refine bV (q+1) (Sv.mk' [] rfl trivial ⟨rfl,rfl,rfl,rfl,rfl,trivial⟩) ⟨by have:=(List.getElem?_eq_some_iff.1 hx).1;omega,l9 hx hy (by simpa using h) he⟩ (by have:=(List.getElem?_eq_some_iff.1 hx).1;omega)|refine bD ?_|refine fF ?_|(refine bT (.inr rfl) rfl ?_;have hl:=l8 hx hy (by simpa using h);exact hl.symm;done)|(have hl:=lu hn (by simp at h;omega) he;refine bT (.inr rfl) rfl ?_;exact hl.symm;done)
theorem FH [Wd] (l k:List cq) (hl:(dL gF).ok l) (hk:(dL gF).ok k):aJ Tryz.prog 90 [.list 9 (l.map cZ),.list 9 (k.map cZ)] (.bool (bK l k)):=by
 refine aF 8 [] Tryz.func90 rfl (by kernel_rfl) ?_
 repeat' (conv=>arg 2;whnf);first|refine af (by kernel_rfl) ?_|refine ah ?_|refine aj ?_|refine aG (fun h=>?_) (fun h=>?_)|refine ak (Rv l k hl hk) rfl (aa.refl _) ?_|refine bT (.inr rfl) rfl rfl
theorem Ki [Wd] (l k:List (bH)) (hl:l.length<=4194304):aJ Tryz.prog 132 [.list 2 (l.map bu),.list 2 (k.map bu)] (.bool (bK l k)):=by
 have HL:l.length<=4194304:=hl
 refine aF 26 [] Tryz.func132 rfl (by kernel_rfl) ?_
 repeat' (conv=>arg 2;whnf);first|refine af (by kernel_rfl) ?_|refine ah ?_|refine aj ?_|refine aG (fun h=>?_) (fun h=>?_)|(refine bT (.inr rfl) rfl ?_;exact(lV (by simp at h;omega)).symm)
 have hn:l.length=k.length:=by simp at h;omega
 refine cD (α:=Nat) (fun q=>⟨[(13,.int .i64 q),(12,.int .i64 (l.map bu).length),(0,.list 2 (l.map bu)),(1,.list 2 (k.map bu))],[]⟩) (fun q=>q<=l.length/\l.take q=k.take q) (fun q=>l.length-q) 0 ⟨Nat.zero_le _,rfl⟩ (Sv.mk' [] rfl trivial ⟨rfl,rfl,rfl,rfl,trivial⟩) ?_
 rintro q ⟨hq,he⟩
 repeat' (conv=>arg 2;whnf);first|refine af (by kernel_rfl) ?_|refine ah ?_|refine aj ?_|refine aG (fun h=>?_) (fun h=>?_)|refine cV (l:=l) (by simp at h;omega) (fun x hx=>?_)|refine cV (l:=k) (by simp at h;omega) (fun y hy=>?_)|refine aP (aZ (by simp at h hq;omega) (by have:=HL;simp at h hq;omega)) ?_|refine bV (q+1) (Sv.mk' [] rfl trivial ⟨rfl,rfl,rfl,rfl,trivial⟩) ⟨by have:=(List.getElem?_eq_some_iff.1 hx).1;omega,l9 hx hy (by rw[<-Cg];rw[Bool.true_and] at h;first|exact(Bool.not_eq_true' _).mp h|exact(Bool.not_eq_false' _).mp h) he⟩ (by have:=(List.getElem?_eq_some_iff.1 hx).1;omega)|refine bD ?_|refine fF ?_|(refine bT (.inr rfl) rfl ?_;have hl:=l8 hx hy (by rw[<-Cg];rw[Bool.true_and] at h;first|exact(Bool.not_eq_true' _).mp h|exact(Bool.not_eq_false' _).mp h);exact hl.symm;done)|(have hl:=lu hn (by simp at h;omega) he;refine bT (.inr rfl) rfl ?_;exact hl.symm;done)
theorem QT [Wd] (l k:List (iS)) (hl:l.length<=4194304):aJ Tryz.prog 135 [.list 5 (l.map eM),.list 5 (k.map eM)] (.bool (bK l k)):=by
 have HL:l.length<=4194304:=hl
 refine aF 26 [] Tryz.func135 rfl (by kernel_rfl) ?_
 repeat' (conv=>arg 2;whnf);first|refine af (by kernel_rfl) ?_|refine ah ?_|refine aj ?_|refine aG (fun h=>?_) (fun h=>?_)|(refine bT (.inr rfl) rfl ?_;exact(lV (by simp at h;omega)).symm)
 have hn:l.length=k.length:=by simp at h;omega
 refine cD (α:=Nat) (fun q=>⟨[(13,.int .i64 q),(12,.int .i64 (l.map eM).length),(0,.list 5 (l.map eM)),(1,.list 5 (k.map eM))],[]⟩) (fun q=>q<=l.length/\l.take q=k.take q) (fun q=>l.length-q) 0 ⟨Nat.zero_le _,rfl⟩ (Sv.mk' [] rfl trivial ⟨rfl,rfl,rfl,rfl,trivial⟩) ?_
 rintro q ⟨hq,he⟩
 repeat' (conv=>arg 2;whnf);first|refine af (by kernel_rfl) ?_|refine ah ?_|refine aj ?_|refine aG (fun h=>?_) (fun h=>?_)|refine cV (l:=l) (by simp at h;omega) (fun x hx=>?_)|refine cV (l:=k) (by simp at h;omega) (fun y hy=>?_)|refine aP (aZ (by simp at h hq;omega) (by have:=HL;simp at h hq;omega)) ?_|refine bV (q+1) (Sv.mk' [] rfl trivial ⟨rfl,rfl,rfl,rfl,trivial⟩) ⟨by have:=(List.getElem?_eq_some_iff.1 hx).1;omega,l9 hx hy (by rw[<-Ch];rw[Bool.true_and] at h;first|exact(Bool.not_eq_true' _).mp h|exact(Bool.not_eq_false' _).mp h) he⟩ (by have:=(List.getElem?_eq_some_iff.1 hx).1;omega)|refine bD ?_|refine fF ?_|(refine bT (.inr rfl) rfl ?_;have hl:=l8 hx hy (by rw[<-Ch];rw[Bool.true_and] at h;first|exact(Bool.not_eq_true' _).mp h|exact(Bool.not_eq_false' _).mp h);exact hl.symm;done)|(have hl:=lu hn (by simp at h;omega) he;refine bT (.inr rfl) rfl ?_;exact hl.symm;done)
theorem QU [Wd] (l k:List (Int)) (hl:l.length<=4194304):aJ Tryz.prog 136 [.list 1 (l.map eY),.list 1 (k.map eY)] (.bool (bK l k)):=by
 have HL:l.length<=4194304:=hl
 refine aF 26 [] Tryz.func136 rfl (by kernel_rfl) ?_
 repeat' (conv=>arg 2;whnf);first|refine af (by kernel_rfl) ?_|refine ah ?_|refine aj ?_|refine aG (fun h=>?_) (fun h=>?_)|(refine bT (.inr rfl) rfl ?_;exact(lV (by simp at h;omega)).symm)
 have hn:l.length=k.length:=by simp at h;omega
 refine cD (α:=Nat) (fun q=>⟨[(13,.int .i64 q),(12,.int .i64 (l.map eY).length),(0,.list 1 (l.map eY)),(1,.list 1 (k.map eY))],[]⟩) (fun q=>q<=l.length/\l.take q=k.take q) (fun q=>l.length-q) 0 ⟨Nat.zero_le _,rfl⟩ (Sv.mk' [] rfl trivial ⟨rfl,rfl,rfl,rfl,trivial⟩) ?_
 rintro q ⟨hq,he⟩
 repeat' (conv=>arg 2;whnf);first|refine af (by kernel_rfl) ?_|refine ah ?_|refine aj ?_|refine aG (fun h=>?_) (fun h=>?_)|refine cV (l:=l) (by simp at h;omega) (fun x hx=>?_)|refine cV (l:=k) (by simp at h;omega) (fun y hy=>?_)|refine aP (aZ (by simp at h hq;omega) (by have:=HL;simp at h hq;omega)) ?_|refine bV (q+1) (Sv.mk' [] rfl trivial ⟨rfl,rfl,rfl,rfl,trivial⟩) ⟨by have:=(List.getElem?_eq_some_iff.1 hx).1;omega,l9 hx hy (by rw[<-AK];simpa using h) he⟩ (by have:=(List.getElem?_eq_some_iff.1 hx).1;omega)|refine bD ?_|refine fF ?_|(refine bT (.inr rfl) rfl ?_;have hl:=l8 hx hy (by rw[<-AK];simpa using h);exact hl.symm;done)|(have hl:=lu hn (by simp at h;omega) he;refine bT (.inr rfl) rfl ?_;exact hl.symm;done)
theorem Et [Wd] (a b:gU) (ha:gV.ok a) (hb:gV.ok b):aJ Tryz.prog 91 [.agg (mh a),.agg (mh b)] (.bool (bK a b)):=by
 refine aF 24 [] Tryz.func91 rfl (by kernel_rfl) ?_
 repeat' (conv=>arg 2;whnf);first|refine af (by kernel_rfl) ?_|refine ah ?_|refine aj ?_|refine aG (fun h=>?_) (fun h=>?_)|refine ak (Ki a.cN b.cN ha.2.2.1) rfl (aa.refl _) ?_|(refine bT (.inr rfl) rfl ?_;rw[K0];simp_all;done)|(exfalso;simp_all;done)
theorem Rw [Wd] (a b:gq) (ha:oU.ok a) (hb:oU.ok b):aJ Tryz.prog 134 [.agg (eK a),.agg (eK b)] (.bool (bK a b)):=by
 refine aF 45 [] Tryz.func134 rfl (by kernel_rfl) ?_
 repeat' (conv=>arg 2;whnf);first|refine af (by kernel_rfl) ?_|refine ah ?_|refine aj ?_|refine aG (fun h=>?_) (fun h=>?_)|refine ak (Ki a.cN b.cN ha.2.2.2.2.1.1) rfl (aa.refl _) ?_|refine ak (FH a.batch b.batch ha.2.2.2.2.2 hb.2.2.2.2.2) rfl (aa.refl _) ?_|(refine bT (.inr rfl) rfl ?_;rw[Jj];simp_all;done)|(exfalso;simp_all;done)
theorem TU [Wd] (l k:List (gq)) (hl:(dL oU).ok l) (hk:(dL oU).ok k):aJ Tryz.prog 133 [.list 7 (l.map eK),.list 7 (k.map eK),.fn 134 0 []] (.bool (bK l k)):=by
 have HL:l.length<=4194304:=hl.1
 refine aF 32 [] Tryz.func133 rfl (by kernel_rfl) ?_
 repeat' (conv=>arg 2;whnf);first|refine af (by kernel_rfl) ?_|refine ah ?_|refine aj ?_|refine aG (fun h=>?_) (fun h=>?_)|(refine bT (.inr rfl) rfl ?_;exact(lV (by simp at h;omega)).symm)
 have hn:l.length=k.length:=by simp at h;omega
 refine cD (α:=Nat) (fun q=>⟨[(17,.int .i64 q),(16,.int .i64 (l.map eK).length),(15,.list 7 (l.map eK)),(2,.fn 134 0 []),(1,.list 7 (k.map eK))],[]⟩) (fun q=>q<=l.length/\l.take q=k.take q) (fun q=>l.length-q) 0 ⟨Nat.zero_le _,rfl⟩ (Sv.mk' [] rfl trivial ⟨rfl,rfl,rfl,rfl,rfl,trivial⟩) ?_
 rintro q ⟨hq,he⟩
 repeat' (conv=>arg 2;whnf);first|refine af (by kernel_rfl) ?_|refine ah ?_|refine aj ?_|refine aG (fun h=>?_) (fun h=>?_)|refine cV (l:=l) (by simp at h;omega) (fun x hx=>?_)|refine cV (l:=k) (by simp at h;omega) (fun y hy=>?_)|refine ak (Rw x y (hl.2 x (List.mem_of_getElem? hx)) (hk.2 y (List.mem_of_getElem? hy))) rfl (aa.refl _) ?_|refine aP (aZ (by simp at h hq;omega) (by have:=HL;simp at h hq;omega)) ?_|refine bV (q+1) (Sv.mk' [] rfl trivial ⟨rfl,rfl,rfl,rfl,rfl,trivial⟩) ⟨by have:=(List.getElem?_eq_some_iff.1 hx).1;omega,l9 hx hy (by simpa using h) he⟩ (by have:=(List.getElem?_eq_some_iff.1 hx).1;omega)|refine bD ?_|refine fF ?_|(refine bT (.inr rfl) rfl ?_;have hl:=l8 hx hy (by simpa using h);exact hl.symm;done)|(have hl:=lu hn (by simp at h;omega) he;refine bT (.inr rfl) rfl ?_;exact hl.symm;done)
theorem Qx [Wd] (a b:cX) (ha:gG.ok a) (hb:gG.ok b):aJ Tryz.prog 93 [.agg (bW a),.agg (bW b)] (.bool (bK a b)):=by
 refine aF 38 [] Tryz.func93 rfl (by kernel_rfl) ?_
 repeat' (conv=>arg 2;whnf);first|refine af (by kernel_rfl) ?_|refine ah ?_|refine aj ?_|refine aG (fun h=>?_) (fun h=>?_)|refine ak (Et a.cert b.cert ha.2.2.1 hb.2.2.1) rfl (aa.refl _) ?_|refine ak (TU a.cR b.cR ha.2.2.2.1 hb.2.2.2.1) rfl (aa.refl _) ?_|(refine bT (.inr rfl) rfl ?_;rw[zo];simp_all;done)|(exfalso;simp_all;done)
theorem QV [Wd] (a b:gH) (ha:jw.ok a) (hb:jw.ok b):aJ Tryz.prog 95 [.agg (dH a),.agg (dH b)] (.bool (bK a b)):=by
 refine aF 31 [] Tryz.func95 rfl (by kernel_rfl) ?_
 repeat' (conv=>arg 2;whnf);first|refine af (by kernel_rfl) ?_|refine ah ?_|refine aj ?_|refine aG (fun h=>?_) (fun h=>?_)|refine ak (FH a.batch b.batch ha.2.2.1 hb.2.2.1) rfl (aa.refl _) ?_|(refine bT (.inr rfl) rfl ?_;rw[EG];simp_all;done)|(exfalso;simp_all;done)
theorem QW [Wd] (a b:jL) (ha:jk.ok a) (hb:jk.ok b):aJ Tryz.prog 96 [.agg (j8 a),.agg (j8 b)] (.bool (bK a b)):=by
 refine aF 59 [] Tryz.func96 rfl (by kernel_rfl) ?_
 repeat' (conv=>arg 2;whnf);first|refine af (by kernel_rfl) ?_|refine ah ?_|refine aj ?_|refine aG (fun h=>?_) (fun h=>?_)|refine ak (De a.record b.record ha.2.2.1 hb.2.2.1) rfl (aa.refl _) ?_|refine ak (QT a.headers b.headers ha.2.2.2.1.1) rfl (aa.refl _) ?_|refine ak (QU a.path b.path ha.2.2.2.2.2.2.1.1) rfl (aa.refl _) ?_|refine ak (Et a.cert b.cert ha.2.2.2.2.2.2.2 hb.2.2.2.2.2.2.2) rfl (aa.refl _) ?_|(refine bT (.inr rfl) rfl ?_;rw[tR];simp_all;done)|(exfalso;simp_all;done)
theorem Rx [Wd] (l k:List (cX)) (hl:(dL gG).ok l) (hk:(dL gG).ok k):aJ Tryz.prog 92 [.list 8 (l.map bW),.list 8 (k.map bW),.fn 93 0 []] (.bool (bK l k)):=by
 have HL:l.length<=4194304:=hl.1
 refine aF 32 [] Tryz.func92 rfl (by kernel_rfl) ?_
 repeat' (conv=>arg 2;whnf);first|refine af (by kernel_rfl) ?_|refine ah ?_|refine aj ?_|refine aG (fun h=>?_) (fun h=>?_)|(refine bT (.inr rfl) rfl ?_;exact(lV (by simp at h;omega)).symm)
 have hn:l.length=k.length:=by simp at h;omega
 refine cD (α:=Nat) (fun q=>⟨[(17,.int .i64 q),(16,.int .i64 (l.map bW).length),(15,.list 8 (l.map bW)),(2,.fn 93 0 []),(1,.list 8 (k.map bW))],[]⟩) (fun q=>q<=l.length/\l.take q=k.take q) (fun q=>l.length-q) 0 ⟨Nat.zero_le _,rfl⟩ (Sv.mk' [] rfl trivial ⟨rfl,rfl,rfl,rfl,rfl,trivial⟩) ?_
 rintro q ⟨hq,he⟩
 repeat' (conv=>arg 2;whnf);first|refine af (by kernel_rfl) ?_|refine ah ?_|refine aj ?_|refine aG (fun h=>?_) (fun h=>?_)|refine cV (l:=l) (by simp at h;omega) (fun x hx=>?_)|refine cV (l:=k) (by simp at h;omega) (fun y hy=>?_)|refine ak (Qx x y (hl.2 x (List.mem_of_getElem? hx)) (hk.2 y (List.mem_of_getElem? hy))) rfl (aa.refl _) ?_|refine aP (aZ (by simp at h hq;omega) (by have:=HL;simp at h hq;omega)) ?_|refine bV (q+1) (Sv.mk' [] rfl trivial ⟨rfl,rfl,rfl,rfl,rfl,trivial⟩) ⟨by have:=(List.getElem?_eq_some_iff.1 hx).1;omega,l9 hx hy (by simpa using h) he⟩ (by have:=(List.getElem?_eq_some_iff.1 hx).1;omega)|refine bD ?_|refine fF ?_|(refine bT (.inr rfl) rfl ?_;have hl:=l8 hx hy (by simpa using h);exact hl.symm;done)|(have hl:=lu hn (by simp at h;omega) he;refine bT (.inr rfl) rfl ?_;exact hl.symm;done)
theorem So [Wd] (l k:List (gH)) (hl:(dL jw).ok l) (hk:(dL jw).ok k):aJ Tryz.prog 94 [.list 5 (l.map dH),.list 5 (k.map dH),.fn 95 0 []] (.bool (bK l k)):=by
 have HL:l.length<=4194304:=hl.1
 refine aF 32 [] Tryz.func94 rfl (by kernel_rfl) ?_
 repeat' (conv=>arg 2;whnf);first|refine af (by kernel_rfl) ?_|refine ah ?_|refine aj ?_|refine aG (fun h=>?_) (fun h=>?_)|(refine bT (.inr rfl) rfl ?_;exact(lV (by simp at h;omega)).symm)
 have hn:l.length=k.length:=by simp at h;omega
 refine cD (α:=Nat) (fun q=>⟨[(17,.int .i64 q),(16,.int .i64 (l.map dH).length),(15,.list 5 (l.map dH)),(2,.fn 95 0 []),(1,.list 5 (k.map dH))],[]⟩) (fun q=>q<=l.length/\l.take q=k.take q) (fun q=>l.length-q) 0 ⟨Nat.zero_le _,rfl⟩ (Sv.mk' [] rfl trivial ⟨rfl,rfl,rfl,rfl,rfl,trivial⟩) ?_
 rintro q ⟨hq,he⟩
 repeat' (conv=>arg 2;whnf);first|refine af (by kernel_rfl) ?_|refine ah ?_|refine aj ?_|refine aG (fun h=>?_) (fun h=>?_)|refine cV (l:=l) (by simp at h;omega) (fun x hx=>?_)|refine cV (l:=k) (by simp at h;omega) (fun y hy=>?_)|refine ak (QV x y (hl.2 x (List.mem_of_getElem? hx)) (hk.2 y (List.mem_of_getElem? hy))) rfl (aa.refl _) ?_|refine aP (aZ (by simp at h hq;omega) (by have:=HL;simp at h hq;omega)) ?_|refine bV (q+1) (Sv.mk' [] rfl trivial ⟨rfl,rfl,rfl,rfl,rfl,trivial⟩) ⟨by have:=(List.getElem?_eq_some_iff.1 hx).1;omega,l9 hx hy (by simpa using h) he⟩ (by have:=(List.getElem?_eq_some_iff.1 hx).1;omega)|refine bD ?_|refine fF ?_|(refine bT (.inr rfl) rfl ?_;have hl:=l8 hx hy (by simpa using h);exact hl.symm;done)|(have hl:=lu hn (by simp at h;omega) he;refine bT (.inr rfl) rfl ?_;exact hl.symm;done)
def XQ (a:aN):List D:=[.int .i64 a.kind,.int .i64 a.src,.int .i64 a.aQ,.int .i64 a.view,.int .i64 a.seq,.int .i64 a.time,.int .i64 a.offset,.int .i64 a.an,.int .i64 a.result.err,.int .i64 a.result.offset,.str a.av,.int .i64 a.sign.key,.int .i64 a.sign.an]
theorem TV [Wd] (a:aN):aJ Tryz.prog 89 [.agg (aU a)] (.agg (XQ a)):=by
 refine aF 26 [] Tryz.func89 rfl (by kernel_rfl) ?_
 repeat' (conv=>arg 2;whnf);first|refine af (by kernel_rfl) ?_|refine ah ?_|refine aj ?_|refine aG (fun h=>?_) (fun h=>?_)|refine bq (.inr rfl) rfl (.refl _) rfl
theorem L5 [Wd] (a b:aN) (ha:cr.ok a) (hb:cr.ok b):aJ Tryz.prog 54 [.agg (aU a),.agg (aU b)] (.bool (bK a b)):=by
 refine aF 52 [(1,⟨[(0,false),(2,false),(1,true),(3,true),(4,false),(5,false),(6,false),(7,false),(8,false),(9,false),(10,true),(11,false),(12,false),(13,false),(14,false),(15,false),(16,false),(17,true),(18,false),(19,false),(20,false),(21,false),(22,false),(23,false),(24,true),(25,false),(26,false),(27,false),(28,false),(29,false),(30,false),(31,true),(32,false),(33,false),(34,false),(35,false),(36,false),(37,false),(38,true),(39,false),(40,false),(41,false),(42,false),(43,false),(44,false),(45,true),(46,false),(47,false)],[]⟩)] Tryz.func54 rfl (by kernel_rfl) ?_
 repeat' (conv=>arg 2;whnf);first|refine af (by kernel_rfl) ?_|refine ah ?_|refine aj ?_|refine aG (fun h=>?_) (fun h=>?_)|refine ak (TV _) rfl (aa.refl _) ?_|refine ak (FH a.batch b.batch ha.2.2.2.2.2.2.2.2.1 hb.2.2.2.2.2.2.2.2.1) rfl (aa.refl _) ?_|refine ak (Et a.cert b.cert ha.2.2.2.2.2.2.2.2.2.1 hb.2.2.2.2.2.2.2.2.2.1) rfl (aa.refl _) ?_|refine ak (Rx a.changes b.changes ha.2.2.2.2.2.2.2.2.2.2.1 hb.2.2.2.2.2.2.2.2.2.2.1) rfl (aa.refl _) ?_|refine ak (So a.entries b.entries ha.2.2.2.2.2.2.2.2.2.2.2.1 hb.2.2.2.2.2.2.2.2.2.2.2.1) rfl (aa.refl _) ?_|refine ak (De a.state b.state ha.2.2.2.2.2.2.2.2.2.2.2.2.1 hb.2.2.2.2.2.2.2.2.2.2.2.2.1) rfl (aa.refl _) ?_|refine ak (QW a.proof b.proof ha.2.2.2.2.2.2.2.2.2.2.2.2.2.2.2.1 hb.2.2.2.2.2.2.2.2.2.2.2.2.2.2.2.1) rfl (aa.refl _) ?_|(refine bT (.inr rfl) rfl ?_;rw[vI];simp_all;done)|(exfalso;simp_all;done)
theorem VI [Wd] (a b:aS) (ha:ey.ok a) (hb:ey.ok b):aJ Tryz.prog 22 [.agg (cg a),.agg (cg b)] (.bool (bK a b)):=by
 refine aF 52 [] Tryz.func22 rfl (by kernel_rfl) ?_
 repeat' (conv=>arg 2;whnf);first|refine af (by kernel_rfl) ?_|refine ah ?_|refine aj ?_|refine aG (fun h=>?_) (fun h=>?_)|refine ak (FG a.op b.op ha.2.2.2.1 hb.2.2.2.1) rfl (aa.refl _) ?_|refine ak (De a.bytes b.bytes ha.2.2.2.2.1 hb.2.2.2.2.1) rfl (aa.refl _) ?_|refine ak (L5 a.msg b.msg ha.2.2.2.2.2.1 hb.2.2.2.2.2.1) rfl (aa.refl _) ?_|(refine bT (.inr rfl) rfl ?_;rw[L6];simp_all;done)|(exfalso;simp_all;done)
end Go.Proofs.YtafomdobfmmleaaGreatDoor

/- Lemmas and contracts. -/
namespace Go.Proofs.YtafomdobfmmleaaGreatDoor
open Go.RowKit
set_option linter.unusedVariables false
set_option maxRecDepth 20000
theorem CA [Wd] {P:Program} {Q:Exit->S->Prop} {α:Type} {l:List α} {f:α->List D} {q:Nat} {x:α} {c:List D->T} (hx:l[q]?=some x) (h:(c (f x)).ok P Q):(T.nth (l.map f) (q:Int) c).ok P Q:=
 ⟨f x,Int.natCast_nonneg q,by simp[hx],h⟩
theorem K1 [Wd] (l k:List (bH)) (hl:l.length<=4194304):aJ Tryz.prog 128 [.list 2 (l.map bu),.list 2 (k.map bu)] (.bool (bK l k)):=by
 have HL:l.length<=4194304:=hl
 refine aF 26 [] Tryz.func128 rfl (by kernel_rfl) ?_
 repeat' (conv=>arg 2;whnf);first|refine af (by kernel_rfl) ?_|refine ah ?_|refine aj ?_|refine aG (fun h=>?_) (fun h=>?_)|(refine bT (.inr rfl) rfl ?_;exact(lV (by simp at h;omega)).symm)
 have hn:l.length=k.length:=by simp at h;omega
 refine cD (α:=Nat) (fun q=>⟨[(5,.int .i64 q),(0,.list 2 (l.map bu)),(1,.list 2 (k.map bu))],[]⟩) (fun q=>q<=l.length/\l.take q=k.take q) (fun q=>l.length-q) 0 ⟨Nat.zero_le _,rfl⟩ (Sv.mk' [] rfl trivial ⟨rfl,rfl,rfl,trivial⟩) ?_
 rintro q ⟨hq,he⟩
 repeat' (conv=>arg 2;whnf);first|refine af (by kernel_rfl) ?_|refine ah ?_|refine aj ?_|refine aG (fun h=>?_) (fun h=>?_)|refine cV (l:=l) (by simp at h;omega) (fun x hx=>?_)|refine cV (l:=k) (by simp at h;omega) (fun y hy=>?_)|refine aP (aZ (by simp at h hq;omega) (by have:=HL;simp at h hq;omega)) ?_|refine bV (q+1) (Sv.mk' [] rfl trivial ⟨rfl,rfl,rfl,trivial⟩) ⟨by have:=(List.getElem?_eq_some_iff.1 hx).1;omega,l9 hx hy (by rw[<-Cg];rw[Bool.true_and] at h;first|exact(Bool.not_eq_true' _).mp h|exact(Bool.not_eq_false' _).mp h) he⟩ (by have:=(List.getElem?_eq_some_iff.1 hx).1;omega)|refine bD ?_|refine fF ?_|(refine bT (.inr rfl) rfl ?_;have hl:=l8 hx hy (by rw[<-Cg];rw[Bool.true_and] at h;first|exact(Bool.not_eq_true' _).mp h|exact(Bool.not_eq_false' _).mp h);exact hl.symm;done)|(have hl:=lu hn (by simp at h;omega) he;refine bT (.inr rfl) rfl ?_;exact hl.symm;done)
theorem FI [Wd] (a b:gU) (ha:gV.ok a) (hb:gV.ok b):aJ Tryz.prog 83 [.agg (mh a),.agg (mh b)] (.bool (bK a b)):=by
 refine aF 24 [] Tryz.func83 rfl (by kernel_rfl) ?_
 repeat' (conv=>arg 2;whnf);first|refine af (by kernel_rfl) ?_|refine ah ?_|refine aj ?_|refine aG (fun h=>?_) (fun h=>?_)|refine ak (K1 a.cN b.cN ha.2.2.1) rfl (aa.refl _) ?_|(refine bT (.inr rfl) rfl ?_;rw[K0];simp_all;done)|(exfalso;simp_all;done)
theorem Nl [Wd] (a b:bF) (ha:jc.ok a) (hb:jc.ok b):aJ Tryz.prog 51 [.agg (cI a),.agg (cI b)] (.bool (bK a b)):=by
 refine aF 61 [] Tryz.func51 rfl (by kernel_rfl) ?_
 repeat' (conv=>arg 2;whnf);first|refine af (by kernel_rfl) ?_|refine ah ?_|refine aj ?_|refine aG (fun h=>?_) (fun h=>?_)|(refine bT (.inr rfl) rfl ?_;rw[Al];simp_all;done)|(refine bT (.inr rfl) rfl ?_;rw[Al,lV (l:=a.records) (k:=b.records) (by simp at h;omega)];simp;done)|(exfalso;simp_all;done)
 have HL:a.records.length<=4194304:=ha.2.2.2.2.1
 have hl:=ha.2.2.2.2
 have hk:=hb.2.2.2.2
 have hn:a.records.length=b.records.length:=by
  have e:(a.records.length:Int)=b.records.length:=by simp_all
  omega
 refine cD (α:=Nat) (fun q=>⟨[(5,.int .i64 q),(2,.ptr 0 0),(3,.ptr 1 0)],[.cells 40 (cI a),.cells 40 (cI b)]⟩) (fun q=>q<=a.records.length/\a.records.take q=b.records.take q) (fun q=>a.records.length-q) 0 ⟨Nat.zero_le _,rfl⟩ (Sv.mk' [0,1] rfl ⟨⟨rfl,rfl⟩,⟨rfl,rfl⟩,trivial⟩ ⟨rfl,rfl,rfl,trivial⟩) ?_
 rintro q ⟨hq,he⟩
 repeat' (conv=>arg 2;whnf);first|refine af (by kernel_rfl) ?_|refine ah ?_|refine aj ?_|refine aG (fun h=>?_) (fun h=>?_)|refine cV (l:=a.records) (by simp at h;omega) (fun x hx=>?_)|refine cV (l:=b.records) (by simp at h;omega) (fun y hy=>?_)|refine kO x rfl ?_|refine kO y rfl ?_|refine af (by have h2:y.length<=4194304:=hk.2 y (List.mem_of_getElem? hy);omega) ?_|refine af (by have h1:x.length<=4194304:=hl.2 x (List.mem_of_getElem? hx);omega) ?_|refine aP (aZ (by simp at h hq;omega) (by have:=HL;simp at h hq;omega)) ?_|refine bV (q+1) (Sv.mk' [0,1] rfl ⟨⟨rfl,rfl⟩,⟨rfl,rfl⟩,trivial⟩ ⟨rfl,rfl,rfl,trivial⟩) ⟨by have:=(List.getElem?_eq_some_iff.1 hx).1;omega,l9 hx hy (by rw[<-sX];simpa using h) he⟩ (by have:=(List.getElem?_eq_some_iff.1 hx).1;omega)|refine bD ?_|refine fF ?_|(refine bT (.inr rfl) rfl ?_;have hl:=l8 hx hy (by rw[<-sX];simpa using h);rw[Al,hl];simp;done)|(have hl:=lu hn (by simp at h;omega) he;refine bT (.inr rfl) rfl ?_;rw[Al];simp_all;done)
theorem WU [Wd] (a b:jg) (ha:zQ.ok a) (hb:zQ.ok b):aJ Tryz.prog 127 [.agg (Ci a),.agg (Ci b)] (.bool (bK a b)):=by
 refine aF 24 [] Tryz.func127 rfl (by kernel_rfl) ?_
 repeat' (conv=>arg 2;whnf);first|refine af (by kernel_rfl) ?_|refine ah ?_|refine aj ?_|refine aG (fun h=>?_) (fun h=>?_)|refine ak (Nl a.op b.op ha.2.2 hb.2.2) rfl (aa.refl _) ?_|(refine bT (.inr rfl) rfl ?_;rw[Jv];simp_all;done)|(exfalso;simp_all;done)
theorem Fc [Wd] (l k:List (cq)) (hl:(dL gF).ok l) (hk:(dL gF).ok k):aJ Tryz.prog 82 [.list 9 (l.map cZ),.list 9 (k.map cZ)] (.bool (bK l k)):=by
 have HL:l.length<=4194304:=hl.1
 refine aF 42 [] Tryz.func82 rfl (by kernel_rfl) ?_
 repeat' (conv=>arg 2;whnf);first|refine af (by kernel_rfl) ?_|refine ah ?_|refine aj ?_|refine aG (fun h=>?_) (fun h=>?_)|(refine bT (.inr rfl) rfl ?_;exact(lV (by simp at h;omega)).symm)
 have hn:l.length=k.length:=by simp at h;omega
 refine cD (α:=Nat) (fun q=>⟨[(5,.int .i64 q),(0,.list 9 (l.map cZ)),(1,.list 9 (k.map cZ))],[]⟩) (fun q=>q<=l.length/\l.take q=k.take q) (fun q=>l.length-q) 0 ⟨Nat.zero_le _,rfl⟩ (Sv.mk' [] rfl trivial ⟨rfl,rfl,rfl,trivial⟩) ?_
 rintro q ⟨hq,he⟩
 repeat' (conv=>arg 2;whnf);first|refine af (by kernel_rfl) ?_|refine ah ?_|refine aj ?_|refine aG (fun h=>?_) (fun h=>?_)|refine CA hx ?_|refine CA hy ?_|refine cV (l:=l) (by simp at h;omega) (fun x hx=>?_)|refine cV (l:=k) (by simp at h;omega) (fun y hy=>?_)|refine ak (WU x.request y.request (hl.2 x (List.mem_of_getElem? hx)).1 (hk.2 y (List.mem_of_getElem? hy)).1) rfl (aa.refl _) ?_|refine aP (aZ (by simp at h hq;omega) (by have:=HL;simp at h hq;omega)) ?_|refine bV (q+1) (Sv.mk' [] rfl trivial ⟨rfl,rfl,rfl,trivial⟩) ⟨by have:=(List.getElem?_eq_some_iff.1 hx).1;omega,l9 hx hy (by rw[Es];simp_all) he⟩ (by have:=(List.getElem?_eq_some_iff.1 hx).1;omega)|refine bD ?_|refine fF ?_|(refine bT (.inr rfl) rfl ?_;have hl:=l8 hx hy (by rw[Es];simp_all);exact hl.symm;done)|(have hl:=lu hn (by simp at h;omega) he;refine bT (.inr rfl) rfl ?_;exact hl.symm;done)
theorem VJ [Wd] (a b:gq) (ha:oU.ok a) (hb:oU.ok b):aJ Tryz.prog 129 [.agg (eK a),.agg (eK b)] (.bool (bK a b)):=by
 refine aF 45 [] Tryz.func129 rfl (by kernel_rfl) ?_
 repeat' (conv=>arg 2;whnf);first|refine af (by kernel_rfl) ?_|refine ah ?_|refine aj ?_|refine aG (fun h=>?_) (fun h=>?_)|refine ak (K1 a.cN b.cN ha.2.2.2.2.1.1) rfl (aa.refl _) ?_|refine ak (Fc a.batch b.batch ha.2.2.2.2.2 hb.2.2.2.2.2) rfl (aa.refl _) ?_|(refine bT (.inr rfl) rfl ?_;rw[Jj];simp_all;done)|(exfalso;simp_all;done)
theorem Sp [Wd] (a b:cX) (ha:gG.ok a) (hb:gG.ok b):aJ Tryz.prog 86 [.agg (bW a),.agg (bW b)] (.bool (bK a b)):=by
 refine aF 61 [] Tryz.func86 rfl (by kernel_rfl) ?_
 repeat' (conv=>arg 2;whnf);first|refine af (by kernel_rfl) ?_|refine ah ?_|refine aj ?_|refine aG (fun h=>?_) (fun h=>?_)|refine ak (FI a.cert b.cert ha.2.2.1 hb.2.2.1) rfl (aa.refl _) ?_|(refine bT (.inr rfl) rfl ?_;rw[zo];simp_all;done)|(refine bT (.inr rfl) rfl ?_;rw[zo,lV (l:=a.cR) (k:=b.cR) (by simp at h;omega)];simp;done)|(exfalso;simp_all;done)
 have HL:a.cR.length<=4194304:=ha.2.2.2.1.1
 have hl:=ha.2.2.2.1
 have hk:=hb.2.2.2.1
 have hn:a.cR.length=b.cR.length:=by
  have e:(a.cR.length:Int)=b.cR.length:=by simp_all
  omega
 refine cD (α:=Nat) (fun q=>⟨[(5,.int .i64 q),(2,.ptr 0 0),(3,.ptr 1 0)],[.cells 145 (bW a),.cells 145 (bW b)]⟩) (fun q=>q<=a.cR.length/\a.cR.take q=b.cR.take q) (fun q=>a.cR.length-q) 0 ⟨Nat.zero_le _,rfl⟩ (Sv.mk' [0,1] rfl ⟨⟨rfl,rfl⟩,⟨rfl,rfl⟩,trivial⟩ ⟨rfl,rfl,rfl,trivial⟩) ?_
 rintro q ⟨hq,he⟩
 repeat' (conv=>arg 2;whnf);first|refine af (by kernel_rfl) ?_|refine ah ?_|refine aj ?_|refine aG (fun h=>?_) (fun h=>?_)|refine cV (l:=a.cR) (by simp at h;omega) (fun x hx=>?_)|refine cV (l:=b.cR) (by simp at h;omega) (fun y hy=>?_)|refine ak (VJ x y (hl.2 x (List.mem_of_getElem? hx)) (hk.2 y (List.mem_of_getElem? hy))) rfl (aa.refl _) ?_|refine aP (aZ (by simp at h hq;omega) (by have:=HL;simp at h hq;omega)) ?_|refine bV (q+1) (Sv.mk' [0,1] rfl ⟨⟨rfl,rfl⟩,⟨rfl,rfl⟩,trivial⟩ ⟨rfl,rfl,rfl,trivial⟩) ⟨by have:=(List.getElem?_eq_some_iff.1 hx).1;omega,l9 hx hy (by simpa using h) he⟩ (by have:=(List.getElem?_eq_some_iff.1 hx).1;omega)|refine bD ?_|refine fF ?_|(refine bT (.inr rfl) rfl ?_;have hl:=l8 hx hy (by simpa using h);rw[zo,hl];simp;done)|(have hl:=lu hn (by simp at h;omega) he;refine bT (.inr rfl) rfl ?_;rw[zo];simp_all;done)
theorem Ry [Wd] (l k:List (gH)) (hl:(dL jw).ok l) (hk:(dL jw).ok k):aJ Tryz.prog 84 [.list 5 (l.map dH),.list 5 (k.map dH)] (.bool (bK l k)):=by
 have HL:l.length<=4194304:=hl.1
 refine aF 68 [] Tryz.func84 rfl (by kernel_rfl) ?_
 repeat' (conv=>arg 2;whnf);first|refine af (by kernel_rfl) ?_|refine ah ?_|refine aj ?_|refine aG (fun h=>?_) (fun h=>?_)|(refine bT (.inr rfl) rfl ?_;exact(lV (by simp at h;omega)).symm)
 have hn:l.length=k.length:=by simp at h;omega
 refine cD (α:=Nat) (fun q=>⟨[(5,.int .i64 q),(0,.list 5 (l.map dH)),(1,.list 5 (k.map dH))],[]⟩) (fun q=>q<=l.length/\l.take q=k.take q) (fun q=>l.length-q) 0 ⟨Nat.zero_le _,rfl⟩ (Sv.mk' [] rfl trivial ⟨rfl,rfl,rfl,trivial⟩) ?_
 rintro q ⟨hq,he⟩
 repeat' (conv=>arg 2;whnf);first|refine af (by kernel_rfl) ?_|refine ah ?_|refine aj ?_|refine aG (fun h=>?_) (fun h=>?_)|refine CA hx ?_|refine CA hy ?_|refine cV (l:=l) (by simp at h;omega) (fun x hx=>?_)|refine cV (l:=k) (by simp at h;omega) (fun y hy=>?_)|refine ak (Fc x.batch y.batch (hl.2 x (List.mem_of_getElem? hx)).2.2.1 (hk.2 y (List.mem_of_getElem? hy)).2.2.1) rfl (aa.refl _) ?_|refine aP (aZ (by simp at h hq;omega) (by have:=HL;simp at h hq;omega)) ?_|refine bV (q+1) (Sv.mk' [] rfl trivial ⟨rfl,rfl,rfl,trivial⟩) ⟨by have:=(List.getElem?_eq_some_iff.1 hx).1;omega,l9 hx hy (by rw[EG];simp_all) he⟩ (by have:=(List.getElem?_eq_some_iff.1 hx).1;omega)|refine bD ?_|refine fF ?_|(refine bT (.inr rfl) rfl ?_;have hl:=l8 hx hy (by rw[EG];simp_all);exact hl.symm;done)|(have hl:=lu hn (by simp at h;omega) he;refine bT (.inr rfl) rfl ?_;exact hl.symm;done)
theorem TW [Wd] (a b:jL) (ha:jk.ok a) (hb:jk.ok b):aJ Tryz.prog 85 [.agg (j8 a),.agg (j8 b)] (.bool (bK a b)):=by
 have la:a.record.length<=4194304:=ha.2.2.1
 have lb:b.record.length<=4194304:=hb.2.2.1
 refine aF 104 [] Tryz.func85 rfl (by kernel_rfl) ?_
 repeat' (conv=>arg 2;whnf);first|refine af (by kernel_rfl) ?_|refine ah ?_|refine aj ?_|refine aG (fun h=>?_) (fun h=>?_)|refine kO a.record rfl ?_|refine kO b.record rfl ?_|refine af (by omega) ?_|refine ak (FI a.cert b.cert ha.2.2.2.2.2.2.2 hb.2.2.2.2.2.2.2) rfl (aa.refl _) ?_|(refine bT (.inr rfl) rfl ?_;rw[tR];simp_all [<-sX];done)|(refine bT (.inr rfl) rfl ?_;rw[tR,lV (l:=a.headers) (k:=b.headers) (by simp at h;omega)];simp;done)|(refine bT (.inr rfl) rfl ?_;rw[tR,lV (l:=a.path) (k:=b.path) (by simp at h;omega)];simp;done)|(exfalso;simp_all;done)
 have HL:a.headers.length<=4194304:=ha.2.2.2.1.1
 have hl:=ha.2.2.2.1
 have hk:=hb.2.2.2.1
 have hn:a.headers.length=b.headers.length:=by
  have e:(a.headers.length:Int)=b.headers.length:=by simp_all
  omega
 refine cD (α:=Nat) (fun q=>⟨[(5,.int .i64 q),(2,.ptr 0 0),(3,.ptr 1 0)],[.cells 55 (j8 a),.cells 55 (j8 b)]⟩) (fun q=>q<=a.headers.length/\a.headers.take q=b.headers.take q) (fun q=>a.headers.length-q) 0 ⟨Nat.zero_le _,rfl⟩ (Sv.mk' [0,1] rfl ⟨⟨rfl,rfl⟩,⟨rfl,rfl⟩,trivial⟩ ⟨rfl,rfl,rfl,trivial⟩) ?_
 rintro q ⟨hq,he⟩
 repeat' (conv=>arg 2;whnf);first|refine af (by kernel_rfl) ?_|refine ah ?_|refine aj ?_|refine aG (fun h=>?_) (fun h=>?_)|refine cV (l:=a.headers) (by simp at h;omega) (fun x hx=>?_)|refine cV (l:=b.headers) (by simp at h;omega) (fun y hy=>?_)|refine aP (aZ (by simp at h hq;omega) (by have:=HL;simp at h hq;omega)) ?_|refine bV (q+1) (Sv.mk' [0,1] rfl ⟨⟨rfl,rfl⟩,⟨rfl,rfl⟩,trivial⟩ ⟨rfl,rfl,rfl,trivial⟩) ⟨by have:=(List.getElem?_eq_some_iff.1 hx).1;omega,l9 hx hy (by rw[<-Ch];rw[Bool.true_and] at h;first|exact(Bool.not_eq_true' _).mp h|exact(Bool.not_eq_false' _).mp h) he⟩ (by have:=(List.getElem?_eq_some_iff.1 hx).1;omega)|refine bD ?_|refine fF ?_|(refine bT (.inr rfl) rfl ?_;have hl:=l8 hx hy (by rw[<-Ch];rw[Bool.true_and] at h;first|exact(Bool.not_eq_true' _).mp h|exact(Bool.not_eq_false' _).mp h);rw[tR,hl];simp;done)|(have hl:=lu hn (by simp at h;omega) he;refine bT (.inr rfl) rfl ?_;rw[tR];simp_all [<-sX];done)
 have cj:=lu hn (by simp at h;omega) he
 clear hq he h
 have HL:a.path.length<=4194304:=ha.2.2.2.2.2.2.1.1
 have hl:=ha.2.2.2.2.2.2.1
 have hk:=hb.2.2.2.2.2.2.1
 have hn:a.path.length=b.path.length:=by
  have e:(a.path.length:Int)=b.path.length:=by simp_all
  omega
 refine cD (α:=Nat) (fun q=>⟨[(6,.int .i64 q),(2,.ptr 0 0),(3,.ptr 1 0)],[.cells 55 (j8 a),.cells 55 (j8 b)]⟩) (fun q=>q<=a.path.length/\a.path.take q=b.path.take q) (fun q=>a.path.length-q) 0 ⟨Nat.zero_le _,rfl⟩ (Sv.mk' [0,1] rfl ⟨⟨rfl,rfl⟩,⟨rfl,rfl⟩,trivial⟩ ⟨rfl,rfl,rfl,trivial⟩) ?_
 rintro q ⟨hq,he⟩
 repeat' (conv=>arg 2;whnf);first|refine af (by kernel_rfl) ?_|refine ah ?_|refine aj ?_|refine aG (fun h=>?_) (fun h=>?_)|refine cV (l:=a.path) (by simp at h;omega) (fun x hx=>?_)|refine cV (l:=b.path) (by simp at h;omega) (fun y hy=>?_)|refine aP (aZ (by simp at h hq;omega) (by have:=HL;simp at h hq;omega)) ?_|refine bV (q+1) (Sv.mk' [0,1] rfl ⟨⟨rfl,rfl⟩,⟨rfl,rfl⟩,trivial⟩ ⟨rfl,rfl,rfl,trivial⟩) ⟨by have:=(List.getElem?_eq_some_iff.1 hx).1;omega,l9 hx hy (by rw[<-AK];simpa using h) he⟩ (by have:=(List.getElem?_eq_some_iff.1 hx).1;omega)|refine bD ?_|refine fF ?_|(refine bT (.inr rfl) rfl ?_;have hl:=l8 hx hy (by rw[<-AK];simpa using h);rw[tR,hl];simp;done)|(have hl:=lu hn (by simp at h;omega) he;refine bT (.inr rfl) rfl ?_;rw[tR];simp_all [<-sX];done)
theorem WV [Wd] (a b:aN) (ha:cr.ok a) (hb:cr.ok b):aJ Tryz.prog 52 [.agg (aU a),.agg (aU b)] (.bool (bK a b)):=by
 have la:a.state.length<=4194304:=ha.2.2.2.2.2.2.2.2.2.2.2.2.1
 have lb:b.state.length<=4194304:=hb.2.2.2.2.2.2.2.2.2.2.2.2.1
 refine aF 148 [] Tryz.func52 rfl (by kernel_rfl) ?_
 repeat' (conv=>arg 2;whnf);first|refine af (by kernel_rfl) ?_|refine ah ?_|refine aj ?_|refine aG (fun h=>?_) (fun h=>?_)|refine kO a.state rfl ?_|refine kO b.state rfl ?_|refine af (by omega) ?_|refine ak (Fc a.batch b.batch ha.2.2.2.2.2.2.2.2.1 hb.2.2.2.2.2.2.2.2.1) rfl (aa.refl _) ?_|refine ak (FI a.cert b.cert ha.2.2.2.2.2.2.2.2.2.1 hb.2.2.2.2.2.2.2.2.2.1) rfl (aa.refl _) ?_|refine ak (Ry a.entries b.entries ha.2.2.2.2.2.2.2.2.2.2.2.1 hb.2.2.2.2.2.2.2.2.2.2.2.1) rfl (aa.refl _) ?_|refine ak (TW a.proof b.proof ha.2.2.2.2.2.2.2.2.2.2.2.2.2.2.2.1 hb.2.2.2.2.2.2.2.2.2.2.2.2.2.2.2.1) rfl (aa.refl _) ?_|(refine bT (.inr rfl) rfl ?_;rw[vI];simp_all [<-sX];done)|(refine bT (.inr rfl) rfl ?_;rw[vI,lV (l:=a.changes) (k:=b.changes) (by simp at h;omega)];simp;done)|(refine bT (.inr rfl) rfl ?_;rw[vI];cases oN:(a.sign.key==b.sign.key)<;>simp_all;done)|(refine bT (.inr rfl) rfl ?_;rw[vI];cases oN:(a.result.err==b.result.err)<;>simp_all;done)|(exfalso;simp_all;done)
 have HL:a.changes.length<=4194304:=ha.2.2.2.2.2.2.2.2.2.2.1.1
 have hl:=ha.2.2.2.2.2.2.2.2.2.2.1
 have hk:=hb.2.2.2.2.2.2.2.2.2.2.1
 have hn:a.changes.length=b.changes.length:=by
  have e:(a.changes.length:Int)=b.changes.length:=by simp_all
  omega
 refine cD (α:=Nat) (fun q=>⟨[(5,.int .i64 q),(2,.ptr 0 0),(3,.ptr 1 0)],[.cells 59 (aU a),.cells 59 (aU b)]⟩) (fun q=>q<=a.changes.length/\a.changes.take q=b.changes.take q) (fun q=>a.changes.length-q) 0 ⟨Nat.zero_le _,rfl⟩ (Sv.mk' [0,1] rfl ⟨⟨rfl,rfl⟩,⟨rfl,rfl⟩,trivial⟩ ⟨rfl,rfl,rfl,trivial⟩) ?_
 rintro q ⟨hq,he⟩
 repeat' (conv=>arg 2;whnf);first|refine af (by kernel_rfl) ?_|refine ah ?_|refine aj ?_|refine aG (fun h=>?_) (fun h=>?_)|refine cV (l:=a.changes) (by simp at h;omega) (fun x hx=>?_)|refine cV (l:=b.changes) (by simp at h;omega) (fun y hy=>?_)|refine ak (Sp x y (hl.2 x (List.mem_of_getElem? hx)) (hk.2 y (List.mem_of_getElem? hy))) rfl (aa.refl _) ?_|refine aP (aZ (by simp at h hq;omega) (by have:=HL;simp at h hq;omega)) ?_|refine bV (q+1) (Sv.mk' [0,1] rfl ⟨⟨rfl,rfl⟩,⟨rfl,rfl⟩,trivial⟩ ⟨rfl,rfl,rfl,trivial⟩) ⟨by have:=(List.getElem?_eq_some_iff.1 hx).1;omega,l9 hx hy (by simpa using h) he⟩ (by have:=(List.getElem?_eq_some_iff.1 hx).1;omega)|refine bD ?_|refine fF ?_|(refine bT (.inr rfl) rfl ?_;have hl:=l8 hx hy (by simpa using h);rw[vI,hl];simp;done)|(have hl:=lu hn (by simp at h;omega) he;refine bT (.inr rfl) rfl ?_;rw[vI];simp_all [<-sX];done)
theorem WW [Wd] (a b:aS) (ha:ey.ok a) (hb:ey.ok b):aJ Tryz.prog 21 [.agg (cg a),.agg (cg b)] (.bool (bK a b)):=by
 have la:a.bytes.length<=4194304:=ha.2.2.2.2.1
 have lb:b.bytes.length<=4194304:=hb.2.2.2.2.1
 refine aF 54 [] Tryz.func21 rfl (by kernel_rfl) ?_
 repeat' (conv=>arg 2;whnf);first|refine af (by kernel_rfl) ?_|refine ah ?_|refine aj ?_|refine aG (fun h=>?_) (fun h=>?_)|refine kO a.bytes rfl ?_|refine kO b.bytes rfl ?_|refine af (by omega) ?_|refine ak (Nl a.op b.op ha.2.2.2.1 hb.2.2.2.1) rfl (aa.refl _) ?_|refine ak (WV a.msg b.msg ha.2.2.2.2.2.1 hb.2.2.2.2.2.1) rfl (aa.refl _) ?_|(refine bT (.inr rfl) rfl ?_;rw[L6];simp_all [<-sX];done)|(exfalso;simp_all;done)
end Go.Proofs.YtafomdobfmmleaaGreatDoor

/- Lemmas and contracts. -/
namespace Go.Proofs.YtafomdobfmmleaaGreatDoor
open Go.RowKit
set_option linter.unusedVariables false
theorem Dr.lt [Old] {I:Nat->Prop} {w:World} {v:Value} {d:D} (h:Dr I w v d):Dr (fun b=>I b/\b<w.heap.size) w v d:=by
 induction h with
 |bool b=>exact .bool b
 |int k n=>exact .int k n
 |str s=>exact .str s
 |nils=>exact .nils
 |dF=>exact .dF
 |aB=>exact .aB
 |iW=>exact .iW
 |list A cap n l xs U cj hl hm eu hlen hA h1 hU ih=>
  exact .list A cap n l xs U cj hl hm eu hlen (fun h0=>by
   obtain⟨b,off,e,k1,k2,k3⟩:=hA h0
   exact⟨b,off,e,k1,⟨k2,k1⟩,k3⟩) h1 ih
 |own A cap n l xs U cj hl hm eu hlen hA h1 hU ih=>
  exact .own A cap n l xs U cj hl hm eu hlen (fun h0=>by
   obtain⟨b,off,e,k1,k2,k3⟩:=hA h0
   exact⟨b,off,e,k1,⟨k2,k1⟩,k3⟩) h1 ih
 |ref b off cs U hI hb hc h1 hU ih=>exact .ref b off cs U ⟨hI,hb⟩ hb hc h1 ih
 |agg vs ds hl h1 h ih=>exact .agg vs ds hl h1 ih
 |aD vs ds hl h ih=>exact .aD vs ds hl ih
 |fn f n vs ds hl h ih=>exact .fn f n vs ds hl ih
theorem cC.lt [Old] {I:Nat->Prop} {w:World} {vs:List Value} {ds:List D} (h:cC I w vs ds):cC (fun b=>I b/\b<w.heap.size) w vs ds:=
 ⟨h.1,fun i v d h1 h2=>(h.2 i v d h1 h2).lt⟩
theorem aJ.calls [Wd] [vW] {P:Program} {f:FuncId} {ar:List D} {r:D} (hF:aJ P f ar r) {I:Nat->Prop} {w:World} {vs:List Value} (hd:cC I w vs ar) (hW:Wd.W (fun b=>I b/\b<w.heap.size) w):
 Calls P f vs.toArray w fun e w'=>∃v I',e=.returned v/\B w w'/\Vr I' [] w' v r/\(∀b,I' b->(I b/\b<w.heap.size)\/w.heap.size<=b)/\∀b,I' b->b<w'.heap.size:=by
 have DH:=hd.lt
 have hD:Den (fun b=>I b/\b<w.heap.size) [] w []:=⟨rfl,fun b h=>h.2,fun o ao p h=>by simp at h,fun o ao p b h=>by simp at h,fun o o' ao bJ p p' b h=>by simp at h⟩
 have hn:∀b,¬cK [] [] b:=fun b ⟨o,ao,p,h,_⟩=>by simp at h
 refine(hF.2 w _ [] vs hW hD ⟨DH.1,fun i v d h1 h2=>.rd (DH.2 i v d h1 h2)⟩).mono ?_
 rintro e w' (⟨v,I',g',r',h',rfl,⟨rfl,rfl⟩,Oe,hv,hx,i1,i2,ow,gk⟩|⟨ch,_,hp,_⟩)
 case inr=>exact absurd hp (vW.np ch)
 have hg:g'=[]:=List.eq_nil_of_length_eq_zero Oe.len
 subst hg
 refine⟨v,I',rfl,hx.GN (fun b _ ho=>hn b ho),hv,fun b hb=>?_,Oe.ay⟩
 rcases i2 b hb with k|k|k
 ·exact .inl k
 ·exact absurd k (hn b)
 ·exact .inr k
theorem aJ.Kg [Wd] [vW] {P:Program} {f:FuncId} {ar:List D} {n:Bool} (hF:aJ P f ar (.bool n)) {I:Nat->Prop} {w:World} {vs:List Value} (hd:cC I w vs ar) (hW:Wd.W (fun b=>I b/\b<w.heap.size) w):
 Calls P f vs.toArray w fun e w'=>e=.returned (.bool n)/\B w w':=
 (hF.calls hd hW).mono (by
   rintro e w' ⟨v,I',rfl,hb,hv,_⟩
   exact⟨by rw[hv.oq],hb⟩)
theorem Lk.arg [Old] {α:Type} {T:Ty α} {A:Dt α} (L:Lk T A) {ay:Nat->Prop} {w:World} {cs:List Value} {a:α} (h:T.rd ay w cs a):cC ay w [.agg cs.toArray] [.agg (A.c a)]:=by
 obtain⟨h1,_,h3⟩:=L.to h
 exact .one (.agg cs _ h1.1 h3 h1.2)
end Go.Proofs.YtafomdobfmmleaaGreatDoor

/- Lemmas and contracts. -/
namespace Go.Proofs.YtafomdobfmmleaaGreatDoor
open Go.RowKit
set_option linter.unusedVariables false
theorem Lk.YL [Old] {α:Type} {T:Ty α} {A:Dt α} (L:Lk T A) {ay qB:Nat->Prop} {w:World} {cs ds:List Value} {a b:α} (h:T.rd ay w cs a) (k:T.rd qB w ds b):cC (fun g=>ay g\/qB g) w [.agg cs.toArray,.agg ds.toArray] [.agg (A.c a),.agg (A.c b)]:=by
 obtain⟨h1,_,h3⟩:=L.to (T.mono (qB:=fun g=>ay g\/qB g) h (fun g hg=>.inl hg))
 obtain⟨k1,_,k3⟩:=L.to (T.mono (qB:=fun g=>ay g\/qB g) k (fun g hg=>.inr hg))
 exact(cC.one (.agg cs _ h1.1 h3 h1.2)).append (cC.one (.agg ds _ k1.1 k3 k1.2))
section
variable {ay qB:Nat->Prop} {w:World} {cs ds:List Value}
theorem VK {a b:bF} (h:cL.rd ay w cs a) (k:cL.rd qB w ds b):Calls Tryz.prog 53 #[.agg cs.toArray,.agg ds.toArray] w fun e w'=>e=.returned (.bool (vP a b))/\B w w':=by
 rw[Rz]
 exact(FG a b (wm.to h).2.1 (wm.to k).2.1).Kg (wm.YL h k) trivial
end
end Go.Proofs.YtafomdobfmmleaaGreatDoor

/- Lemmas and contracts. -/
namespace Go.Proofs.YtafomdobfmmleaaGreatDoor
open Go.RowKit Go.Deep
set_option linter.unusedVariables false
theorem tY.le {ay:Nat->Prop} {w:World} {v:Value} {a:List UInt8} (h:tY.rd ay w [v] a):a.length<=4194304:=by
 obtain⟨u,e,hb,_,h⟩:=h
 exact h
theorem Xe {w:World} {v:Value} {a:List UInt8} (h:Bs w v a):Calls Tryz.prog 151 #[v] w fun e w'=>e=.returned (.bool (decide (64<a.length)))/\w=w':=by
 obtain⟨A,c,rfl⟩:=h.rd.slice
 have hl:=h.len
 have kX:(a.length:Int)<=9223372036854775807:=by unfold bz at hl;omega
 clear h hl
 generalize a.length=n at*
 by_cases hn:64<n
 ·have g:(64:Int)<n:=by omega
  have E:=Lib.hid (decide_eq_true hn)
  clear hn
  go_enter Tryz.func151,Tryz.ntmps151
  go_wp2
  go_ret
  exact⟨by simp[E.out],rfl⟩
 ·have g:¬(64:Int)<n:=by omega
  have E:=Lib.hid (decide_eq_false hn)
  clear hn
  go_enter Tryz.func151,Tryz.ntmps151
  go_wp2
  go_ret
  exact⟨by simp[E.out],rfl⟩
set_option maxRecDepth 20000 in
set_option maxHeartbeats 2000000 in
theorem Wm {ay:Nat->Prop} {w:World} {v:Value} {s:List (List UInt8)} (h:(tL tY).rd ay w [v] s):
 Calls Tryz.prog 203 #[v,.func (.func 151) #[] #[]] w fun e w'=>∃k:Int,e=.returned (.int .i64 k)/\decide (0<=k)=(s.any fun r=>decide (64<r.length))/\w=w':=by
 obtain⟨A,c,e1,hs⟩:=tL.slice h
 injection e1 with e1 _
 subst e1
 have HR:=Lib.hid h
 obtain⟨l,cj⟩:∃l,s.length=l:=⟨_,rfl⟩
 have kZ:=Lib.hid cj
 rw[cj] at hs ⊢
 clear h cj
 go_enter Tryz.func203,Tryz.ntmps203
 go_wp2_with fail
 go_loop [5,8] (fun _ i=>∃q:Nat,q<=l/\i=.int .i64 q/\Hid (∀j x,j<q->s[j]?=some x->¬64<x.length)) (fun _ i=>l-(intOf i).toNat)
 case atStart=>exact⟨0,Nat.zero_le _,rfl,fun j x h=>by omega⟩
 case round=>
  obtain⟨q,hq,rfl,HP⟩:=hrel
  by_cases hlt:q<l
  ·obtain⟨x,hx⟩:∃x,s[q]?=some x:=⟨_,List.getElem?_eq_getElem (by have:=kZ.out;omega)⟩
   obtain⟨_,b,off,cs,rfl,r1,k1⟩:=tL.at HR.out hx
   obtain⟨u1,rfl⟩:=oK (tY.len r1)
   have c1:=k1 0 _ rfl
   simp only[show tY.n=1 from rfl,Nat.mul_one,Nat.add_zero] at c1
   have HC:=Lib.hid (Xe (tY.bs r1))
   have HS:=Lib.hid hx
   have oO:(q:Int)<l:=by omega
   clear r1 k1 hx
   by_cases e1:64<x.length
   ·rw[decide_eq_true e1] at HC
    have E:=Lib.hid (show decide ((0:Int)<=q)=(s.any fun r=>decide (64<r.length)) from by
     rw[decide_eq_true (by omega:(0:Int)<=q)]
     symm
     rw[List.any_eq_true]
     exact⟨x,List.mem_of_getElem? HS.out,decide_eq_true e1⟩)
    clear e1
    go_wp2_with (first|(go_at_call 151;(with_reducible refine HC.out.mono ?_);rintro e w1 ⟨rfl,rfl⟩))
    go_ret
    exact⟨_,rfl,E.out,rfl⟩
   ·rw[decide_eq_false e1] at HC
    have E:=Lib.hid e1
    clear e1
    go_wp2_with (first|(go_at_call 151;(with_reducible refine HC.out.mono ?_);rintro e w1 ⟨rfl,rfl⟩))
    go_round
    case rel=>exact⟨q+1,by omega,by go_num,fun j y hj hy=>by
     by_cases e:j=q
     ·rw[e,HS.out] at hy;injection hy with hy;rw[<-hy];exact E.out
     ·exact HP.out j y (by omega) hy⟩
    case measure=>simp[intOf];omega
  ·have oO:¬(q:Int)<l:=by omega
   have E:=Lib.hid (show decide ((0:Int)<=-1)=(s.any fun r=>decide (64<r.length)) from by
    rw[decide_eq_false (by omega:¬(0:Int)<=-1)]
    symm
    rw[List.any_eq_false]
    intro x hx
    obtain⟨j,hj⟩:=List.getElem?_of_mem hx
    have Bk:j<s.length:=by
     rcases Nat.lt_or_ge j s.length with h'|h'
     ·exact h'
     ·rw[List.getElem?_eq_none h'] at hj;cases hj
    simpa using HP.out j x (by have:=kZ.out;omega) hj)
   go_wp2_with fail
   go_ret
   exact⟨_,rfl,E.out,rfl⟩
theorem RO {ay:Nat->Prop} {w:World} {v:Value} {s:List (List UInt8)} (h:(tL tY).rd ay w [v] s):
 Calls Tryz.prog 152 #[v,.func (.func 151) #[] #[]] w fun e w'=>e=.returned (.bool (s.any fun r=>decide (64<r.length)))/\w=w':=by
 have HI:=Lib.hid (Wm h)
 clear h
 generalize (s.any fun r=>decide (64<r.length))=z at*
 go_enter Tryz.func152,Tryz.ntmps152
 go_wp2_with (first|(go_at_call 203;(with_reducible refine HI.out.mono ?_);rintro e w1 ⟨k,rfl,hk,rfl⟩;rcases(show(z=true/\0<=k)\/(z=false/\¬0<=k) from by cases z<;>simp at hk<;>simp<;>omega) with⟨rfl,fV⟩|⟨rfl,fV⟩))
 all_goals go_ret;exact⟨by simp,rfl⟩
theorem cm.yL (w:World) (o:Obj) (t:TypeId) (cs:Array Value):cm ((w.alloc o).alloc (.cells cs t)) (w.heap.size+1) t cs:=by simpa using cm.new (w.alloc o) t cs
theorem wY {P:Program} {fn:Func} {R:Ending->World->Prop} {a:Act} {w:World} {p u:Tmp} {ty t:TypeId} {g:Nat} {cs:Array Value} {d:TypeDesc} (h:fn.results=#[.cell p ty,.tmp u])
 (hp:a.tmps.getD p undef=.pointer (some ⟨g,0,none⟩)) (hg:cm w g t cs) (hu:P.underlying ty=some d) (hd:(match d with|.struct _|.array _ _=>true|_=>false)=true) (hi:(P.info? ty).map (·.size)=some cs.size)
 (hdf:a.defers=[]) (hR:R (.returned (.tuple #[.agg cs,a.tmps.getD u undef])) w):bodyPost P fn R .ret a w:=by
 refine bodyPost_ret (v:=.tuple #[.agg cs,a.tmps.getD u undef]) ?_ hdf hR
 rw[results_cell_tmp h,hp]
 simp only[asAddr,Sem.run_pure,Result.andThen]
 rw[run_loadVar_row (P:=P) w g t ty cs (0,0) d hg hu hd hi]
set_option maxRecDepth 20000 in
set_option maxHeartbeats 4000000 in
theorem Xf {ay:Nat->Prop} {w:World} {cs:List Value} {a:bF} (h:cL.rd ay w cs a):
 Calls Tryz.prog 150 #[.agg cs.toArray] w fun e w'=>∃ds:List Value,e=.returned (.tuple #[.agg ds.toArray,.bool (kindOk a)])/\cL.rd ay w' ds (kF a)/\B w w':=by
 obtain⟨v5,rfl,a1,a2,a3,a4,a5⟩:=cL.parts h
 obtain⟨kind,av,group,offset,records⟩:=a
 simp only at*
 have H2:=Lib.hid a2
 have H3:=Lib.hid a3
 have H4:=Lib.hid a4
 have H5:=Lib.hid (fun w' (hb:B w w')=>(tL tY).later a5 hb)
 have HN:=Lib.hid (fun w'=>show(tL tY).rd ay w' [.slice none 0 0] [] from⟨none,0,rfl,Nat.le_refl _,by unfold maxLen;omega,fun _=>⟨rfl,rfl⟩,by simp,fun h0=>by simp at h0⟩)
 have hc:kind=0\/kind=1\/kind=2\/kind=3\/kind=4\/(kind<0\/4<kind):=by omega
 obtain⟨A5,c5,e5,_⟩:=tL.slice a5
 injection e5 with e5 _
 subst e5
 clear h a2 a3 a4 a5
 rcases hc with rfl|rfl|rfl|rfl|rfl|hc
 ·clear a1
  go_enter Tryz.func150,Tryz.ntmps150
  go_wp2
  exact wY rfl rfl ((cm.yL _ _ _ _).alloc _) Tryz.underlying40 rfl (by kernel_rfl) rfl ⟨_,rfl,cL.mk (s:=⟨0,[],[],0,[]⟩) (by simp only;omega) (by simp) (by simp) (by simp) (HN.out _),BB.out⟩
 ·clear a1
  go_enter Tryz.func150,Tryz.ntmps150
  go_wp2
  exact wY rfl rfl ((cm.yL _ _ _ _).alloc _) Tryz.underlying40 rfl (by kernel_rfl) rfl ⟨_,rfl,cL.mk (s:=⟨1,av,[],0,[]⟩) (by simp only;omega) H2.out (by simp) (by simp) (HN.out _),BB.out⟩
 ·clear a1
  go_enter Tryz.func150,Tryz.ntmps150
  go_wp2
  go_region_with (fail)
  all_goals go_wp2;exact wY rfl rfl ((cm.yL _ _ _ _).alloc _) Tryz.underlying40 rfl (by kernel_rfl) rfl ⟨_,rfl,cL.mk (s:=⟨2,av,[],0,records⟩) (by simp only;omega) H2.out (by simp) (by simp) (H5.out _ BB.out),BB.out⟩
 ·clear a1
  go_enter Tryz.func150,Tryz.ntmps150
  go_wp2
  go_region_with (fail)
  all_goals go_wp2;exact wY rfl rfl ((cm.yL _ _ _ _).alloc _) Tryz.underlying40 rfl (by kernel_rfl) rfl ⟨_,rfl,cL.mk (s:=⟨3,av,group,offset,[]⟩) (by simp only;omega) H2.out H3.out H4.out (HN.out _),BB.out⟩
 ·clear a1
  go_enter Tryz.func150,Tryz.ntmps150
  go_wp2
  go_region_with (fail)
  all_goals go_wp2;exact wY rfl rfl ((cm.yL _ _ _ _).alloc _) Tryz.underlying40 rfl (by kernel_rfl) rfl ⟨_,rfl,cL.mk (s:=⟨4,av,[],offset,[]⟩) (by simp only;omega) H2.out (by simp) H4.out (HN.out _),BB.out⟩
 ·have g0:(kind==0)=false:=by simp;omega
  have g1:(kind==1)=false:=by simp;omega
  have g2:(kind==2)=false:=by simp;omega
  have g3:(kind==3)=false:=by simp;omega
  have g4:(kind==4)=false:=by simp;omega
  have HA:=Lib.hid a1
  have EK:=Lib.hid (show kindOk ⟨kind,av,group,offset,records⟩=false from decide_eq_false (by simp only;omega))
  have EO:=Lib.hid (show kF ⟨kind,av,group,offset,records⟩=⟨kind,[],[],0,[]⟩ from by unfold kF;simp only;rw[if_neg (by omega),if_neg (by omega),if_neg (by omega),if_neg (by omega)])
  clear hc a1
  go_enter Tryz.func150,Tryz.ntmps150
  go_wp2
  refine wY rfl rfl ((cm.yL _ _ _ _).alloc _) Tryz.underlying40 rfl (by kernel_rfl) rfl ?_
  rw[EK.out,EO.out]
  exact⟨_,rfl,cL.mk (s:=⟨kind,[],[],0,[]⟩) HA.out (by simp) (by simp) (by simp) (HN.out _),BB.out⟩
end Go.Proofs.YtafomdobfmmleaaGreatDoor
