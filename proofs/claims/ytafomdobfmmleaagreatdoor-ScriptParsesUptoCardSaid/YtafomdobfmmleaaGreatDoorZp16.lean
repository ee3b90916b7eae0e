/- Lemmas and contracts, part 16. -/
import Derived.Test.YtafomdobfmmleaaGreatDoorZp15
import Derived.Lib.OthersKept
namespace Go.Proofs.YtafomdobfmmleaaGreatDoor
set_option linter.unusedVariables false
open Go.RowKit
open Go.Proofs.Tryz
set_option maxRecDepth 20000
section
open Go.RowKit Go.Deep
theorem OU (s:ByteArray) (pos:Nat) (h:pos<s.size):1<=(Utf8.decode s pos).2:=by
 by_cases ha:(s[pos]'h).toNat<128
 ·rw[decode_ascii s pos h ha]
  exact Nat.le_refl _
 ·exact(decode_high s pos h (by omega)).2
theorem VX (s:ByteArray) (k pos n:Nat) (h:¬pos<s.size):jk s k pos n=some n:=by
 cases k with
 |zero=>rfl
 |succ k=>simp[jk,h]
theorem Bo (s:List UInt8):(aA s).size=s.length:=by simp[aA,ByteArray.size]
set_option maxRecDepth 100000 in
set_option maxHeartbeats 20000000 in
theorem ab8 (w:World) (s:List UInt8) (hs:s.length<=4194304):Calls prog 59 #[.string (aA s)] w fun e w'=>e=.returned (.int .i64 (uF s:Int))/\B w w':=by
 have HE:=Lib.hid (show uF s=(match jk (aA s) (s.length+1) 0 0 with|none=>0|some n=>if 16<n then 0 else n) from rfl)
 have HZ:=Lib.hid (Bo s)
 have HL:=Lib.hid hs
 generalize hb:aA s=b at*
 generalize uF s=z at*
 clear hb hs
 go_enter func59,ntmps59
 go_wp2
 go_loopw [3,5] (fun n _ wr=>∃(pos fuel k:Nat),n=.int .i64 (k:Int)/\wr.heap[w.heap.size]?=some (.stringIter b pos)/\Hid (B w wr)/\Hid (jk b fuel pos k=jk b (s.length+1) 0 0)/\b.size+1<=pos+fuel/\k<=pos/\k<=4194304) (fun _ _ wr=>b.size-wr.iterPos w.heap.size)
 case atStart=>
  refine⟨0,s.length+1,0,rfl,?_,B.j9 _ _,rfl,by rw[HZ.out];omega,Nat.le_refl _,by omega⟩
  exact World.iter_heap w b 0
 case round=>
  obtain⟨pos,fuel,k,rfl,hit,HB,HG,hfu,hkp,hk⟩:=hrel
  have eE:w.heap.size<wr.heap.size:=(Array.getElem?_eq_some_iff.1 hit).1
  by_cases hp:pos<b.size
  ·have Hv:∀ty,(Instr.next (.pointer (some ⟨w.heap.size,0,none⟩)) true ty).run prog wr=_:=fun ty=>Lib.run_next_any_at wr w.heap.size b pos ty hit hp
   have Mm:=OU b pos hp
   have mU:=decode_le b pos
   have G7:=Lib.iterAt_heap wr w.heap.size b pos (pos+(Utf8.decode b pos).2) hit
   have D5:=Lib.hid (show B w _ from Lib.below_iterAt HB.out (k:=w.heap.size) (by omega) b (pos+(Utf8.decode b pos).2))
   obtain⟨f,rfl⟩:∃f,fuel=f+1:=⟨fuel-1,by omega⟩
   have HD:=Lib.hid (show jk b (f+1) pos k=if uO (Utf8.decode b pos).1 then none else jk b f (pos+(Utf8.decode b pos).2) (k+1) from by simp[jk,hp])
   have Ts:k+1<=4194304:=by have:=HL.out;have:=HZ.out;omega
   generalize (Utf8.decode b pos).1=r at*
   have hc:(r<33)\/(33<=r/\127<=r/\r<=159)\/(33<=r/\r<127/\r=47)\/(33<=r/\127<=r/\159<r/\r=65533)\/(33<=r/\r<127/\r≠47)\/(33<=r/\127<=r/\159<r/\r≠65533):=by omega
   by_cases tJ:uO r=true
   ·have HN:=Lib.hid (show z=0 from by rw[HE.out,<-HG.out,HD.out,if_pos tJ])
    have rV:(r<33)\/(33<=r/\127<=r/\r<=159)\/(r=47)\/(r=65533):=by
     simp only[uO,Bool.or_eq_true,Bool.and_eq_true,decide_eq_true_eq] at tJ;omega
    clear hc tJ
    rcases rV with h1|⟨h1,h2,h3⟩|h1|h1
    ·have g1:(r:Int)<33:=by omega
     clear h1
     go_wp2
     go_ret
     exact⟨by rw[HN.out];rfl,D5.out⟩
    ·have g1:¬(r:Int)<33:=by omega
     have g2:(127:Int)<=r:=by omega
     have g3:(r:Int)<=159:=by omega
     clear h1 h2 h3
     go_wp2
     go_ret
     exact⟨by rw[HN.out];rfl,D5.out⟩
    all_goals
     subst h1
     go_wp2
     go_ret
     exact⟨by rw[HN.out];rfl,D5.out⟩
   ·have HR:=Lib.hid (show jk b f (pos+(Utf8.decode b pos).2) (k+1)=jk b (s.length+1) 0 0 from by rw[<-HG.out,HD.out,if_neg tJ])
    have rV:(33<=r/\r<127/\r≠47)\/(33<=r/\127<=r/\159<r/\r≠65533):=by
     simp only[uO,Bool.or_eq_true,Bool.and_eq_true,decide_eq_true_eq] at tJ;omega
    clear hc tJ
    rcases rV with⟨h1,h2,h3⟩|⟨h1,h2,h3,h4⟩
    ·have g1:¬(r:Int)<33:=by omega
     have g2:¬(127:Int)<=r:=by omega
     have g3:((r:Int)==47)=false:=by simp;omega
     have g4:((r:Int)==65533)=false:=by simp;omega
     clear h1 h2 h3
     go_wp2
     go_roundw
     case rel=>exact⟨pos+(Utf8.decode b pos).2,f,k+1,by go_num,G7,D5.out,HR.out,by omega,by omega,Ts⟩
     case measure=>simp only[World.iterPos,G7,hit];omega
    ·have g1:¬(r:Int)<33:=by omega
     have g2:(127:Int)<=r:=by omega
     have g5:¬(r:Int)<=159:=by omega
     have g3:((r:Int)==47)=false:=by simp;omega
     have g4:((r:Int)==65533)=false:=by simp;omega
     clear h1 h2 h3 h4
     go_wp2
     go_roundw
     case rel=>exact⟨pos+(Utf8.decode b pos).2,f,k+1,by go_num,G7,D5.out,HR.out,by omega,by omega,Ts⟩
     case measure=>simp only[World.iterPos,G7,hit];omega
  ·have Hv:∀ty,(Instr.next (.pointer (some ⟨w.heap.size,0,none⟩)) true ty).run prog wr=_:=fun ty=>Lib.run_next_end_at wr w.heap.size b pos ty hit hp
   have HN:=Lib.hid (show z=if 16<k then 0 else k from by rw[HE.out,<-HG.out,VX b fuel pos k hp])
   by_cases nW:16<k
   ·have g1:(16:Int)<k:=by omega
    rw[if_pos nW] at HN
    clear nW
    go_wp2
    go_ret
    exact⟨by rw[HN.out];rfl,HB.out⟩
   ·have g1:¬(16:Int)<k:=by omega
    rw[if_neg nW] at HN
    clear nW
    go_wp2
    go_ret
    exact⟨by simp[HN.out],HB.out⟩
theorem KE (w:World) (s:List UInt8) (hs:s.length<=4194304):Calls prog 27 #[.string (aA s)] w fun e w'=>e=.returned (.bool (jg s))/\B w w':=by
 have HR:=Lib.hid (ab8 w s hs)
 clear hs
 have HN:=Lib.hid (show jg s=decide (0<uF s) from rfl)
 generalize jg s=z at*
 generalize uF s=n at*
 by_cases h:0<n
 ·have g:(0:Int)<n:=by omega
  rw[decide_eq_true h] at HN
  clear h
  go_enter func27,ntmps27
  go_wp2_with (first|(go_at_call 59;(with_reducible refine HR.out.mono ?_);rintro e w1 ⟨rfl,hb⟩;have HB:=Lib.hid hb;clear hb))
  go_ret
  exact⟨by simp[HN.out];omega,HB.out⟩
 ·have g:¬(0:Int)<n:=by omega
  rw[decide_eq_false h] at HN
  clear h
  go_enter func27,ntmps27
  go_wp2_with (first|(go_at_call 59;(with_reducible refine HR.out.mono ?_);rintro e w1 ⟨rfl,hb⟩;have HB:=Lib.hid hb;clear hb))
  go_ret
  exact⟨by simp[HN.out];omega,HB.out⟩
end
section
theorem cj {e:Int} (h1:-9223372036854775808<=e) (h2:e<=9223372036854775807):IntKind.i64.wrap e=e:=by
 simp only[IntKind.wrap,IntKind.signed,IntKind.bits]
 simp
 omega
theorem bZ [Wd] {P:Program} {Q:Exit->S->Prop} {e:Int} {c:Int->T} (h:-9223372036854775808<=e/\e<=9223372036854775807) (k:(c e).ok P Q):(T.wrap .i64 e c).ok P Q:=bw (cj h.1 h.2) k
theorem gJ [Wd] {P:Program} {Q:Exit->S->Prop} {e:Int} {c:Int->T} (k:(c e).ok P Q) (h:-9223372036854775808<=e/\e<=9223372036854775807:=by omega):(T.wrap .i64 e c).ok P Q:=bZ h k
theorem oF {α:Type} (f:α->Int) {l:List α} {q:Nat} {x:α} (h:l[q]?=some x):bG f (l.take (q+1))=aF (bG f (l.take q)) (f x):=by
 rw[List.take_add_one,h]
 exact V9 f _ x
abbrev qQ (e:Int):List AO:=[.cells 320 [.int .i64 e]]
abbrev nO [Wd] (f:FuncId) (ar:List D) (x:Int):Prop:=∀e:Int,bC prog f (.ptr 0 0::ar) (qQ e) (fun r h=>r=.aj []/\h=qQ (aF e x))
section
variable {Q:Exit->S->Prop}
theorem fQ [Wd] {f:FuncId} {ar bR:List D} {x e:Int} {hb:List AO} {c:D->List AO->T} (o:Nat) (hF:nO f ar x) (hv:jF hb [o] [o] (qQ e)) (hc:aa bR (D.bO.rl [o] (.ptr 0 0::ar))) (hM:([o].all fun o=>(jT hb bR).elem o)=true) (k:(c (.aj []) (lK hb [o] (qQ e) (qQ (aF e x)))).ok prog Q):(T.call f bR hb c).ok prog Q:=
 mA [o] (hF e) (.mk' rfl hv) hc hM k
theorem qq [Wd] {f:FuncId} {ar bR:List D} {x e:Int} {hb:List AO} {c:D->List AO->T} (o:Nat) (hF:nO f ar x) (k:(c (.aj []) (lK hb [o] (qQ e) (qQ (aF e x)))).ok prog Q) (hv:jF hb [o] [o] (qQ e):=by exact⟨⟨rfl,rfl⟩,trivial⟩) (hc:aa bR (D.bO.rl [o] (.ptr 0 0::ar)):=by exact aa.refl _) (hM:([o].all fun o=>(jT hb bR).elem o)=true:=by exact rfl):(T.call f bR hb c).ok prog Q:=
 fQ o hF hv hc hM k
theorem pJ [Wd] {tb:TT} {rs:List ResultVar} {ex:Exit} {s:S} {e e':Int} {ds:List D} (σ:List Nat) (he:ex=.normal\/ex=.ret) (hr:iD tb s rs=some ds) (hn:nodupB σ=true) (hv:jF s.h σ σ (qQ e')) (hk:tg 0 (qQ e) σ (qQ e')) (iw:Co (lI ds) (.aj [])) {x:Int} (hx:e'=aF e x):(T.leaf ex s).ok prog (Lf tb rs (qQ e) (fun r h=>r=.aj []/\h=qQ (aF e x))):=by
 subst hx
 exact mL σ he hr hn hv hk iw
end
theorem yA [Wd] (x:Int):nO 295 [.int .i64 x] x:=by
 intro e
 refine ak 13 [] func295 ?_
 repeat' ((conv=>arg 2;whnf);first|apply an<;>intro h|refine pJ [0] (.inl rfl) rfl rfl ⟨⟨rfl,rfl⟩,trivial⟩ ⟨⟨rfl,rfl⟩,trivial⟩ (.refl _) ?_)
 all_goals simp_all [aF]
theorem BR [Wd] (n a b:Int):nO 294 [.int .i64 n,.int .i64 a,.int .i64 b] (cQ n a b):=by
 intro e
 refine ak 18 [] func294 ?_
 repeat' ((conv=>arg 2;whnf);first|apply an<;>intro h|refine fQ 0 (yA _) ⟨⟨rfl,rfl⟩,trivial⟩ (aa.refl _) rfl ?_|refine pJ [0] (.inl rfl) rfl rfl ⟨⟨rfl,rfl⟩,trivial⟩ ⟨⟨rfl,rfl⟩,trivial⟩ (.refl _) ?_)
 all_goals simp_all [cQ]
 all_goals (split<;>first|rfl|omega|(rw[gH]))
theorem wT [Wd] (n:Int):nO 299 [.int .i64 n] (cP n):=by
 intro e
 refine ak 7 [] func299 ?_
 repeat' ((conv=>arg 2;whnf);first|refine fQ 0 (BR _ _ _) ⟨⟨rfl,rfl⟩,trivial⟩ (aa.refl _) rfl ?_|exact pJ [0] (.inl rfl) rfl rfl ⟨⟨rfl,rfl⟩,trivial⟩ ⟨⟨rfl,rfl⟩,trivial⟩ (.refl _) rfl)
theorem zy [Wd] (n:Int):nO 300 [.int .i64 n] (gd n):=by
 intro e
 refine ak 7 [] func300 ?_
 repeat' ((conv=>arg 2;whnf);first|refine fQ 0 (BR _ _ _) ⟨⟨rfl,rfl⟩,trivial⟩ (aa.refl _) rfl ?_|exact pJ [0] (.inl rfl) rfl rfl ⟨⟨rfl,rfl⟩,trivial⟩ ⟨⟨rfl,rfl⟩,trivial⟩ (.refl _) rfl)
theorem EW [Wd] (n:Int):nO 298 [.int .i64 n] (ke n):=by
 intro e
 refine ak 7 [] func298 ?_
 repeat' ((conv=>arg 2;whnf);first|refine fQ 0 (BR _ _ _) ⟨⟨rfl,rfl⟩,trivial⟩ (aa.refl _) rfl ?_|exact pJ [0] (.inl rfl) rfl rfl ⟨⟨rfl,rfl⟩,trivial⟩ ⟨⟨rfl,rfl⟩,trivial⟩ (.refl _) rfl)
theorem zm [Wd] (n m:Int):nO 304 [.int .i64 n,.int .i64 m] (cQ n 0 m):=by
 intro e
 refine ak 10 [] func304 ?_
 repeat' ((conv=>arg 2;whnf);first|refine fQ 0 (BR _ _ _) ⟨⟨rfl,rfl⟩,trivial⟩ (aa.refl _) rfl ?_|exact pJ [0] (.inl rfl) rfl rfl ⟨⟨rfl,rfl⟩,trivial⟩ ⟨⟨rfl,rfl⟩,trivial⟩ (.refl _) rfl)
theorem Di [Wd] (s:bJ):aq prog 307 [.agg (bL s)] (.int .i64 (dw s)):=by
 refine ak 21 [] func307 ?_
 repeat' ((conv=>arg 2;whnf);first|apply an<;>intro h|refine cF ?_)
 all_goals simp_all [dw]
 all_goals omega
theorem NX [Wd] (l:List bJ) (hl:l.length<=4194304):nO 318 [.list 2 (l.map bL)] (lQ l):=by
 intro e
 refine ak 21 [] func318 ?_
 repeat' ((conv=>arg 2;whnf);first|refine fQ 0 (zm _ _) ⟨⟨rfl,rfl⟩,trivial⟩ (aa.refl _) rfl ?_)
 refine bE (α:=Nat×Int) (fun a=>⟨[(12,.int .i64 a.1),(11,.int .i64 (l.map bL).length),(10,.list 2 (l.map bL)),(0,.ptr 0 0)],qQ a.2⟩) (fun a=>a.1<=l.length/\a.2=aF (aF e (jd l.length 13)) (bG dw (l.take a.1))) (fun a=>l.length-a.1) (0,_) ⟨Nat.zero_le _,by simp[bG,gH,jd];rfl⟩ (Sv.aK [0] rfl rfl rfl) ?_
 rintro⟨q,e'⟩ ⟨hq,he⟩
 repeat' (conv=>arg 2;whnf);first|apply an<;>intro h|refine cK (by simpa using h) (fun x hx=>?_)|refine okF (Di x) ?_|refine fQ 0 (yA _) ⟨⟨rfl,rfl⟩,trivial⟩ (aa.refl _) rfl ?_|refine bZ (by simp at h hq;omega) ?_|refine aZ (q+1,_) (Sv.aK [0] rfl rfl rfl) ⟨?_,?_⟩ ?_|refine bq ?_|refine pJ [0] (.inl rfl) rfl rfl ⟨⟨rfl,rfl⟩,trivial⟩ ⟨⟨rfl,rfl⟩,trivial⟩ (.refl _) ?_
 ·show q+1<=l.length
  simp at h;omega
 ·show aF e' (dw x)=_
  rw[oF dw hx,<-eZ,<-he]
 ·simp at h ⊢;omega
 ·rw[he,show l.take q=l from List.take_of_length_le (by simp at h;omega),lQ,eZ]
end
theorem DY {α:Type} [DecidableEq α] (a b:α):(a==b)=cx a b:=by
 by_cases h:a=b
 ·rw[zz h];simp[h]
 ·rw[Bi h];simp[h]
theorem yQ {α:Type} [DecidableEq α] (a b:α):decide (a=b)=cx a b:=DY a b
theorem oG {α:Type} {l k:List α} (h:¬l.length=k.length):cx l k=false:=Bi (fun e=>h (by rw[e]))
theorem oH {α:Type} {l k:List α} {q:Nat} (hl:l.length=k.length) (hq:¬q<l.length) (he:l.take q=k.take q):cx l k=true:=by
 refine zz ?_
 rw[List.take_of_length_le (by omega),List.take_of_length_le (by omega)] at he
 exact he
theorem oK {α:Type} {l k:List α} {q:Nat} {x y:α} (hx:l[q]?=some x) (hy:k[q]?=some y) (h:cx x y=false):cx l k=false:=by
 refine Bi (fun e=>?_)
 subst e
 rw[hx] at hy
 injection hy with hy
 rw[zz hy] at h
 cases h
theorem oL {α:Type} {l k:List α} {q:Nat} {x y:α} (hx:l[q]?=some x) (hy:k[q]?=some y) (h:cx x y=true) (he:l.take q=k.take q):l.take (q+1)=k.take (q+1):=by
 rw[List.take_add_one,List.take_add_one,hx,hy,he,kU.1 h]
theorem FE (a b:bJ):((a.key==b.key)&&(a.ah==b.ah))=cx a b:=by
 cases a;cases b
 rw[Bool.eq_iff_iff,kU];simp
theorem FF (a b:j7):(((((a.seq==b.seq)&&(a.prev==b.prev))&&(a.batch==b.batch))&&(a.root==b.root))&&(a.state==b.state))=cx a b:=by
 cases a;cases b
 rw[Bool.eq_iff_iff,kU];simp[and_assoc]
theorem Dx (a b:bt):cx a b=((a.kind==b.kind)&&decide (a.av=b.av)&&decide (a.group=b.group)&&(a.offset==b.offset)&&cx a.records b.records):=by
 obtain⟨a0,a1,a2,a3,a4⟩:=a
 obtain⟨b0,b1,b2,b3,b4⟩:=b
 rw[Bool.eq_iff_iff,kU]
 simp[kU,and_assoc]
theorem NH (a b:ju):cx a b=((a.bD==b.bD)&&(a.time==b.time)&&cx a.op b.op):=by
 obtain⟨a0,a1,a2⟩:=a
 obtain⟨b0,b1,b2⟩:=b
 rw[Bool.eq_iff_iff,kU]
 simp[kU,and_assoc]
theorem IB (a b:bX):cx a b=(cx a.request b.request&&(a.sign.key==b.sign.key)&&(a.sign.ah==b.sign.ah)):=by
 obtain⟨a0,⟨ahL,ahA⟩⟩:=a
 obtain⟨b0,⟨ahM,ahB⟩⟩:=b
 rw[Bool.eq_iff_iff,kU]
 simp[kU,and_assoc]
theorem Pa (a b:gX):cx a b=((a.seq==b.seq)&&(a.ah==b.ah)&&cx a.cM b.cM):=by
 obtain⟨a0,a1,a2⟩:=a
 obtain⟨b0,b1,b2⟩:=b
 rw[Bool.eq_iff_iff,kU]
 simp[kU,and_assoc]
theorem Nu (a b:jt):cx a b=((a.view==b.view)&&(a.seq==b.seq)&&(a.ah==b.ah)&&(a.kG.key==b.kG.key)&&(a.kG.ah==b.kG.ah)&&cx a.cM b.cM&&cx a.batch b.batch):=by
 obtain⟨a0,a1,a2,⟨ad3,YX⟩,a4,a5⟩:=a
 obtain⟨b0,b1,b2,⟨ad4,YY⟩,b4,b5⟩:=b
 rw[Bool.eq_iff_iff,kU]
 simp[kU,and_assoc]
theorem CR (a b:cX):cx a b=((a.view==b.view)&&(a.src==b.src)&&cx a.cert b.cert&&cx a.cD b.cD&&(a.sign.key==b.sign.key)&&(a.sign.ah==b.sign.ah)):=by
 obtain⟨a0,a1,a2,a3,⟨ahN,ahC⟩⟩:=a
 obtain⟨b0,b1,b2,b3,⟨ahO,ahD⟩⟩:=b
 rw[Bool.eq_iff_iff,kU]
 simp[kU,and_assoc]
theorem IV (a b:gq):cx a b=((a.view==b.view)&&(a.seq==b.seq)&&cx a.batch b.batch&&(a.sign.key==b.sign.key)&&(a.sign.ah==b.sign.ah)):=by
 obtain⟨a0,a1,a2,⟨ad3,YX⟩⟩:=a
 obtain⟨b0,b1,b2,⟨ad4,YY⟩⟩:=b
 rw[Bool.eq_iff_iff,kU]
 simp[kU,and_assoc]
theorem zn (a b:jX):cx a b=(decide (a.av=b.av)&&(a.offset==b.offset)&&cx a.record b.record&&cx a.headers b.headers&&(a.index==b.index)&&(a.count==b.count)&&cx a.path b.path&&cx a.cert b.cert):=by
 obtain⟨a0,a1,a2,a3,a4,a5,a6,a7⟩:=a
 obtain⟨b0,b1,b2,b3,b4,b5,b6,b7⟩:=b
 rw[Bool.eq_iff_iff,kU]
 simp[kU,and_assoc]
theorem By (a b:aD):cx a b=((a.kind==b.kind)&&(a.src==b.src)&&(a.view==b.view)&&(a.seq==b.seq)&&(a.ah==b.ah)&&(a.bD==b.bD)&&(a.time==b.time)&&(a.result.err==b.result.err)&&(a.result.offset==b.result.offset)&&cx a.batch b.batch&&cx a.cert b.cert&&cx a.changes b.changes&&cx a.entries b.entries&&cx a.state b.state&&decide (a.av=b.av)&&(a.offset==b.offset)&&cx a.proof b.proof&&(a.sign.key==b.sign.key)&&(a.sign.ah==b.sign.ah)):=by
 obtain⟨a0,a1,a2,a3,a4,a5,a6,⟨ahP,ahE⟩,a8,a9,yX,a11,a12,a13,a14,a15,⟨ahH,ahy⟩⟩:=a
 obtain⟨b0,b1,b2,b3,b4,b5,b6,⟨ahQ,ahF⟩,b8,b9,tX,b11,wD,S3,S4,b15,⟨ahI,ahz⟩⟩:=b
 rw[Bool.eq_iff_iff,kU]
 simp[kU,and_assoc]
theorem Qp (a b:bK):cx a b=((a.kind==b.kind)&&(a.bA==b.bA)&&(a.num==b.num)&&cx a.op b.op&&cx a.bytes b.bytes&&cx a.msg b.msg&&(a.jN==b.jN)):=by
 obtain⟨a0,a1,a2,a3,a4,a5,a6⟩:=a
 obtain⟨b0,b1,b2,b3,b4,b5,b6⟩:=b
 rw[Bool.eq_iff_iff,kU]
 simp[kU,and_assoc]
theorem GJ [Wd] (a b:List UInt8) (ha:a.length<=4194304) (hb:b.length<=4194304):aq prog 16 [.list 1 (a.map af),.list 1 (b.map af)] (.bool (cx a b)):=by
 refine ak 10 [] func16 ?_
 repeat' (conv=>arg 2;whnf);first|refine j8 a rfl ?_|refine j8 b rfl ?_|refine aT (by omega) ?_|(refine cL ?_;exact yQ a b)
theorem YZ [Wd] (a b:List UInt8) (ha:a.length<=4194304) (hb:b.length<=4194304):aq prog 88 [.list 1 (a.map af),.list 1 (b.map af)] (.bool (cx a b)):=by
 refine ak 8 [] func88 ?_
 repeat' (conv=>arg 2;whnf);first|refine okF (GJ a b ha hb) ?_|refine cL rfl
theorem aa8 [Wd] (l k:List (List UInt8)) (hl:(dL dY).ok l) (hk:(dL dY).ok k):aq prog 87 [.list 1 (l.map gS),.list 1 (k.map gS),.fn 88 0 []] (.bool (cx l k)):=by
 have HL:l.length<=4194304:=hl.1
 refine ak 32 [] func87 ?_
 repeat' (conv=>arg 2;whnf);first|apply an<;>intro h|(refine cL ?_;exact(oG (by simp at h;omega)).symm)
 have hn:l.length=k.length:=by simp at h;omega
 refine bE (α:=Nat) (fun q=>⟨[(17,.int .i64 q),(16,.int .i64 (l.map gS).length),(15,.list 1 (l.map gS)),(2,.fn 88 0 []),(1,.list 1 (k.map gS))],[]⟩) (fun q=>q<=l.length/\l.take q=k.take q) (fun q=>l.length-q) 0 ⟨Nat.zero_le _,rfl⟩ (Sv.aK []) ?_
 rintro q ⟨hq,he⟩
 repeat' (conv=>arg 2;whnf);first|apply an<;>intro h|refine cK (l:=l) (by simp at h;omega) (fun x hx=>?_)|refine cK (l:=k) (by simp at h;omega) (fun y hy=>?_)|refine okF (YZ x y (hl.2 x (List.mem_of_getElem? hx)) (hk.2 y (List.mem_of_getElem? hy))) ?_|refine bw (cj (by simp at h hq;omega) (by have:=HL;simp at h hq;omega)) ?_|refine aZ (q+1) (Sv.aK []) ⟨by have:=(List.getElem?_eq_some_iff.1 hx).1;omega,oL hx hy (by simpa using h) he⟩ (by have:=(List.getElem?_eq_some_iff.1 hx).1;omega)|refine bq ?_|refine eG ?_|(refine cL ?_;have hl:=oK hx hy (by simpa using h);exact hl.symm;done)|(have hl:=oH hn (by simp at h;omega) he;refine cL ?_;exact hl.symm;done)
theorem JX [Wd] (a b:bt) (ha:fD.ok a) (hb:fD.ok b):aq prog 53 [.agg (cC a),.agg (cC b)] (.bool (cx a b)):=by
 refine ak 38 [] func53 ?_
 repeat' (conv=>arg 2;whnf);first|apply an<;>intro h|refine okF (aa8 a.records b.records ha.2.2.2.2 hb.2.2.2.2) ?_|(refine cL ?_;rw[Dx];simp_all;done)
theorem Y0 [Wd] (a b:bX) (ha:fX.ok a) (hb:fX.ok b):aq prog 131 [.agg (bI a),.agg (bI b)] (.bool (cx a b)):=by
 refine ak 37 [] func131 ?_
 repeat' (conv=>arg 2;whnf);first|apply an<;>intro h|refine okF (JX a.request.op b.request.op ha.1.2.2 hb.1.2.2) ?_|(refine cL ?_;rw[IB,NH];simp_all;done)
theorem Wc [Wd] (l k:List (bX)) (hl:(dL fX).ok l) (hk:(dL fX).ok k):aq prog 130 [.list 9 (l.map bI),.list 9 (k.map bI),.fn 131 0 []] (.bool (cx l k)):=by
 have HL:l.length<=4194304:=hl.1
 refine ak 32 [] func130 ?_
 repeat' (conv=>arg 2;whnf);first|apply an<;>intro h|(refine cL ?_;exact(oG (by simp at h;omega)).symm)
 have hn:l.length=k.length:=by simp at h;omega
 refine bE (α:=Nat) (fun q=>⟨[(17,.int .i64 q),(16,.int .i64 (l.map bI).length),(15,.list 9 (l.map bI)),(2,.fn 131 0 []),(1,.list 9 (k.map bI))],[]⟩) (fun q=>q<=l.length/\l.take q=k.take q) (fun q=>l.length-q) 0 ⟨Nat.zero_le _,rfl⟩ (Sv.aK []) ?_
 rintro q ⟨hq,he⟩
 repeat' (conv=>arg 2;whnf);first|apply an<;>intro h|refine cK (l:=l) (by simp at h;omega) (fun x hx=>?_)|refine cK (l:=k) (by simp at h;omega) (fun y hy=>?_)|refine okF (Y0 x y (hl.2 x (List.mem_of_getElem? hx)) (hk.2 y (List.mem_of_getElem? hy))) ?_|refine bw (cj (by simp at h hq;omega) (by have:=HL;simp at h hq;omega)) ?_|refine aZ (q+1) (Sv.aK []) ⟨by have:=(List.getElem?_eq_some_iff.1 hx).1;omega,oL hx hy (by simpa using h) he⟩ (by have:=(List.getElem?_eq_some_iff.1 hx).1;omega)|refine bq ?_|refine eG ?_|(refine cL ?_;have hl:=oK hx hy (by simpa using h);exact hl.symm;done)|(have hl:=oH hn (by simp at h;omega) he;refine cL ?_;exact hl.symm;done)
theorem JY [Wd] (l k:List bX) (hl:(dL fX).ok l) (hk:(dL fX).ok k):aq prog 90 [.list 9 (l.map bI),.list 9 (k.map bI)] (.bool (cx l k)):=by
 refine ak 8 [] func90 ?_
 repeat' (conv=>arg 2;whnf);first|refine okF (Wc l k hl hk) ?_|refine cL rfl
theorem Oq [Wd] (l k:List (bJ)) (hl:l.length<=4194304):aq prog 132 [.list 2 (l.map bL),.list 2 (k.map bL)] (.bool (cx l k)):=by
 have HL:l.length<=4194304:=hl
 refine ak 26 [] func132 ?_
 repeat' (conv=>arg 2;whnf);first|apply an<;>intro h|(refine cL ?_;exact(oG (by simp at h;omega)).symm)
 have hn:l.length=k.length:=by simp at h;omega
 refine bE (α:=Nat) (fun q=>⟨[(13,.int .i64 q),(12,.int .i64 (l.map bL).length),(0,.list 2 (l.map bL)),(1,.list 2 (k.map bL))],[]⟩) (fun q=>q<=l.length/\l.take q=k.take q) (fun q=>l.length-q) 0 ⟨Nat.zero_le _,rfl⟩ (Sv.aK []) ?_
 rintro q ⟨hq,he⟩
 repeat' (conv=>arg 2;whnf);first|apply an<;>intro h|refine cK (l:=l) (by simp at h;omega) (fun x hx=>?_)|refine cK (l:=k) (by simp at h;omega) (fun y hy=>?_)|refine bw (cj (by simp at h hq;omega) (by have:=HL;simp at h hq;omega)) ?_|refine aZ (q+1) (Sv.aK []) ⟨by have:=(List.getElem?_eq_some_iff.1 hx).1;omega,oL hx hy (by rw[<-FE];rw[Bool.true_and] at h;first|exact(Bool.not_eq_true' _).mp h|exact(Bool.not_eq_false' _).mp h) he⟩ (by have:=(List.getElem?_eq_some_iff.1 hx).1;omega)|refine bq ?_|refine eG ?_|(refine cL ?_;have hl:=oK hx hy (by rw[<-FE];rw[Bool.true_and] at h;first|exact(Bool.not_eq_true' _).mp h|exact(Bool.not_eq_false' _).mp h);exact hl.symm;done)|(have hl:=oH hn (by simp at h;omega) he;refine cL ?_;exact hl.symm;done)
theorem Vy [Wd] (l k:List (j7)) (hl:l.length<=4194304):aq prog 135 [.list 5 (l.map eO),.list 5 (k.map eO)] (.bool (cx l k)):=by
 have HL:l.length<=4194304:=hl
 refine ak 26 [] func135 ?_
 repeat' (conv=>arg 2;whnf);first|apply an<;>intro h|(refine cL ?_;exact(oG (by simp at h;omega)).symm)
 have hn:l.length=k.length:=by simp at h;omega
 refine bE (α:=Nat) (fun q=>⟨[(13,.int .i64 q),(12,.int .i64 (l.map eO).length),(0,.list 5 (l.map eO)),(1,.list 5 (k.map eO))],[]⟩) (fun q=>q<=l.length/\l.take q=k.take q) (fun q=>l.length-q) 0 ⟨Nat.zero_le _,rfl⟩ (Sv.aK []) ?_
 rintro q ⟨hq,he⟩
 repeat' (conv=>arg 2;whnf);first|apply an<;>intro h|refine cK (l:=l) (by simp at h;omega) (fun x hx=>?_)|refine cK (l:=k) (by simp at h;omega) (fun y hy=>?_)|refine bw (cj (by simp at h hq;omega) (by have:=HL;simp at h hq;omega)) ?_|refine aZ (q+1) (Sv.aK []) ⟨by have:=(List.getElem?_eq_some_iff.1 hx).1;omega,oL hx hy (by rw[<-FF];rw[Bool.true_and] at h;first|exact(Bool.not_eq_true' _).mp h|exact(Bool.not_eq_false' _).mp h) he⟩ (by have:=(List.getElem?_eq_some_iff.1 hx).1;omega)|refine bq ?_|refine eG ?_|(refine cL ?_;have hl:=oK hx hy (by rw[<-FF];rw[Bool.true_and] at h;first|exact(Bool.not_eq_true' _).mp h|exact(Bool.not_eq_false' _).mp h);exact hl.symm;done)|(have hl:=oH hn (by simp at h;omega) he;refine cL ?_;exact hl.symm;done)
theorem Vz [Wd] (l k:List (Int)) (hl:l.length<=4194304):aq prog 136 [.list 1 (l.map eD),.list 1 (k.map eD)] (.bool (cx l k)):=by
 have HL:l.length<=4194304:=hl
 refine ak 26 [] func136 ?_
 repeat' (conv=>arg 2;whnf);first|apply an<;>intro h|(refine cL ?_;exact(oG (by simp at h;omega)).symm)
 have hn:l.length=k.length:=by simp at h;omega
 refine bE (α:=Nat) (fun q=>⟨[(13,.int .i64 q),(12,.int .i64 (l.map eD).length),(0,.list 1 (l.map eD)),(1,.list 1 (k.map eD))],[]⟩) (fun q=>q<=l.length/\l.take q=k.take q) (fun q=>l.length-q) 0 ⟨Nat.zero_le _,rfl⟩ (Sv.aK []) ?_
 rintro q ⟨hq,he⟩
 repeat' (conv=>arg 2;whnf);first|apply an<;>intro h|refine cK (l:=l) (by simp at h;omega) (fun x hx=>?_)|refine cK (l:=k) (by simp at h;omega) (fun y hy=>?_)|refine bw (cj (by simp at h hq;omega) (by have:=HL;simp at h hq;omega)) ?_|refine aZ (q+1) (Sv.aK []) ⟨by have:=(List.getElem?_eq_some_iff.1 hx).1;omega,oL hx hy (by rw[<-DY];simpa using h) he⟩ (by have:=(List.getElem?_eq_some_iff.1 hx).1;omega)|refine bq ?_|refine eG ?_|(refine cL ?_;have hl:=oK hx hy (by rw[<-DY];simpa using h);exact hl.symm;done)|(have hl:=oH hn (by simp at h;omega) he;refine cL ?_;exact hl.symm;done)
theorem IC [Wd] (a b:gX) (ha:je.ok a) (hb:je.ok b):aq prog 91 [.agg (mj a),.agg (mj b)] (.bool (cx a b)):=by
 refine ak 24 [] func91 ?_
 repeat' (conv=>arg 2;whnf);first|apply an<;>intro h|refine okF (Oq a.cM b.cM ha.2.2.1) ?_|(refine cL ?_;rw[Pa];simp_all;done)
theorem We [Wd] (a b:jt) (ha:oC.ok a) (hb:oC.ok b):aq prog 134 [.agg (fk a),.agg (fk b)] (.bool (cx a b)):=by
 refine ak 45 [] func134 ?_
 repeat' (conv=>arg 2;whnf);first|apply an<;>intro h|refine okF (Oq a.cM b.cM ha.2.2.2.2.1.1) ?_|refine okF (JY a.batch b.batch ha.2.2.2.2.2 hb.2.2.2.2.2) ?_|(refine cL ?_;rw[Nu];simp_all;done)
theorem Y1 [Wd] (l k:List (jt)) (hl:(dL oC).ok l) (hk:(dL oC).ok k):aq prog 133 [.list 7 (l.map fk),.list 7 (k.map fk),.fn 134 0 []] (.bool (cx l k)):=by
 have HL:l.length<=4194304:=hl.1
 refine ak 32 [] func133 ?_
 repeat' (conv=>arg 2;whnf);first|apply an<;>intro h|(refine cL ?_;exact(oG (by simp at h;omega)).symm)
 have hn:l.length=k.length:=by simp at h;omega
 refine bE (α:=Nat) (fun q=>⟨[(17,.int .i64 q),(16,.int .i64 (l.map fk).length),(15,.list 7 (l.map fk)),(2,.fn 134 0 []),(1,.list 7 (k.map fk))],[]⟩) (fun q=>q<=l.length/\l.take q=k.take q) (fun q=>l.length-q) 0 ⟨Nat.zero_le _,rfl⟩ (Sv.aK []) ?_
 rintro q ⟨hq,he⟩
 repeat' (conv=>arg 2;whnf);first|apply an<;>intro h|refine cK (l:=l) (by simp at h;omega) (fun x hx=>?_)|refine cK (l:=k) (by simp at h;omega) (fun y hy=>?_)|refine okF (We x y (hl.2 x (List.mem_of_getElem? hx)) (hk.2 y (List.mem_of_getElem? hy))) ?_|refine bw (cj (by simp at h hq;omega) (by have:=HL;simp at h hq;omega)) ?_|refine aZ (q+1) (Sv.aK []) ⟨by have:=(List.getElem?_eq_some_iff.1 hx).1;omega,oL hx hy (by simpa using h) he⟩ (by have:=(List.getElem?_eq_some_iff.1 hx).1;omega)|refine bq ?_|refine eG ?_|(refine cL ?_;have hl:=oK hx hy (by simpa using h);exact hl.symm;done)|(have hl:=oH hn (by simp at h;omega) he;refine cL ?_;exact hl.symm;done)
theorem U8 [Wd] (a b:cX) (ha:fP.ok a) (hb:fP.ok b):aq prog 93 [.agg (bU a),.agg (bU b)] (.bool (cx a b)):=by
 refine ak 38 [] func93 ?_
 repeat' (conv=>arg 2;whnf);first|apply an<;>intro h|refine okF (IC a.cert b.cert ha.2.2.1 hb.2.2.1) ?_|refine okF (Y1 a.cD b.cD ha.2.2.2.1 hb.2.2.2.1) ?_|(refine cL ?_;rw[CR];simp_all;done)
theorem VA [Wd] (a b:gq) (ha:jx.ok a) (hb:jx.ok b):aq prog 95 [.agg (dV a),.agg (dV b)] (.bool (cx a b)):=by
 refine ak 31 [] func95 ?_
 repeat' (conv=>arg 2;whnf);first|apply an<;>intro h|refine okF (JY a.batch b.batch ha.2.2.1 hb.2.2.1) ?_|(refine cL ?_;rw[IV];simp_all;done)
theorem VB [Wd] (a b:jX) (ha:jY.ok a) (hb:jY.ok b):aq prog 96 [.agg (jv a),.agg (jv b)] (.bool (cx a b)):=by
 refine ak 59 [] func96 ?_
 repeat' (conv=>arg 2;whnf);first|apply an<;>intro h|refine okF (GJ a.record b.record ha.2.2.1 hb.2.2.1) ?_|refine okF (Vy a.headers b.headers ha.2.2.2.1.1) ?_|refine okF (Vz a.path b.path ha.2.2.2.2.2.2.1.1) ?_|refine okF (IC a.cert b.cert ha.2.2.2.2.2.2.2 hb.2.2.2.2.2.2.2) ?_|(refine cL ?_;rw[zn];simp_all;done)
theorem Wf [Wd] (l k:List (cX)) (hl:(dL fP).ok l) (hk:(dL fP).ok k):aq prog 92 [.list 8 (l.map bU),.list 8 (k.map bU),.fn 93 0 []] (.bool (cx l k)):=by
 have HL:l.length<=4194304:=hl.1
 refine ak 32 [] func92 ?_
 repeat' (conv=>arg 2;whnf);first|apply an<;>intro h|(refine cL ?_;exact(oG (by simp at h;omega)).symm)
 have hn:l.length=k.length:=by simp at h;omega
 refine bE (α:=Nat) (fun q=>⟨[(17,.int .i64 q),(16,.int .i64 (l.map bU).length),(15,.list 8 (l.map bU)),(2,.fn 93 0 []),(1,.list 8 (k.map bU))],[]⟩) (fun q=>q<=l.length/\l.take q=k.take q) (fun q=>l.length-q) 0 ⟨Nat.zero_le _,rfl⟩ (Sv.aK []) ?_
 rintro q ⟨hq,he⟩
 repeat' (conv=>arg 2;whnf);first|apply an<;>intro h|refine cK (l:=l) (by simp at h;omega) (fun x hx=>?_)|refine cK (l:=k) (by simp at h;omega) (fun y hy=>?_)|refine okF (U8 x y (hl.2 x (List.mem_of_getElem? hx)) (hk.2 y (List.mem_of_getElem? hy))) ?_|refine bw (cj (by simp at h hq;omega) (by have:=HL;simp at h hq;omega)) ?_|refine aZ (q+1) (Sv.aK []) ⟨by have:=(List.getElem?_eq_some_iff.1 hx).1;omega,oL hx hy (by simpa using h) he⟩ (by have:=(List.getElem?_eq_some_iff.1 hx).1;omega)|refine bq ?_|refine eG ?_|(refine cL ?_;have hl:=oK hx hy (by simpa using h);exact hl.symm;done)|(have hl:=oH hn (by simp at h;omega) he;refine cL ?_;exact hl.symm;done)
theorem Xk [Wd] (l k:List (gq)) (hl:(dL jx).ok l) (hk:(dL jx).ok k):aq prog 94 [.list 5 (l.map dV),.list 5 (k.map dV),.fn 95 0 []] (.bool (cx l k)):=by
 have HL:l.length<=4194304:=hl.1
 refine ak 32 [] func94 ?_
 repeat' (conv=>arg 2;whnf);first|apply an<;>intro h|(refine cL ?_;exact(oG (by simp at h;omega)).symm)
 have hn:l.length=k.length:=by simp at h;omega
 refine bE (α:=Nat) (fun q=>⟨[(17,.int .i64 q),(16,.int .i64 (l.map dV).length),(15,.list 5 (l.map dV)),(2,.fn 95 0 []),(1,.list 5 (k.map dV))],[]⟩) (fun q=>q<=l.length/\l.take q=k.take q) (fun q=>l.length-q) 0 ⟨Nat.zero_le _,rfl⟩ (Sv.aK []) ?_
 rintro q ⟨hq,he⟩
 repeat' (conv=>arg 2;whnf);first|apply an<;>intro h|refine cK (l:=l) (by simp at h;omega) (fun x hx=>?_)|refine cK (l:=k) (by simp at h;omega) (fun y hy=>?_)|refine okF (VA x y (hl.2 x (List.mem_of_getElem? hx)) (hk.2 y (List.mem_of_getElem? hy))) ?_|refine bw (cj (by simp at h hq;omega) (by have:=HL;simp at h hq;omega)) ?_|refine aZ (q+1) (Sv.aK []) ⟨by have:=(List.getElem?_eq_some_iff.1 hx).1;omega,oL hx hy (by simpa using h) he⟩ (by have:=(List.getElem?_eq_some_iff.1 hx).1;omega)|refine bq ?_|refine eG ?_|(refine cL ?_;have hl:=oK hx hy (by simpa using h);exact hl.symm;done)|(have hl:=oH hn (by simp at h;omega) he;refine cL ?_;exact hl.symm;done)
def ad5 (a:aD):List D:=[.int .i64 a.kind,.int .i64 a.src,.int .i64 a.bD,.int .i64 a.view,.int .i64 a.seq,.int .i64 a.time,.int .i64 a.offset,.int .i64 a.ah,.int .i64 a.result.err,.int .i64 a.result.offset,.str a.av,.int .i64 a.sign.key,.int .i64 a.sign.ah]
theorem Y2 [Wd] (a:aD):aq prog 89 [.agg (aC a)] (.agg (ad5 a)):=by
 refine ak 26 [] func89 ?_
 repeat' (conv=>arg 2;whnf);first|refine cg
theorem Qo [Wd] (a b:aD) (ha:bh.ok a) (hb:bh.ok b):aq prog 54 [.agg (aC a),.agg (aC b)] (.bool (cx a b)):=by
 refine ak 52 [(1,⟨[(0,false),(2,false),(1,true),(3,true),(4,false),(5,false),(6,false),(7,false),(8,false),(9,false),(10,true),(11,false),(12,false),(13,false),(14,false),(15,false),(16,false),(17,true),(18,false),(19,false),(20,false),(21,false),(22,false),(23,false),(24,true),(25,false),(26,false),(27,false),(28,false),(29,false),(30,false),(31,true),(32,false),(33,false),(34,false),(35,false),(36,false),(37,false),(38,true),(39,false),(40,false),(41,false),(42,false),(43,false),(44,false),(45,true),(46,false),(47,false)],[]⟩)] func54 ?_
 repeat' (conv=>arg 2;whnf);first|apply an<;>intro h|refine okF (Y2 _) ?_|refine okF (JY a.batch b.batch ha.2.2.2.2.2.2.2.2.1 hb.2.2.2.2.2.2.2.2.1) ?_|refine okF (IC a.cert b.cert ha.2.2.2.2.2.2.2.2.2.1 hb.2.2.2.2.2.2.2.2.2.1) ?_|refine okF (Wf a.changes b.changes ha.2.2.2.2.2.2.2.2.2.2.1 hb.2.2.2.2.2.2.2.2.2.2.1) ?_|refine okF (Xk a.entries b.entries ha.2.2.2.2.2.2.2.2.2.2.2.1 hb.2.2.2.2.2.2.2.2.2.2.2.1) ?_|refine okF (GJ a.state b.state ha.2.2.2.2.2.2.2.2.2.2.2.2.1 hb.2.2.2.2.2.2.2.2.2.2.2.2.1) ?_|refine okF (VB a.proof b.proof ha.2.2.2.2.2.2.2.2.2.2.2.2.2.2.2.1 hb.2.2.2.2.2.2.2.2.2.2.2.2.2.2.2.1) ?_|(refine cL ?_;rw[By];simp_all;done)
theorem JZ [Wd] (a b:bK) (ha:gh.ok a) (hb:gh.ok b):aq prog 22 [.agg (cr a),.agg (cr b)] (.bool (cx a b)):=by
 refine ak 52 [] func22 ?_
 repeat' (conv=>arg 2;whnf);first|apply an<;>intro h|refine okF (JX a.op b.op ha.2.2.2.1 hb.2.2.2.1) ?_|refine okF (GJ a.bytes b.bytes ha.2.2.2.2.1 hb.2.2.2.2.1) ?_|refine okF (Qo a.msg b.msg ha.2.2.2.2.2.1 hb.2.2.2.2.2.1) ?_|(refine cL ?_;rw[Qp];simp_all;done)
theorem wX [Wd] {P:Program} {Q:Exit->S->Prop} {α:Type} {l:List α} {f:α->List D} {q:Nat} {x:α} {c:List D->T} (hx:l[q]?=some x) (h:(c (f x)).ok P Q):(T.nth (l.map f) (q:Int) c).ok P Q:=
 ⟨f x,Int.natCast_nonneg q,by simp[hx],h⟩
theorem Pb [Wd] (l k:List (bJ)) (hl:l.length<=4194304):aq prog 128 [.list 2 (l.map bL),.list 2 (k.map bL)] (.bool (cx l k)):=by
 have HL:l.length<=4194304:=hl
 refine ak 26 [] func128 ?_
 repeat' (conv=>arg 2;whnf);first|apply an<;>intro h|(refine cL ?_;exact(oG (by simp at h;omega)).symm)
 have hn:l.length=k.length:=by simp at h;omega
 refine bE (α:=Nat) (fun q=>⟨[(5,.int .i64 q),(0,.list 2 (l.map bL)),(1,.list 2 (k.map bL))],[]⟩) (fun q=>q<=l.length/\l.take q=k.take q) (fun q=>l.length-q) 0 ⟨Nat.zero_le _,rfl⟩ (Sv.aK []) ?_
 rintro q ⟨hq,he⟩
 repeat' (conv=>arg 2;whnf);first|apply an<;>intro h|refine cK (l:=l) (by simp at h;omega) (fun x hx=>?_)|refine cK (l:=k) (by simp at h;omega) (fun y hy=>?_)|refine bw (cj (by simp at h hq;omega) (by have:=HL;simp at h hq;omega)) ?_|refine aZ (q+1) (Sv.aK []) ⟨by have:=(List.getElem?_eq_some_iff.1 hx).1;omega,oL hx hy (by rw[<-FE];rw[Bool.true_and] at h;first|exact(Bool.not_eq_true' _).mp h|exact(Bool.not_eq_false' _).mp h) he⟩ (by have:=(List.getElem?_eq_some_iff.1 hx).1;omega)|refine bq ?_|refine eG ?_|(refine cL ?_;have hl:=oK hx hy (by rw[<-FE];rw[Bool.true_and] at h;first|exact(Bool.not_eq_true' _).mp h|exact(Bool.not_eq_false' _).mp h);exact hl.symm;done)|(have hl:=oH hn (by simp at h;omega) he;refine cL ?_;exact hl.symm;done)
theorem J0 [Wd] (a b:gX) (ha:je.ok a) (hb:je.ok b):aq prog 83 [.agg (mj a),.agg (mj b)] (.bool (cx a b)):=by
 refine ak 24 [] func83 ?_
 repeat' (conv=>arg 2;whnf);first|apply an<;>intro h|refine okF (Pb a.cM b.cM ha.2.2.1) ?_|(refine cL ?_;rw[Pa];simp_all;done)
theorem RX [Wd] (a b:bt) (ha:fD.ok a) (hb:fD.ok b):aq prog 51 [.agg (cC a),.agg (cC b)] (.bool (cx a b)):=by
 refine ak 61 [] func51 ?_
 repeat' (conv=>arg 2;whnf);first|apply an<;>intro h|(refine cL ?_;rw[Dx];simp_all;done)|(refine cL ?_;rw[Dx,oG (l:=a.records) (k:=b.records) (by simp at h;omega)];simp;done)
 have HL:a.records.length<=4194304:=ha.2.2.2.2.1
 have hl:=ha.2.2.2.2
 have hk:=hb.2.2.2.2
 have hn:a.records.length=b.records.length:=by
  have e:(a.records.length:Int)=b.records.length:=by simp_all
  omega
 refine bE (α:=Nat) (fun q=>⟨[(5,.int .i64 q),(2,.ptr 0 0),(3,.ptr 1 0)],[.cells 40 (cC a),.cells 40 (cC b)]⟩) (fun q=>q<=a.records.length/\a.records.take q=b.records.take q) (fun q=>a.records.length-q) 0 ⟨Nat.zero_le _,rfl⟩ (Sv.aK [0,1]) ?_
 rintro q ⟨hq,he⟩
 repeat' (conv=>arg 2;whnf);first|apply an<;>intro h|refine cK (l:=a.records) (by simp at h;omega) (fun x hx=>?_)|refine cK (l:=b.records) (by simp at h;omega) (fun y hy=>?_)|refine j8 x rfl ?_|refine j8 y rfl ?_|refine aT (by have h2:y.length<=4194304:=hk.2 y (List.mem_of_getElem? hy);omega) ?_|refine aT (by have h1:x.length<=4194304:=hl.2 x (List.mem_of_getElem? hx);omega) ?_|refine bw (cj (by simp at h hq;omega) (by have:=HL;simp at h hq;omega)) ?_|refine aZ (q+1) (Sv.aK [0,1]) ⟨by have:=(List.getElem?_eq_some_iff.1 hx).1;omega,oL hx hy (by rw[<-yQ];simpa using h) he⟩ (by have:=(List.getElem?_eq_some_iff.1 hx).1;omega)|refine bq ?_|refine eG ?_|(refine cL ?_;have hl:=oK hx hy (by rw[<-yQ];simpa using h);rw[Dx,hl];simp;done)|(have hl:=oH hn (by simp at h;omega) he;refine cL ?_;rw[Dx];simp_all;done)
theorem acN [Wd] (a b:ju) (ha:su.ok a) (hb:su.ok b):aq prog 127 [.agg (sw a),.agg (sw b)] (.bool (cx a b)):=by
 refine ak 24 [] func127 ?_
 repeat' (conv=>arg 2;whnf);first|apply an<;>intro h|refine okF (RX a.op b.op ha.2.2 hb.2.2) ?_|(refine cL ?_;rw[NH];simp_all;done)
theorem Jr [Wd] (l k:List (bX)) (hl:(dL fX).ok l) (hk:(dL fX).ok k):aq prog 82 [.list 9 (l.map bI),.list 9 (k.map bI)] (.bool (cx l k)):=by
 have HL:l.length<=4194304:=hl.1
 refine ak 42 [] func82 ?_
 repeat' (conv=>arg 2;whnf);first|apply an<;>intro h|(refine cL ?_;exact(oG (by simp at h;omega)).symm)
 have hn:l.length=k.length:=by simp at h;omega
 refine bE (α:=Nat) (fun q=>⟨[(5,.int .i64 q),(0,.list 9 (l.map bI)),(1,.list 9 (k.map bI))],[]⟩) (fun q=>q<=l.length/\l.take q=k.take q) (fun q=>l.length-q) 0 ⟨Nat.zero_le _,rfl⟩ (Sv.aK []) ?_
 rintro q ⟨hq,he⟩
 repeat' (conv=>arg 2;whnf);first|apply an<;>intro h|refine wX hx ?_|refine wX hy ?_|refine cK (l:=l) (by simp at h;omega) (fun x hx=>?_)|refine cK (l:=k) (by simp at h;omega) (fun y hy=>?_)|refine okF (acN x.request y.request (hl.2 x (List.mem_of_getElem? hx)).1 (hk.2 y (List.mem_of_getElem? hy)).1) ?_|refine bw (cj (by simp at h hq;omega) (by have:=HL;simp at h hq;omega)) ?_|refine aZ (q+1) (Sv.aK []) ⟨by have:=(List.getElem?_eq_some_iff.1 hx).1;omega,oL hx hy (by rw[IB];simp_all) he⟩ (by have:=(List.getElem?_eq_some_iff.1 hx).1;omega)|refine bq ?_|refine eG ?_|(refine cL ?_;have hl:=oK hx hy (by rw[IB];simp_all);exact hl.symm;done)|(have hl:=oH hn (by simp at h;omega) he;refine cL ?_;exact hl.symm;done)
theorem aa9 [Wd] (a b:jt) (ha:oC.ok a) (hb:oC.ok b):aq prog 129 [.agg (fk a),.agg (fk b)] (.bool (cx a b)):=by
 refine ak 45 [] func129 ?_
 repeat' (conv=>arg 2;whnf);first|apply an<;>intro h|refine okF (Pb a.cM b.cM ha.2.2.2.2.1.1) ?_|refine okF (Jr a.batch b.batch ha.2.2.2.2.2 hb.2.2.2.2.2) ?_|(refine cL ?_;rw[Nu];simp_all;done)
theorem Xl [Wd] (a b:cX) (ha:fP.ok a) (hb:fP.ok b):aq prog 86 [.agg (bU a),.agg (bU b)] (.bool (cx a b)):=by
 refine ak 61 [] func86 ?_
 repeat' (conv=>arg 2;whnf);first|apply an<;>intro h|refine okF (J0 a.cert b.cert ha.2.2.1 hb.2.2.1) ?_|(refine cL ?_;rw[CR];simp_all;done)|(refine cL ?_;rw[CR,oG (l:=a.cD) (k:=b.cD) (by simp at h;omega)];simp;done)
 have HL:a.cD.length<=4194304:=ha.2.2.2.1.1
 have hl:=ha.2.2.2.1
 have hk:=hb.2.2.2.1
 have hn:a.cD.length=b.cD.length:=by
  have e:(a.cD.length:Int)=b.cD.length:=by simp_all
  omega
 refine bE (α:=Nat) (fun q=>⟨[(5,.int .i64 q),(2,.ptr 0 0),(3,.ptr 1 0)],[.cells 145 (bU a),.cells 145 (bU b)]⟩) (fun q=>q<=a.cD.length/\a.cD.take q=b.cD.take q) (fun q=>a.cD.length-q) 0 ⟨Nat.zero_le _,rfl⟩ (Sv.aK [0,1]) ?_
 rintro q ⟨hq,he⟩
 repeat' (conv=>arg 2;whnf);first|apply an<;>intro h|refine cK (l:=a.cD) (by simp at h;omega) (fun x hx=>?_)|refine cK (l:=b.cD) (by simp at h;omega) (fun y hy=>?_)|refine okF (aa9 x y (hl.2 x (List.mem_of_getElem? hx)) (hk.2 y (List.mem_of_getElem? hy))) ?_|refine bw (cj (by simp at h hq;omega) (by have:=HL;simp at h hq;omega)) ?_|refine aZ (q+1) (Sv.aK [0,1]) ⟨by have:=(List.getElem?_eq_some_iff.1 hx).1;omega,oL hx hy (by simpa using h) he⟩ (by have:=(List.getElem?_eq_some_iff.1 hx).1;omega)|refine bq ?_|refine eG ?_|(refine cL ?_;have hl:=oK hx hy (by simpa using h);rw[CR,hl];simp;done)|(have hl:=oH hn (by simp at h;omega) he;refine cL ?_;rw[CR];simp_all;done)
theorem Wg [Wd] (l k:List (gq)) (hl:(dL jx).ok l) (hk:(dL jx).ok k):aq prog 84 [.list 5 (l.map dV),.list 5 (k.map dV)] (.bool (cx l k)):=by
 have HL:l.length<=4194304:=hl.1
 refine ak 68 [] func84 ?_
 repeat' (conv=>arg 2;whnf);first|apply an<;>intro h|(refine cL ?_;exact(oG (by simp at h;omega)).symm)
 have hn:l.length=k.length:=by simp at h;omega
 refine bE (α:=Nat) (fun q=>⟨[(5,.int .i64 q),(0,.list 5 (l.map dV)),(1,.list 5 (k.map dV))],[]⟩) (fun q=>q<=l.length/\l.take q=k.take q) (fun q=>l.length-q) 0 ⟨Nat.zero_le _,rfl⟩ (Sv.aK []) ?_
 rintro q ⟨hq,he⟩
 repeat' (conv=>arg 2;whnf);first|apply an<;>intro h|refine wX hx ?_|refine wX hy ?_|refine cK (l:=l) (by simp at h;omega) (fun x hx=>?_)|refine cK (l:=k) (by simp at h;omega) (fun y hy=>?_)|refine okF (Jr x.batch y.batch (hl.2 x (List.mem_of_getElem? hx)).2.2.1 (hk.2 y (List.mem_of_getElem? hy)).2.2.1) ?_|refine bw (cj (by simp at h hq;omega) (by have:=HL;simp at h hq;omega)) ?_|refine aZ (q+1) (Sv.aK []) ⟨by have:=(List.getElem?_eq_some_iff.1 hx).1;omega,oL hx hy (by rw[IV];simp_all) he⟩ (by have:=(List.getElem?_eq_some_iff.1 hx).1;omega)|refine bq ?_|refine eG ?_|(refine cL ?_;have hl:=oK hx hy (by rw[IV];simp_all);exact hl.symm;done)|(have hl:=oH hn (by simp at h;omega) he;refine cL ?_;exact hl.symm;done)
theorem Y3 [Wd] (a b:jX) (ha:jY.ok a) (hb:jY.ok b):aq prog 85 [.agg (jv a),.agg (jv b)] (.bool (cx a b)):=by
 have la:a.record.length<=4194304:=ha.2.2.1
 have lb:b.record.length<=4194304:=hb.2.2.1
 refine ak 104 [] func85 ?_
 repeat' (conv=>arg 2;whnf);first|apply an<;>intro h|refine j8 a.record rfl ?_|refine j8 b.record rfl ?_|refine aT (by omega) ?_|refine okF (J0 a.cert b.cert ha.2.2.2.2.2.2.2 hb.2.2.2.2.2.2.2) ?_|(refine cL ?_;rw[zn];simp_all [<-yQ];done)|(refine cL ?_;rw[zn,oG (l:=a.headers) (k:=b.headers) (by simp at h;omega)];simp;done)|(refine cL ?_;rw[zn,oG (l:=a.path) (k:=b.path) (by simp at h;omega)];simp;done)
 have HL:a.headers.length<=4194304:=ha.2.2.2.1.1
 have hl:=ha.2.2.2.1
 have hk:=hb.2.2.2.1
 have hn:a.headers.length=b.headers.length:=by
  have e:(a.headers.length:Int)=b.headers.length:=by simp_all
  omega
 refine bE (α:=Nat) (fun q=>⟨[(5,.int .i64 q),(2,.ptr 0 0),(3,.ptr 1 0)],[.cells 55 (jv a),.cells 55 (jv b)]⟩) (fun q=>q<=a.headers.length/\a.headers.take q=b.headers.take q) (fun q=>a.headers.length-q) 0 ⟨Nat.zero_le _,rfl⟩ (Sv.aK [0,1]) ?_
 rintro q ⟨hq,he⟩
 repeat' (conv=>arg 2;whnf);first|apply an<;>intro h|refine cK (l:=a.headers) (by simp at h;omega) (fun x hx=>?_)|refine cK (l:=b.headers) (by simp at h;omega) (fun y hy=>?_)|refine bw (cj (by simp at h hq;omega) (by have:=HL;simp at h hq;omega)) ?_|refine aZ (q+1) (Sv.aK [0,1]) ⟨by have:=(List.getElem?_eq_some_iff.1 hx).1;omega,oL hx hy (by rw[<-FF];rw[Bool.true_and] at h;first|exact(Bool.not_eq_true' _).mp h|exact(Bool.not_eq_false' _).mp h) he⟩ (by have:=(List.getElem?_eq_some_iff.1 hx).1;omega)|refine bq ?_|refine eG ?_|(refine cL ?_;have hl:=oK hx hy (by rw[<-FF];rw[Bool.true_and] at h;first|exact(Bool.not_eq_true' _).mp h|exact(Bool.not_eq_false' _).mp h);rw[zn,hl];simp;done)
 have dH:=oH hn (by simp at h;omega) he
 clear hq he h
 have HL:a.path.length<=4194304:=ha.2.2.2.2.2.2.1.1
 have hl:=ha.2.2.2.2.2.2.1
 have hk:=hb.2.2.2.2.2.2.1
 have hn:a.path.length=b.path.length:=by
  have e:(a.path.length:Int)=b.path.length:=by simp_all
  omega
 refine bE (α:=Nat) (fun q=>⟨[(6,.int .i64 q),(2,.ptr 0 0),(3,.ptr 1 0)],[.cells 55 (jv a),.cells 55 (jv b)]⟩) (fun q=>q<=a.path.length/\a.path.take q=b.path.take q) (fun q=>a.path.length-q) 0 ⟨Nat.zero_le _,rfl⟩ (Sv.aK [0,1]) ?_
 rintro q ⟨hq,he⟩
 repeat' (conv=>arg 2;whnf);first|apply an<;>intro h|refine cK (l:=a.path) (by simp at h;omega) (fun x hx=>?_)|refine cK (l:=b.path) (by simp at h;omega) (fun y hy=>?_)|refine bw (cj (by simp at h hq;omega) (by have:=HL;simp at h hq;omega)) ?_|refine aZ (q+1) (Sv.aK [0,1]) ⟨by have:=(List.getElem?_eq_some_iff.1 hx).1;omega,oL hx hy (by rw[<-DY];simpa using h) he⟩ (by have:=(List.getElem?_eq_some_iff.1 hx).1;omega)|refine bq ?_|refine eG ?_|(refine cL ?_;have hl:=oK hx hy (by rw[<-DY];simpa using h);rw[zn,hl];simp;done)|(have hl:=oH hn (by simp at h;omega) he;refine cL ?_;rw[zn];simp_all [<-yQ];done)
theorem Rp [Wd] (a b:aD) (ha:bh.ok a) (hb:bh.ok b):aq prog 52 [.agg (aC a),.agg (aC b)] (.bool (cx a b)):=by
 have la:a.state.length<=4194304:=ha.2.2.2.2.2.2.2.2.2.2.2.2.1
 have lb:b.state.length<=4194304:=hb.2.2.2.2.2.2.2.2.2.2.2.2.1
 refine ak 148 [] func52 ?_
 repeat' (conv=>arg 2;whnf);first|apply an<;>intro h|refine j8 a.state rfl ?_|refine j8 b.state rfl ?_|refine aT (by omega) ?_|refine okF (Jr a.batch b.batch ha.2.2.2.2.2.2.2.2.1 hb.2.2.2.2.2.2.2.2.1) ?_|refine okF (J0 a.cert b.cert ha.2.2.2.2.2.2.2.2.2.1 hb.2.2.2.2.2.2.2.2.2.1) ?_|refine okF (Wg a.entries b.entries ha.2.2.2.2.2.2.2.2.2.2.2.1 hb.2.2.2.2.2.2.2.2.2.2.2.1) ?_|refine okF (Y3 a.proof b.proof ha.2.2.2.2.2.2.2.2.2.2.2.2.2.2.2.1 hb.2.2.2.2.2.2.2.2.2.2.2.2.2.2.2.1) ?_|(refine cL ?_;rw[By];simp_all [<-yQ];done)|(refine cL ?_;rw[By,oG (l:=a.changes) (k:=b.changes) (by simp at h;omega)];simp;done)|(refine cL ?_;rw[By];cases tZ:(a.sign.key==b.sign.key)<;>simp_all;done)
 have HL:a.changes.length<=4194304:=ha.2.2.2.2.2.2.2.2.2.2.1.1
 have hl:=ha.2.2.2.2.2.2.2.2.2.2.1
 have hk:=hb.2.2.2.2.2.2.2.2.2.2.1
 have hn:a.changes.length=b.changes.length:=by
  have e:(a.changes.length:Int)=b.changes.length:=by simp_all
  omega
 refine bE (α:=Nat) (fun q=>⟨[(5,.int .i64 q),(2,.ptr 0 0),(3,.ptr 1 0)],[.cells 59 (aC a),.cells 59 (aC b)]⟩) (fun q=>q<=a.changes.length/\a.changes.take q=b.changes.take q) (fun q=>a.changes.length-q) 0 ⟨Nat.zero_le _,rfl⟩ (Sv.aK [0,1]) ?_
 rintro q ⟨hq,he⟩
 repeat' (conv=>arg 2;whnf);first|apply an<;>intro h|refine cK (l:=a.changes) (by simp at h;omega) (fun x hx=>?_)|refine cK (l:=b.changes) (by simp at h;omega) (fun y hy=>?_)|refine okF (Xl x y (hl.2 x (List.mem_of_getElem? hx)) (hk.2 y (List.mem_of_getElem? hy))) ?_|refine bw (cj (by simp at h hq;omega) (by have:=HL;simp at h hq;omega)) ?_|refine aZ (q+1) (Sv.aK [0,1]) ⟨by have:=(List.getElem?_eq_some_iff.1 hx).1;omega,oL hx hy (by simpa using h) he⟩ (by have:=(List.getElem?_eq_some_iff.1 hx).1;omega)|refine bq ?_|refine eG ?_|(refine cL ?_;have hl:=oK hx hy (by simpa using h);rw[By,hl];simp;done)|(have hl:=oH hn (by simp at h;omega) he;refine cL ?_;rw[By];simp_all [<-yQ];done)
theorem Kq [Wd] (a b:bK) (ha:gh.ok a) (hb:gh.ok b):aq prog 21 [.agg (cr a),.agg (cr b)] (.bool (cx a b)):=by
 have la:a.bytes.length<=4194304:=ha.2.2.2.2.1
 have lb:b.bytes.length<=4194304:=hb.2.2.2.2.1
 refine ak 54 [] func21 ?_
 repeat' (conv=>arg 2;whnf);first|apply an<;>intro h|refine j8 a.bytes rfl ?_|refine j8 b.bytes rfl ?_|refine aT (by omega) ?_|refine okF (RX a.op b.op ha.2.2.2.1 hb.2.2.2.1) ?_|refine okF (Rp a.msg b.msg ha.2.2.2.2.2.1 hb.2.2.2.2.2.1) ?_|(refine cL ?_;rw[Qp];simp_all [<-yQ];done)
theorem Dr.lt [Old] {I:Nat->Prop} {w:World} {v:Value} {d:D} (h:Dr I w v d):Dr (fun b=>I b/\b<w.heap.size) w v d:=by
 induction h with
 |bool b=>exact .bool b
 |int k n=>exact .int k n
 |str s=>exact .str s
 |nils=>exact .nils
 |ff=>exact .ff
 |ay=>exact .ay
 |kL=>exact .kL
 |list A cap n l xs U dH hl hm fI hlen hA h1 hU ih=>
  exact .list A cap n l xs U dH hl hm fI hlen (fun h0=>by
   obtain⟨b,off,e,k1,k2,k3⟩:=hA h0
   exact⟨b,off,e,k1,⟨k2,k1⟩,k3⟩) h1 ih
 |own A cap n l xs U dH hl hm fI hlen hA h1 hU ih=>
  exact .own A cap n l xs U dH hl hm fI hlen (fun h0=>by
   obtain⟨b,off,e,k1,k2,k3⟩:=hA h0
   exact⟨b,off,e,k1,⟨k2,k1⟩,k3⟩) h1 ih
 |ref b off cs U hI hb hc h1 hU ih=>exact .ref b off cs U ⟨hI,hb⟩ hb hc h1 ih
 |agg vs ds hl h1 h ih=>exact .agg vs ds hl h1 ih
 |aj vs ds hl h ih=>exact .aj vs ds hl ih
 |fn f n vs ds hl h ih=>exact .fn f n vs ds hl ih
theorem dQ.lt [Old] {I:Nat->Prop} {w:World} {vs:List Value} {ds:List D} (h:dQ I w vs ds):dQ (fun b=>I b/\b<w.heap.size) w vs ds:=
 ⟨h.1,fun i v d h1 h2=>(h.2 i v d h1 h2).lt⟩
theorem aq.calls [Wd] [Ae] {P:Program} {f:FuncId} {ar:List D} {r:D} (hF:aq P f ar r) {I:Nat->Prop} {w:World} {vs:List Value} (hd:dQ I w vs ar) (hW:Wd.W (fun b=>I b/\b<w.heap.size) w):
 Calls P f vs.toArray w fun e w'=>∃v I',e=.returned v/\B w w'/\Vr I' [] w' v r/\(∀b,I' b->(I b/\b<w.heap.size)\/w.heap.size<=b)/\∀b,I' b->b<w'.heap.size:=by
 have Ho:=hd.lt
 have hD:Den (fun b=>I b/\b<w.heap.size) [] w []:=⟨rfl,fun b h=>h.2,fun o ao p h=>by simp at h,fun o ao p b h=>by simp at h,fun o o' ao cA p p' b h=>by simp at h⟩
 have hn:∀b,¬dF [] [] b:=fun b ⟨o,ao,p,h,_⟩=>by simp at h
 refine(hF.2 w _ [] vs hW hD ⟨Ho.1,fun i v d h1 h2=>.rd (Ho.2 i v d h1 h2)⟩).mono ?_
 rintro e w' (⟨v,I',g',r',h',rfl,⟨rfl,rfl⟩,S2,hv,hx,i1,i2,ow,gk⟩|⟨ch,_,hp,_⟩)
 case inr=>exact absurd hp (Ae.np ch)
 have hg:g'=[]:=List.eq_nil_of_length_eq_zero S2.len
 subst hg
 refine⟨v,I',rfl,hx.Ld (fun b _ ho=>hn b ho),hv,fun b hb=>?_,S2.aG⟩
 rcases i2 b hb with k|k|k
 ·exact .inl k
 ·exact absurd k (hn b)
 ·exact .inr k
theorem aq.Xe [Wd] [Ae] {P:Program} {f:FuncId} {ar:List D} {n:Bool} (hF:aq P f ar (.bool n)) {I:Nat->Prop} {w:World} {vs:List Value} (hd:dQ I w vs ar) (hW:Wd.W (fun b=>I b/\b<w.heap.size) w):
 Calls P f vs.toArray w fun e w'=>e=.returned (.bool n)/\B w w':=
 (hF.calls hd hW).mono (by
   rintro e w' ⟨v,I',rfl,hb,hv,_⟩
   exact⟨by rw[hv.rm],hb⟩)
theorem Lk.arg [Old] {α:Type} {T:Ty α} {A:Dt α} (L:Lk T A) {aG:Nat->Prop} {w:World} {cs:List Value} {a:α} (h:T.rd aG w cs a):dQ aG w [.agg cs.toArray] [.agg (A.c a)]:=by
 obtain⟨h1,_,h3⟩:=L.to h
 exact .one (.agg cs _ h1.1 h3 h1.2)
section
section
variable {aG Le:Nat->Prop} {w:World} {cs ds:List Value}
end
end
section
open Go.RowKit Go.Deep
theorem tY.le {aG:Nat->Prop} {w:World} {v:Value} {a:List UInt8} (h:tY.rd aG w [v] a):a.length<=4194304:=by
 obtain⟨u,e,hb,_,h⟩:=h
 exact h
end
end Go.Proofs.YtafomdobfmmleaaGreatDoor
