/- Lemmas and contracts, part 10. -/
import Derived.Test.YtafomdobfmmleaaGreatDoorZl9
import Derived.Lib.OthersKept
namespace Go.Proofs.YtafomdobfmmleaaGreatDoor
set_option linter.unusedVariables false
open Go.Proofs.Tryz
section
open Go.RowKit Go.Deep
theorem OU (s:ByteArray) (pos:Nat) (h:pos<s.size):1<=(Utf8.decode s pos).2:=by
 by_cases ha:(s[pos]'h).toNat<128
 ·rw[decode_ascii s pos h ha]
  exact Nat.le_refl _
 ·exact(decode_high s pos h (by omega)).2
theorem VX (s:ByteArray) (k pos n:Nat) (h:¬pos<s.size):jk s k pos n=some n:=by
 cases k with
 |zero=>rfl
 |succ k=>simp[jk,h]
theorem Bo (s:List UInt8):(aA s).size=s.length:=by simp[aA,ByteArray.size]
set_option maxRecDepth 100000 in
set_option maxHeartbeats 20000000 in
theorem ab8 (w:World) (s:List UInt8) (hs:s.length<=4194304):Calls prog 59 #[.string (aA s)] w fun e w'=>e=.returned (.int .i64 (uF s:Int))/\B w w':=by
 have HE:=Lib.hid (show uF s=(match jk (aA s) (s.length+1) 0 0 with|none=>0|some n=>if 16<n then 0 else n) from rfl)
 have HZ:=Lib.hid (Bo s)
 have HL:=Lib.hid hs
 generalize hb:aA s=b at*
 generalize uF s=z at*
 clear hb hs
 go_enter func59,ntmps59
 go_wp2
 go_loopw [3,5] (fun n _ wr=>∃(pos fuel k:Nat),n=.int .i64 (k:Int)/\wr.heap[w.heap.size]?=some (.stringIter b pos)/\Hid (B w wr)/\Hid (jk b fuel pos k=jk b (s.length+1) 0 0)/\b.size+1<=pos+fuel/\k<=pos/\k<=4194304) (fun _ _ wr=>b.size-wr.iterPos w.heap.size)
 case atStart=>
  refine⟨0,s.length+1,0,rfl,?_,B.j9 _ _,rfl,by rw[HZ.out];omega,Nat.le_refl _,by omega⟩
  exact World.iter_heap w b 0
 case round=>
  obtain⟨pos,fuel,k,rfl,hit,HB,HG,hfu,hkp,hk⟩:=hrel
  have eE:w.heap.size<wr.heap.size:=(Array.getElem?_eq_some_iff.1 hit).1
  by_cases hp:pos<b.size
  ·have Hv:∀ty,(Instr.next (.pointer (some ⟨w.heap.size,0,none⟩)) true ty).run prog wr=_:=fun ty=>Lib.run_next_any_at wr w.heap.size b pos ty hit hp
   have Mm:=OU b pos hp
   have mU:=decode_le b pos
   have G7:=Lib.iterAt_heap wr w.heap.size b pos (pos+(Utf8.decode b pos).2) hit
   have D5:=Lib.hid (show B w _ from Lib.below_iterAt HB.out (k:=w.heap.size) (by omega) b (pos+(Utf8.decode b pos).2))
   obtain⟨f,rfl⟩:∃f,fuel=f+1:=⟨fuel-1,by omega⟩
   have HD:=Lib.hid (show jk b (f+1) pos k=if uO (Utf8.decode b pos).1 then none else jk b f (pos+(Utf8.decode b pos).2) (k+1) from by simp[jk,hp])
   have Ts:k+1<=4194304:=by have:=HL.out;have:=HZ.out;omega
   generalize (Utf8.decode b pos).1=r at*
   have hc:(r<33)\/(33<=r/\127<=r/\r<=159)\/(33<=r/\r<127/\r=47)\/(33<=r/\127<=r/\159<r/\r=65533)\/(33<=r/\r<127/\r≠47)\/(33<=r/\127<=r/\159<r/\r≠65533):=by omega
   by_cases tJ:uO r=true
   ·have HN:=Lib.hid (show z=0 from by rw[HE.out,<-HG.out,HD.out,if_pos tJ])
    have rV:(r<33)\/(33<=r/\127<=r/\r<=159)\/(r=47)\/(r=65533):=by
     simp only[uO,Bool.or_eq_true,Bool.and_eq_true,decide_eq_true_eq] at tJ;omega
    clear hc tJ
    rcases rV with h1|⟨h1,h2,h3⟩|h1|h1
    ·have g1:(r:Int)<33:=by omega
     clear h1
     go_wp2
     go_ret
     exact⟨by rw[HN.out];rfl,D5.out⟩
    ·have g1:¬(r:Int)<33:=by omega
     have g2:(127:Int)<=r:=by omega
     have g3:(r:Int)<=159:=by omega
     clear h1 h2 h3
     go_wp2
     go_ret
     exact⟨by rw[HN.out];rfl,D5.out⟩
    all_goals
     subst h1
     go_wp2
     go_ret
     exact⟨by rw[HN.out];rfl,D5.out⟩
   ·have HR:=Lib.hid (show jk b f (pos+(Utf8.decode b pos).2) (k+1)=jk b (s.length+1) 0 0 from by rw[<-HG.out,HD.out,if_neg tJ])
    have rV:(33<=r/\r<127/\r≠47)\/(33<=r/\127<=r/\159<r/\r≠65533):=by
     simp only[uO,Bool.or_eq_true,Bool.and_eq_true,decide_eq_true_eq] at tJ;omega
    clear hc tJ
    rcases rV with⟨h1,h2,h3⟩|⟨h1,h2,h3,h4⟩
    ·have g1:¬(r:Int)<33:=by omega
     have g2:¬(127:Int)<=r:=by omega
     have g3:((r:Int)==47)=false:=by simp;omega
     have g4:((r:Int)==65533)=false:=by simp;omega
     clear h1 h2 h3
     go_wp2
     go_roundw
     case rel=>exact⟨pos+(Utf8.decode b pos).2,f,k+1,by go_num,G7,D5.out,HR.out,by omega,by omega,Ts⟩
     case measure=>simp only[World.iterPos,G7,hit];omega
    ·have g1:¬(r:Int)<33:=by omega
     have g2:(127:Int)<=r:=by omega
     have g5:¬(r:Int)<=159:=by omega
     have g3:((r:Int)==47)=false:=by simp;omega
     have g4:((r:Int)==65533)=false:=by simp;omega
     clear h1 h2 h3 h4
     go_wp2
     go_roundw
     case rel=>exact⟨pos+(Utf8.decode b pos).2,f,k+1,by go_num,G7,D5.out,HR.out,by omega,by omega,Ts⟩
     case measure=>simp only[World.iterPos,G7,hit];omega
  ·have Hv:∀ty,(Instr.next (.pointer (some ⟨w.heap.size,0,none⟩)) true ty).run prog wr=_:=fun ty=>Lib.run_next_end_at wr w.heap.size b pos ty hit hp
   have HN:=Lib.hid (show z=if 16<k then 0 else k from by rw[HE.out,<-HG.out,VX b fuel pos k hp])
   by_cases nW:16<k
   ·have g1:(16:Int)<k:=by omega
    rw[if_pos nW] at HN
    clear nW
    go_wp2
    go_ret
    exact⟨by rw[HN.out];rfl,HB.out⟩
   ·have g1:¬(16:Int)<k:=by omega
    rw[if_neg nW] at HN
    clear nW
    go_wp2
    go_ret
    exact⟨by simp[HN.out],HB.out⟩
theorem KE (w:World) (s:List UInt8) (hs:s.length<=4194304):Calls prog 27 #[.string (aA s)] w fun e w'=>e=.returned (.bool (jg s))/\B w w':=by
 have HR:=Lib.hid (ab8 w s hs)
 clear hs
 have HN:=Lib.hid (show jg s=decide (0<uF s) from rfl)
 generalize jg s=z at*
 generalize uF s=n at*
 by_cases h:0<n
 ·have g:(0:Int)<n:=by omega
  rw[decide_eq_true h] at HN
  clear h
  go_enter func27,ntmps27
  go_wp2_with (first|(go_at_call 59;(with_reducible refine HR.out.mono ?_);rintro e w1 ⟨rfl,hb⟩;have HB:=Lib.hid hb;clear hb))
  go_ret
  exact⟨by simp[HN.out];omega,HB.out⟩
 ·have g:¬(0:Int)<n:=by omega
  rw[decide_eq_false h] at HN
  clear h
  go_enter func27,ntmps27
  go_wp2_with (first|(go_at_call 59;(with_reducible refine HR.out.mono ?_);rintro e w1 ⟨rfl,hb⟩;have HB:=Lib.hid hb;clear hb))
  go_ret
  exact⟨by simp[HN.out];omega,HB.out⟩
end
end Go.Proofs.YtafomdobfmmleaaGreatDoor
