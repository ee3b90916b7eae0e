/- Lemmas and contracts, part 23. -/
import Derived.Test.YtafomdobfmmleaaGreatDoorZp22
namespace Go.Proofs.YtafomdobfmmleaaGreatDoor
set_option linter.unusedVariables false
open Go.RowKit
open Go.Proofs.Tryz
set_option maxRecDepth 20000
set_option maxHeartbeats 20000000
theorem RB {c c1 c2:List UInt8} {n1 n2 e1 e2:Int} (q1:nR MB (c,0)=(n1,(c1,e1))) (q2:nR MB (c1,e1)=(n2,(c2,e2))):nV c=if dA (c2,e2)=0 then some ⟨n1,n2⟩ else none:=by
 unfold nV
 rw[q1]
 simp only
 rw[q2]
def oR (b:List UInt8):lW aD:=fC mF fun c=>fC (uL (nV c)) fun s=>uL (uM b s)
theorem OM {b:List UInt8} {ws:List (List UInt8)} (h:mF ws=none):oR b ws=none:=lN h
theorem PE {b c:List UInt8} {ws r:List (List UInt8)} (h:mF ws=some (c,r)) (hs:nV c=none):oR b ws=none:=by
 unfold oR
 rw[fO h]
 exact lN (by rw[hs];rfl)
theorem ON {b c:List UInt8} {ws r:List (List UInt8)} {s:bJ} (h:mF ws=some (c,r)) (hs:nV c=some s):oR b ws=(uM b s).map fun m=>(m,r):=by
 unfold oR
 rw[fO h,fO (x:=s) (r:=r) (by rw[hs];rfl)]
 rfl
theorem Gr {b:List UInt8} {s:bJ} (h:(cS aU aE (pT b)).2=0):uM b s=some (kJ (cS aU aE (pT b)).1 s):=if_pos h
theorem Gs {b:List UInt8} {s:bJ} (h:¬(cS aU aE (pT b)).2=0):uM b s=none:=if_neg h
theorem Oc:∀(n:Nat) (r bs:List UInt8),r.length<=n->pO r=some bs->2*bs.length<=r.length
 |0,r,bs,hn,h=>by
  cases r with
  |nil=>injection h with h;subst h;simp
  |cons x r=>simp at hn
 |n+1,[],bs,hn,h=>by injection h with h;subst h;simp
 |n+1,[x],bs,hn,h=>by cases h
 |n+1,x::y::r,bs,hn,h=>by
  unfold pO at h
  split at h
  ·rw[Option.map_eq_some_iff] at h
   obtain⟨c,hc,rfl⟩:=h
   have:=Oc n r c (by simp at hn;omega) hc
   simp;omega
  ·cases h
theorem PF {s bs:List UInt8} (h:dU s=some bs):2*bs.length<=s.length:=by
 cases s with
 |nil=>cases h
 |cons x r=>
  simp only[dU] at h
  split at h
  ·have:=Oc _ r bs (Nat.le_refl _) h
   simp;omega
  ·cases h
theorem Db {ws r:List (List UInt8)} {b:List UInt8} (hw:kO ws) (h:mF ws=some (b,r)):b.length<=2097152:=by
 cases ws with
 |nil=>cases h
 |cons s r'=>
  have h2:(dU s).map (fun x=>(x,r'))=some (b,r):=h
  cases hq:dU s with
  |none=>rw[hq] at h2;cases h2
  |some x=>
   rw[hq] at h2
   injection h2 with h2
   injection h2 with h2 _
   subst h2
   have:=hw.head
   have:=PF hq
   omega
theorem QV {z:UInt8} {k:List UInt8}:(z::k).map af++[[.int .u8 0],[.int .u8 1]]=((z::k)++[0,1]).map af:=by rw[List.map_append];rfl
theorem QW {b b3:List UInt8} {n e3:Int} (q:nR 65536 (b,0)=(n,(b3,e3))) (h:mO n=true):pT b=b:=by unfold pT;rw[q];exact if_pos h
theorem QX {b b3:List UInt8} {n e3:Int} (q:nR 65536 (b,0)=(n,(b3,e3))) (h:mO n=false):pT b=b++[0,1]:=by unfold pT;rw[q];exact if_neg (by rw[h];decide)
theorem ZS [Wd] (b:List UInt8) (hb:b.length<=2097152) (r1:List (List UInt8)) (y8:kO r1) (hp:oR b r1=none->Wd.kY rq) (ws:List (List UInt8)) (hw:kO ws) (eb:mF ws=some (b,r1)):bC prog 76 [.ptr 0 0] (fj ws) (fun r h=>∃x rest,oR b r1=some (x,rest)/\r=.agg (aC x)/\h=fj rest):=by
 refine kK false 45 [] func76 ?_
 repeat' (conv=>arg 2;whnf);first|refine aY ?_|refine aV ?_ ?_
 conv=>arg 2;whnf
 refine pH [0] (PC ws hw (fun h=>by rw[eb] at h;cases h)) (.mk' rfl ⟨⟨rfl,rfl⟩,trivial⟩) (aa.refl _) rfl ?_
 rintro r h' ⟨b',Up,AL,K0⟩
 rw[eb] at AL
 injection AL with AL
 injection AL with e1 e2
 subst e1 e2
 rcases K0 with⟨rfl,rfl,rfl⟩|⟨cu,rfl,rfl⟩
 ·repeat'
   (conv=>arg 2;whnf)
   first|refine aY ?_|refine aV ?_ ?_
  conv=>arg 2;whnf
  refine lU 0 F6 r1 y8 (fun h=>hp (OM h)) fun c r2 ec=>?_
  have hc:c.length<=2097152:=Db y8 ec
  obtain⟨n1,c1,e1,q1,l1⟩:=Rd1.get (dD MB) (c,0)
  replace l1:c1.length<=c.length:=l1
  have h1:c1.length<=8388609:=by omega
  obtain⟨n2,c2,e2,q2,l2⟩:=Rd1.get (dD MB) (c1,e1)
  replace l2:c2.length<=c1.length:=l2
  have h2:c2.length<=8388609:=by omega
  have i1:=qN q1
  have i2:=qN q2
  have Mh:((MB:Nat):Int)=9223372036854775807:=rfl
  rw[Mh] at i1 i2
  have tZ:=RB q1 q2
  obtain⟨d,hd⟩:∃d,d=dA (c2,e2):=⟨_,rfl⟩
  rw[<-hd] at tZ
  obtain⟨n,b3,e3,q3,l3⟩:=Rd1.get (dD 65536) ([],0)
  have i3:=qN q3
  replace i3:0<=n/\n<=65536:=i3
  repeat' (conv=>arg 2;whnf);first|refine gJ ?_|refine cV [] (zC c (Nat.le_trans hc (by decide))) ?_|refine aX 4 (fun x=>D.int .u64 x) q1 (gF MB) (Nat.le_trans hc (by decide)) ?_|refine aX 4 (fun x=>D.int .u64 x) q2 (gF MB) h1 ?_|refine cE 4 (c2,e2) (c2,e2) (.int .i64 d) Bt h2 rfl (by rw[hd]) ?_
  by_cases hz:d=0
  case neg=>
   rw[if_neg hz] at tZ
   repeat' (conv=>arg 2;whnf);first|(refine eI (lB _ (fun _=>hp (PE ec tZ))) rfl (aa.refl _) ?_;rintro r ⟨hr,rfl⟩;exact absurd (by simpa using hr) hz)
  rw[if_pos hz] at tZ
  have hM:=ON (b:=[]) ec tZ
  have Mi:((d==0)=false->Wd.kY rq):=fun h=>absurd hz (by simpa using h)
  repeat' (conv=>arg 2;whnf);first|(refine eI (lB _ Mi) rfl (aa.refl _) ?_;rintro r ⟨hr,rfl⟩)|refine mA [] (zC [] (Nat.zero_le _)) (.mk' rfl trivial) (.cons (.nil _) .nil) rfl ?_|refine aX 9 (fun x=>D.int .u64 x) q3 (gF 65536) (Nat.zero_le _) ?_
  repeat' (conv=>arg 2;whnf);first|refine gJ ?_|refine okF (CX n) ?_
  cases hf:mO n
  ·have hB:pT []=[]++[0,1]:=QX q3 hf
   obtain⟨X,hX⟩:∃X,X=cS aU aE ([]++[0,1]):=⟨_,rfl⟩
   have HP:=FO ([]++[0,1]) (by decide)
   rw[<-hX] at HP
   by_cases iA:X.2=0
   ·have nB:oR [] r1=some (kJ X.1 ⟨n1,n2⟩,r2):=by rw[hM,Gr (by rw[hB,<-hX];exact iA),hB,<-hX];rfl
    have AM:=F4 X.1 ⟨n1,n2⟩ (by rw[hX] at iA ⊢;exact zR iA) (by rw[hX] at iA ⊢;exact Gp iA)
    repeat' (conv=>arg 2;whnf);first|refine aT (by constructor<;>(simp only[List.length_cons,List.length_nil,maxLen] at hb ⊢;omega)) ?_|refine BZ 12 HP rfl (aa.refl _) rfl ?_|(refine eI (lB _ (fun h=>absurd iA (by simpa using h))) rfl (aa.refl _) ?_;rintro r ⟨hr,rfl⟩)|refine okF AM ?_|exact bf (r:=.agg (aC (kJ X.1 ⟨n1,n2⟩))) (h':=fj r2) [0] (.inr rfl) rfl rfl ⟨⟨rfl,rfl⟩,trivial⟩ ⟨⟨rfl,rfl⟩,trivial⟩ (.refl _) ⟨_,_,nB,rfl,rfl⟩
   ·have nB:oR [] r1=none:=by rw[hM,Gs (by rw[hB,<-hX];exact iA)];rfl
    repeat' (conv=>arg 2;whnf);first|refine aT (by constructor<;>(simp only[List.length_cons,List.length_nil,maxLen] at hb ⊢;omega)) ?_|refine BZ 12 HP rfl (aa.refl _) rfl ?_|(refine eI (lB _ (fun _=>hp nB)) rfl (aa.refl _) ?_;rintro r ⟨hr,rfl⟩;exact absurd (by simpa using hr) iA)
  ·have hB:pT []=[]:=QW q3 hf
   obtain⟨X,hX⟩:∃X,X=cS aU aE ([]):=⟨_,rfl⟩
   have HP:=FO ([]) (by decide)
   rw[<-hX] at HP
   by_cases iA:X.2=0
   ·have nB:oR [] r1=some (kJ X.1 ⟨n1,n2⟩,r2):=by rw[hM,Gr (by rw[hB,<-hX];exact iA),hB,<-hX];rfl
    have AM:=F4 X.1 ⟨n1,n2⟩ (by rw[hX] at iA ⊢;exact zR iA) (by rw[hX] at iA ⊢;exact Gp iA)
    repeat' (conv=>arg 2;whnf);first|refine iU HP (.cons (.nil _) .nil) ?_|(refine eI (lB _ (fun h=>absurd iA (by simpa using h))) rfl (aa.refl _) ?_;rintro r ⟨hr,rfl⟩)|refine okF AM ?_|exact bf (r:=.agg (aC (kJ X.1 ⟨n1,n2⟩))) (h':=fj r2) [0] (.inr rfl) rfl rfl ⟨⟨rfl,rfl⟩,trivial⟩ ⟨⟨rfl,rfl⟩,trivial⟩ (.refl _) ⟨_,_,nB,rfl,rfl⟩
   ·have nB:oR [] r1=none:=by rw[hM,Gs (by rw[hB,<-hX];exact iA)];rfl
    repeat' (conv=>arg 2;whnf);first|refine iU HP (.cons (.nil _) .nil) ?_|(refine eI (lB _ (fun _=>hp nB)) rfl (aa.refl _) ?_;rintro r ⟨hr,rfl⟩;exact absurd (by simpa using hr) iA)
 ·obtain⟨z,k,rfl⟩:∃z k,b=z::k:=by cases b with
   |nil=>exact absurd rfl cu
   |cons z k=>exact⟨z,k,rfl⟩
  repeat' (conv=>arg 2;whnf);first|refine aY ?_|refine aV ?_ ?_
  conv=>arg 2;whnf
  refine lU 0 F6 r1 y8 (fun h=>hp (OM h)) fun c r2 ec=>?_
  have hc:c.length<=2097152:=Db y8 ec
  obtain⟨n1,c1,e1,q1,l1⟩:=Rd1.get (dD MB) (c,0)
  replace l1:c1.length<=c.length:=l1
  have h1:c1.length<=8388609:=by omega
  obtain⟨n2,c2,e2,q2,l2⟩:=Rd1.get (dD MB) (c1,e1)
  replace l2:c2.length<=c1.length:=l2
  have h2:c2.length<=8388609:=by omega
  have i1:=qN q1
  have i2:=qN q2
  have Mh:((MB:Nat):Int)=9223372036854775807:=rfl
  rw[Mh] at i1 i2
  have tZ:=RB q1 q2
  obtain⟨d,hd⟩:∃d,d=dA (c2,e2):=⟨_,rfl⟩
  rw[<-hd] at tZ
  obtain⟨n,b3,e3,q3,l3⟩:=Rd1.get (dD 65536) (z::k,0)
  have i3:=qN q3
  replace i3:0<=n/\n<=65536:=i3
  repeat' (conv=>arg 2;whnf);first|refine gJ ?_|refine cV [] (zC c (Nat.le_trans hc (by decide))) ?_|refine aX 5 (fun x=>D.int .u64 x) q1 (gF MB) (Nat.le_trans hc (by decide)) ?_|refine aX 5 (fun x=>D.int .u64 x) q2 (gF MB) h1 ?_|refine cE 5 (c2,e2) (c2,e2) (.int .i64 d) Bt h2 rfl (by rw[hd]) ?_
  by_cases hz:d=0
  case neg=>
   rw[if_neg hz] at tZ
   repeat' (conv=>arg 2;whnf);first|(refine eI (lB _ (fun _=>hp (PE ec tZ))) rfl (aa.refl _) ?_;rintro r ⟨hr,rfl⟩;exact absurd (by simpa using hr) hz)
  rw[if_pos hz] at tZ
  have hM:=ON (b:=(z::k)) ec tZ
  have Mi:((d==0)=false->Wd.kY rq):=fun h=>absurd hz (by simpa using h)
  have Uq:bC prog 121 [.ptr 0 0,.int .u64 65536] [.cells 235 [.list 1 ((z::k).map af),.int .i64 0,.bool true]] (fun r _=>r=.int .u64 n):=((gF 65536) (z::k,0) (Nat.le_trans hb (by decide))).fst (fun r h' h=>by rw[h.1];exact congrArg (fun r:Int×RS=>D.int .u64 r.1) q3)
  repeat' (conv=>arg 2;whnf);first|(refine eI (lB _ Mi) rfl (aa.refl _) ?_;rintro r ⟨hr,rfl⟩)|refine ZR [3] (abW z k (Nat.le_trans hb (by decide))) rfl (aa.refl _) (WJ _) (by intro d hd;simp at hd;rcases hd with rfl|rfl<;>rfl) ?_
  conv=>arg 2;whnf
  refine ade (R:=fun r=>r=.int .u64 n) [10] 11 rfl rfl (aa.refl _) rfl Uq (aa.refl _) rfl (fun r h=>by rw[h];rfl) (fun r er=>?_)
  subst er
  repeat' (conv=>arg 2;whnf);first|refine gJ ?_|refine okF (CX n) ?_
  cases hf:mO n
  ·have hB:pT (z::k)=(z::k)++[0,1]:=QX q3 hf
   obtain⟨X,hX⟩:∃X,X=cS aU aE ((z::k)++[0,1]):=⟨_,rfl⟩
   have HP:=FO ((z::k)++[0,1]) (by simp at hb ⊢;omega)
   rw[<-hX] at HP
   by_cases iA:X.2=0
   ·have nB:oR (z::k) r1=some (kJ X.1 ⟨n1,n2⟩,r2):=by rw[hM,Gr (by rw[hB,<-hX];exact iA),hB,<-hX];rfl
    have AM:=F4 X.1 ⟨n1,n2⟩ (by rw[hX] at iA ⊢;exact zR iA) (by rw[hX] at iA ⊢;exact Gp iA)
    repeat' (conv=>arg 2;whnf);first|refine aT (by constructor<;>(simp only[List.length_cons,List.length_nil,List.length_map,maxLen] at hb ⊢;omega)) ?_|refine BZ 13 HP rfl (.cons (Co.of_eq (congrArg (D.list 1) QV)) .nil) rfl ?_|(refine eI (lB _ (fun h=>absurd iA (by simpa using h))) rfl (aa.refl _) ?_;rintro r ⟨hr,rfl⟩)|refine okF AM ?_|exact bf (r:=.agg (aC (kJ X.1 ⟨n1,n2⟩))) (h':=fj r2) [0] (.inr rfl) rfl rfl ⟨⟨rfl,rfl⟩,trivial⟩ ⟨⟨rfl,rfl⟩,trivial⟩ (.refl _) ⟨_,_,nB,rfl,rfl⟩
   ·have nB:oR (z::k) r1=none:=by rw[hM,Gs (by rw[hB,<-hX];exact iA)];rfl
    repeat' (conv=>arg 2;whnf);first|refine aT (by constructor<;>(simp only[List.length_cons,List.length_nil,List.length_map,maxLen] at hb ⊢;omega)) ?_|refine BZ 13 HP rfl (.cons (Co.of_eq (congrArg (D.list 1) QV)) .nil) rfl ?_|(refine eI (lB _ (fun _=>hp nB)) rfl (aa.refl _) ?_;rintro r ⟨hr,rfl⟩;exact absurd (by simpa using hr) iA)
  ·have hB:pT (z::k)=(z::k):=QW q3 hf
   obtain⟨X,hX⟩:∃X,X=cS aU aE ((z::k)):=⟨_,rfl⟩
   have HP:=FO ((z::k)) (by simp at hb ⊢;omega)
   rw[<-hX] at HP
   by_cases iA:X.2=0
   ·have nB:oR (z::k) r1=some (kJ X.1 ⟨n1,n2⟩,r2):=by rw[hM,Gr (by rw[hB,<-hX];exact iA),hB,<-hX];rfl
    have AM:=F4 X.1 ⟨n1,n2⟩ (by rw[hX] at iA ⊢;exact zR iA) (by rw[hX] at iA ⊢;exact Gp iA)
    repeat' (conv=>arg 2;whnf);first|refine BZ 3 HP rfl (aa.refl _) rfl ?_|(refine eI (lB _ (fun h=>absurd iA (by simpa using h))) rfl (aa.refl _) ?_;rintro r ⟨hr,rfl⟩)|refine okF AM ?_|exact bf (r:=.agg (aC (kJ X.1 ⟨n1,n2⟩))) (h':=fj r2) [0] (.inr rfl) rfl rfl ⟨⟨rfl,rfl⟩,trivial⟩ ⟨⟨rfl,rfl⟩,trivial⟩ (.refl _) ⟨_,_,nB,rfl,rfl⟩
   ·have nB:oR (z::k) r1=none:=by rw[hM,Gs (by rw[hB,<-hX];exact iA)];rfl
    repeat' (conv=>arg 2;whnf);first|refine BZ 3 HP rfl (aa.refl _) rfl ?_|(refine eI (lB _ (fun _=>hp nB)) rfl (aa.refl _) ?_;rintro r ⟨hr,rfl⟩;exact absurd (by simpa using hr) iA)
theorem QY [Wd]:Am 76 xE (fun m=>.agg (aC m)):=by
 intro ws hw hp
 cases eb:mF ws with
 |none=>
  refine kK false 45 [] func76 ?_
  repeat' (conv=>arg 2;whnf);first|(refine pH [0] (PC ws hw (fun _=>hp (lN eb))) (.mk' rfl ⟨⟨rfl,rfl⟩,trivial⟩) (aa.refl _) rfl ?_;rintro r h' ⟨b',Up,AL,_⟩;rw[eb] at AL;cases AL;done)
 |some p=>
  obtain⟨b,r1⟩:=p
  have e:xE ws=oR b r1:=fO eb
  have h:=ZS b (Db hw eb) r1 (hw.one eb) (fun h=>hp (e.trans h)) ws hw eb
  rw[<-e] at h
  exact h
theorem bC.yS [Wd] {P:Program} {f:FuncId} {ar:List D} {h:List AO} {cZ DP:D->List AO->Prop} (hF:bC P f ar h cZ) (k:∀r h',cZ r h'->DP r h'):bC P f ar h DP:=by
 refine⟨hF.1,fun w I g vs hW hd ha=>(hF.2 w I g vs hW hd ha).mono ?_⟩
 rintro e w' (⟨v,I',g',r,h',e1,e2,k2⟩|k2)
 ·exact .inl ⟨v,I',g',r,h',e1,k r h' e2,k2⟩
 ·exact .inr k2
theorem sP [Wd] [qW]:Am 37 jD (D.int .i64):=by
 intro ws hw hp
 cases e:jD ws with
 |none=>
  refine(aby (hp e) F0 QD ws hw.1 hw.2).yS ?_
  rintro r h' ⟨n,rest,hn,rfl,_⟩
  rw[ru hn] at e
  cases e
 |some p=>
  obtain⟨n,rest⟩:=p
  cases ws with
  |nil=>cases e
  |cons s r=>
   have e2:(tG s).map (fun x=>(x,r))=some (n,rest):=e
   cases hq:tG s with
   |none=>rw[hq] at e2;cases e2
   |some x=>
    rw[hq] at e2
    injection e2 with e2
    injection e2 with e3 e4
    subst e3 e4
    obtain⟨rfl,hr⟩:=J6 hq
    exact(abz F0 QD x hr r (by have:=hw.1;simp at this;omega)).yS (fun r' h' ⟨e5,e6⟩=>⟨x,r,rfl,e5,e6⟩)
theorem abX [Wd] [qW]:Am 47 ku (fun a=>.agg (cr a)):=by
 intro ws hw hp
 refine ak 91 [] func47 ?_
 repeat' (conv=>arg 2;whnf);first|refine aY ?_|refine aV ?_ ?_
 conv=>arg 2;whnf
 refine lU 0 KB ws hw (fun h=>hp (lN h)) fun s rest hs=>?_
 have eA:ku ws=dN s rest:=fO hs
 have jH:=(F5 hw hs).2
 by_cases sE:s=pF
 ·subst sE
  rw[EV] at eA
  repeat' (conv=>arg 2;whnf);first|refine aY ?_|refine aV ?_ ?_
  conv=>arg 2;whnf
  refine lU 0 sP rest jH (fun h=>hp (eA.trans (lN h))) fun n3 r3 iX=>?_
  have e3:ku ws=_:=eA.trans (fO iX)
  have oZ:=jH.one iX
  repeat' (conv=>arg 2;whnf);first|exact bf (r:=.agg (cr {aR with kind:=1,num:=n3})) (h':=fj r3) [0] (.inr rfl) rfl rfl ⟨⟨rfl,rfl⟩,trivial⟩ ⟨⟨rfl,rfl⟩,trivial⟩ .z ⟨_,_,e3,rfl,rfl⟩
 by_cases tr:s=pQ
 ·subst tr
  rw[Fi] at eA
  repeat' (conv=>arg 2;whnf);first|refine aY ?_|refine aV ?_ ?_
  conv=>arg 2;whnf
  refine lU 0 sP rest jH (fun h=>hp (eA.trans (lN h))) fun n3 r3 iX=>?_
  have e3:ku ws=_:=eA.trans (fO iX)
  have oZ:=jH.one iX
  repeat' (conv=>arg 2;whnf);first|exact bf (r:=.agg (cr {aR with kind:=2,num:=n3})) (h':=fj r3) [0] (.inr rfl) rfl rfl ⟨⟨rfl,rfl⟩,trivial⟩ ⟨⟨rfl,rfl⟩,trivial⟩ .z ⟨_,_,e3,rfl,rfl⟩
 by_cases sK:s=pG
 ·subst sK
  rw[EY] at eA
  repeat' (conv=>arg 2;whnf);first|refine aY ?_|refine aV ?_ ?_
  conv=>arg 2;whnf
  refine lU 0 sP rest jH (fun h=>hp (eA.trans (lN h))) fun n3 r3 iX=>?_
  have e3:ku ws=_:=eA.trans (fO iX)
  have oZ:=jH.one iX
  repeat' (conv=>arg 2;whnf);first|exact bf (r:=.agg (cr {aR with kind:=3,num:=n3})) (h':=fj r3) [0] (.inr rfl) rfl rfl ⟨⟨rfl,rfl⟩,trivial⟩ ⟨⟨rfl,rfl⟩,trivial⟩ .z ⟨_,_,e3,rfl,rfl⟩
 by_cases tu:s=pR
 ·subst tu
  rw[Fj] at eA
  repeat' (conv=>arg 2;whnf);first|refine aY ?_|refine aV ?_ ?_
  conv=>arg 2;whnf
  refine lU 0 sP rest jH (fun h=>hp (eA.trans (lN h))) fun n3 r3 iX=>?_
  have e3:ku ws=_:=eA.trans (fO iX)
  have oZ:=jH.one iX
  repeat' (conv=>arg 2;whnf);first|exact bf (r:=.agg (cr {aR with kind:=4,bA:=n3})) (h':=fj r3) [0] (.inr rfl) rfl rfl ⟨⟨rfl,rfl⟩,trivial⟩ ⟨⟨rfl,rfl⟩,trivial⟩ .z ⟨_,_,e3,rfl,rfl⟩
 by_cases sQ:s=pM
 ·subst sQ
  rw[E1] at eA
  repeat' (conv=>arg 2;whnf);first|refine aY ?_|refine aV ?_ ?_
  conv=>arg 2;whnf
  refine lU 0 sP rest jH (fun h=>hp (eA.trans (lN h))) fun n3 r3 iX=>?_
  have e3:ku ws=_:=eA.trans (fO iX)
  have oZ:=jH.one iX
  repeat' (conv=>arg 2;whnf);first|exact bf (r:=.agg (cr {aR with kind:=5,bA:=n3})) (h':=fj r3) [0] (.inr rfl) rfl rfl ⟨⟨rfl,rfl⟩,trivial⟩ ⟨⟨rfl,rfl⟩,trivial⟩ .z ⟨_,_,e3,rfl,rfl⟩
 by_cases tN:s=mR
 ·subst tN
  rw[FM] at eA
  repeat' (conv=>arg 2;whnf);first|refine aY ?_|refine aV ?_ ?_
  conv=>arg 2;whnf
  refine lU 0 sP rest jH (fun h=>hp (eA.trans (lN h))) fun n3 r3 iX=>?_
  have e3:ku ws=_:=eA.trans (fO iX)
  have oZ:=jH.one iX
  repeat' (conv=>arg 2;whnf);first|refine aY ?_|refine aV ?_ ?_
  conv=>arg 2;whnf
  refine lU 0 F6 r3 oZ (fun h=>hp (e3.trans (lN (lN h)))) fun b r4 hb=>?_
  have dJ:=Db oZ hb
  have e4:Cu r3=uL (qX b) r4:=fO hb
  by_cases hD:dA (eF (b,0)).2=0
  ·have hP:=XZ b (Nat.le_trans dJ (by decide)) hD
   have e5:qX b=some (eF (b,0)).1:=if_pos hD
   generalize (eF (b,0)).1=x at hP e5
   have e6:ku ws=some ({aR with kind:=6,bA:=n3,op:=x},r4):=e3.trans (fO (by rw[e4,e5];rfl))
   repeat' (conv=>arg 2;whnf);first|refine okF hP ?_|(refine eI (lB _ (fun h=>by cases h)) rfl (aa.refl _) ?_;rintro r ⟨hr,rfl⟩)|exact bf (r:=.agg (cr {aR with kind:=6,bA:=n3,op:=x})) (h':=fj r4) [0] (.inr rfl) rfl rfl ⟨⟨rfl,rfl⟩,trivial⟩ ⟨⟨rfl,rfl⟩,trivial⟩ .z ⟨_,_,e6,rfl,rfl⟩
  ·have hP:=X1 b (Nat.le_trans dJ (by decide)) hD
   have e5:qX b=none:=if_neg hD
   generalize dA (eF (b,0)).2=d at hP hD
   have e6:ku ws=none:=e3.trans (lN (by rw[e4,e5];rfl))
   repeat' (conv=>arg 2;whnf);first|refine okF hP ?_|(refine eI (lB _ (fun _=>hp e6)) rfl (aa.refl _) ?_;rintro r ⟨hr,rfl⟩;exact absurd (by simpa using hr) hD)
 by_cases tv:s=pS
 ·subst tv
  rw[Fk] at eA
  repeat' (conv=>arg 2;whnf);first|refine aY ?_|refine aV ?_ ?_
  conv=>arg 2;whnf
  refine lU 0 sP rest jH (fun h=>hp (eA.trans (lN h))) fun n3 r3 iX=>?_
  have e3:ku ws=_:=eA.trans (fO iX)
  have oZ:=jH.one iX
  repeat' (conv=>arg 2;whnf);first|exact bf (r:=.agg (cr {aR with kind:=7,bA:=n3})) (h':=fj r3) [0] (.inr rfl) rfl rfl ⟨⟨rfl,rfl⟩,trivial⟩ ⟨⟨rfl,rfl⟩,trivial⟩ .z ⟨_,_,e3,rfl,rfl⟩
 by_cases sR:s=nL
 ·subst sR
  rw[E2] at eA
  repeat' (conv=>arg 2;whnf);first|refine aY ?_|refine aV ?_ ?_
  conv=>arg 2;whnf
  refine lU 0 sP rest jH (fun h=>hp (eA.trans (lN h))) fun n3 r3 iX=>?_
  have e3:ku ws=_:=eA.trans (fO iX)
  have oZ:=jH.one iX
  repeat' (conv=>arg 2;whnf);first|refine aY ?_|refine aV ?_ ?_
  conv=>arg 2;whnf
  refine lU 0 sP r3 oZ (fun h=>hp (e3.trans (lN h))) fun n4 r4 Ct=>?_
  have e4:ku ws=_:=e3.trans (fO Ct)
  have hw4:=oZ.one Ct
  repeat' (conv=>arg 2;whnf);first|exact bf (r:=.agg (cr {aR with kind:=8,bA:=n3,num:=n4})) (h':=fj r4) [0] (.inr rfl) rfl rfl ⟨⟨rfl,rfl⟩,trivial⟩ ⟨⟨rfl,rfl⟩,trivial⟩ .z ⟨_,_,e4,rfl,rfl⟩
 by_cases sS:s=pN
 ·subst sS
  rw[E3] at eA
  repeat' (conv=>arg 2;whnf);first|refine aY ?_|refine aV ?_ ?_
  conv=>arg 2;whnf
  refine lU 0 sP rest jH (fun h=>hp (eA.trans (lN h))) fun n3 r3 iX=>?_
  have e3:ku ws=_:=eA.trans (fO iX)
  have oZ:=jH.one iX
  repeat' (conv=>arg 2;whnf);first|exact bf (r:=.agg (cr {aR with kind:=9,bA:=n3})) (h':=fj r3) [0] (.inr rfl) rfl rfl ⟨⟨rfl,rfl⟩,trivial⟩ ⟨⟨rfl,rfl⟩,trivial⟩ .z ⟨_,_,e3,rfl,rfl⟩
 by_cases tw:s=nP
 ·subst tw
  rw[Fl] at eA
  repeat' (conv=>arg 2;whnf);first|refine aY ?_|refine aV ?_ ?_
  conv=>arg 2;whnf
  refine lU 0 F6 rest jH (fun h=>hp (eA.trans (lN h))) fun b r3 hb=>?_
  have e3:ku ws=_:=eA.trans (fO hb)
  repeat' (conv=>arg 2;whnf);first|exact bf (r:=.agg (cr {aR with kind:=10,bytes:=b})) (h':=fj r3) [0] (.inr rfl) rfl rfl ⟨⟨rfl,rfl⟩,trivial⟩ ⟨⟨rfl,rfl⟩,trivial⟩ .z ⟨_,_,e3,rfl,rfl⟩
 by_cases tC:s=mP
 ·subst tC
  rw[Fm] at eA
  repeat' (conv=>arg 2;whnf);first|refine aY ?_|refine aV ?_ ?_
  conv=>arg 2;whnf
  refine lU 0 sP rest jH (fun h=>hp (eA.trans (lN h))) fun n3 r3 iX=>?_
  have e3:ku ws=_:=eA.trans (fO iX)
  have oZ:=jH.one iX
  repeat' (conv=>arg 2;whnf);first|refine aY ?_|refine aV ?_ ?_
  conv=>arg 2;whnf
  refine lU 0 QY r3 oZ (fun h=>hp (e3.trans (lN h))) fun m r4 hm=>?_
  have e4:ku ws=_:=e3.trans (fO hm)
  repeat' (conv=>arg 2;whnf);first|exact bf (r:=.agg (cr {aR with kind:=11,bA:=n3,msg:=m})) (h':=fj r4) [0] (.inr rfl) rfl rfl ⟨⟨rfl,rfl⟩,trivial⟩ ⟨⟨rfl,rfl⟩,trivial⟩ .z ⟨_,_,e4,rfl,rfl⟩
 by_cases wm:s=nQ
 ·subst wm
  rw[Fo] at eA
  repeat' (conv=>arg 2;whnf);first|refine aY ?_|refine aV ?_ ?_
  conv=>arg 2;whnf
  refine lU 0 sP rest jH (fun h=>hp (eA.trans (lN h))) fun n3 r3 iX=>?_
  have e3:ku ws=_:=eA.trans (fO iX)
  have oZ:=jH.one iX
  repeat' (conv=>arg 2;whnf);first|refine aY ?_|refine aV ?_ ?_
  conv=>arg 2;whnf
  refine lU 0 QY r3 oZ (fun h=>hp (e3.trans (lN h))) fun m r4 hm=>?_
  have e4:ku ws=_:=e3.trans (fO hm)
  repeat' (conv=>arg 2;whnf);first|exact bf (r:=.agg (cr {aR with kind:=11,bA:=n3,msg:=m,jN:=true})) (h':=fj r4) [0] (.inr rfl) rfl rfl ⟨⟨rfl,rfl⟩,trivial⟩ ⟨⟨rfl,rfl⟩,trivial⟩ .z ⟨_,_,e4,rfl,rfl⟩
 by_cases sU:s=ni
 ·subst sU
  rw[E4] at eA
  repeat' (conv=>arg 2;whnf);first|refine aY ?_|refine aV ?_ ?_
  repeat' (conv=>arg 2;whnf);first|exact bf (r:=.agg (cr {aR with kind:=12})) (h':=fj rest) [0] (.inr rfl) rfl rfl ⟨⟨rfl,rfl⟩,trivial⟩ ⟨⟨rfl,rfl⟩,trivial⟩ .z ⟨_,_,eA,rfl,rfl⟩
 have eN:ku ws=none:=by rw[eA];unfold dN;rw[if_neg sE,if_neg tr,if_neg sK,if_neg tu,if_neg sQ,if_neg tN,if_neg tv,if_neg sR,if_neg sS,if_neg tw,if_neg tC,if_neg wm,if_neg sU]
 repeat' (conv=>arg 2;whnf);first|refine bB (decide_eq_false sE) ?_|refine bB (decide_eq_false tr) ?_|refine bB (decide_eq_false sK) ?_|refine bB (decide_eq_false tu) ?_|refine bB (decide_eq_false sQ) ?_|refine bB (decide_eq_false tN) ?_|refine bB (decide_eq_false tv) ?_|refine bB (decide_eq_false sR) ?_|refine bB (decide_eq_false sS) ?_|refine bB (decide_eq_false tw) ?_|refine bB (decide_eq_false tC) ?_|refine bB (decide_eq_false wm) ?_|refine bB (decide_eq_false sU) ?_|exact R8 (hp eN)
section
theorem gB {α β:Type} {p:lW α} {q:α->lW β} {ws:List (List UInt8)} {z:β×List (List UInt8)} (h:fC p q ws=some z):∃x r,p ws=some (x,r)/\q x r=some z:=by
 unfold fC at h
 split at h
 ·rename_i y hy
  exact⟨y.1,y.2,hy,h⟩
 ·cases h
theorem sV {ws r:List (List UInt8)} {n:Int} (h:jD ws=some (n,r)):dI.ok n:=by
 cases ws with
 |nil=>cases h
 |cons s r'=>
  have e2:(tG s).map (fun x=>(x,r'))=some (n,r):=h
  cases hq:tG s with
  |none=>rw[hq] at e2;cases e2
  |some x=>
   rw[hq] at e2
   injection e2 with e2
   injection e2 with e3 e4
   subst e3
   exact fM (J6 hq).2
theorem aei {ws r:List (List UInt8)} {x:bt} (h:Cu ws=some (x,r)):fD.ok x:=by
 obtain⟨b,r1,_,h2⟩:=gB h
 unfold uL at h2
 cases hq:qX b with
 |none=>rw[hq] at h2;cases h2
 |some y=>
  rw[hq] at h2
  injection h2 with h2
  injection h2 with h2 _
  subst h2
  exact aeg hq
theorem RC {ws r:List (List UInt8)} {x:aD} (h:xE ws=some (x,r)):bh.ok x:=by
 obtain⟨b,r1,_,h2⟩:=gB h
 obtain⟨c,r2,_,h3⟩:=gB h2
 obtain⟨s,r3,h4,h5⟩:=gB h3
 unfold uL at h4 h5
 cases hs:nV c with
 |none=>rw[hs] at h4;cases h4
 |some s'=>
  rw[hs] at h4
  injection h4 with h4
  injection h4 with h4 _
  subst h4
  cases hq:uM b s' with
  |none=>rw[hq] at h5;cases h5
  |some y=>
   rw[hq] at h5
   injection h5 with h5
   injection h5 with h5 _
   subst h5
   exact ada (ac0 hs) hq
theorem ads {ws r:List (List UInt8)} {a:bK} (hw:kO ws) (h:ku ws=some (a,r)):gh.ok a:=by
 obtain⟨s,rest,hs,h⟩:=gB h
 have jH:=(F5 hw hs).2
 have zb:dY.ok []:=Nat.zero_le _
 by_cases sE:s=pF
 ·subst sE;rw[EV] at h
  obtain⟨n,r3,e3,h⟩:=gB h;injection h with h;injection h with h _;subst h
  exact⟨fM (n:=1) (by decide),bu,sV e3,tj,zb,jO,trivial⟩
 by_cases tr:s=pQ
 ·subst tr;rw[Fi] at h
  obtain⟨n,r3,e3,h⟩:=gB h;injection h with h;injection h with h _;subst h
  exact⟨fM (n:=2) (by decide),bu,sV e3,tj,zb,jO,trivial⟩
 by_cases sK:s=pG
 ·subst sK;rw[EY] at h
  obtain⟨n,r3,e3,h⟩:=gB h;injection h with h;injection h with h _;subst h
  exact⟨fM (n:=3) (by decide),bu,sV e3,tj,zb,jO,trivial⟩
 by_cases tu:s=pR
 ·subst tu;rw[Fj] at h
  obtain⟨n,r3,e3,h⟩:=gB h;injection h with h;injection h with h _;subst h
  exact⟨fM (n:=4) (by decide),sV e3,bu,tj,zb,jO,trivial⟩
 by_cases sQ:s=pM
 ·subst sQ;rw[E1] at h
  obtain⟨n,r3,e3,h⟩:=gB h;injection h with h;injection h with h _;subst h
  exact⟨fM (n:=5) (by decide),sV e3,bu,tj,zb,jO,trivial⟩
 by_cases tN:s=mR
 ·subst tN;rw[FM] at h
  obtain⟨n,r3,e3,h⟩:=gB h;obtain⟨x,r4,e4,h⟩:=gB h;injection h with h;injection h with h _;subst h
  exact⟨fM (n:=6) (by decide),sV e3,bu,aei e4,zb,jO,trivial⟩
 by_cases tv:s=pS
 ·subst tv;rw[Fk] at h
  obtain⟨n,r3,e3,h⟩:=gB h;injection h with h;injection h with h _;subst h
  exact⟨fM (n:=7) (by decide),sV e3,bu,tj,zb,jO,trivial⟩
 by_cases sR:s=nL
 ·subst sR;rw[E2] at h
  obtain⟨n,r3,e3,h⟩:=gB h;obtain⟨n4,r4,e4,h⟩:=gB h;injection h with h;injection h with h _;subst h
  exact⟨fM (n:=8) (by decide),sV e3,sV e4,tj,zb,jO,trivial⟩
 by_cases sS:s=pN
 ·subst sS;rw[E3] at h
  obtain⟨n,r3,e3,h⟩:=gB h;injection h with h;injection h with h _;subst h
  exact⟨fM (n:=9) (by decide),sV e3,bu,tj,zb,jO,trivial⟩
 by_cases tw:s=nP
 ·subst tw;rw[Fl] at h
  obtain⟨b,r3,e3,h⟩:=gB h;injection h with h;injection h with h _;subst h
  exact⟨fM (n:=10) (by decide),bu,bu,tj,Nat.le_trans (Db jH e3) (by decide),jO,trivial⟩
 by_cases tC:s=mP
 ·subst tC;rw[Fm] at h
  obtain⟨n,r3,e3,h⟩:=gB h;obtain⟨x,r4,e4,h⟩:=gB h;injection h with h;injection h with h _;subst h
  exact⟨fM (n:=11) (by decide),sV e3,bu,tj,zb,RC e4,trivial⟩
 by_cases wm:s=nQ
 ·subst wm;rw[Fo] at h
  obtain⟨n,r3,e3,h⟩:=gB h;obtain⟨x,r4,e4,h⟩:=gB h;injection h with h;injection h with h _;subst h
  exact⟨fM (n:=11) (by decide),sV e3,bu,tj,zb,RC e4,trivial⟩
 by_cases sU:s=ni
 ·subst sU;rw[E4] at h
  injection h with h;injection h with h _;subst h
  exact⟨fM (n:=12) (by decide),bu,bu,tj,zb,jO,trivial⟩
 unfold dN at h
 rw[if_neg sE,if_neg tr,if_neg sK,if_neg tu,if_neg sQ,if_neg tN,if_neg tv,if_neg sR,if_neg sS,if_neg tw,if_neg tC,if_neg wm,if_neg sU] at h
 cases h
theorem Bn {line:List UInt8} {a:bK} (h:fE line a):ku (fc line)=some (a,[]):=by
 obtain⟨h1,h2,rfl⟩:=h
 rw[N6 h2]
 exact abH h1 h2
def Mj (line:List UInt8) (cs:List D):List AO:=[.cells 9 [.str line],.cells 61 cs]
def aej:List D:=[.int .i64 0,.int .i64 0,.int .i64 0,.int .i64 0,.str [],.str [],.int .i64 0,.nils,.nils,.int .i64 0,.int .i64 0,.int .i64 0,.int .i64 0,.int .i64 0,.int .i64 0,.int .i64 0,.int .i64 0,.int .i64 0,.nils,.int .i64 0,.int .i64 0,.nils,.nils,.nils,.nils,.str [],.int .i64 0,.str [],.int .i64 0,.nils,.nils,.int .i64 0,.int .i64 0,.nils,.int .i64 0,.int .i64 0,.nils,.int .i64 0,.int .i64 0,.bool false]
theorem PG [Wd] [qW] (line:List UInt8) (hl:line.length<=4194304) (hp:(∀a,¬fE line a)->Wd.kY rq):bC prog 46 [.ptr 0 0,.ptr 1 0] (Mj line aej) (fun r h=>∃a,fE line a/\r=.aj []/\h=Mj line (cr a)):=by
 obtain⟨ws,vn⟩:∃ws,ws=fc line:=⟨_,rfl⟩
 have hb:kO ws:=vn▸kO.split hl
 have HS:aq prog 34 [.str line,.str [32]] (.list 1 (cW ws)):=vn▸ZA line hl
 have hR:∀a,fE line a->ku ws=some (a,[]):=fun a h=>by rw[vn];exact Bn h
 clear vn
 refine ak 32 [] func46 ?_
 repeat' (conv=>arg 2;whnf);first|refine okF HS ?_
 conv=>arg 2;whnf
 refine lU 2 abX ws hb (fun h=>hp (fun a ha=>by rw[hR a ha] at h;cases h)) fun a rest ha=>?_
 have kB:=ads hb ha
 have hS:=J7 F0 a kB
 by_cases hG:rest=[]/\kH a/\j0 a=line
 ·obtain⟨rfl,h2,h3⟩:=hG
  rw[zP h2] at hS
  repeat' (conv=>arg 2;whnf);first|refine okF hS ?_|(refine eI (lB _ (fun h=>by simp[h3] at h)) rfl (aa.refl _) ?_;rintro r ⟨hr,rfl⟩)|exact bf (r:=.aj []) (h':=Mj line (cr a)) [0,1] (.inl rfl) rfl rfl ⟨⟨rfl,rfl⟩,⟨rfl,rfl⟩,trivial⟩ ⟨⟨rfl,rfl⟩,⟨rfl,rfl⟩,trivial⟩ (.refl _) ⟨a,⟨kB,h2,h3.symm⟩,rfl,rfl⟩
 ·have hN:∀a',¬fE line a':=fun a' h'=>hG (by
   have:=hR a' h'
   rw[ha] at this
   injection this with this
   injection this with e1 e2
   subst e1
   exact⟨e2,h'.2.1,h'.2.2.symm⟩)
  by_cases h2:kH a
  ·rw[zP h2] at hS
   by_cases h1:rest=[]
   ·subst h1
    have h3:¬j0 a=line:=fun h=>hG ⟨rfl,h2,h⟩
    repeat' (conv=>arg 2;whnf);first|refine okF hS ?_|(refine eI (lB _ (fun _=>hp hN)) rfl (aa.refl _) ?_;rintro r ⟨hr,rfl⟩;exfalso;simp[h3] at hr;done)
   ·have h4:¬((cW rest).length:Int)=0:=by simpa[cW] using h1
    repeat' (conv=>arg 2;whnf);first|refine okF hS ?_|refine bB (by simpa using h4) ?_|(refine eI (lB _ (fun _=>hp hN)) rfl (aa.refl _) ?_;rintro r ⟨hr,rfl⟩;exfalso;simp[] at hr;done)
  ·rw[w6 h2] at hS
   repeat' (conv=>arg 2;whnf);first|refine okF hS ?_|apply an<;>intro h|(refine eI (lB _ (fun _=>hp hN)) rfl (aa.refl _) ?_;rintro r ⟨hr,rfl⟩;exfalso;simp at hr;done)
attribute [local instance] uA
theorem ZT (line:List UInt8) (hl:line.length<=4194304) (a:bK) (ha:fE line a):aq prog 19 [.str line] (.aj [.agg (cr a),.bool true]):=by
 refine ak 12 [] func19 ?_
 repeat' (conv=>arg 2;whnf);first|(refine Pw [0,2] (@PG (yD False) _ line hl (fun h=>absurd ha (h a))) (.mk' rfl ⟨⟨rfl,rfl⟩,⟨rfl,rfl⟩,trivial⟩) (aa.refl _) rfl ?_ (fun h=>h.elim);rintro r0 h0 ⟨a',LU,rfl,rfl⟩;obtain rfl:a'=a:=by(have e:=Bn ha;rw[Bn LU] at e;injection e with e;injection e with e _))|exact cg
theorem ZU (line:List UInt8) (hl:line.length<=4194304) (hs:∀a,¬fE line a):aq prog 19 [.str line] (.aj [.agg (cr aR),.bool false]):=by
 refine ak 12 [] func19 ?_
 repeat' (conv=>arg 2;whnf);first|refine Pw [0,2] (@PG (yD True) _ line hl (fun _=>⟨trivial,rfl⟩)) (.mk' rfl ⟨⟨rfl,rfl⟩,⟨rfl,rfl⟩,trivial⟩) (aa.refl _) rfl (fun r0 h0 hp=>by obtain⟨a,q1,_⟩:=hp;exact absurd q1 (hs a)) (fun _=>?_)|exact G5
end
section
open Go.RowKit Go.Deep
open Classical in
noncomputable def qI (s:qw):List UInt8×Int:=
 if jg s.fJ.av=false then([],1)
 else if 4096<s.kA.length then([],3)
 else if ∀a∈s.kA,kH a then(pP s.fJ++10::s.kA.flatMap (fun a=>j0 a++[10]),0)
 else([],1)
def lq:bK:={aR with kind:=6,bA:=2,op:={za with kind:=1,av:=[116]}}
def qi:bK:={aR with kind:=8,bA:=3,num:=-1}
def qj:bK:={aR with kind:=12}
def vA:sW:=⟨1,0,0,65536,[116]⟩
def oy:qw:=⟨vA,[lq,qi,qj]⟩
def Im:List UInt8:= "world 1 0 0 65536 t\nask 2 x010174\ncrash 3 -1\nround\n".toUTF8.data.toList
theorem Km:jg [116]=true:=by decide+kernel
theorem aeS:bS lq.op=0:=by
 have:=Km
 simp[bS,lq,aR,za,kindOk,rC,jz,Km]
theorem acB:enc 1=[1]:=by rw[enc,dif_pos (by omega)];rfl
theorem adR:kH lq:=by
 refine⟨⟨by simp[lq],fun _=>aeS,fun h=>by simp[lq] at h⟩,?_⟩
 simp[nv,lq]
theorem adS:kH qi:=by
 refine⟨⟨by simp[qi],fun h=>by simp[qi] at h,fun h=>by simp[qi] at h⟩,?_⟩
 simp[nv,qi]
theorem adT:kH qj:=by
 refine⟨⟨by simp[qj],fun h=>by simp[qj] at h,fun h=>by simp[qj] at h⟩,?_⟩
 simp[nv,qj]
theorem aeT:Lib.itoa 0=[48]:=by simp[Lib.itoa,Lib.decDigits]
theorem aeU:Lib.itoa 1=[49]:=by simp[Lib.itoa,Lib.decDigits]
theorem aeV:Lib.itoa 2=[50]:=by simp[Lib.itoa,Lib.decDigits]
theorem aeW:Lib.itoa 3=[51]:=by simp[Lib.itoa,Lib.decDigits]
theorem aeX:Lib.itoa (-1)=[45,49]:=by simp[Lib.itoa,Lib.decDigits]
theorem aeY:Lib.itoa 65536=[54,53,53,51,54]:=by simp[Lib.itoa,Lib.decDigits]
theorem adU:iy lq.op=[1,1,116]:=by
 simp[iy,lq,aR,za,cB,acB]
theorem aeZ:j0 lq=[97,115,107,32,50,32,120,48,49,48,49,55,52]:=by
 have h:jf lq=[pZ 6 false,[50],gw [1,1,116]]:=by
  unfold jf pX
  rw[adU]
  simp[lq,aR,aeV]
 unfold j0
 rw[h]
 decide+kernel
theorem ae0:j0 qi=[99,114,97,115,104,32,51,32,45,49]:=by
 have h:jf qi=[pZ 8 false,[51],[45,49]]:=by
  unfold jf pX
  simp[qi,aR,aeW,aeX]
 unfold j0
 rw[h]
 decide+kernel
theorem ae5:j0 qj=[114,111,117,110,100]:=by
 have h:jf qj=[pZ 12 false]:=by
  unfold jf pX
  simp[qj,aR]
 unfold j0
 rw[h]
 decide+kernel
theorem aaw:pP vA=[119,111,114,108,100,32,49,32,48,32,48,32,54,53,53,51,54,32,116]:=by
 have h:vY vA=[KT,[49],[48],[48],[54,53,53,51,54],[116]]:=by
  unfold vY
  simp[vA,aeT,aeU,aeY]
 unfold pP
 rw[h]
 decide+kernel
theorem aax:qI oy=(Im,0):=by
 have hl:Im=pP vA++10::[lq,qi,qj].flatMap (fun a=>j0 a++[10]):=by
  simp only[List.flatMap_cons,List.flatMap_nil]
  rw[aaw,aeZ,ae0,ae5]
  decide+kernel
 rw[hl]
 unfold qI
 rw[if_neg (by simp[oy,vA,Km]),if_neg (by simp[oy]),if_pos (by
  intro a ha
  simp only[oy,List.mem_cons,List.not_mem_nil,or_false] at ha
  rcases ha with rfl|rfl|rfl
  ·exact adR
  ·exact adS
  ·exact adT)]
 rfl
end
section
open Go.RowKit Go.Deep
theorem Nt {T e:TypeId} {K b:Nat} {p:Value} {bs:List Value} {w w':World} (h:Lib.BuilderAt T e K b p bs w) (hb:B w w'):Lib.BuilderAt T e K b p bs w':=by
 have hlt:=h.lt
 obtain⟨h1,v,h2,h3,h4⟩:=h
 exact⟨h1,v,by rw[hb.block b hlt];exact h2,I4 h3 hb,h4⟩
theorem UB {T e:TypeId} {K b:Nat} {bs:List Value} {w w':World} (h:Lib.IsBuilder T e K b bs w) (hb:B w w'):Lib.IsBuilder T e K b bs w':=
 h.elim (fun h=>.inl (Nt h hb)) (fun h=>.inr (Nt h hb))
def mG (s:qw) (k:Nat):List UInt8:=pP s.fJ++10::(s.kA.take k).flatMap (fun a=>j0 a++[10])
theorem Si (l:List UInt8):Lib.strCells (aA l++⟨#[10]⟩)=Lib.byteCells (l++[10]):=by
 rw[Lib.strCells_eq,ByteArray.data_append]
 simp[aA]
theorem Yl {s:qw} {k:Nat} {x:bK} (hx:s.kA[k]?=some x):Lib.byteCells (mG s k)++Lib.strCells (aA (j0 x)++⟨#[10]⟩)=Lib.byteCells (mG s (k+1)):=by
 rw[Si,<-Lib.byteCells_append]
 congr 1
 unfold mG
 rw[List.take_add_one,hx]
 simp
theorem Ym (s:qw):Lib.strCells (aA (pP s.fJ)++⟨#[10]⟩)=Lib.byteCells (mG s 0):=by
 rw[Si]
 simp[mG]
theorem P9 {s:qw} (K:Nat) (h0:(pP s.fJ).length<=30000000):∀k,(∀j a,j<k->s.kA[j]?=some a->(j0 a).length<=K)->(mG s k).length<=30000001+k*(K+1)
 |0,_=>by simp[mG];omega
 |k+1,h=>by
  have h1:=P9 K h0 k (fun j a hj=>h j a (by omega))
  cases hx:s.kA[k]? with
  |none=>
   have:mG s (k+1)=mG s k:=by unfold mG;rw[List.take_add_one,hx];simp
   rw[this,Nat.succ_mul]
   omega
  |some x=>
   have h2:=h k x (by omega) hx
   have:mG s (k+1)=mG s k++(j0 x++[10]):=by unfold mG;rw[List.take_add_one,hx];simp
   rw[this,Nat.succ_mul]
   simp
   omega
set_option maxRecDepth 20000 in
set_option maxHeartbeats 20000000 in
theorem Qa {aG:Nat->Prop} {w:World} {cs:List Value} {s:qw} (hT:qT w) (h:BD.rd aG w cs s) (hk:jg s.fJ.av=false\/4096<s.kA.length):
 Calls prog 26 #[.agg cs.toArray] w fun r w'=>r=.returned (.tuple #[.string (aA (qI s).1),.int .i64 (qI s).2])/\B w w':=by
 obtain⟨c0,c1,rfl,h0,h1⟩:=h
 have HC:=Lib.hid (fun w' (hb:B w w')=>Rg (hT.later hb) (nN.later h0 hb))
 obtain⟨rfl,b1,b2,b3,b4,b5⟩:=nN.parts h0
 obtain⟨A,c,rfl,hs⟩:=tL.slice h1
 have HS:=Lib.hid (gK.new (St.nil w) 69 #[.int .i64 s.fJ.f,.int .u16 s.fJ.jP,.int .u16 s.fJ.jC,.int .i64 s.fJ.room,.string (aA s.fJ.av),.slice A s.kA.length c])
 have HP:=Lib.hid (show qI s=if jg s.fJ.av=false then([],1) else([],3) from by
  unfold qI
  split
  ·rfl
  ·rename_i hn
   rw[if_pos (by rcases hk with h|h;exact absurd h hn;exact h)])
 rw[HP.out]
 obtain⟨n,hn⟩:∃n,jg s.fJ.av=n:=⟨_,rfl⟩
 rw[hn] at hk ⊢
 rw[hn] at HC
 clear hn HP h0 h1
 cases n with
 |false=>
  clear hk
  go_enter func26,ntmps26
  go_wp2_with (first|(go_at_call 8;(with_reducible refine qC (HC.out _ HS.out.b) ?_);rintro r w1 ⟨hr,hb⟩;replace HS:=Lib.hid (HS.out.on.later hb);clear hb;simp only[Bool.false_eq_true,if_false] at hr;subst hr)|fail)
  go_ret2
  exact⟨rfl,HS.out.b⟩
 |true=>
  have hl:4096<s.kA.length:=by simpa using hk
  clear hk
  have KG:=(gK.get HS.out).cell
  go_enter func26,ntmps26
  go_wp2_with (first|(go_at_call 8;(with_reducible refine qC (HC.out _ HS.out.b) ?_);rintro r w1 ⟨hr,hb⟩;replace HS:=Lib.hid (HS.out.on.later hb);clear hb;simp only[if_true] at hr;subst hr;replace KG:=(gK.get HS.out).cell)|fail)
  go_ret2
  exact⟨rfl,HS.out.b⟩
end
def afV:List UInt8->Nat->Prop
 |[],n=>n<=4194304
 |c::r,n=>if c=10 then n<=4194304/\afV r 0 else afV r (n+1)
theorem agy:∀(t:List UInt8) (n:Nat),t.length+n<=4194304->afV t n
 |[],n,h=>by simpa[afV] using h
 |c::r,n,h=>by
  simp at h
  unfold afV
  split
  ·exact⟨by omega,agy r 0 (by omega)⟩
  ·exact agy r (n+1) (by omega)
theorem agx:∀(x t:List UInt8) (n:Nat),(10:UInt8)∉x->(afV (x++t) n<->afV t (n+x.length))
 |[],t,n,_=>by simp
 |c::x,t,n,h=>by
  have hc:¬c=10:=fun e=>h (by rw[e];exact List.mem_cons_self)
  rw[List.cons_append,afV,if_neg hc,agx x t (n+1) (fun k=>h (List.mem_cons_of_mem _ k))]
  rw[show n+1+x.length=n+(c::x).length by simp;omega]
theorem ahw {x r:List UInt8} (h:(10:UInt8)∉x):afV (x++10::r) 0<->x.length<=4194304/\afV r 0:=by
 rw[agx x _ 0 h,afV,if_pos rfl,Nat.zero_add]
theorem ahx {x:List UInt8} (h:(10:UInt8)∉x):afV x 0<->x.length<=4194304:=by
 have:=agx x [] 0 h
 rw[List.append_nil] at this
 rw[this,afV,Nat.zero_add]
section
theorem zY9 {P:Program} [Wd] {tb:TT} {rs:List ResultVar} {s:S} {us es r:List D} {d:D} (hr:iD tb s rs=some (.agg us::d::r):=by exact rfl) (h1:CM us es=es:=by exact rfl) (h2:us.length=es.length:=by exact rfl) (hp:ga (.aj (.agg es::d::r))=true:=by exact rfl):(T.leaf .ret s).ok P (Lf tb rs [] (fun r' h'=>r'=.aj (.agg es::d::r)/\h'=[])):=qB (.inr rfl) hr (aa.oO (.cons (aa.eU (.z h1 h2)) (.refl _))) hp
theorem aim [Wd] [qW] (s:List UInt8) (hs:s.length<=4294967280):aq prog 55 [.str s,.str [10]] (.aj [.str (Lib.cut s [10]).1,.str (Lib.cut s [10]).2.1,.bool (Lib.cut s [10]).2.2]):=by
 refine⟨by kernel_rfl,fun w I g vs hW hd ha=>?_⟩
 obtain⟨v,xN,rfl,h1,h2⟩:=ha.zW
 obtain⟨v2,ahV,rfl,h3,h4⟩:=h2.zW
 obtain rfl:=h4.Dm
 rw[h1.nJ,h3.nJ]
 have hg:g=[]:=List.eq_nil_of_length_eq_zero hd.len
 subst hg
 obtain⟨m,hm⟩:=(qW.LX hW).G3
 have hz:(aA s).size=s.length:=by simp[aA,ByteArray.size]
 have wF:(aA s).data.toList=s:=by simp[aA]
 have aip:(aA [10]).data.toList=[10]:=by simp[aA]
 refine(Tryz.strings_Cut (aA s) (aA [10]) m w (by omega) hm).mono ?_
 rintro e w' ⟨rfl,N,rfl⟩
 rw[wF,aip]
 have hb:B w (w.drewN N):=⟨rfl,rfl,rfl,Nat.le_refl _,fun _ _=>rfl⟩
 exact .inl ⟨_,I,[],.aj [.str (Lib.cut s [10]).1,.str (Lib.cut s [10]).2.1,.bool (Lib.cut s [10]).2.2],[],rfl,⟨rfl,rfl⟩,hd.later hb,Vr.oO (vs:=[.string (aA (Lib.cut s [10]).1),.string (aA (Lib.cut s [10]).2.1),.bool (Lib.cut s [10]).2.2]) (.cons (.rd (.str _)) (.cons (.rd (.str _)) (.cons (.rd (.bool _)) .nil))),Ext.of_B hb,fun _ h=>h,fun _ h=>.inl h,fun b h=>.inl h,fun o p t cs _ h=>by simp at h⟩
def agQ (x:Ip):D:=.aj [.agg (agA ⟨x.1.1,x.1.2⟩),.int .i64 x.2.1,.int .i64 x.2.2]
attribute [local instance] uA
theorem agO (x:List UInt8) (hx:x.length<=4194304):aq prog 10 [.str x] (.aj [.agg (aga ((agc x).getD afU)),.bool (agc x).isSome]):=by
 cases h:agc x with
 |none=>exact aib x hx (fun ⟨s,hs⟩=>ago h s hs)
 |some s=>exact aia x hx s (agh h)
theorem agN (x:List UInt8) (hx:x.length<=4194304):aq prog 19 [.str x] (.aj [.agg (cr ((agd x).getD aR)),.bool (agd x).isSome]):=by
 cases h:agd x with
 |none=>exact ZU x hx (fun s hs=>ago h s hs)
 |some s=>exact ZT x hx s (agh h)
def ags:List D:=[.int .i64 0,.int .u16 0,.int .u16 0,.int .i64 0,.str [],.nils]
def agt (s:sW) (d:D):List D:=[.int .i64 s.f,.int .u16 s.jP,.int .u16 s.jC,.int .i64 s.room,.str s.av,d]
def ain (a:List UInt8×Nat×sW×List bK):S:=match a.2.2.2 with
 |[]=>⟨[(0,.str a.1),(2,.ptr 0 0),(5,.ptr 1 0),(6,.int .i64 ((a.2.1:Int)+1))],[.cells 69 ags,.cells 69 (agt a.2.2.1 .nils)]⟩
 |y::k=>⟨[(0,.str a.1),(2,.ptr 0 0),(5,.ptr 1 0),(6,.int .i64 ((a.2.1:Int)+1))],[.cells 69 ags,.cells 69 (agt a.2.2.1 (.row 2)),.row 61 40 ((y::k).map cr)]⟩
theorem aii (t:List UInt8) (ht:t.length<=4294967280) (hL:afV t 0):aq prog 23 [.str t] (agQ (scan t [] 0 afU [])):=by
 refine ak 61 [] func23 ?_
 repeat' (conv=>arg 2;whnf);first|refine aY ?_|refine aV ?_ ?_
 conv=>arg 2;whnf
 refine bE (α:=List UInt8×Nat×sW×List bK) ain (fun a=>scan t [] 0 afU []=scan a.1 [] a.2.1 a.2.2.1 a.2.2.2/\a.1.length<=t.length/\a.2.1<=a.2.2.2.length+1/\a.2.2.2.length<=4096/\(a.2.1=0->a.2.2.2=[])/\afV a.1 0) (fun a=>a.1.length+(if a.2.1=0 then 1 else 0)) (t,0,afU,[]) ⟨rfl,Nat.le_refl _,Nat.zero_le _,Nat.zero_le _,fun _=>rfl,hL⟩ (Sv.aK [0,1]) ?_
 rintro⟨u,n,s,l⟩ ⟨hE,hu,hn,hl,hz,zx⟩
 replace hE:scan t [] 0 afU []=scan u [] n s l:=hE
 replace hu:u.length<=t.length:=hu
 replace hn:n<=l.length+1:=hn
 replace hl:l.length<=4096:=hl
 replace hz:n=0->l=[]:=hz
 replace zx:afV u 0:=zx
 rw[hE]
 have hc:=aim u (by omega)
 have hlt:=hl
 by_cases hA:n≠0/\u=[]
 ·obtain⟨Tc,rfl⟩:=hA
  have hx:scan [] [] n s l=((s,l),0,0):=by rw[scan,if_neg (by simp;exact Tc)]
  rw[hx]
  have h1:(((n:Int)+1)==1)=false:=by simp;omega
  have h2:((((n:Int)+1)==1)==false)=true:=by rw[h1];rfl
  clear hE hx hc
  cases l with
  |nil=>
   repeat' (conv=>arg 2;whnf);first|refine bY h2 ?_|refine bq ?_|exact zY9
  |cons y k=>
   repeat' (conv=>arg 2;whnf);first|refine bY h2 ?_|refine bq ?_|exact mE [2] (.inr rfl) rfl (.refl _) rfl
 by_cases hB:l.length=4096
 ·have Tc:n≠0:=fun e=>by rw[hz e] at hB;cases hB
  have dX:¬u=[]:=fun e=>hA ⟨Tc,e⟩
  have hx:scan u [] n s l=afY ((n:Int)+1) 3:=by
   rcases agK u with⟨x,r,e1,e2,_⟩|⟨e2,_⟩
   ·rw[e1,agI n s l e2,if_neg Tc,if_pos (by omega)]
   ·rw[agJ n s l e2 (.inl dX),if_pos (by omega)]
  rw[hx]
  have h1:(((n:Int)+1)==1)=false:=by simp;omega
  clear hE hx hc
  cases l with
  |nil=>cases hB
  |cons y k=>
   have rA:(k.length:Int)+1=4096:=by simp at hB;omega
   repeat' (conv=>arg 2;whnf);first|(refine bY ?_ ?_;focus (simp[h1,dX,rA];done))|refine eG ?_|exact zY9
 have Gt:l.length<4096:=by omega
 rcases agK u with⟨x,r,e1,e2,e3⟩|⟨e2,e3⟩
 ·have nC:x.length+r.length+1=u.length:=by rw[e1];simp;omega
  obtain⟨Jf,Ix⟩:x.length<=4194304/\afV r 0:=(ahw e2).1 (e1▸zx)
  have hp:=agO x Jf
  have hq:=agN x Jf
  rw[e3] at hc
  have hS:=agI (r:=r) n s l e2
  rw[<-e1] at hS
  rw[hS]
  have dX:¬u=[]:=by rw[e1];simp
  clear hS
  by_cases Tc:n=0
  ·subst Tc
   obtain rfl:=hz rfl
   rw[if_pos rfl]
   cases ji:agc x with
   |none=>
    rw[ji] at hp
    repeat' (conv=>arg 2;whnf);first|refine okF hc ?_|refine okF hp ?_|refine eG ?_|exact zY9
   |some s'=>
    rw[ji] at hp
    repeat' (conv=>arg 2;whnf);first|refine okF hc ?_|refine okF hp ?_|refine bZ (by(try dsimp only);omega) ?_|exact aZ (r,1,s',[]) (Sv.aK [0,1]) ⟨rfl,by show r.length<=_;omega,Nat.le_refl _,Nat.zero_le _,(fun h=>by cases h),Ix⟩ (by show r.length+0<u.length+1;omega)
  ·rw[if_neg Tc,if_neg (by omega)]
   have h1:(((n:Int)+1)==1)=false:=by simp;omega
   cases ji:agd x with
   |none=>
    rw[ji] at hq
    cases l with
    |nil=>
     repeat' (conv=>arg 2;whnf);first|refine okF hc ?_|refine okF hq ?_|refine aT (by constructor<;>(simp only[List.length_cons,List.length_nil,maxLen] at hl ⊢;omega)) ?_|refine eG ?_|exact zY9|(refine bY ?_ ?_;focus (simp[h1,dX];done))|(refine bB ?_ ?_;focus (simp[h1];done))
    |cons y k=>
     have rA:¬(k.length:Int)+1=4096:=by simp at Gt;omega
     repeat' (conv=>arg 2;whnf);first|refine okF hc ?_|refine okF hq ?_|refine aT (by constructor<;>(simp only[List.length_cons,List.length_nil,List.length_map,maxLen] at hl ⊢;omega)) ?_|refine eG ?_|exact zY9|(refine bY ?_ ?_;focus (simp[h1,dX,rA];done))|(refine bB ?_ ?_;focus (simp[h1,rA];done))
   |some a=>
    rw[ji] at hq
    cases l with
    |nil=>
     repeat' (conv=>arg 2;whnf);first|refine okF hc ?_|refine okF hq ?_|refine aT (by constructor<;>(simp only[List.length_cons,List.length_nil,maxLen] at hl ⊢;omega)) ?_|refine bZ (by(try dsimp only);omega) ?_|exact aZ (r,n+1,s,[a]) (Sv.aK [0,1,3]) ⟨rfl,by show r.length<=_;omega,by simp at hn ⊢;omega,by simp,(fun h=>by cases h),Ix⟩ (by show r.length+0<u.length+_;omega)|(refine bY ?_ ?_;focus (simp[h1,dX];done))|(refine bB ?_ ?_;focus (simp[h1];done))
    |cons y k=>
     have rA:¬(k.length:Int)+1=4096:=by simp at Gt;omega
     repeat' (conv=>arg 2;whnf);first|refine okF hc ?_|refine okF hq ?_|refine aT (by constructor<;>(simp only[List.length_cons,List.length_nil,List.length_map,maxLen] at hl ⊢;omega)) ?_|refine bZ (by(try dsimp only);omega) ?_|exact aZ (r,n+1,s,(y::k)++[a]) (Sv.mk' [0,1,4] rfl ⟨⟨rfl,rfl⟩,⟨rfl,rfl⟩,⟨rfl,by simp;rfl⟩,trivial⟩ ⟨rfl,rfl,rfl,rfl,trivial⟩) ⟨rfl,by show r.length<=_;omega,by simp at hn ⊢;omega,by simp at Gt ⊢;omega,(fun h=>by cases h),Ix⟩ (by show r.length+0<u.length+_;omega)|(refine bY ?_ ?_;focus (simp[h1,dX,rA];done))|(refine bB ?_ ?_;focus (simp[h1,rA];done))
 ·have Gu:u.length<=4194304:=(ahx e2).1 zx
  have hp:=agO u Gu
  have hq:=agN u Gu
  rw[e3] at hc
  have lg:u≠[]\/n=0:=by
   by_cases h:n=0
   ·exact .inr h
   ·exact .inl fun e=>hA ⟨h,e⟩
  have hS:=agJ n s l e2 lg
  rw[if_neg (by omega)] at hS
  rw[hS]
  clear hS
  by_cases Tc:n=0
  ·subst Tc
   obtain rfl:=hz rfl
   repeat' (conv=>arg 2;whnf);first|refine okF hc ?_|refine okF hp ?_|refine eG ?_|exact zY9
  ·have h1:(((n:Int)+1)==1)=false:=by simp;omega
   have dX:¬u=[]:=fun e=>hA ⟨Tc,e⟩
   cases l with
   |nil=>
    repeat' (conv=>arg 2;whnf);first|refine okF hc ?_|refine okF hq ?_|refine aT (by constructor<;>(simp only[List.length_cons,List.length_nil,maxLen] at hl ⊢;omega)) ?_|refine eG ?_|exact zY9|(refine bY ?_ ?_;focus (simp[h1,dX];done))|(refine bB ?_ ?_;focus (simp[h1];done))
   |cons y k=>
    have rA:¬(k.length:Int)+1=4096:=by simp at Gt;omega
    repeat' (conv=>arg 2;whnf);first|refine okF hc ?_|refine okF hq ?_|refine aT (by constructor<;>(simp only[List.length_cons,List.length_nil,List.length_map,maxLen] at hl ⊢;omega)) ?_|refine eG ?_|exact zY9|(refine bY ?_ ?_;focus (simp[h1,dX,rA];done))|(refine bB ?_ ?_;focus (simp[h1,rA];done))
end
theorem wG [Wd] {α:Type} {Q:Exit->S->Prop} {f:FuncId} {ar bR:List D} {p:RS->α×RS} {ok:α->Prop} {R:α->D} {hb:List AO} {c:D->List AO->T} (o:Nat) (hF:lX f ar p ok R) (b:List UInt8) (e:Int) (hl:b.length<=8388609) (hv:jF hb [o] [o] (bz (b,e))) (hc:aa bR (D.bO.rl [o] (.ptr 0 0::ar))) (hM:([o].all fun o=>(jT hb bR).elem o)=true) (k:∀x b' e',au p (b,e) x (b',e')->ok x->b'.length<=b.length->(c ((R x).bO (mz hb [o] (bz (b,e)) (bz (b',e')))) (lK hb [o] (bz (b,e)) (bz (b',e')))).ok prog Q):(T.call f bR hb c).ok prog Q:=
 KW [o] (hF b e hl) (.mk' rfl hv) hc hM fun r h' ⟨x,b',e',hA,ho,e1,e2⟩=>by subst e1 e2;exact k x b' e' hA ho hA.len
theorem aW [Wd] {α:Type} {Q:Exit->S->Prop} {f:FuncId} {ar bR:List D} {p:RS->α×RS} {ok:α->Prop} {R:α->D} {hb:List AO} {c:D->List AO->T} (o:Nat) (hF:lX f ar p ok R) (b:List UInt8) (e:Int) (hl:b.length<=8388609) (k:∀x b' e',au p (b,e) x (b',e')->ok x->b'.length<=b.length->(c ((R x).bO (mz hb [o] (bz (b,e)) (bz (b',e')))) (lK hb [o] (bz (b,e)) (bz (b',e')))).ok prog Q) (hv:jF hb [o] [o] (bz (b,e)):=by exact⟨⟨rfl,rfl⟩,trivial⟩) (hc:aa bR (D.bO.rl [o] (.ptr 0 0::ar)):=by exact aa.refl _) (hM:([o].all fun o=>(jT hb bR).elem o)=true:=by exact rfl):(T.call f bR hb c).ok prog Q:=
 wG o hF b e hl hv hc hM k
theorem VQ (most:Nat):fB most=bN Prod.snd (cN (nR most) fR):=rfl
theorem afn (m:Nat):(if((m:Nat):Int)<0 then(0:Int) else(m:Int))=m:=if_neg (by omega)
theorem abO {n:Nat} (h:n<18446744073709551616):IntKind.u64.wrap (n:Int)=n:=by simp[IntKind.wrap,IntKind.bits,IntKind.signed];omega
theorem bM {n m:Int} (h:0<=n/\n<=m) (hm:m<=9223372036854775807):dI.ok n:=⟨show(-9223372036854775808:Int)<=n by omega,show n<=9223372036854775807 by omega⟩
theorem i64_in {n:Int} {m:Nat} (h:0<=n/\n<=m) (hm:m<=9223372036854775807):IntKind.i64.wrap n=n:=cj (by omega) (by omega)
theorem sD [Wd] (most:Nat) (hm:most<=4194304):lX 124 [.int .i64 (most:Int)] (fB most) (fun x=>x.length<=most) (fun x=>.list 1 (x.map af)):=by
 intro b0 e0 h0
 refine ak 15 [] func124 ?_
 repeat' (conv=>arg 2;whnf);first|refine lD ?_
 conv=>arg 2;whnf
 refine wG 0 (mg most (by omega)) b0 e0 h0 ⟨⟨rfl,rfl⟩,trivial⟩ (GZ (by rw[afn,abO (by omega)];rfl)) rfl fun x1 b1 e1 a1 o1 l1=>?_
 have h1:b1.length<=8388609:=by omega
 repeat' (conv=>arg 2;whnf);first|refine bw (i64_in o1 (by omega)) ?_
 conv=>arg 2;whnf
 refine aW 0 (abN x1 (by omega)) b1 e1 h1 fun x2 b2 e2 a2 o2 l2=>?_
 have h2:b2.length<=8388609:=by omega
 have hx:x2.length<=most:=by
  rcases o2 with k|k
  ·omega
  ·simp[k]
 repeat' (conv=>arg 2;whnf);first|exact bf (r:=.list 1 (x2.map af)) (h':=bz (b2,e2)) [0] (.inr rfl) rfl rfl ⟨⟨rfl,rfl⟩,trivial⟩ ⟨⟨rfl,rfl⟩,trivial⟩ (.refl _) ⟨x2,_,_,(by rw[VQ];exact(a1.bind a2 JB).map Prod.snd),hx,rfl,rfl⟩
theorem gO [Wd] (least:Int):lX 184 [.int .i64 least] (bF least) (fun n=>0<=n/\n<=9007199254740992) (D.int .i64):=by
 intro b0 e0 h0
 have hM:((MX:Nat):Int)=9007199254740992:=rfl
 refine ak 27 [] func184 ?_
 repeat' (conv=>arg 2;whnf);first|refine aY ?_|refine aV ?_ ?_
 conv=>arg 2;whnf
 refine aW 0 (mg MX (by decide)) b0 e0 h0 fun x1 b1 e1 a1 o1 l1=>?_
 have h1:b1.length<=8388609:=by omega
 rw[hM] at o1
 have z0:(0:Int)<=0/\(0:Int)<=9007199254740992:=by omega
 rw[JC]
 by_cases he:e1=0
 ·subst he
  by_cases hx:x1<least
  ·repeat' (conv=>arg 2;whnf);first|refine gJ ?_|refine bY (by simpa using hx) ?_|refine cV [0] (kF (k:=100) (by decide) b1) ?_|exact bf (r:=.int .i64 0) (h':=bz ([],100)) [0] (.inr rfl) rfl rfl ⟨⟨rfl,rfl⟩,trivial⟩ ⟨⟨rfl,rfl⟩,trivial⟩ (.refl _) ⟨0,_,_,((a1.nM (y:=0) (u:=([],100)) (fun _=>by rw[if_pos hx];decide) (show ¬(100:Int)=0 by decide) (Nat.zero_le _)).zero (fun _=>rfl)),z0,rfl,rfl⟩
  ·repeat' (conv=>arg 2;whnf);first|refine gJ ?_|refine bB (by simpa using hx) ?_|exact bf (r:=.int .i64 x1) (h':=bz (b1,0)) [0] (.inr rfl) rfl rfl ⟨⟨rfl,rfl⟩,trivial⟩ ⟨⟨rfl,rfl⟩,trivial⟩ (.refl _) ⟨x1,_,_,((a1.gQ (fun _=>if_neg hx)).zero (fun _=>rfl)),o1,rfl,rfl⟩
 ·repeat' (conv=>arg 2;whnf);first|refine gJ ?_|refine bB (by simpa using he) ?_|refine bY (by simpa using he) ?_|exact bf (r:=.int .i64 0) (h':=bz (b1,e1)) [0] (.inr rfl) rfl rfl ⟨⟨rfl,rfl⟩,trivial⟩ ⟨⟨rfl,rfl⟩,trivial⟩ (.refl _) ⟨0,_,_,((a1.gQ (fun e=>absurd e he)).zero (fun e=>absurd e he)),z0,rfl,rfl⟩
theorem nK [Wd] (most:Int) (hm:0<=most):lX 248 [.int .i64 most] (ia most) (fun n=>0<=n/\n<=most) (D.int .i64):=by
 intro b0 e0 h0
 refine ak 26 [] func248 ?_
 repeat' (conv=>arg 2;whnf);first|refine aY ?_|refine aV ?_ ?_
 conv=>arg 2;whnf
 refine aW 0 (gO 0) b0 e0 h0 fun x1 b1 e1 a1 o1 l1=>?_
 have h1:b1.length<=8388609:=by omega
 have z0:(0:Int)<=0/\(0:Int)<=most:=by omega
 rw[JD]
 by_cases he:e1=0
 ·subst he
  by_cases hx:x1<=most
  ·repeat' (conv=>arg 2;whnf);first|refine bB (by simpa using hx) ?_|exact bf (r:=.int .i64 x1) (h':=bz (b1,0)) [0] (.inr rfl) rfl rfl ⟨⟨rfl,rfl⟩,trivial⟩ ⟨⟨rfl,rfl⟩,trivial⟩ (.refl _) ⟨x1,_,_,((a1.gQ (f:=fun n=>if n<=most then 0 else 100) (fun _=>if_pos hx)).zero (fun _=>rfl)),⟨o1.1,hx⟩,rfl,rfl⟩
  ·repeat' (conv=>arg 2;whnf);first|refine bY (by simpa using hx) ?_|refine cV [0] (kF (k:=100) (by decide) b1) ?_|exact bf (r:=.int .i64 0) (h':=bz ([],100)) [0] (.inr rfl) rfl rfl ⟨⟨rfl,rfl⟩,trivial⟩ ⟨⟨rfl,rfl⟩,trivial⟩ (.refl _) ⟨0,_,_,((a1.nM (y:=0) (u:=([],100)) (fun _=>by rw[if_neg hx];decide) (show ¬(100:Int)=0 by decide) (Nat.zero_le _)).zero (fun _=>rfl)),z0,rfl,rfl⟩
 ·repeat' (conv=>arg 2;whnf);first|refine bB (by simpa using he) ?_|refine bY (by simpa using he) ?_|exact bf (r:=.int .i64 0) (h':=bz (b1,e1)) [0] (.inr rfl) rfl rfl ⟨⟨rfl,rfl⟩,trivial⟩ ⟨⟨rfl,rfl⟩,trivial⟩ (.refl _) ⟨0,_,_,((a1.gQ (fun e=>absurd e he)).zero (fun e=>absurd e he)),z0,rfl,rfl⟩
theorem kE [Wd]:lX 182 [] cO iO.ok (fun s=>.agg (bL s)):=by
 intro b0 e0 h0
 refine ak 30 [] func182 ?_
 repeat' (conv=>arg 2;whnf);first|refine aY ?_|refine aV ?_ ?_
 conv=>arg 2;whnf
 refine aW 0 (mg 20 (by decide)) b0 e0 h0 fun x1 b1 e1 a1 o1 l1=>?_
 have h1:b1.length<=8388609:=by omega
 repeat' (conv=>arg 2;whnf);first|refine bw (i64_in o1 (by decide)) ?_
 conv=>arg 2;whnf
 refine aW 0 (mg MX (by decide)) b1 e1 h1 fun x2 b2 e2 a2 o2 l2=>?_
 have h2:b2.length<=8388609:=by omega
 have hM:((MX:Nat):Int)=9007199254740992:=rfl
 rw[hM] at o2
 have d1:iO.ok ⟨x1,x2⟩:=⟨bM o1 (by decide),bM o2 (by decide)⟩
 have g:=(a1.pair a2 (dD _)).map (fun z=>(⟨z.1,z.2⟩:bJ))
 rw[FN]
 by_cases he:e2=0
 ·subst he
  by_cases hx:x2=0
  ·subst hx
   repeat' (conv=>arg 2;whnf);first|refine gJ ?_|refine cV [0] (kF (k:=81) (by decide) b2) ?_|exact bf (r:=.agg (bL dx)) (h':=bz ([],81)) [0] (.inr rfl) rfl rfl ⟨⟨rfl,rfl⟩,trivial⟩ ⟨⟨rfl,rfl⟩,trivial⟩ (.refl _) ⟨dx,_,_,((g.nM (y:=dx) (u:=([],81)) (fun _=>show ¬(if(0:Int)=0 then(81:Int) else 0)=0 by decide) (show ¬(81:Int)=0 by decide) (Nat.zero_le _)).zero (fun _=>rfl)),F2,rfl,rfl⟩
  ·repeat' (conv=>arg 2;whnf);first|refine gJ ?_|refine bB (by simpa using hx) ?_|exact bf (r:=.agg (bL ⟨x1,x2⟩)) (h':=bz (b2,0)) [0] (.inr rfl) rfl rfl ⟨⟨rfl,rfl⟩,trivial⟩ ⟨⟨rfl,rfl⟩,trivial⟩ (.refl _) ⟨⟨x1,x2⟩,_,_,((g.gQ (fun _=>if_neg hx)).zero (fun _=>rfl)),d1,rfl,rfl⟩
 ·repeat' (conv=>arg 2;whnf);first|refine gJ ?_|refine bB (by simpa using he) ?_|refine bY (by simpa using he) ?_|exact bf (r:=.agg (bL dx)) (h':=bz (b2,e2)) [0] (.inr rfl) rfl rfl ⟨⟨rfl,rfl⟩,trivial⟩ ⟨⟨rfl,rfl⟩,trivial⟩ (.refl _) ⟨dx,_,_,((g.gQ (fun e=>absurd e he)).zero (fun e=>absurd e he)),F2,rfl,rfl⟩
theorem US [Wd]:lX 185 [] rz mZ.ok (fun s=>.agg (wV s)):=by
 intro b0 e0 h0
 refine ak 18 [] func185 ?_
 repeat' (conv=>arg 2;whnf);first|refine aY ?_|refine aV ?_ ?_
 conv=>arg 2;whnf
 refine aW 0 (mg 65536 (by decide)) b0 e0 h0 fun x1 b1 e1 a1 o1 l1=>?_
 have h1:b1.length<=8388609:=by omega
 repeat' (conv=>arg 2;whnf);first|refine bw (i64_in o1 (by decide)) ?_
 conv=>arg 2;whnf
 refine aW 0 (mg MX (by decide)) b1 e1 h1 fun x2 b2 e2 a2 o2 l2=>?_
 have h2:b2.length<=8388609:=by omega
 have hM:((MX:Nat):Int)=9007199254740992:=rfl
 rw[hM] at o2
 have d1:mZ.ok ⟨x1,x2⟩:=⟨bM o1 (by decide),bM o2 (by decide)⟩
 have g:=(a1.pair a2 (dD _)).map (fun z=>(⟨z.1,z.2⟩:nH))
 unfold rz
 by_cases he:e2=0
 ·subst he
  repeat' (conv=>arg 2;whnf);first|refine gJ ?_|exact bf (r:=.agg (wV ⟨x1,x2⟩)) (h':=bz (b2,0)) [0] (.inr rfl) rfl rfl ⟨⟨rfl,rfl⟩,trivial⟩ ⟨⟨rfl,rfl⟩,trivial⟩ (.refl _) ⟨⟨x1,x2⟩,_,_,(g.zero (fun _=>rfl)),d1,rfl,rfl⟩
 ·repeat' (conv=>arg 2;whnf);first|refine gJ ?_|refine bY (by simpa using he) ?_|exact bf (r:=.agg (wV me)) (h':=bz (b2,e2)) [0] (.inr rfl) rfl rfl ⟨⟨rfl,rfl⟩,trivial⟩ ⟨⟨rfl,rfl⟩,trivial⟩ (.refl _) ⟨me,_,_,(g.zero (fun e=>absurd e he)),rE,rfl,rfl⟩
theorem QL [Wd]:lX 189 [] nS (fun x=>x.length<=64) D.str:=by
 intro b0 e0 h0
 refine ak 20 [] func189 ?_
 repeat' (conv=>arg 2;whnf);first|refine aY ?_|refine aV ?_ ?_
 conv=>arg 2;whnf
 refine aW 0 (sD 64 (by decide)) b0 e0 h0 fun x1 b1 e1 a1 o1 l1=>?_
 have h1:b1.length<=8388609:=by omega
 have hn:=FZ x1 (by omega)
 unfold nS
 by_cases he:e1=0
 ·subst he
  cases hx:jg x1
  ·rw[hx] at hn
   repeat' (conv=>arg 2;whnf);first|refine j8 x1 rfl ?_|refine aT (by omega) ?_|refine okF hn ?_|refine cV [0] (kF (k:=61) (by decide) b1) ?_|exact bf (r:=.str x1) (h':=bz ([],61)) [0] (.inr rfl) rfl rfl ⟨⟨rfl,rfl⟩,trivial⟩ ⟨⟨rfl,rfl⟩,trivial⟩ (.refl _) ⟨x1,_,_,(a1.nM (u:=([],61)) (fun _=>by unfold mh;rw[hx];decide) (show ¬(61:Int)=0 by decide) (Nat.zero_le _)),o1,rfl,rfl⟩
  ·rw[hx] at hn
   repeat' (conv=>arg 2;whnf);first|refine j8 x1 rfl ?_|refine aT (by omega) ?_|refine okF hn ?_|exact bf (r:=.str x1) (h':=bz (b1,0)) [0] (.inr rfl) rfl rfl ⟨⟨rfl,rfl⟩,trivial⟩ ⟨⟨rfl,rfl⟩,trivial⟩ (.refl _) ⟨x1,_,_,(a1.gQ (fun _=>by unfold mh;rw[hx];rfl)),o1,rfl,rfl⟩
 ·repeat' (conv=>arg 2;whnf);first|refine j8 x1 rfl ?_|refine aT (by omega) ?_|refine bB (by simpa using he) ?_|exact bf (r:=.str x1) (h':=bz (b1,e1)) [0] (.inr rfl) rfl rfl ⟨⟨rfl,rfl⟩,trivial⟩ ⟨⟨rfl,rfl⟩,trivial⟩ (.refl _) ⟨x1,_,_,(a1.gQ (fun e=>absurd e he)),o1,rfl,rfl⟩
theorem zw [Wd]:lX 183 [] (nR 12) (fun n=>0<=n/\n<=12) (D.int .i64):=by
 intro b0 e0 h0
 refine ak 6 [] func183 ?_
 repeat' (conv=>arg 2;whnf);first|refine aY ?_|refine aV ?_ ?_
 conv=>arg 2;whnf
 refine aW 0 (mg 12 (by decide)) b0 e0 h0 fun x1 b1 e1 a1 o1 l1=>?_
 have h1:b1.length<=8388609:=by omega
 repeat' (conv=>arg 2;whnf);first|refine bw (i64_in o1 (by decide)) ?_|exact bf (r:=.int .i64 x1) (h':=bz (b1,e1)) [0] (.inr rfl) rfl rfl ⟨⟨rfl,rfl⟩,trivial⟩ ⟨⟨rfl,rfl⟩,trivial⟩ (.refl _) ⟨x1,_,_,a1,o1,rfl,rfl⟩
theorem OH [Wd]:lX 250 [] jA yq.ok (fun x=>.agg (eO x)):=by
 intro b0 e0 h0
 refine ak 20 [] func250 ?_
 repeat' (conv=>arg 2;whnf);first|refine aY ?_|refine aV ?_ ?_
 conv=>arg 2;whnf
 refine aW 0 (gO 1) b0 e0 h0 fun x1 b1 e1 a1 o1 l1=>?_
 have h1:b1.length<=8388609:=by omega
 repeat' (conv=>arg 2;whnf);first|refine aY ?_|refine aV ?_ ?_
 conv=>arg 2;whnf
 refine aW 0 (gO 0) b1 e1 h1 fun x2 b2 e2 a2 o2 l2=>?_
 have h2:b2.length<=8388609:=by omega
 repeat' (conv=>arg 2;whnf);first|refine aY ?_|refine aV ?_ ?_
 conv=>arg 2;whnf
 refine aW 0 (gO 0) b2 e2 h2 fun x3 b3 e3 a3 o3 l3=>?_
 have h3:b3.length<=8388609:=by omega
 repeat' (conv=>arg 2;whnf);first|refine aY ?_|refine aV ?_ ?_
 conv=>arg 2;whnf
 refine aW 0 (gO 0) b3 e3 h3 fun x4 b4 e4 a4 o4 l4=>?_
 have h4:b4.length<=8388609:=by omega
 repeat' (conv=>arg 2;whnf);first|refine aY ?_|refine aV ?_ ?_
 conv=>arg 2;whnf
 refine aW 0 (gO 0) b4 e4 h4 fun x5 b5 e5 a5 o5 l5=>?_
 have h5:b5.length<=8388609:=by omega
 have d1:yq.ok ⟨x1,x2,x3,x4,x5⟩:=⟨bM o1 (by decide),bM o2 (by decide),bM o3 (by decide),bM o4 (by decide),bM o5 (by decide)⟩
 repeat' (conv=>arg 2;whnf);first|exact bf (r:=.agg (eO ⟨x1,x2,x3,x4,x5⟩)) (h':=bz (b5,e5)) [0] (.inr rfl) rfl rfl ⟨⟨rfl,rfl⟩,trivial⟩ ⟨⟨rfl,rfl⟩,trivial⟩ (.refl _) ⟨⟨x1,x2,x3,x4,x5⟩,_,_,((a1.pair (a2.pair (a3.pair (a4.pair a5 (bV _)) ((bV _).pair (bV _))) ((bV _).pair ((bV _).pair (bV _)))) ((bV _).pair ((bV _).pair ((bV _).pair (bV _))))).map _),d1,rfl,rfl⟩
theorem J8 [Wd] (m:aD):lX 181 [.agg (aC m)] qF (fun z=>(0<=z.1/\z.1<=12)/\(0<=z.2.1/\z.2.1<=9007199254740992)/\(0<=z.2.2.1/\z.2.2.1<=9007199254740992)/\(0<=z.2.2.2/\z.2.2.2<=9007199254740992)) (fun z=>.agg (aC {m with src:=z.1,view:=z.2.1,seq:=z.2.2.1,ah:=z.2.2.2})):=by
 intro b0 e0 h0
 refine ak 18 [] func181 ?_
 repeat' (conv=>arg 2;whnf);first|refine aY ?_|refine aV ?_ ?_
 conv=>arg 2;whnf
 refine aW 0 (zw) b0 e0 h0 fun x1 b1 e1 a1 o1 l1=>?_
 have h1:b1.length<=8388609:=by omega
 repeat' (conv=>arg 2;whnf);first|refine aY ?_|refine aV ?_ ?_
 conv=>arg 2;whnf
 refine aW 0 (gO 0) b1 e1 h1 fun x2 b2 e2 a2 o2 l2=>?_
 have h2:b2.length<=8388609:=by omega
 repeat' (conv=>arg 2;whnf);first|refine aY ?_|refine aV ?_ ?_
 conv=>arg 2;whnf
 refine aW 0 (gO 1) b2 e2 h2 fun x3 b3 e3 a3 o3 l3=>?_
 have h3:b3.length<=8388609:=by omega
 repeat' (conv=>arg 2;whnf);first|refine aY ?_|refine aV ?_ ?_
 conv=>arg 2;whnf
 refine aW 0 (gO 1) b3 e3 h3 fun x4 b4 e4 a4 o4 l4=>?_
 have h4:b4.length<=8388609:=by omega
 repeat' (conv=>arg 2;whnf);first|exact bf (r:=.agg (aC {m with src:=x1,view:=x2,seq:=x3,ah:=x4})) (h':=bz (b4,e4)) [0] (.inr rfl) rfl rfl ⟨⟨rfl,rfl⟩,trivial⟩ ⟨⟨rfl,rfl⟩,trivial⟩ (.refl _) ⟨(x1,x2,x3,x4),_,_,(a1.pair (a2.pair (a3.pair a4 (bV _)) ((bV _).pair (bV _))) ((bV _).pair ((bV _).pair (bV _)))),⟨o1,o2,o3,o4⟩,rfl,rfl⟩
theorem N8 {α β:Type} {p:RS->α×RS} {q:α->RS->β×RS} {s t:RS} {x:α} (h:au p s x t) (ht:t.2=0) (k:¬(q x t).2.2=0):¬(cN p q s).2.2=0:=by
 unfold cN
 rw[h.kM ht]
 exact k
theorem CZ {α β:Type} {p:RS->α×RS} {q:α->RS->β×RS} {s:RS} (k:∀x,Rd1 (q x)) (h:¬(p s).2.2=0):¬(cN p q s).2.2=0:=(k _).stay _ h
theorem C8 {α β:Type} {f:α->β} {p:RS->α×RS} {s:RS} (h:¬(p s).2.2=0):¬(bN f p s).2.2=0:=h
theorem au.cY {α:Type} {p:RS->α×RS} (k:Rd1 p) {m n:Int} {s t u:RS} {l:List α} (h:au (ia m) s n t) (g:au (aP p n.toNat) t l u):au (cY p m) s l u:=au.map Prod.snd (au.bind (q:=fun n:Int=>aP p n.toNat) h g (fun n=>uB k n.toNat))
theorem XY {b0 b2 b3:List UInt8} {e0 x1 x2 x3:Int} (g:au (bg (bF 0) (bF 0)) (b0,e0) (x1,x2) (b2,0)) (hm:((x1==0)==(x2==0))=true) (L6:au (ia (if x1=0 then 0 else 13)) (b2,0) x3 (b3,0)) {l:List bJ} {u:RS} (hG:au (aP cO x3.toNat) (b3,0) l u) (kb:∀z:Int×Int,Rd1 (cY cO (if z.1=0 then 0 else 13))):au lT (b0,e0) ⟨x1,x2,l⟩ u:=by
 have gY:=g.gQ (f:=fun z=>if(z.1==0)==(z.2==0) then 0 else 100) (fun _=>if_pos hm)
 have hL:=L6.cY eM hG
 have hB:=au.bind (q:=fun z:Int×Int=>cY cO (if z.1=0 then 0 else 13)) gY hL kb
 rw[zF]
 exact hB.map (fun z:(Int×Int)×List bJ=>(⟨z.1.1,z.1.2,z.2⟩:gX))
theorem OI {α:Type} {p:RS->α×RS} (k:Rd1 p) {m:Int} {s:RS} (h:¬(ia m s).2.2=0):¬(cY p m s).2.2=0:=CZ (q:=fun n:Int=>aP p n.toNat) (fun n=>uB k n.toNat) h
theorem jh:fD.ok za:=⟨bu,Nat.zero_le _,Nat.zero_le _,bu,dO⟩
theorem Dp {s:RS} {m v e:Int} {b:List UInt8} (h:bF 0 s=(v,(b,e))):(e=0/\v<=m->ia m s=(v,(b,e)))/\(¬(e=0/\v<=m)->¬(ia m s).2.2=0):=by
 unfold ia lS
 rw[h]
 by_cases he:e=0
 ·by_cases hv:v<=m
  ·simp[he,hv]
  ·simp[he,hv]
 ·simp[he]
theorem au.aeh {s t:RS} {n m:Int} (hm:0<=m) (h:au (ia m) s n t):(t.2=0->n=0->au (ia 0) s n t)/\(¬(t.2=0/\n<=0)->¬(ia 0 s).2.2=0):=by
 obtain⟨v,b,e,hv⟩:∃v b e,bF 0 s=(v,(b,e)):=⟨_,_,_,rfl⟩
 by_cases hc:e=0/\v<=m
 ·have e1:=(Dp (m:=m) hv).1 hc
  have ht:t.2=0:=h.done.2 (by rw[e1];exact hc.1)
  have e2:=h.kM ht
  rw[e1] at e2
  injection e2 with e2 e3
  subst e2 e3
  refine⟨fun _ hn=>?_,fun hn=>(Dp hv).2 (fun k=>hn ⟨ht,k.2⟩)⟩
  have e4:=(Dp (m:=0) hv).1 ⟨hc.1,by omega⟩
  exact⟨fun _=>e4,fun k=>absurd ht k,h.len⟩
 ·have e1:=(Dp (m:=m) hv).2 hc
  have ht:¬t.2=0:=fun k=>e1 (h.done.1 k)
  have e2:=(Dp (m:=0) hv).2 (fun k=>hc ⟨k.1,by omega⟩)
  exact⟨fun k=>absurd k ht,fun _=>e2⟩
theorem ZK [Wd]:lX 291 [] uC (dL iO).ok (fun l=>.list 2 (l.map bL)):=by
 intro b0 e0 h0
 refine ak 26 [] func291 ?_
 repeat' (conv=>arg 2;whnf);first|refine aY ?_|refine aV ?_ ?_
 conv=>arg 2;whnf
 refine aW 0 (nK 13 (by decide)) b0 e0 h0 fun x1 b1 e1 a1 o1 l1=>?_
 have h1:b1.length<=8388609:=by omega
 repeat' (conv=>arg 2;whnf);first|refine aY ?_|refine aV ?_ ?_
 conv=>arg 2;whnf
 refine bE (α:=Nat×List bJ×List UInt8×Int) (fun a=>match a.2.1 with
  |[]=>⟨[(5,.int .i64 a.1),(4,.nils),(3,.int .i64 x1),(0,.ptr 0 0)],[.cells 176 [.list 1 (a.2.2.1.map af),.int .i64 a.2.2.2]]⟩
  |y::k=>⟨[(5,.int .i64 a.1),(4,.row 1),(3,.int .i64 x1),(0,.ptr 0 0)],[.cells 176 [.list 1 (a.2.2.1.map af),.int .i64 a.2.2.2],.row 57 2 ((y::k).map bL)]⟩) (fun a=>a.1<=x1.toNat/\au (dG cO a.1) (b1,e1) a.2.1 (a.2.2.1,a.2.2.2)/\(∀z∈a.2.1,iO.ok z)/\a.2.1.length=a.1) (fun a=>x1.toNat-a.1) (0,[],b1,e1) ⟨Nat.zero_le _,au.nil _,fun z hz=>(List.not_mem_nil hz).elim,rfl⟩ (Sv.aK [0]) ?_
 rintro⟨q,l,bl,el⟩ ⟨hq,hA,hO,hn⟩
 replace hq:q<=x1.toNat:=hq
 replace hA:au (dG cO q) (b1,e1) l (bl,el):=hA
 replace hO:∀z∈l,iO.ok z:=hO
 replace hn:l.length=q:=hn
 have dJ:bl.length<=8388609:=Nat.le_trans hA.len (by assumption)
 have fL:l.length<=4194304:=by omega
 cases l with
 |nil=>
  by_cases ey:(q:Int)<x1/\el=0
  ·obtain⟨hlt,rfl⟩:=ey
   repeat' (conv=>arg 2;whnf);first|refine bZ (by(try dsimp only);omega) ?_|refine bY (by simp;omega) ?_|refine aW 0 (kE) bl 0 dJ fun x9 b9 e9 a9 o9 l9=>?_|refine aT (by constructor<;>(simp only[List.length_cons,List.length_nil,maxLen] at hn ⊢;omega)) ?_|exact aZ (q+1,[x9],b9,e9) (Sv.mk' [0,2] rfl ⟨⟨rfl,rfl⟩,⟨rfl,by show AO.row _ _ ([]++[bL x9])=AO.row _ _ _;simp⟩,trivial⟩ ⟨rfl,rfl,rfl,rfl,trivial⟩) ⟨by show q+1<=_;omega,hA.snoc eM a9,fun z hz=>by first|(rcases List.mem_append.1 hz with hz|hz;exact hO z hz;rw[List.mem_singleton.1 hz];exact o9)|(rw[List.mem_singleton.1 hz];exact o9),by simp at hn ⊢;omega⟩ (by show x1.toNat-(q+1)<x1.toNat-q;omega)
  ·have hx:q=x1.toNat\/¬el=0:=by omega
   have hG:au (aP cO x1.toNat) (b1,e1) [] (bl,el):=hA.list eM hq hx
   rcases(show(¬(q:Int)<x1)\/((q:Int)<x1/\¬el=0) by omega) with dh|⟨dh,jU⟩
   all_goals
    repeat' (conv=>arg 2;whnf);first|refine bY (by simp;omega) ?_|refine bB (by simp;omega) ?_|refine bq ?_|(refine eg (r:=.list 2 (([]:List bJ).map bL)) (h':=bz (bl,el)) [] [0] (.inr rfl) rfl rfl ⟨⟨rfl,rfl⟩,trivial⟩ ⟨⟨rfl,rfl⟩,trivial⟩ (.nil _) ⟨_,_,_,(show au (cY cO 13) _ _ _ from a1.cY eM hG),⟨fL,hO⟩,rfl,rfl⟩)
 |cons y k=>
  by_cases ey:(q:Int)<x1/\el=0
  ·obtain⟨hlt,rfl⟩:=ey
   repeat' (conv=>arg 2;whnf);first|refine bZ (by(try dsimp only);omega) ?_|refine bY (by simp;omega) ?_|refine aW 0 (kE) bl 0 dJ fun x9 b9 e9 a9 o9 l9=>?_|refine aT (by constructor<;>(simp only[List.length_cons,List.length_nil,List.length_map,maxLen] at hn ⊢;omega)) ?_|exact aZ (q+1,((y::k)++[x9]),b9,e9) (Sv.mk' [0,3] rfl ⟨⟨rfl,rfl⟩,⟨rfl,by show AO.row _ _ ((y::k).map bL++[bL x9])=AO.row _ _ _;simp⟩,trivial⟩ ⟨rfl,rfl,rfl,rfl,trivial⟩) ⟨by show q+1<=_;omega,hA.snoc eM a9,fun z hz=>by first|(rcases List.mem_append.1 hz with hz|hz;exact hO z hz;rw[List.mem_singleton.1 hz];exact o9)|(rw[List.mem_singleton.1 hz];exact o9),by simp at hn ⊢;omega⟩ (by show x1.toNat-(q+1)<x1.toNat-q;omega)
  ·have hx:q=x1.toNat\/¬el=0:=by omega
   have hG:au (aP cO x1.toNat) (b1,e1) (y::k) (bl,el):=hA.list eM hq hx
   rcases(show(¬(q:Int)<x1)\/((q:Int)<x1/\¬el=0) by omega) with dh|⟨dh,jU⟩
   all_goals
    repeat' (conv=>arg 2;whnf);first|refine bY (by simp;omega) ?_|refine bB (by simp;omega) ?_|refine bq ?_|(refine eg (r:=.list 2 (((y::k):List bJ).map bL)) (h':=bz (bl,el)) [1] [0] (.inr rfl) rfl rfl ⟨⟨rfl,rfl⟩,trivial⟩ ⟨⟨rfl,rfl⟩,trivial⟩ (.refl _) ⟨_,_,_,(show au (cY cO 13) _ _ _ from a1.cY eM hG),⟨fL,hO⟩,rfl,rfl⟩)
theorem BA [Wd]:lX 188 [] lT je.ok (fun c=>.agg (mj c)):=by
 intro b0 e0 h0
 refine iV 66 [(11,⟨(.one 0 false (.one 2 false (.alt 1 (.one 3 true (.one 4 true (.one 5 true (.one 6 false (.one 7 true .done))))) (.one 3 true (.alt 1 (.one 4 true (.one 5 true (.one 6 false (.one 7 true .done)))) (.one 4 true (.one 1 true (.one 5 true (.one 6 false (.one 7 true .done)))))))))),[0,2,3]⟩)] func188 ?_
 repeat' (conv=>arg 2;whnf);first|refine aY ?_|refine aV ?_ ?_
 conv=>arg 2;whnf
 refine aW 0 (gO 0) b0 e0 h0 fun x1 b1 e1 a1 o1 l1=>?_
 have h1:b1.length<=8388609:=by omega
 repeat' (conv=>arg 2;whnf);first|refine aY ?_|refine aV ?_ ?_
 conv=>arg 2;whnf
 refine aW 0 (gO 0) b1 e1 h1 fun x2 b2 e2 a2 o2 l2=>?_
 have h2:b2.length<=8388609:=by omega
 have g:=a1.pair a2 (bV _)
 have kb:∀z:Int×Int,Rd1 (cY cO (if z.1=0 then 0 else 13)):=fun z=>jL eM _
 by_cases he:e2=0
 ·subst he
  by_cases hm:((x1==0)==(x2==0))=true
  ·have gY:=g.gQ (f:=fun z=>if(z.1==0)==(z.2==0) then 0 else 100) (fun _=>if_pos hm)
   repeat' (conv=>arg 2;whnf);first|refine bB (by simpa using hm) ?_
   conv=>arg 2;whnf
   refine aW 0 (nK 13 (by decide)) b2 0 h2 fun x3 b3 e3 a3 o3 l3=>?_
   have h3:b3.length<=8388609:=by omega
   have hz:=a3.aeh (by decide)
   by_cases oS:e3=0
   ·subst oS
    by_cases Ti:x1=0/\0<x3
    ·have wr:¬(lT (b0,e0)).2.2=0:=by
      rw[zF]
      refine C8 (N8 gY rfl ?_)
      show ¬(cY cO (if x1=0 then 0 else 13) (b2,0)).2.2=0
      rw[if_pos Ti.1]
      exact OI eM (hz.2 (fun k=>by have:=k.2;omega))
     repeat' (conv=>arg 2;whnf);first|refine bY (by simp;omega) ?_|refine cV [0] (kF (k:=100) (by decide) b3) ?_
     conv=>arg 2;whnf
     refine bE (α:=Unit) (fun _=>⟨[(5,.int .i64 0),(4,.int .i64 x3),(3,.ptr 2 0),(2,.ptr 1 0),(0,.ptr 0 0)],[.cells 176 [.list 1 (([]:List UInt8).map af),.int .i64 100],.cells 48 [.int .i64 0,.int .i64 0,.nils],.cells 48 [.int .i64 x1,.int .i64 x2,.nils]]⟩) (fun _=>True) (fun _=>0) () trivial (Sv.aK [0,1,3]) ?_
     rintro _ _
     repeat' (conv=>arg 2;whnf);first|apply an<;>intro h|refine bq ?_|exact eg (r:=.agg (mj ⟨x1,x2,[]⟩)) (h':=bz ([],100)) [] [0] (.inr rfl) rfl rfl ⟨⟨rfl,rfl⟩,trivial⟩ ⟨⟨rfl,rfl⟩,trivial⟩ (aa.eU (.cons (.refl _) (.cons (.refl _) (.cons (.nil _) .nil)))) ⟨_,_,_,au.xu wr (show ¬(100:Int)=0 by decide) (Nat.zero_le _),⟨bM o1 (by decide),bM o2 (by decide),dO⟩,rfl,rfl⟩
    ·have HL:∀{l:List bJ} {u:RS},au (aP cO x3.toNat) (b3,0) l u->au lT (b0,e0) ⟨x1,x2,l⟩ u:=fun hG=>by
      have L6:au (ia (if x1=0 then 0 else 13)) (b2,0) x3 (b3,0):=by
       by_cases dh:x1=0
       ·rw[if_pos dh];exact hz.1 rfl (show x3=0 from Classical.byContradiction fun k=>Ti ⟨dh,by have:0<=x3/\x3<=13:=o3;omega⟩)
       ·rw[if_neg dh];exact a3
      exact XY g hm L6 hG kb
     repeat' (conv=>arg 2;whnf);first|(exfalso;omega)|(apply an<;>intro h<;>simp at h)
     all_goals
      conv=>arg 2;whnf
      refine bE (α:=Nat×List bJ×List UInt8×Int) (fun a=>match a.2.1 with
       |[]=>⟨[(5,.int .i64 a.1),(4,.int .i64 x3),(3,.ptr 2 0),(2,.ptr 1 0),(0,.ptr 0 0)],[.cells 176 [.list 1 (a.2.2.1.map af),.int .i64 a.2.2.2],.cells 48 [.int .i64 0,.int .i64 0,.nils],.cells 48 [.int .i64 x1,.int .i64 x2,.nils]]⟩
       |y::k=>⟨[(5,.int .i64 a.1),(4,.int .i64 x3),(3,.ptr 2 0),(2,.ptr 1 0),(0,.ptr 0 0)],[.cells 176 [.list 1 (a.2.2.1.map af),.int .i64 a.2.2.2],.cells 48 [.int .i64 0,.int .i64 0,.nils],.cells 48 [.int .i64 x1,.int .i64 x2,.row 3],.row 57 2 ((y::k).map bL)]⟩) (fun a=>a.1<=x3.toNat/\au (dG cO a.1) (b3,0) a.2.1 (a.2.2.1,a.2.2.2)/\(∀z∈a.2.1,iO.ok z)/\a.2.1.length=a.1) (fun a=>x3.toNat-a.1) (0,[],b3,0) ⟨Nat.zero_le _,au.nil _,fun z hz=>(List.not_mem_nil hz).elim,rfl⟩ (Sv.aK [0,1,3]) ?_
      rintro⟨q,l,bl,el⟩ ⟨hq,hA,hO,hn⟩
      replace hq:q<=x3.toNat:=hq
      replace hA:au (dG cO q) (b3,0) l (bl,el):=hA
      replace hO:∀z∈l,iO.ok z:=hO
      replace hn:l.length=q:=hn
      have dJ:bl.length<=8388609:=Nat.le_trans hA.len (by assumption)
      have fL:l.length<=4194304:=by omega
      cases l with
      |nil=>
       by_cases ey:(q:Int)<x3/\el=0
       ·obtain⟨hlt,rfl⟩:=ey
        repeat' (conv=>arg 2;whnf);first|(exfalso;omega)|refine bZ (by(try dsimp only);omega) ?_|refine aV ?_ ?_|refine bY (by simp;omega) ?_|refine aW 0 (kE) bl 0 dJ fun x9 b9 e9 a9 o9 l9=>?_|refine aT (by constructor<;>(simp only[List.length_cons,List.length_nil,maxLen] at hn ⊢;omega)) ?_|exact aZ (q+1,[x9],b9,e9) (Sv.mk' [0,1,2,4] rfl ⟨⟨rfl,rfl⟩,⟨rfl,rfl⟩,⟨rfl,rfl⟩,⟨rfl,by show AO.row _ _ ([]++[bL x9])=AO.row _ _ _;simp⟩,trivial⟩ ⟨rfl,rfl,rfl,rfl,rfl,trivial⟩) ⟨by show q+1<=_;omega,hA.snoc eM a9,fun z hz=>by first|(rcases List.mem_append.1 hz with hz|hz;exact hO z hz;rw[List.mem_singleton.1 hz];exact o9)|(rw[List.mem_singleton.1 hz];exact o9),by simp at hn ⊢;omega⟩ (by show x3.toNat-(q+1)<x3.toNat-q;omega)
       ·have hx:q=x3.toNat\/¬el=0:=by omega
        have hG:au (aP cO x3.toNat) (b3,0) [] (bl,el):=hA.list eM hq hx
        rcases(show(¬(q:Int)<x3)\/((q:Int)<x3/\¬el=0) by omega) with dh|⟨dh,jU⟩
        all_goals
         repeat' (conv=>arg 2;whnf);first|(exfalso;omega)|refine bY (by simp;omega) ?_|refine bB (by simp;omega) ?_|refine bq ?_|exact eg (r:=.agg (mj ⟨x1,x2,[]⟩)) (h':=bz (bl,el)) [] [0] (.inr rfl) rfl rfl ⟨⟨rfl,rfl⟩,trivial⟩ ⟨⟨rfl,rfl⟩,trivial⟩ (aa.eU (.cons (.refl _) (.cons (.refl _) (.cons (.nil _) .nil)))) ⟨_,_,_,HL hG,⟨bM o1 (by decide),bM o2 (by decide),⟨fL,hO⟩⟩,rfl,rfl⟩
      |cons y k=>
       by_cases ey:(q:Int)<x3/\el=0
       ·obtain⟨hlt,rfl⟩:=ey
        repeat' (conv=>arg 2;whnf);first|(exfalso;omega)|refine bZ (by(try dsimp only);omega) ?_|refine aV ?_ ?_|refine bY (by simp;omega) ?_|refine aW 0 (kE) bl 0 dJ fun x9 b9 e9 a9 o9 l9=>?_|refine aT (by constructor<;>(simp only[List.length_cons,List.length_nil,List.length_map,maxLen] at hn ⊢;omega)) ?_|exact aZ (q+1,((y::k)++[x9]),b9,e9) (Sv.mk' [0,1,2,5] rfl ⟨⟨rfl,rfl⟩,⟨rfl,rfl⟩,⟨rfl,rfl⟩,⟨rfl,by show AO.row _ _ ((y::k).map bL++[bL x9])=AO.row _ _ _;simp⟩,trivial⟩ ⟨rfl,rfl,rfl,rfl,rfl,trivial⟩) ⟨by show q+1<=_;omega,hA.snoc eM a9,fun z hz=>by first|(rcases List.mem_append.1 hz with hz|hz;exact hO z hz;rw[List.mem_singleton.1 hz];exact o9)|(rw[List.mem_singleton.1 hz];exact o9),by simp at hn ⊢;omega⟩ (by show x3.toNat-(q+1)<x3.toNat-q;omega)
       ·have hx:q=x3.toNat\/¬el=0:=by omega
        have hG:au (aP cO x3.toNat) (b3,0) (y::k) (bl,el):=hA.list eM hq hx
        rcases(show(¬(q:Int)<x3)\/((q:Int)<x3/\¬el=0) by omega) with dh|⟨dh,jU⟩
        all_goals
         repeat' (conv=>arg 2;whnf);first|(exfalso;omega)|refine bY (by simp;omega) ?_|refine bB (by simp;omega) ?_|refine bq ?_|exact eg (r:=.agg (mj ⟨x1,x2,(y::k)⟩)) (h':=bz (bl,el)) [3] [0] (.inr rfl) rfl rfl ⟨⟨rfl,rfl⟩,trivial⟩ ⟨⟨rfl,rfl⟩,trivial⟩ (aa.eU (.cons (.refl _) (.cons (.refl _) (.cons (.refl _) .nil)))) ⟨_,_,_,HL hG,⟨bM o1 (by decide),bM o2 (by decide),⟨fL,hO⟩⟩,rfl,rfl⟩
   ·have wr:¬(lT (b0,e0)).2.2=0:=by
     rw[zF]
     refine C8 (N8 gY rfl ?_)
     show ¬(cY cO (if x1=0 then 0 else 13) (b2,0)).2.2=0
     refine OI eM ?_
     split
     ·exact hz.2 (fun k=>oS k.1)
     ·exact a3.bad oS
    repeat' (conv=>arg 2;whnf);first|refine bB (by simpa using oS) ?_
    conv=>arg 2;whnf
    refine bE (α:=Unit) (fun _=>⟨[(5,.int .i64 0),(4,.int .i64 x3),(3,.ptr 2 0),(2,.ptr 1 0),(0,.ptr 0 0)],[.cells 176 [.list 1 ((b3:List UInt8).map af),.int .i64 e3],.cells 48 [.int .i64 0,.int .i64 0,.nils],.cells 48 [.int .i64 x1,.int .i64 x2,.nils]]⟩) (fun _=>True) (fun _=>0) () trivial (Sv.aK [0,1,3]) ?_
    rintro _ _
    repeat' (conv=>arg 2;whnf);first|refine bB (by simpa using oS) ?_|apply an<;>intro h|refine bq ?_|exact eg (r:=.agg (mj ⟨x1,x2,[]⟩)) (h':=bz (b3,e3)) [] [0] (.inr rfl) rfl rfl ⟨⟨rfl,rfl⟩,trivial⟩ ⟨⟨rfl,rfl⟩,trivial⟩ (aa.eU (.cons (.refl _) (.cons (.refl _) (.cons (.nil _) .nil)))) ⟨_,_,_,au.xu wr oS (Nat.le_trans l3 (Nat.le_trans l2 l1)),⟨bM o1 (by decide),bM o2 (by decide),dO⟩,rfl,rfl⟩
  ·have gN:=g.nM (y:=(x1,x2)) (u:=([],100)) (f:=fun z=>if(z.1==0)==(z.2==0) then 0 else 100) (fun _=>by rw[if_neg hm];decide) (show ¬(100:Int)=0 by decide) (Nat.zero_le _)
   have wr:¬(lT (b0,e0)).2.2=0:=by rw[zF];exact C8 <| CZ kb (gN.bad (show ¬(100:Int)=0 by decide))
   repeat' (conv=>arg 2;whnf);first|refine bY (by simp_all) ?_|refine cV [0] (kF (k:=100) (by decide) b2) ?_
   conv=>arg 2;whnf
   refine wG 0 (nK 13 (by decide)) [] 100 (Nat.zero_le _) ⟨⟨rfl,rfl⟩,trivial⟩ (aa.refl _) rfl fun x3 b3 e3 a3 o3 l3=>?_
   have h3:b3.length<=8388609:=Nat.le_trans l3 (by decide)
   have oS:¬e3=0:=a3.stay (uu 13) (show ¬(100:Int)=0 by decide)
   repeat' (conv=>arg 2;whnf);first|refine bB (by simpa using oS) ?_
   conv=>arg 2;whnf
   refine bE (α:=Unit) (fun _=>⟨[(5,.int .i64 0),(4,.int .i64 x3),(3,.ptr 2 0),(2,.ptr 1 0),(0,.ptr 0 0)],[.cells 176 [.list 1 ((b3:List UInt8).map af),.int .i64 e3],.cells 48 [.int .i64 0,.int .i64 0,.nils],.cells 48 [.int .i64 x1,.int .i64 x2,.nils]]⟩) (fun _=>True) (fun _=>0) () trivial (Sv.aK [0,1,3]) ?_
   rintro _ _
   repeat' (conv=>arg 2;whnf);first|refine bB (by simpa using oS) ?_|apply an<;>intro h|refine bq ?_|exact eg (r:=.agg (mj ⟨x1,x2,[]⟩)) (h':=bz (b3,e3)) [] [0] (.inr rfl) rfl rfl ⟨⟨rfl,rfl⟩,trivial⟩ ⟨⟨rfl,rfl⟩,trivial⟩ (aa.eU (.cons (.refl _) (.cons (.refl _) (.cons (.nil _) .nil)))) ⟨_,_,_,au.xu wr oS (Nat.le_trans l3 (Nat.zero_le _)),⟨bM o1 (by decide),bM o2 (by decide),dO⟩,rfl,rfl⟩
 ·have wr:¬(lT (b0,e0)).2.2=0:=by rw[zF];exact C8 <| CZ kb ((g.gQ (f:=fun z=>if(z.1==0)==(z.2==0) then 0 else 100) (fun e=>absurd e he)).bad he)
  repeat' (conv=>arg 2;whnf);first|refine bB (by simpa using he) ?_
  conv=>arg 2;whnf
  refine aW 0 (nK 13 (by decide)) b2 e2 h2 fun x3 b3 e3 a3 o3 l3=>?_
  have h3:b3.length<=8388609:=by omega
  have oS:¬e3=0:=a3.stay (uu 13) he
  repeat' (conv=>arg 2;whnf);first|refine bB (by simpa using oS) ?_
  conv=>arg 2;whnf
  refine bE (α:=Unit) (fun _=>⟨[(5,.int .i64 0),(4,.int .i64 x3),(3,.ptr 2 0),(2,.ptr 1 0),(0,.ptr 0 0)],[.cells 176 [.list 1 ((b3:List UInt8).map af),.int .i64 e3],.cells 48 [.int .i64 0,.int .i64 0,.nils],.cells 48 [.int .i64 x1,.int .i64 x2,.nils]]⟩) (fun _=>True) (fun _=>0) () trivial (Sv.aK [0,1,3]) ?_
  rintro _ _
  repeat' (conv=>arg 2;whnf);first|refine bB (by simpa using oS) ?_|apply an<;>intro h|refine bq ?_|exact eg (r:=.agg (mj ⟨x1,x2,[]⟩)) (h':=bz (b3,e3)) [] [0] (.inr rfl) rfl rfl ⟨⟨rfl,rfl⟩,trivial⟩ ⟨⟨rfl,rfl⟩,trivial⟩ (aa.eU (.cons (.refl _) (.cons (.refl _) (.cons (.nil _) .nil)))) ⟨_,_,_,au.xu wr oS (Nat.le_trans l3 (Nat.le_trans l2 l1)),⟨bM o1 (by decide),bM o2 (by decide),dO⟩,rfl,rfl⟩
theorem Dq [Wd] (bs:List UInt8):bC prog 77 [.list 1 (bs.map af)] [] (fun r h=>r=.ptr 0 0/\h=bz (bs,0)):=by
 refine ak 6 [] func77 ?_
 repeat' (conv=>arg 2;whnf);first|exact mL (r:=.ptr 0 0) (h':=bz (bs,0)) [0] (.inr rfl) rfl rfl ⟨⟨rfl,rfl⟩,trivial⟩ trivial (.refl _)
theorem OJ [Wd]:lX 78 [] eF fD.ok (fun x=>.agg (cC x)):=by
 intro b0 e0 h0
 refine iV 70 [(14,⟨(.one 0 false (.one 2 false (.alt 1 (.one 3 true (.one 4 true (.one 5 true (.one 6 true (.one 7 false (.one 8 true .done)))))) (.one 3 true (.alt 1 (.one 4 true (.one 5 true (.one 6 true (.one 7 false (.one 8 true .done))))) (.one 4 true (.alt 1 (.one 5 true (.one 6 true (.one 7 false (.one 8 true .done)))) (.one 5 true (.one 1 true (.one 6 true (.one 7 false (.one 8 true .done)))))))))))),[0,2,3]⟩)] func78 ?_
 repeat' (conv=>arg 2;whnf);first|refine aY ?_|refine aV ?_ ?_
 conv=>arg 2;whnf
 refine aW 0 (mg 4 (by decide)) b0 e0 h0 fun x1 b1 e1 a1 o1 l1=>?_
 have h1:b1.length<=8388609:=by omega
 have hM:((MX:Nat):Int)=9007199254740992:=rfl
 unfold eF
 have Ul:x1=0\/x1=1\/x1=2\/x1=3\/x1=4:=by omega
 have BX:∀{x:bt} {u:RS},au (lP x1) (b1,e1) x u->au (bN Prod.snd (cN (nR 4) lP)) (b0,e0) x u:=fun h=>(a1.bind h IP).map Prod.snd
 rcases Ul with rfl|rfl|rfl|rfl|rfl
 ·have hf:=E0 0 (by decide) (by decide) (by decide) (by decide)
  repeat' (conv=>arg 2;whnf);first|refine bw (by decide) ?_|refine okF hf ?_
  have gb:=BX ((au.pure (⟨0,[],[],0,[]⟩:bt) (b1,e1)).to (by unfold lP;rw[if_pos rfl]) rfl)
  have hc:=pq (⟨0,[],[],0,[]⟩:bt) jh
  by_cases hE:e1=0
  ·subst hE
   by_cases hk:bS (⟨0,[],[],0,[]⟩:bt)=0
   ·rw[hk] at hc
    repeat' (conv=>arg 2;whnf);first|refine iU hc (.cons .z .nil) ?_|refine cV [0] (vK b1) ?_|(refine eg (r:=.agg (cC (⟨0,[],[],0,[]⟩:bt))) (h':=bz (b1,0)) [] [0] (.inr rfl) rfl rfl ⟨⟨rfl,rfl⟩,trivial⟩ ⟨⟨rfl,rfl⟩,trivial⟩ .z ⟨_,_,_,((gb.gQ (fun _=>hk)).zero (fun _=>rfl)),jh,rfl,rfl⟩;done)
   ·repeat' (conv=>arg 2;whnf);first|refine iU hc (.cons .z .nil) ?_|refine cV [0] (kF hk b1) ?_|(refine eg (r:=.agg (cC za)) (h':=bz ([],bS (⟨0,[],[],0,[]⟩:bt))) [] [0] (.inr rfl) rfl rfl ⟨⟨rfl,rfl⟩,trivial⟩ ⟨⟨rfl,rfl⟩,trivial⟩ .z ⟨_,_,_,((gb.nM (y:=za) (u:=([],bS (⟨0,[],[],0,[]⟩:bt))) (fun _=>hk) hk (Nat.zero_le _)).zero (fun _=>rfl)),jh,rfl,rfl⟩;done)
  ·repeat' (conv=>arg 2;whnf);first|refine bB (by simpa using hE) ?_|refine bY (by simpa using hE) ?_|(refine eg (r:=.agg (cC za)) (h':=bz (b1,e1)) [] [0] (.inr rfl) rfl rfl ⟨⟨rfl,rfl⟩,trivial⟩ ⟨⟨rfl,rfl⟩,trivial⟩ .z ⟨_,_,_,((gb.gQ (fun e=>absurd e hE)).zero (fun e=>absurd e hE)),jh,rfl,rfl⟩;done)
 ·have hf:=ID
  repeat' (conv=>arg 2;whnf);first|refine bw (by decide) ?_|refine okF hf ?_
  conv=>arg 2;whnf
  refine aW 0 (sD 64 (by decide)) b1 e1 h1 fun x2 b2 e2 a2 o2 l2=>?_
  have h2:b2.length<=8388609:=by omega
  repeat' (conv=>arg 2;whnf);first|refine j8 x2 rfl ?_|refine aT (by omega) ?_
  have gb:=BX ((a2.map (fun t=>(⟨1,t,[],0,[]⟩:bt))).to (by unfold lP;rw[if_neg (by decide),if_pos rfl]) rfl)
  have hc:=pq (⟨1,x2,[],0,[]⟩:bt) ⟨bM (n:=1) (m:=1) (by omega) (by decide),(Nat.le_trans o2 (by decide)),Nat.zero_le _,bu,dO⟩
  by_cases hE:e2=0
  ·subst hE
   by_cases hk:bS (⟨1,x2,[],0,[]⟩:bt)=0
   ·rw[hk] at hc
    repeat' (conv=>arg 2;whnf);first|refine iU hc (.cons .z .nil) ?_|refine cV [0] (vK b2) ?_|(refine eg (r:=.agg (cC (⟨1,x2,[],0,[]⟩:bt))) (h':=bz (b2,0)) [] [0] (.inr rfl) rfl rfl ⟨⟨rfl,rfl⟩,trivial⟩ ⟨⟨rfl,rfl⟩,trivial⟩ .z ⟨_,_,_,((gb.gQ (fun _=>hk)).zero (fun _=>rfl)),⟨bM (n:=1) (m:=1) (by omega) (by decide),(Nat.le_trans o2 (by decide)),Nat.zero_le _,bu,dO⟩,rfl,rfl⟩;done)
   ·repeat' (conv=>arg 2;whnf);first|refine iU hc (.cons .z .nil) ?_|refine cV [0] (kF hk b2) ?_|refine bY (by simpa using hk) ?_|(refine eg (r:=.agg (cC za)) (h':=bz ([],bS (⟨1,x2,[],0,[]⟩:bt))) [] [0] (.inr rfl) rfl rfl ⟨⟨rfl,rfl⟩,trivial⟩ ⟨⟨rfl,rfl⟩,trivial⟩ .z ⟨_,_,_,((gb.nM (y:=za) (u:=([],bS (⟨1,x2,[],0,[]⟩:bt))) (fun _=>hk) hk (Nat.zero_le _)).zero (fun _=>rfl)),jh,rfl,rfl⟩;done)
  ·repeat' (conv=>arg 2;whnf);first|refine bB (by simpa using hE) ?_|refine bY (by simpa using hE) ?_|(refine eg (r:=.agg (cC za)) (h':=bz (b2,e2)) [] [0] (.inr rfl) rfl rfl ⟨⟨rfl,rfl⟩,trivial⟩ ⟨⟨rfl,rfl⟩,trivial⟩ .z ⟨_,_,_,((gb.gQ (fun e=>absurd e hE)).zero (fun e=>absurd e hE)),jh,rfl,rfl⟩;done)
 ·have hf:=IE
  repeat' (conv=>arg 2;whnf);first|refine bw (by decide) ?_|refine okF hf ?_
  conv=>arg 2;whnf
  refine aW 0 (sD 64 (by decide)) b1 e1 h1 fun x2 b2 e2 a2 o2 l2=>?_
  have h2:b2.length<=8388609:=by omega
  repeat' (conv=>arg 2;whnf);first|refine j8 x2 rfl ?_|refine aT (by omega) ?_
  conv=>arg 2;whnf
  refine aW 0 (mg 4 (by decide)) b2 e2 h2 fun x3 b3 e3 a3 o3 l3=>?_
  have h3:b3.length<=8388609:=by omega
  repeat' (conv=>arg 2;whnf);first|refine gJ ?_
  conv=>arg 2;whnf
  refine bE (α:=Nat×List (List UInt8)×List UInt8×Int) (fun a=>match a.2.1 with
   |[]=>⟨[(9,.int .i64 a.1),(8,.int .i64 x3),(3,.ptr 2 0),(2,.ptr 1 0),(0,.ptr 0 0)],[.cells 176 [.list 1 (a.2.2.1.map af),.int .i64 a.2.2.2],.cells 40 [.int .i64 0,.str [],.str [],.int .i64 0,.nils],.cells 40 [.int .i64 2,.str x2,.str [],.int .i64 0,.nils]]⟩
   |y::k=>⟨[(9,.int .i64 a.1),(8,.int .i64 x3),(3,.ptr 2 0),(2,.ptr 1 0),(0,.ptr 0 0)],[.cells 176 [.list 1 (a.2.2.1.map af),.int .i64 a.2.2.2],.cells 40 [.int .i64 0,.str [],.str [],.int .i64 0,.nils],.cells 40 [.int .i64 2,.str x2,.str [],.int .i64 0,.row 3],.row 51 1 ((y::k).map gS)]⟩) (fun a=>a.1<=x3.toNat/\au (dG (fB 64) a.1) (b3,e3) a.2.1 (a.2.2.1,a.2.2.2)/\(∀z∈a.2.1,(fun x=>x.length<=64) z)/\a.2.1.length=a.1) (fun a=>x3.toNat-a.1) (0,[],b3,e3) ⟨Nat.zero_le _,au.nil _,fun z hz=>(List.not_mem_nil hz).elim,rfl⟩ (Sv.aK [0,1,3]) ?_
  rintro⟨q,l,bl,el⟩ ⟨hq,hA,hO,hn⟩
  replace hq:q<=x3.toNat:=hq
  replace hA:au (dG (fB 64) q) (b3,e3) l (bl,el):=hA
  replace hO:∀z∈l,(fun x=>x.length<=64) z:=hO
  replace hn:l.length=q:=hn
  have dJ:bl.length<=8388609:=Nat.le_trans hA.len (by assumption)
  have fL:l.length<=4194304:=by omega
  cases l with
  |nil=>
   by_cases ey:(q:Int)<x3
   ·have hlt:=ey
    repeat' (conv=>arg 2;whnf);first|refine bZ (by(try dsimp only);omega) ?_|refine aV ?_ ?_|refine bY (by simp;omega) ?_|refine aW 0 (sD 64 (by decide)) bl el dJ fun x9 b9 e9 a9 o9 l9=>?_|refine aT (by constructor<;>(simp only[List.length_cons,List.length_nil,List.length_map,maxLen] at hn ⊢;omega)) ?_|exact aZ (q+1,[x9],b9,e9) (Sv.mk' [0,1,2,5] rfl ⟨⟨rfl,rfl⟩,⟨rfl,rfl⟩,⟨rfl,rfl⟩,⟨rfl,by show AO.row _ _ ([]++[gS x9])=AO.row _ _ _;simp⟩,trivial⟩ ⟨rfl,rfl,rfl,rfl,rfl,trivial⟩) ⟨by show q+1<=_;omega,hA.snoc (iB 64) a9,fun z hz=>by first|(rcases List.mem_append.1 hz with hz|hz;exact hO z hz;rw[List.mem_singleton.1 hz];exact o9)|(rw[List.mem_singleton.1 hz];exact o9),by simp at hn ⊢;omega⟩ (by show x3.toNat-(q+1)<x3.toNat-q;omega)
   ·have hx:q=x3.toNat:=by omega
    have hG:=hA.all hx
    all_goals
     repeat' (conv=>arg 2;whnf);first|refine bB (by simp;omega) ?_|refine bq ?_
     have gb:=BX (((a2.pair ((a3.bind (q:=fun n:Int=>dG (fB 64) n.toNat) hG (fun n=>w7 (iB 64) _)).map Prod.snd) (((dD 4).bind fun n=>w7 (iB 64) _).map Prod.snd)).map (fun z=>(⟨2,z.1,[],0,z.2⟩:bt))).to (by unfold lP;rw[if_neg (by decide),if_neg (by decide),if_pos rfl]) rfl)
     have hc:=pq (⟨2,x2,[],0,[]⟩:bt) ⟨bM (n:=2) (m:=2) (by omega) (by decide),(Nat.le_trans o2 (by decide)),Nat.zero_le _,bu,fL,fun z hz=>Nat.le_trans (hO z hz) (by decide)⟩
     by_cases hE:el=0
     ·subst hE
      by_cases hk:bS (⟨2,x2,[],0,[]⟩:bt)=0
      ·rw[hk] at hc
       repeat' (conv=>arg 2;whnf);first|refine iU hc (.cons .z .nil) ?_|refine cV [0] (vK bl) ?_|(refine eg (r:=.agg (cC (⟨2,x2,[],0,[]⟩:bt))) (h':=bz (bl,0)) [] [0] (.inr rfl) rfl rfl ⟨⟨rfl,rfl⟩,trivial⟩ ⟨⟨rfl,rfl⟩,trivial⟩ .z ⟨_,_,_,((gb.gQ (fun _=>hk)).zero (fun _=>rfl)),⟨bM (n:=2) (m:=2) (by omega) (by decide),(Nat.le_trans o2 (by decide)),Nat.zero_le _,bu,fL,fun z hz=>Nat.le_trans (hO z hz) (by decide)⟩,rfl,rfl⟩;done)
      ·repeat' (conv=>arg 2;whnf);first|refine iU hc (.cons .z .nil) ?_|refine cV [0] (kF hk bl) ?_|refine bY (by simpa using hk) ?_|(refine eg (r:=.agg (cC za)) (h':=bz ([],bS (⟨2,x2,[],0,[]⟩:bt))) [] [0] (.inr rfl) rfl rfl ⟨⟨rfl,rfl⟩,trivial⟩ ⟨⟨rfl,rfl⟩,trivial⟩ .z ⟨_,_,_,((gb.nM (y:=za) (u:=([],bS (⟨2,x2,[],0,[]⟩:bt))) (fun _=>hk) hk (Nat.zero_le _)).zero (fun _=>rfl)),jh,rfl,rfl⟩;done)
     ·repeat' (conv=>arg 2;whnf);first|refine bB (by simpa using hE) ?_|refine bY (by simpa using hE) ?_|(refine eg (r:=.agg (cC za)) (h':=bz (bl,el)) [] [0] (.inr rfl) rfl rfl ⟨⟨rfl,rfl⟩,trivial⟩ ⟨⟨rfl,rfl⟩,trivial⟩ .z ⟨_,_,_,((gb.gQ (fun e=>absurd e hE)).zero (fun e=>absurd e hE)),jh,rfl,rfl⟩;done)
  |cons y k=>
   by_cases ey:(q:Int)<x3
   ·have hlt:=ey
    repeat' (conv=>arg 2;whnf);first|refine bZ (by(try dsimp only);omega) ?_|refine aV ?_ ?_|refine bY (by simp;omega) ?_|refine aW 0 (sD 64 (by decide)) bl el dJ fun x9 b9 e9 a9 o9 l9=>?_|refine aT (by constructor<;>(simp only[List.length_cons,List.length_nil,List.length_map,maxLen] at hn ⊢;omega)) ?_|exact aZ (q+1,((y::k)++[x9]),b9,e9) (Sv.mk' [0,1,2,6] rfl ⟨⟨rfl,rfl⟩,⟨rfl,rfl⟩,⟨rfl,rfl⟩,⟨rfl,by show AO.row _ _ ((y::k).map gS++[gS x9])=AO.row _ _ _;simp⟩,trivial⟩ ⟨rfl,rfl,rfl,rfl,rfl,trivial⟩) ⟨by show q+1<=_;omega,hA.snoc (iB 64) a9,fun z hz=>by first|(rcases List.mem_append.1 hz with hz|hz;exact hO z hz;rw[List.mem_singleton.1 hz];exact o9)|(rw[List.mem_singleton.1 hz];exact o9),by simp at hn ⊢;omega⟩ (by show x3.toNat-(q+1)<x3.toNat-q;omega)
   ·have hx:q=x3.toNat:=by omega
    have hG:=hA.all hx
    all_goals
     repeat' (conv=>arg 2;whnf);first|refine bB (by simp;omega) ?_|refine bq ?_
     have gb:=BX (((a2.pair ((a3.bind (q:=fun n:Int=>dG (fB 64) n.toNat) hG (fun n=>w7 (iB 64) _)).map Prod.snd) (((dD 4).bind fun n=>w7 (iB 64) _).map Prod.snd)).map (fun z=>(⟨2,z.1,[],0,z.2⟩:bt))).to (by unfold lP;rw[if_neg (by decide),if_neg (by decide),if_pos rfl]) rfl)
     have hc:=pq (⟨2,x2,[],0,(y::k)⟩:bt) ⟨bM (n:=2) (m:=2) (by omega) (by decide),(Nat.le_trans o2 (by decide)),Nat.zero_le _,bu,fL,fun z hz=>Nat.le_trans (hO z hz) (by decide)⟩
     by_cases hE:el=0
     ·subst hE
      by_cases hk:bS (⟨2,x2,[],0,(y::k)⟩:bt)=0
      ·rw[hk] at hc
       repeat' (conv=>arg 2;whnf);first|refine BY [3] hc rfl (.cons .z .nil) rfl ?_|refine cV [0] (vK bl) ?_|(refine eg (r:=.agg (cC (⟨2,x2,[],0,(y::k)⟩:bt))) (h':=bz (bl,0)) [3] [0] (.inr rfl) rfl rfl ⟨⟨rfl,rfl⟩,trivial⟩ ⟨⟨rfl,rfl⟩,trivial⟩ .z ⟨_,_,_,((gb.gQ (fun _=>hk)).zero (fun _=>rfl)),⟨bM (n:=2) (m:=2) (by omega) (by decide),(Nat.le_trans o2 (by decide)),Nat.zero_le _,bu,fL,fun z hz=>Nat.le_trans (hO z hz) (by decide)⟩,rfl,rfl⟩;done)
      ·repeat' (conv=>arg 2;whnf);first|refine BY [3] hc rfl (.cons .z .nil) rfl ?_|refine cV [0] (kF hk bl) ?_|refine bY (by simpa using hk) ?_|(refine eg (r:=.agg (cC za)) (h':=bz ([],bS (⟨2,x2,[],0,(y::k)⟩:bt))) [] [0] (.inr rfl) rfl rfl ⟨⟨rfl,rfl⟩,trivial⟩ ⟨⟨rfl,rfl⟩,trivial⟩ .z ⟨_,_,_,((gb.nM (y:=za) (u:=([],bS (⟨2,x2,[],0,(y::k)⟩:bt))) (fun _=>hk) hk (Nat.zero_le _)).zero (fun _=>rfl)),jh,rfl,rfl⟩;done)
     ·repeat' (conv=>arg 2;whnf);first|refine bB (by simpa using hE) ?_|refine bY (by simpa using hE) ?_|(refine eg (r:=.agg (cC za)) (h':=bz (bl,el)) [] [0] (.inr rfl) rfl rfl ⟨⟨rfl,rfl⟩,trivial⟩ ⟨⟨rfl,rfl⟩,trivial⟩ .z ⟨_,_,_,((gb.gQ (fun e=>absurd e hE)).zero (fun e=>absurd e hE)),jh,rfl,rfl⟩;done)
 ·have hf:=IF
  repeat' (conv=>arg 2;whnf);first|refine bw (by decide) ?_|refine okF hf ?_
  conv=>arg 2;whnf
  refine aW 0 (sD 64 (by decide)) b1 e1 h1 fun x2 b2 e2 a2 o2 l2=>?_
  have h2:b2.length<=8388609:=by omega
  repeat' (conv=>arg 2;whnf);first|refine j8 x2 rfl ?_|refine aT (by omega) ?_
  conv=>arg 2;whnf
  refine aW 0 (sD 64 (by decide)) b2 e2 h2 fun x3 b3 e3 a3 o3 l3=>?_
  have h3:b3.length<=8388609:=by omega
  repeat' (conv=>arg 2;whnf);first|refine j8 x3 rfl ?_|refine aT (by omega) ?_
  conv=>arg 2;whnf
  refine aW 0 (mg MX (by decide)) b3 e3 h3 fun x4 b4 e4 a4 o4 l4=>?_
  have h4:b4.length<=8388609:=by omega
  repeat' (conv=>arg 2;whnf);first|refine gJ ?_
  have gb:=BX (((a2.pair (a3.pair a4 (dD _)) ((iB _).pair (dD _))).map (fun z=>(⟨3,z.1,z.2.1,z.2.2,[]⟩:bt))).to (by unfold lP;rw[if_neg (by decide),if_neg (by decide),if_neg (by decide),if_pos rfl]) rfl)
  have hc:=pq (⟨3,x2,x3,x4,[]⟩:bt) ⟨bM (n:=3) (m:=3) (by omega) (by decide),(Nat.le_trans o2 (by decide)),(Nat.le_trans o3 (by decide)),bM o4 (by decide),dO⟩
  by_cases hE:e4=0
  ·subst hE
   by_cases hk:bS (⟨3,x2,x3,x4,[]⟩:bt)=0
   ·rw[hk] at hc
    repeat' (conv=>arg 2;whnf);first|refine iU hc (.cons .z .nil) ?_|refine cV [0] (vK b4) ?_|(refine eg (r:=.agg (cC (⟨3,x2,x3,x4,[]⟩:bt))) (h':=bz (b4,0)) [] [0] (.inr rfl) rfl rfl ⟨⟨rfl,rfl⟩,trivial⟩ ⟨⟨rfl,rfl⟩,trivial⟩ .z ⟨_,_,_,((gb.gQ (fun _=>hk)).zero (fun _=>rfl)),⟨bM (n:=3) (m:=3) (by omega) (by decide),(Nat.le_trans o2 (by decide)),(Nat.le_trans o3 (by decide)),bM o4 (by decide),dO⟩,rfl,rfl⟩;done)
   ·repeat' (conv=>arg 2;whnf);first|refine iU hc (.cons .z .nil) ?_|refine cV [0] (kF hk b4) ?_|refine bY (by simpa using hk) ?_|(refine eg (r:=.agg (cC za)) (h':=bz ([],bS (⟨3,x2,x3,x4,[]⟩:bt))) [] [0] (.inr rfl) rfl rfl ⟨⟨rfl,rfl⟩,trivial⟩ ⟨⟨rfl,rfl⟩,trivial⟩ .z ⟨_,_,_,((gb.nM (y:=za) (u:=([],bS (⟨3,x2,x3,x4,[]⟩:bt))) (fun _=>hk) hk (Nat.zero_le _)).zero (fun _=>rfl)),jh,rfl,rfl⟩;done)
  ·repeat' (conv=>arg 2;whnf);first|refine bB (by simpa using hE) ?_|refine bY (by simpa using hE) ?_|(refine eg (r:=.agg (cC za)) (h':=bz (b4,e4)) [] [0] (.inr rfl) rfl rfl ⟨⟨rfl,rfl⟩,trivial⟩ ⟨⟨rfl,rfl⟩,trivial⟩ .z ⟨_,_,_,((gb.gQ (fun e=>absurd e hE)).zero (fun e=>absurd e hE)),jh,rfl,rfl⟩;done)
 ·have hf:=IG
  repeat' (conv=>arg 2;whnf);first|refine bw (by decide) ?_|refine okF hf ?_
  conv=>arg 2;whnf
  refine aW 0 (sD 64 (by decide)) b1 e1 h1 fun x2 b2 e2 a2 o2 l2=>?_
  have h2:b2.length<=8388609:=by omega
  repeat' (conv=>arg 2;whnf);first|refine j8 x2 rfl ?_|refine aT (by omega) ?_
  conv=>arg 2;whnf
  refine aW 0 (mg MX (by decide)) b2 e2 h2 fun x3 b3 e3 a3 o3 l3=>?_
  have h3:b3.length<=8388609:=by omega
  repeat' (conv=>arg 2;whnf);first|refine gJ ?_
  have gb:=BX (((a2.pair a3 (dD _)).map (fun z=>(⟨4,z.1,[],z.2,[]⟩:bt))).to (by unfold lP;rw[if_neg (by decide),if_neg (by decide),if_neg (by decide),if_neg (by decide)]) rfl)
  have hc:=pq (⟨4,x2,[],x3,[]⟩:bt) ⟨bM (n:=4) (m:=4) (by omega) (by decide),(Nat.le_trans o2 (by decide)),Nat.zero_le _,bM o3 (by decide),dO⟩
  by_cases hE:e3=0
  ·subst hE
   by_cases hk:bS (⟨4,x2,[],x3,[]⟩:bt)=0
   ·rw[hk] at hc
    repeat' (conv=>arg 2;whnf);first|refine iU hc (.cons .z .nil) ?_|refine cV [0] (vK b3) ?_|(refine eg (r:=.agg (cC (⟨4,x2,[],x3,[]⟩:bt))) (h':=bz (b3,0)) [] [0] (.inr rfl) rfl rfl ⟨⟨rfl,rfl⟩,trivial⟩ ⟨⟨rfl,rfl⟩,trivial⟩ .z ⟨_,_,_,((gb.gQ (fun _=>hk)).zero (fun _=>rfl)),⟨bM (n:=4) (m:=4) (by omega) (by decide),(Nat.le_trans o2 (by decide)),Nat.zero_le _,bM o3 (by decide),dO⟩,rfl,rfl⟩;done)
   ·repeat' (conv=>arg 2;whnf);first|refine iU hc (.cons .z .nil) ?_|refine cV [0] (kF hk b3) ?_|refine bY (by simpa using hk) ?_|(refine eg (r:=.agg (cC za)) (h':=bz ([],bS (⟨4,x2,[],x3,[]⟩:bt))) [] [0] (.inr rfl) rfl rfl ⟨⟨rfl,rfl⟩,trivial⟩ ⟨⟨rfl,rfl⟩,trivial⟩ .z ⟨_,_,_,((gb.nM (y:=za) (u:=([],bS (⟨4,x2,[],x3,[]⟩:bt))) (fun _=>hk) hk (Nat.zero_le _)).zero (fun _=>rfl)),jh,rfl,rfl⟩;done)
  ·repeat' (conv=>arg 2;whnf);first|refine bB (by simpa using hE) ?_|refine bY (by simpa using hE) ?_|(refine eg (r:=.agg (cC za)) (h':=bz (b3,e3)) [] [0] (.inr rfl) rfl rfl ⟨⟨rfl,rfl⟩,trivial⟩ ⟨⟨rfl,rfl⟩,trivial⟩ .z ⟨_,_,_,((gb.gQ (fun e=>absurd e hE)).zero (fun e=>absurd e hE)),jh,rfl,rfl⟩;done)
theorem JE {s:RS} (h:¬s.2=0):dA s=s.2:=if_neg h
theorem F3 {b:List UInt8} {e:Int} (h:dA (b,e)=0):e=0:=Classical.byContradiction fun n=>n ((JE (s:=(b,e)) n).symm.trans h)
def Rz (bs:List UInt8) (x:ju) (k:Int):Prop:=su.ok x/\(k=0->jm bs=(x,0))/\(¬k=0->¬(jm bs).2=0)
theorem abP {bs b:List UInt8} {x:ju} {e:Int} (g:au vL (bs,0) x (b,e)):(dA (b,e)=0->¬x.time=0->jm bs=(x,0))/\((¬dA (b,e)=0\/x.time=0)->¬(jm bs).2=0):=by
 by_cases he:e=0
 ·subst he
  have e1:=g.kM rfl
  unfold jm
  rw[e1]
  refine⟨fun h1 h2=>?_,fun h=>?_⟩
  ·simp only[h1,if_true]
   rw[if_neg h2]
  ·simp only
   split
   ·rename_i h1
    rw[if_pos (h.resolve_left (fun n=>n h1))]
    decide
   ·assumption
 ·have hb:=g.bad he
  have hd:dA (vL (bs,0)).2=(vL (bs,0)).2.2:=JE hb
  refine⟨fun h=>absurd (F3 h) he,fun _=>?_⟩
  unfold jm
  rw[hd,if_neg hb]
  exact hb
theorem E5 {s t:RS} {x b9:List UInt8} {y:ju} {k:Int} {z:bJ} (a:au (fB 1024) s x (b9,0)) (q:Rz x y k) (h:(k=0/\au cO (b9,0) z t)\/(¬k=0/\au cO ([],k) z t)):au jj s ⟨y,z⟩ t:=by
 rcases h with⟨hk,h⟩|⟨hk,h⟩
 ·have e1:=q.2.1 hk
  have g:=((a.gQ (f:=fun x=>(jm x).2) (fun _=>by rw[e1])).pair h eM).map (fun z:List UInt8×bJ=>(⟨(jm z.1).1,z.2⟩:bX))
  exact g.to rfl (by simp[e1])
 ·have g:=((a.nM (y:=x) (u:=([],k)) (f:=fun x=>(jm x).2) (fun _=>q.2.2 hk) hk (Nat.zero_le _)).pair h eM).map (fun z:List UInt8×bJ=>(⟨(jm z.1).1,z.2⟩:bX))
  exact .xu (g.bad (h.stay eM hk)) (h.stay eM hk) g.len
theorem N9 {s t:RS} {x:List UInt8} (a:au (fB 1024) s x t) (h:¬t.2=0):¬(jj s).2.2=0:=
 C8 <| CZ (p:=fZ (fB 1024) fun x=>(jm x).2) (q:=fun _=>cO) (fun _=>eM) ((a.gQ (f:=fun x=>(jm x).2) (fun e=>absurd e h)).bad h)
theorem ZL {s0 s1 s2 s3 s4 s5 s6:RS} {x1 x2 x3:Int} {x4:bJ} {x5:List bJ} {x6:List bX} (a1:au (bF 0) s0 x1 s1) (a2:au (bF 1) s1 x2 s2) (a3:au (bF 1) s2 x3 s3) (a4:au cO s3 x4 s4) (a5:au uC s4 x5 s5) (a6:au jZ s5 x6 s6):au jB s0 ⟨x1,x2,x3,x4,x5,x6⟩ s6:=
 (a1.pair (a2.pair (a3.pair (a4.pair (a5.pair a6 oD) (Bm.pair oD)) (eM.pair (Bm.pair oD))) ((bV _).pair (eM.pair (Bm.pair oD)))) ((bV _).pair ((bV _).pair (eM.pair (Bm.pair oD))))).map (fun z:Int×Int×Int×bJ×List bJ×List bX=>(⟨z.1,z.2.1,z.2.2.1,z.2.2.2.1,z.2.2.2.2.1,z.2.2.2.2.2⟩:jt))
theorem QM {s0 s1 s2 s3 s4 s5 s6:RS} {x1 x2 x4:Int} {x3:gX} {l:List jt} {x7:bJ} (a1:au (bF 1) s0 x1 s1) (a2:au (nR 12) s1 x2 s2) (a3:au lT s2 x3 s3) (a4:au (ia 8) s3 x4 s4) (hG:au (aP jB x4.toNat) s4 l s5) (a7:au cO s5 x7 s6):au iE s0 ⟨x1,x2,x3,l,x7⟩ s6:=
 (a1.pair (a2.pair (a3.pair ((a4.cY uv hG).pair a7 eM) ((jL uv _).pair eM)) (uw.pair ((jL uv _).pair eM))) ((dD _).pair (uw.pair ((jL uv _).pair eM)))).map (fun z:Int×Int×gX×List jt×bJ=>(⟨z.1,z.2.1,z.2.2.1,z.2.2.2.1,z.2.2.2.2⟩:cX))
theorem qG [Wd] {Q:Exit->S->Prop} {bR:List D} {hb:List AO} {c:D->List AO->T} (o:Nat) (b:List UInt8) (e:Int) (hv:jF hb [o] [o] (bz (b,e))) (hc:aa bR [.ptr o 0]) (hM:([o].all fun o=>(jT hb bR).elem o)=true) (k:(c (.int .i64 (dA (b,e))) (lK hb [o] (bz (b,e)) (bz (b,e)))).ok prog Q):(T.call 79 bR hb c).ok prog Q:=
 mA [o] (abL b e) (.mk' rfl hv) hc hM k
theorem NN [Wd] (bs:List UInt8) (kC:bs.length<=8388609):bC prog 247 [.list 1 (bs.map af)] [] (fun r h=>(∃x k,Rz bs x k/\r=.aj [.agg (sw x),.int .i64 k])/\h=[]):=by
 refine ak 32 [] func247 ?_
 repeat' (conv=>arg 2;whnf);first|refine cV [] (Dq bs) ?_
 conv=>arg 2;whnf
 refine aW 1 (mg 7 (by decide)) bs 0 kC fun x1 b1 e1 a1 o1 l1=>?_
 have h1:b1.length<=8388609:=by omega
 have Ep:0<=x1/\x1<=7:=o1
 repeat' (conv=>arg 2;whnf);first|refine gJ ?_
 conv=>arg 2;whnf
 refine aW 1 (mg MX (by decide)) b1 e1 h1 fun x2 b2 e2 a2 o2 l2=>?_
 have h2:b2.length<=8388609:=by omega
 have L7:0<=x2/\x2<=9007199254740992:=o2
 repeat' (conv=>arg 2;whnf);first|refine gJ ?_
 conv=>arg 2;whnf
 refine aW 1 (OJ) b2 e2 h2 fun x3 b3 e3 a3 o3 l3=>?_
 have h3:b3.length<=8388609:=by omega
 have g:au vL (bs,0) ⟨x1,x2,x3⟩ (b3,e3):=(a1.pair (a2.pair a3 DE) ((dD _).pair DE)).map (fun z:Int×Int×bt=>(⟨z.1,z.2.1,z.2.2⟩:ju))
 obtain⟨q1,q2⟩:=abP g
 have d1:su.ok ⟨x1,x2,x3⟩:=⟨bM Ep (by decide),bM L7 (by decide),o3⟩
 have dz:su.ok wu:=⟨bu,bu,jh⟩
 by_cases hD:dA (b3,e3)=0
 ·by_cases ht:x2=0
  ·repeat' (conv=>arg 2;whnf);first|refine qG 1 b3 e3 ⟨⟨rfl,rfl⟩,trivial⟩ (aa.refl _) rfl ?_|(rw[hD])|refine bY (by simpa using ht) ?_|exact bf (r:=.aj [.agg (sw wu),.int .i64 80]) (h':=[]) [] (.inr rfl) rfl rfl trivial trivial .y ⟨⟨_,_,⟨dz,fun h=>absurd h (by decide),fun _=>q2 (.inr ht)⟩,rfl⟩,rfl⟩
  ·repeat' (conv=>arg 2;whnf);first|refine qG 1 b3 e3 ⟨⟨rfl,rfl⟩,trivial⟩ (aa.refl _) rfl ?_|refine bY (by simpa using hD) ?_|refine bB (by simpa using ht) ?_|refine bB (by simpa using hD) ?_|exact bf (r:=.aj [.agg (sw ⟨x1,x2,x3⟩),.int .i64 0]) (h':=[]) [] (.inr rfl) rfl rfl trivial trivial .y ⟨⟨_,_,⟨d1,fun _=>q1 hD ht,fun h=>absurd rfl h⟩,rfl⟩,rfl⟩
 ·repeat' (conv=>arg 2;whnf);first|refine qG 1 b3 e3 ⟨⟨rfl,rfl⟩,trivial⟩ (aa.refl _) rfl ?_|refine bB (by simpa using hD) ?_|refine bY (by simpa using hD) ?_|exact bf (r:=.aj [.agg (sw wu),.int .i64 (dA (b3,e3))]) (h':=[]) [] (.inr rfl) rfl rfl trivial trivial .y ⟨⟨_,_,⟨dz,fun h=>absurd h hD,fun _=>q2 (.inl hD)⟩,rfl⟩,rfl⟩
theorem zk [Wd]:lX 180 [] jZ (dL fX).ok (fun l=>.list 9 (l.map bI)):=by
 intro b0 e0 h0
 refine iV 61 [(10,⟨.of [(0,false),(1,false),(2,false),(3,true),(4,false),(5,true),(6,true),(7,false)],[0,1,1003,1006]⟩)] func180 ?_
 repeat' (conv=>arg 2;whnf);first|refine aY ?_|refine aV ?_ ?_
 conv=>arg 2;whnf
 refine aW 0 (mg 4 (by decide)) b0 e0 h0 fun x1 b1 e1 a1 o1 l1=>?_
 have h1:b1.length<=8388609:=by omega
 repeat' (conv=>arg 2;whnf);first|refine gJ ?_
 conv=>arg 2;whnf
 refine bE (α:=Nat×List bX×List UInt8×Int) (fun a=>match a.2.1 with
  |[]=>⟨[(5,.int .i64 a.1),(4,.nils),(3,.int .i64 x1),(0,.ptr 0 0)],[.cells 176 [.list 1 (a.2.2.1.map af),.int .i64 a.2.2.2]]⟩
  |y::k=>⟨[(5,.int .i64 a.1),(4,.row 1),(3,.int .i64 x1),(0,.ptr 0 0)],[.cells 176 [.list 1 (a.2.2.1.map af),.int .i64 a.2.2.2],.row 183 9 ((y::k).map bI)]⟩) (fun a=>a.1<=x1.toNat/\au (dG jj a.1) (b1,e1) a.2.1 (a.2.2.1,a.2.2.2)/\(∀z∈a.2.1,fX.ok z)/\a.2.1.length=a.1) (fun a=>x1.toNat-a.1) (0,[],b1,e1) ⟨Nat.zero_le _,au.nil _,fun z hz=>(List.not_mem_nil hz).elim,rfl⟩ (Sv.aK [0]) ?_
 rintro⟨q,l,bl,el⟩ ⟨hq,hA,hO,hn⟩
 replace hq:q<=x1.toNat:=hq
 replace hA:au (dG jj q) (b1,e1) l (bl,el):=hA
 replace hO:∀z∈l,fX.ok z:=hO
 replace hn:l.length=q:=hn
 have dJ:bl.length<=8388609:=Nat.le_trans hA.len (by assumption)
 have fL:l.length<=4194304:=by omega
 cases l with
 |nil=>
  by_cases ey:(q:Int)<x1/\el=0
  ·obtain⟨hlt,rfl⟩:=ey
   repeat' (conv=>arg 2;whnf);first|refine bY (by simp;omega) ?_
   conv=>arg 2;whnf
   refine aW 0 (sD 1024 (by decide)) bl 0 dJ fun x9 b9 e9 a9 o9 l9=>?_
   have h9:b9.length<=8388609:=by omega
   by_cases oq:e9=0
   ·subst oq
    repeat' (conv=>arg 2;whnf);first|refine eI (NN x9 (by omega)) rfl (aa.refl _) fun r ⟨y9,k9,q9,er⟩=>?_
    subst er
    by_cases hk:k9=0
    ·subst hk
     repeat' (conv=>arg 2;whnf);first|refine cV [0] (vK b9) ?_
     conv=>arg 2;whnf
     refine aW 0 kE (b9) (0) (by omega) fun iW tX uW yX u0 l10=>?_
     have aS:=E5 a9 q9 (.inl ⟨rfl,yX⟩)
     have L8:tX.length<=8388609:=Nat.le_trans l10 (by first|assumption|exact Nat.zero_le _)
     repeat' (conv=>arg 2;whnf);first|refine bZ (by(try dsimp only);omega) ?_|refine aT (by constructor<;>(simp only[List.length_cons,List.length_nil,maxLen] at hn ⊢;omega)) ?_|exact aZ (q+1,[bX.mk y9 iW],tX,uW) (Sv.mk' [0,5] rfl (And.intro (And.intro rfl rfl) (And.intro (And.intro rfl (by show AO.row _ _ ([]++[bI (bX.mk y9 iW)])=AO.row _ _ _;simp)) trivial)) ⟨rfl,rfl,rfl,rfl,trivial⟩) ⟨by show q+1<=_;omega,hA.snoc oB aS,fun z hz=>by first|(rcases List.mem_append.1 hz with hz|hz;exact hO z hz;rw[List.mem_singleton.1 hz];exact⟨q9.1,u0⟩)|(rw[List.mem_singleton.1 hz];exact⟨q9.1,u0⟩),by simp at hn ⊢;omega⟩ (by show x1.toNat-(q+1)<x1.toNat-q;omega)
    ·skip
     repeat' (conv=>arg 2;whnf);first|refine cV [0] (kF hk b9) ?_
     conv=>arg 2;whnf
     refine wG 0 kE ([]) (k9) (Nat.zero_le _) ⟨⟨rfl,rfl⟩,trivial⟩ (aa.refl _) rfl fun iW tX uW yX u0 l10=>?_
     have aS:=E5 a9 q9 (.inr ⟨hk,yX⟩)
     have L8:tX.length<=8388609:=Nat.le_trans l10 (by first|assumption|exact Nat.zero_le _)
     repeat' (conv=>arg 2;whnf);first|refine bZ (by(try dsimp only);omega) ?_|refine aT (by constructor<;>(simp only[List.length_cons,List.length_nil,maxLen] at hn ⊢;omega)) ?_|exact aZ (q+1,[bX.mk y9 iW],tX,uW) (Sv.mk' [0,5] rfl (And.intro (And.intro rfl rfl) (And.intro (And.intro rfl (by show AO.row _ _ ([]++[bI (bX.mk y9 iW)])=AO.row _ _ _;simp)) trivial)) ⟨rfl,rfl,rfl,rfl,trivial⟩) ⟨by show q+1<=_;omega,hA.snoc oB aS,fun z hz=>by first|(rcases List.mem_append.1 hz with hz|hz;exact hO z hz;rw[List.mem_singleton.1 hz];exact⟨q9.1,u0⟩)|(rw[List.mem_singleton.1 hz];exact⟨q9.1,u0⟩),by simp at hn ⊢;omega⟩ (by show x1.toNat-(q+1)<x1.toNat-q;omega)
   ·have aS:au jj (bl,0) QN (b9,e9):=.xu (N9 a9 oq) oq a9.len
    have hG:au (aP jj x1.toNat) (b1,e1) _ (b9,e9):=(hA.snoc oB aS).list oB (by omega) (.inr oq)
    have gm:=(a1.bind (q:=fun n:Int=>aP jj n.toNat) hG (fun n=>uB oB _)).map Prod.snd
    repeat' (conv=>arg 2;whnf);first|refine bY (by simpa using oq) ?_|refine bB (by simpa using oq) ?_|(refine eg (r:=.list 9 (([]:List bX).map bI)) (h':=bz (b9,e9)) [] [0] (.inr rfl) rfl rfl ⟨⟨rfl,rfl⟩,trivial⟩ ⟨⟨rfl,rfl⟩,trivial⟩ (.nil _) ⟨_,_,_,((gm.gQ (fun e=>absurd e oq)).zero (fun e=>absurd e oq)),dO,rfl,rfl⟩;done)
  ·have hx:q=x1.toNat\/¬el=0:=by omega
   have hG:au (aP jj x1.toNat) (b1,e1) [] (bl,el):=hA.list oB hq hx
   rcases(show(¬(q:Int)<x1)\/((q:Int)<x1/\¬el=0) by omega) with dh|⟨dh,jU⟩
   all_goals
    have gm:=((a1.bind (q:=fun n:Int=>aP jj n.toNat) hG (fun n=>uB oB _)).map Prod.snd)
    by_cases hE:el=0
    ·subst hE
     by_cases hk:fA []=0
     ·repeat' (conv=>arg 2;whnf);first|(exfalso;omega)|refine bB (by simp;omega) ?_|refine bq ?_|refine iU (vB [] ⟨Nat.zero_le _,hO⟩) (.cons (.nil _) .nil) ?_|(rw[hk];refine cV [0] (vK bl) ?_)|(refine eg (r:=.list 9 (([]:List bX).map bI)) (h':=bz (bl,0)) [] [0] (.inr rfl) rfl rfl ⟨⟨rfl,rfl⟩,trivial⟩ ⟨⟨rfl,rfl⟩,trivial⟩ (.nil _) ⟨_,_,_,((gm.gQ (fun _=>hk)).zero (fun _=>rfl)),⟨fL,hO⟩,rfl,rfl⟩;done)
     ·repeat' (conv=>arg 2;whnf);first|(exfalso;omega)|refine bB (by simp;omega) ?_|refine bq ?_|refine iU (vB [] ⟨Nat.zero_le _,hO⟩) (.cons (.nil _) .nil) ?_|refine cV [0] (kF hk bl) ?_|(refine eg (r:=.list 9 (([]:List bX).map bI)) (h':=bz ([],(fA []))) [] [0] (.inr rfl) rfl rfl ⟨⟨rfl,rfl⟩,trivial⟩ ⟨⟨rfl,rfl⟩,trivial⟩ (.nil _) ⟨_,_,_,((gm.nM (y:=[]) (u:=([],fA [])) (fun _=>hk) hk (Nat.zero_le _)).zero (fun _=>rfl)),dO,rfl,rfl⟩;done)
    ·repeat' (conv=>arg 2;whnf);first|refine bY (by simp;omega) ?_|refine bB (by simp;omega) ?_|(refine eg (r:=.list 9 (([]:List bX).map bI)) (h':=bz (bl,el)) [] [0] (.inr rfl) rfl rfl ⟨⟨rfl,rfl⟩,trivial⟩ ⟨⟨rfl,rfl⟩,trivial⟩ (.nil _) ⟨_,_,_,((gm.gQ (fun e=>absurd e hE)).zero (fun e=>absurd e hE)),dO,rfl,rfl⟩;done)
 |cons y k=>
  by_cases ey:(q:Int)<x1/\el=0
  ·obtain⟨hlt,rfl⟩:=ey
   repeat' (conv=>arg 2;whnf);first|refine bY (by simp;omega) ?_
   conv=>arg 2;whnf
   refine aW 0 (sD 1024 (by decide)) bl 0 dJ fun x9 b9 e9 a9 o9 l9=>?_
   have h9:b9.length<=8388609:=by omega
   by_cases oq:e9=0
   ·subst oq
    repeat' (conv=>arg 2;whnf);first|refine eI (NN x9 (by omega)) rfl (aa.refl _) fun r ⟨y9,k9,q9,er⟩=>?_
    subst er
    by_cases hk:k9=0
    ·subst hk
     repeat' (conv=>arg 2;whnf);first|refine cV [0] (vK b9) ?_
     conv=>arg 2;whnf
     refine aW 0 kE (b9) (0) (by omega) fun iW tX uW yX u0 l10=>?_
     have aS:=E5 a9 q9 (.inl ⟨rfl,yX⟩)
     have L8:tX.length<=8388609:=Nat.le_trans l10 (by first|assumption|exact Nat.zero_le _)
     repeat' (conv=>arg 2;whnf);first|refine bZ (by(try dsimp only);omega) ?_|refine aT (by constructor<;>(simp only[List.length_cons,List.length_nil,List.length_map,maxLen] at hn ⊢;omega)) ?_|exact aZ (q+1,((y::k)++[bX.mk y9 iW]),tX,uW) (Sv.mk' [0,6] rfl (And.intro (And.intro rfl rfl) (And.intro (And.intro rfl (by show AO.row _ _ ((y::k).map bI++[bI (bX.mk y9 iW)])=AO.row _ _ _;simp)) trivial)) ⟨rfl,rfl,rfl,rfl,trivial⟩) ⟨by show q+1<=_;omega,hA.snoc oB aS,fun z hz=>by first|(rcases List.mem_append.1 hz with hz|hz;exact hO z hz;rw[List.mem_singleton.1 hz];exact⟨q9.1,u0⟩)|(rw[List.mem_singleton.1 hz];exact⟨q9.1,u0⟩),by simp at hn ⊢;omega⟩ (by show x1.toNat-(q+1)<x1.toNat-q;omega)
    ·skip
     repeat' (conv=>arg 2;whnf);first|refine cV [0] (kF hk b9) ?_
     conv=>arg 2;whnf
     refine wG 0 kE ([]) (k9) (Nat.zero_le _) ⟨⟨rfl,rfl⟩,trivial⟩ (aa.refl _) rfl fun iW tX uW yX u0 l10=>?_
     have aS:=E5 a9 q9 (.inr ⟨hk,yX⟩)
     have L8:tX.length<=8388609:=Nat.le_trans l10 (by first|assumption|exact Nat.zero_le _)
     repeat' (conv=>arg 2;whnf);first|refine bZ (by(try dsimp only);omega) ?_|refine aT (by constructor<;>(simp only[List.length_cons,List.length_nil,List.length_map,maxLen] at hn ⊢;omega)) ?_|exact aZ (q+1,((y::k)++[bX.mk y9 iW]),tX,uW) (Sv.mk' [0,6] rfl (And.intro (And.intro rfl rfl) (And.intro (And.intro rfl (by show AO.row _ _ ((y::k).map bI++[bI (bX.mk y9 iW)])=AO.row _ _ _;simp)) trivial)) ⟨rfl,rfl,rfl,rfl,trivial⟩) ⟨by show q+1<=_;omega,hA.snoc oB aS,fun z hz=>by first|(rcases List.mem_append.1 hz with hz|hz;exact hO z hz;rw[List.mem_singleton.1 hz];exact⟨q9.1,u0⟩)|(rw[List.mem_singleton.1 hz];exact⟨q9.1,u0⟩),by simp at hn ⊢;omega⟩ (by show x1.toNat-(q+1)<x1.toNat-q;omega)
   ·have aS:au jj (bl,0) QN (b9,e9):=.xu (N9 a9 oq) oq a9.len
    have hG:au (aP jj x1.toNat) (b1,e1) _ (b9,e9):=(hA.snoc oB aS).list oB (by omega) (.inr oq)
    have gm:=(a1.bind (q:=fun n:Int=>aP jj n.toNat) hG (fun n=>uB oB _)).map Prod.snd
    repeat' (conv=>arg 2;whnf);first|refine bY (by simpa using oq) ?_|refine bB (by simpa using oq) ?_|(refine eg (r:=.list 9 (([]:List bX).map bI)) (h':=bz (b9,e9)) [] [0] (.inr rfl) rfl rfl ⟨⟨rfl,rfl⟩,trivial⟩ ⟨⟨rfl,rfl⟩,trivial⟩ (.nil _) ⟨_,_,_,((gm.gQ (fun e=>absurd e oq)).zero (fun e=>absurd e oq)),dO,rfl,rfl⟩;done)
  ·have hx:q=x1.toNat\/¬el=0:=by omega
   have hG:au (aP jj x1.toNat) (b1,e1) (y::k) (bl,el):=hA.list oB hq hx
   rcases(show(¬(q:Int)<x1)\/((q:Int)<x1/\¬el=0) by omega) with dh|⟨dh,jU⟩
   all_goals
    have gm:=((a1.bind (q:=fun n:Int=>aP jj n.toNat) hG (fun n=>uB oB _)).map Prod.snd)
    by_cases hE:el=0
    ·subst hE
     by_cases hk:fA (y::k)=0
     ·repeat' (conv=>arg 2;whnf);first|(exfalso;omega)|refine bB (by simp;omega) ?_|refine bq ?_|refine BY [1] (vB (y::k) ⟨fL,hO⟩) rfl (aa.refl _) rfl ?_|(rw[hk];refine cV [0] (vK bl) ?_)|(refine eg (r:=.list 9 (((y::k):List bX).map bI)) (h':=bz (bl,0)) [1] [0] (.inr rfl) rfl rfl ⟨⟨rfl,rfl⟩,trivial⟩ ⟨⟨rfl,rfl⟩,trivial⟩ (.refl _) ⟨_,_,_,((gm.gQ (fun _=>hk)).zero (fun _=>rfl)),⟨fL,hO⟩,rfl,rfl⟩;done)
     ·repeat' (conv=>arg 2;whnf);first|(exfalso;omega)|refine bY (by simp;omega) ?_|refine bB (by simp;omega) ?_|refine bq ?_|refine BY [1] (vB (y::k) ⟨fL,hO⟩) rfl (aa.refl _) rfl ?_|refine cV [0] (kF hk bl) ?_|(refine eg (r:=.list 9 (([]:List bX).map bI)) (h':=bz ([],(fA (y::k)))) [] [0] (.inr rfl) rfl rfl ⟨⟨rfl,rfl⟩,trivial⟩ ⟨⟨rfl,rfl⟩,trivial⟩ (.nil _) ⟨_,_,_,((gm.nM (y:=[]) (u:=([],fA (y::k))) (fun _=>hk) hk (Nat.zero_le _)).zero (fun _=>rfl)),dO,rfl,rfl⟩;done)
    ·repeat' (conv=>arg 2;whnf);first|refine bY (by simp;omega) ?_|refine bB (by simp;omega) ?_|(refine eg (r:=.list 9 (([]:List bX).map bI)) (h':=bz (bl,el)) [] [0] (.inr rfl) rfl rfl ⟨⟨rfl,rfl⟩,trivial⟩ ⟨⟨rfl,rfl⟩,trivial⟩ (.nil _) ⟨_,_,_,((gm.gQ (fun e=>absurd e hE)).zero (fun e=>absurd e hE)),dO,rfl,rfl⟩;done)
theorem NO [Wd]:lX 249 [] jB oC.ok (fun x=>.agg (fk x)):=by
 intro b0 e0 h0
 refine ak 23 [] func249 ?_
 repeat' (conv=>arg 2;whnf);first|refine aY ?_|refine aV ?_ ?_
 conv=>arg 2;whnf
 refine aW 0 (gO 0) b0 e0 h0 fun x1 b1 e1 a1 o1 l1=>?_
 have h1:b1.length<=8388609:=by omega
 repeat' (conv=>arg 2;whnf);first|refine aY ?_|refine aV ?_ ?_
 conv=>arg 2;whnf
 refine aW 0 (gO 1) b1 e1 h1 fun x2 b2 e2 a2 o2 l2=>?_
 have h2:b2.length<=8388609:=by omega
 repeat' (conv=>arg 2;whnf);first|refine aY ?_|refine aV ?_ ?_
 conv=>arg 2;whnf
 refine aW 0 (gO 1) b2 e2 h2 fun x3 b3 e3 a3 o3 l3=>?_
 have h3:b3.length<=8388609:=by omega
 repeat' (conv=>arg 2;whnf);first|refine aY ?_|refine aV ?_ ?_
 conv=>arg 2;whnf
 refine aW 0 (kE) b3 e3 h3 fun x4 b4 e4 a4 o4 l4=>?_
 have h4:b4.length<=8388609:=by omega
 repeat' (conv=>arg 2;whnf);first|refine aY ?_|refine aV ?_ ?_
 conv=>arg 2;whnf
 refine aW 0 (ZK) b4 e4 h4 fun x5 b5 e5 a5 o5 l5=>?_
 have h5:b5.length<=8388609:=by omega
 repeat' (conv=>arg 2;whnf);first|refine aY ?_|refine aV ?_ ?_
 conv=>arg 2;whnf
 refine aW 0 (zk) b5 e5 h5 fun x6 b6 e6 a6 o6 l6=>?_
 have h6:b6.length<=8388609:=by omega
 repeat' (conv=>arg 2;whnf);first|exact bf (r:=.agg (fk ⟨x1,x2,x3,x4,x5,x6⟩)) (h':=bz (b6,e6)) [0] (.inr rfl) rfl rfl ⟨⟨rfl,rfl⟩,trivial⟩ ⟨⟨rfl,rfl⟩,trivial⟩ (.refl _) ⟨⟨x1,x2,x3,x4,x5,x6⟩,_,_,ZL a1 a2 a3 a4 a5 a6,⟨bM o1 (by decide),bM o2 (by decide),bM o3 (by decide),o4,o5,o6⟩,rfl,rfl⟩
theorem Ft [Wd]:lX 186 [] iE fP.ok (fun c=>.agg (bU c)):=by
 intro b0 e0 h0
 refine iV 41 [(8,⟨(.one 0 false (.one 2 false (.alt 1 (.one 3 true (.one 4 true (.one 5 true (.one 6 false (.one 7 true .done))))) (.one 3 true (.alt 1 (.one 4 true (.one 5 true (.one 6 false (.one 7 true .done)))) (.one 4 true (.one 1 true (.one 5 true (.one 6 false (.one 7 true .done)))))))))),[0,2,3]⟩)] func186 ?_
 repeat' (conv=>arg 2;whnf);first|refine aY ?_|refine aV ?_ ?_
 conv=>arg 2;whnf
 refine aW 0 (gO 1) b0 e0 h0 fun x1 b1 e1 a1 o1 l1=>?_
 have h1:b1.length<=8388609:=by omega
 repeat' (conv=>arg 2;whnf);first|refine aY ?_|refine aV ?_ ?_
 conv=>arg 2;whnf
 refine aW 0 (mg 12 (by decide)) b1 e1 h1 fun x2 b2 e2 a2 o2 l2=>?_
 have h2:b2.length<=8388609:=by omega
 repeat' (conv=>arg 2;whnf);first|refine bw (i64_in o2 (by decide)) ?_
 conv=>arg 2;whnf
 refine aW 0 (BA) b2 e2 h2 fun x3 b3 e3 a3 o3 l3=>?_
 have h3:b3.length<=8388609:=by omega
 repeat' (conv=>arg 2;whnf);first|refine aY ?_|refine aV ?_ ?_
 conv=>arg 2;whnf
 refine aW 0 (nK 8 (by decide)) b3 e3 h3 fun x4 b4 e4 a4 o4 l4=>?_
 have h4:b4.length<=8388609:=by omega
 have L9:0<=x4/\x4<=8:=o4
 repeat' (conv=>arg 2;whnf);first|refine aY ?_|refine aV ?_ ?_|(apply an<;>intro h<;>simp at h)
 conv=>arg 2;whnf
 refine bE (α:=Nat×List jt×List UInt8×Int) (fun a=>match a.2.1 with
  |[]=>⟨[(5,.int .i64 a.1),(4,.int .i64 x4),(3,.ptr 2 0),(2,.ptr 1 0),(0,.ptr 0 0)],[.cells 176 [.list 1 (a.2.2.1.map af),.int .i64 a.2.2.2],.cells 145 [.int .i64 0,.int .i64 0,.int .i64 0,.int .i64 0,.nils,.nils,.int .i64 0,.int .i64 0],.cells 145 [.int .i64 x1,.int .i64 x2,.int .i64 x3.seq,.int .i64 x3.ah,.list 2 (x3.cM.map bL),.nils,.int .i64 0,.int .i64 0]]⟩
  |y::k=>⟨[(5,.int .i64 a.1),(4,.int .i64 x4),(3,.ptr 2 0),(2,.ptr 1 0),(0,.ptr 0 0)],[.cells 176 [.list 1 (a.2.2.1.map af),.int .i64 a.2.2.2],.cells 145 [.int .i64 0,.int .i64 0,.int .i64 0,.int .i64 0,.nils,.nils,.int .i64 0,.int .i64 0],.cells 145 [.int .i64 x1,.int .i64 x2,.int .i64 x3.seq,.int .i64 x3.ah,.list 2 (x3.cM.map bL),.row 3,.int .i64 0,.int .i64 0],.row 190 7 ((y::k).map fk)]⟩) (fun a=>a.1<=x4.toNat/\au (dG jB a.1) (b4,e4) a.2.1 (a.2.2.1,a.2.2.2)/\(∀z∈a.2.1,oC.ok z)/\a.2.1.length=a.1) (fun a=>x4.toNat-a.1) (0,[],b4,e4) ⟨Nat.zero_le _,au.nil _,fun z hz=>(List.not_mem_nil hz).elim,rfl⟩ (Sv.aK [0,1,3]) ?_
 rintro⟨q,l,bl,el⟩ ⟨hq,hA,hO,hn⟩
 replace hq:q<=x4.toNat:=hq
 replace hA:au (dG jB q) (b4,e4) l (bl,el):=hA
 replace hO:∀z∈l,oC.ok z:=hO
 replace hn:l.length=q:=hn
 have dJ:bl.length<=8388609:=Nat.le_trans hA.len (by assumption)
 have fL:l.length<=4194304:=by omega
 cases l with
 |nil=>
  by_cases ey:(q:Int)<x4/\el=0
  ·obtain⟨hlt,rfl⟩:=ey
   repeat' (conv=>arg 2;whnf);first|refine bZ (by(try dsimp only);omega) ?_|refine aV ?_ ?_|refine bY (by simp;omega) ?_|refine aW 0 (NO) bl 0 dJ fun x9 b9 e9 a9 o9 l9=>?_|refine aT (by constructor<;>(simp only[List.length_cons,List.length_nil,maxLen] at hn ⊢;omega)) ?_|exact aZ (q+1,[x9],b9,e9) (Sv.mk' [0,1,2,4] rfl ⟨⟨rfl,rfl⟩,⟨rfl,rfl⟩,⟨rfl,rfl⟩,⟨rfl,by show AO.row _ _ ([]++[fk x9])=AO.row _ _ _;simp⟩,trivial⟩ ⟨rfl,rfl,rfl,rfl,rfl,trivial⟩) ⟨by show q+1<=_;omega,hA.snoc uv a9,fun z hz=>by first|(rcases List.mem_append.1 hz with hz|hz;exact hO z hz;rw[List.mem_singleton.1 hz];exact o9)|(rw[List.mem_singleton.1 hz];exact o9),by simp at hn ⊢;omega⟩ (by show x4.toNat-(q+1)<x4.toNat-q;omega)
  ·have hx:q=x4.toNat\/¬el=0:=by omega
   have hG:au (aP jB x4.toNat) (b4,e4) [] (bl,el):=hA.list uv hq hx
   rcases(show(¬(q:Int)<x4)\/((q:Int)<x4/\¬el=0) by omega) with dh|⟨dh,jU⟩
   all_goals
    repeat' (conv=>arg 2;whnf);first|refine bY (by simp;omega) ?_|refine bB (by simp;omega) ?_|refine bq ?_
    conv=>arg 2;whnf
    refine aW 0 (kE) bl el dJ fun x7 b7 e7 a7 o7 l7=>?_
    have h7:b7.length<=8388609:=by omega
    repeat' (conv=>arg 2;whnf);first|exact eg (r:=.agg (bU ⟨x1,x2,x3,[],x7⟩)) (h':=bz (b7,e7)) [] [0] (.inr rfl) rfl rfl ⟨⟨rfl,rfl⟩,trivial⟩ ⟨⟨rfl,rfl⟩,trivial⟩ .z ⟨_,_,_,QM a1 a2 a3 a4 hG a7,⟨bM o1 (by decide),bM o2 (by decide),o3,⟨fL,hO⟩,o7⟩,rfl,rfl⟩
 |cons y k=>
  by_cases ey:(q:Int)<x4/\el=0
  ·obtain⟨hlt,rfl⟩:=ey
   repeat' (conv=>arg 2;whnf);first|refine bZ (by(try dsimp only);omega) ?_|refine aV ?_ ?_|refine bY (by simp;omega) ?_|refine aW 0 (NO) bl 0 dJ fun x9 b9 e9 a9 o9 l9=>?_|refine aT (by constructor<;>(simp only[List.length_cons,List.length_nil,List.length_map,maxLen] at hn ⊢;omega)) ?_|exact aZ (q+1,((y::k)++[x9]),b9,e9) (Sv.mk' [0,1,2,5] rfl ⟨⟨rfl,rfl⟩,⟨rfl,rfl⟩,⟨rfl,rfl⟩,⟨rfl,by show AO.row _ _ ((y::k).map fk++[fk x9])=AO.row _ _ _;simp⟩,trivial⟩ ⟨rfl,rfl,rfl,rfl,rfl,trivial⟩) ⟨by show q+1<=_;omega,hA.snoc uv a9,fun z hz=>by first|(rcases List.mem_append.1 hz with hz|hz;exact hO z hz;rw[List.mem_singleton.1 hz];exact o9)|(rw[List.mem_singleton.1 hz];exact o9),by simp at hn ⊢;omega⟩ (by show x4.toNat-(q+1)<x4.toNat-q;omega)
  ·have hx:q=x4.toNat\/¬el=0:=by omega
   have hG:au (aP jB x4.toNat) (b4,e4) (y::k) (bl,el):=hA.list uv hq hx
   rcases(show(¬(q:Int)<x4)\/((q:Int)<x4/\¬el=0) by omega) with dh|⟨dh,jU⟩
   all_goals
    repeat' (conv=>arg 2;whnf);first|refine bY (by simp;omega) ?_|refine bB (by simp;omega) ?_|refine bq ?_
    conv=>arg 2;whnf
    refine aW 0 (kE) bl el dJ fun x7 b7 e7 a7 o7 l7=>?_
    have h7:b7.length<=8388609:=by omega
    repeat' (conv=>arg 2;whnf);first|exact eg (r:=.agg (bU ⟨x1,x2,x3,(y::k),x7⟩)) (h':=bz (b7,e7)) [3] [0] (.inr rfl) rfl rfl ⟨⟨rfl,rfl⟩,trivial⟩ ⟨⟨rfl,rfl⟩,trivial⟩ .z ⟨_,_,_,QM a1 a2 a3 a4 hG a7,⟨bM o1 (by decide),bM o2 (by decide),o3,⟨fL,hO⟩,o7⟩,rfl,rfl⟩
abbrev QO:RS->(List UInt8×Int×List UInt8×List j7×Int×Int)×RS:=bg nS (bg (bF 0) (bg (fB 64) (bg (cY jA 64) (bg (bF 0) (ia 16)))))
abbrev w8 (z:List UInt8×Int×List UInt8×List j7×Int×Int):Int:=if z.2.2.2.2.1<z.2.2.2.2.2 then 0 else 100
theorem Oa {s0 s1 s2 s3 s4 s5 s6 s7:RS} {x1 x3:List UInt8} {x2 x4 x5 x6:Int} {l:List j7} (a1:au nS s0 x1 s1) (a2:au (bF 0) s1 x2 s2) (a3:au (fB 64) s2 x3 s3) (a4:au (ia 64) s3 x4 s4) (hG:au (aP jA x4.toNat) s4 l s5) (a5:au (bF 0) s5 x5 s6) (a6:au (ia 16) s6 x6 s7):au QO s0 (x1,x2,x3,l,x5,x6) s7:=
 a1.pair (a2.pair (a3.pair ((a4.cY ux hG).pair (a5.pair a6 (uu _)) ((bV _).pair (uu _))) ((jL ux _).pair ((bV _).pair (uu _)))) ((iB _).pair ((jL ux _).pair ((bV _).pair (uu _))))) ((bV _).pair ((iB _).pair ((jL ux _).pair ((bV _).pair (uu _)))))
theorem Fu {s0 u s7 s8 s9:RS} {x1 x3:List UInt8} {x2 x5 x6 x7:Int} {l:List j7} {p:List Int} {x8:gX} (hu:au (fZ QO w8) s0 (x1,x2,x3,l,x5,x6) u) (a7:au (ia 8) u x7 s7) (hP:au (aP (bF 0) x7.toNat) s7 p s8) (a8:au lT s8 x8 s9):au uD s0 ⟨x1,x2,x3,l,x5,x6,p,x8⟩ s9:=
 (hu.pair ((a7.cY (bV 0) hP).pair a8 uw) ((jL (bV 0) _).pair uw)).map (fun z:(List UInt8×Int×List UInt8×List j7×Int×Int)×List Int×gX=>(⟨z.1.1,z.1.2.1,z.1.2.2.1,z.1.2.2.2.1,z.1.2.2.2.2.1,z.1.2.2.2.2.2,z.2.1,z.2.2⟩:jX))
theorem ZM [Wd]:lX 190 [] uD jY.ok (fun c=>.agg (jv c)):=by
 intro b0 e0 h0
 refine iV 82 [(8,⟨(.one 0 false (.one 2 false (.alt 1 (.one 3 true (.one 4 true (.one 5 true (.one 6 false (.one 7 true .done))))) (.one 3 true (.alt 1 (.one 4 true (.one 5 true (.one 6 false (.one 7 true .done)))) (.one 4 true (.one 1 true (.one 5 true (.one 6 false (.one 7 true .done)))))))))),[0,2,3]⟩),(17,⟨(.one 0 false (.one 2 false (.alt 1 (.one 3 true (.one 4 true (.one 5 true (.one 6 false (.one 7 true .done))))) (.one 3 true (.alt 1 (.one 4 true (.one 5 true (.one 6 false (.one 7 true .done)))) (.one 4 true (.one 1 true (.one 5 true (.one 6 false (.one 7 true .done)))))))))),[0,2,3,4]⟩)] func190 ?_
 repeat' (conv=>arg 2;whnf);first|refine aY ?_|refine aV ?_ ?_
 conv=>arg 2;whnf
 refine aW 0 (QL) b0 e0 h0 fun x1 b1 e1 a1 o1 l1=>?_
 have h1:b1.length<=8388609:=by omega
 repeat' (conv=>arg 2;whnf);first|refine aY ?_|refine aV ?_ ?_
 conv=>arg 2;whnf
 refine aW 0 (gO 0) b1 e1 h1 fun x2 b2 e2 a2 o2 l2=>?_
 have h2:b2.length<=8388609:=by omega
 repeat' (conv=>arg 2;whnf);first|refine aY ?_|refine aV ?_ ?_
 conv=>arg 2;whnf
 refine aW 0 (sD 64 (by decide)) b2 e2 h2 fun x3 b3 e3 a3 o3 l3=>?_
 have h3:b3.length<=8388609:=by omega
 repeat' (conv=>arg 2;whnf);first|refine aY ?_|refine aV ?_ ?_
 conv=>arg 2;whnf
 refine aW 0 (nK 64 (by decide)) b3 e3 h3 fun x4 b4 e4 a4 o4 l4=>?_
 have h4:b4.length<=8388609:=by omega
 have L9:0<=x4/\x4<=64:=o4
 repeat' (conv=>arg 2;whnf);first|refine aY ?_|refine aV ?_ ?_|(apply an<;>intro h<;>simp at h)
 conv=>arg 2;whnf
 refine bE (α:=Nat×List j7×List UInt8×Int) (fun a=>match a.2.1 with
  |[]=>⟨[(5,.int .i64 a.1),(4,.int .i64 x4),(3,.ptr 2 0),(2,.ptr 1 0),(0,.ptr 0 0)],[.cells 176 [.list 1 (a.2.2.1.map af),.int .i64 a.2.2.2],.cells 55 [.str [],.int .i64 0,.nils,.nils,.int .i64 0,.int .i64 0,.nils,.int .i64 0,.int .i64 0,.nils],.cells 55 [.str x1,.int .i64 x2,.list 1 (x3.map af),.nils,.int .i64 0,.int .i64 0,.nils,.int .i64 0,.int .i64 0,.nils]]⟩
  |y::k=>⟨[(5,.int .i64 a.1),(4,.int .i64 x4),(3,.ptr 2 0),(2,.ptr 1 0),(0,.ptr 0 0)],[.cells 176 [.list 1 (a.2.2.1.map af),.int .i64 a.2.2.2],.cells 55 [.str [],.int .i64 0,.nils,.nils,.int .i64 0,.int .i64 0,.nils,.int .i64 0,.int .i64 0,.nils],.cells 55 [.str x1,.int .i64 x2,.list 1 (x3.map af),.row 3,.int .i64 0,.int .i64 0,.nils,.int .i64 0,.int .i64 0,.nils],.row 187 5 ((y::k).map eO)]⟩) (fun a=>a.1<=x4.toNat/\au (dG jA a.1) (b4,e4) a.2.1 (a.2.2.1,a.2.2.2)/\(∀z∈a.2.1,yq.ok z)/\a.2.1.length=a.1) (fun a=>x4.toNat-a.1) (0,[],b4,e4) ⟨Nat.zero_le _,au.nil _,fun z hz=>(List.not_mem_nil hz).elim,rfl⟩ (Sv.aK [0,1,3]) ?_
 rintro⟨q,l,bl,el⟩ ⟨hq,hA,hO,hn⟩
 replace hq:q<=x4.toNat:=hq
 replace hA:au (dG jA q) (b4,e4) l (bl,el):=hA
 replace hO:∀z∈l,yq.ok z:=hO
 replace hn:l.length=q:=hn
 have dJ:bl.length<=8388609:=Nat.le_trans hA.len (by assumption)
 have fL:l.length<=4194304:=by omega
 cases l with
 |nil=>
  by_cases ey:(q:Int)<x4/\el=0
  ·obtain⟨hlt,rfl⟩:=ey
   repeat' (conv=>arg 2;whnf);first|refine bZ (by(try dsimp only);omega) ?_|refine aV ?_ ?_|refine bY (by simp;omega) ?_|refine aW 0 (OH) bl 0 dJ fun x9 b9 e9 a9 o9 l9=>?_|refine aT (by constructor<;>(simp only[List.length_cons,List.length_nil,maxLen] at hn ⊢;omega)) ?_|exact aZ (q+1,[x9],b9,e9) (Sv.mk' [0,1,2,4] rfl ⟨⟨rfl,rfl⟩,⟨rfl,rfl⟩,⟨rfl,rfl⟩,⟨rfl,by show AO.row _ _ ([]++[eO x9])=AO.row _ _ _;simp⟩,trivial⟩ ⟨rfl,rfl,rfl,rfl,rfl,trivial⟩) ⟨by show q+1<=_;omega,hA.snoc ux a9,fun z hz=>by first|(rcases List.mem_append.1 hz with hz|hz;exact hO z hz;rw[List.mem_singleton.1 hz];exact o9)|(rw[List.mem_singleton.1 hz];exact o9),by simp at hn ⊢;omega⟩ (by show x4.toNat-(q+1)<x4.toNat-q;omega)
  ·have hx:q=x4.toNat\/¬el=0:=by omega
   have hG:au (aP jA x4.toNat) (b4,e4) [] (bl,el):=hA.list ux hq hx
   rcases(show(¬(q:Int)<x4)\/((q:Int)<x4/\¬el=0) by omega) with dh|⟨dh,jU⟩
   all_goals
    repeat' (conv=>arg 2;whnf);first|refine bY (by simp;omega) ?_|refine bB (by simp;omega) ?_|refine bq ?_
    conv=>arg 2;whnf
    refine aW 0 (gO 0) bl el dJ fun x5 b5 e5 a5 o5 l5=>?_
    have h5:b5.length<=8388609:=by omega
    repeat' (conv=>arg 2;whnf);first|refine aY ?_|refine aV ?_ ?_
    conv=>arg 2;whnf
    refine aW 0 (nK 16 (by decide)) b5 e5 h5 fun x6 b6 e6 a6 o6 l6=>?_
    have h6:b6.length<=8388609:=by omega
    have aB:=Oa a1 a2 a3 a4 hG a5 a6
    have oX:=hO
    have u5:=fL
    clear hA hO hn fL dJ ey hx hG
    try clear dh jU
    have rY:(e6=0/\x5<x6)\/(e6=0/\¬x5<x6)\/¬e6=0:=by omega
    rcases rY with⟨rfl,hlt⟩|⟨rfl,dm⟩|Er
    focus
     have hu:=aB.gQ (f:=w8) (fun _=>if_pos hlt)
     repeat' (conv=>arg 2;whnf);first|refine bB (by simp;omega) ?_
     conv=>arg 2;whnf
     refine aW 0 (nK 8 (by decide)) b6 0 h6 fun x7 b7 e7 a7 o7 l7=>?_
     have h7:b7.length<=8388609:=by omega
    rotate_left
    focus
     have hu:=aB.nM (y:=(x1,x2,x3,[],x5,x6)) (u:=([],100)) (f:=w8) (fun _=>by rw[show w8 (x1,x2,x3,[],x5,x6)=100 from if_neg dm];decide) (show ¬(100:Int)=0 by decide) (Nat.zero_le _)
     repeat' (conv=>arg 2;whnf);first|refine bY (by simp;omega) ?_|refine cV [0] (kF (k:=100) (by decide) b6) ?_
     conv=>arg 2;whnf
     refine wG 0 (nK 8 (by decide)) [] 100 (Nat.zero_le _) ⟨⟨rfl,rfl⟩,trivial⟩ (aa.refl _) rfl fun x7 b7 e7 a7 o7 l7=>?_
     have h7:b7.length<=8388609:=Nat.le_trans l7 (by decide)
    rotate_left
    focus
     have hu:=aB.gQ (f:=w8) (fun e=>absurd e Er)
     repeat' (conv=>arg 2;whnf);first|refine bB (by simpa using Er) ?_
     conv=>arg 2;whnf
     refine aW 0 (nK 8 (by decide)) b6 e6 h6 fun x7 b7 e7 a7 o7 l7=>?_
     have h7:b7.length<=8388609:=by omega
    all_goals
     have Um:0<=x7/\x7<=8:=o7
     conv=>arg 2;whnf
     refine bE (α:=Nat×List Int×List UInt8×Int) (fun a=>match a.2.1 with
      |[]=>⟨[(6,.int .i64 a.1),(4,.int .i64 x7),(3,.ptr 2 0),(2,.ptr 1 0),(0,.ptr 0 0)],[.cells 176 [.list 1 (a.2.2.1.map af),.int .i64 a.2.2.2],.cells 55 [.str [],.int .i64 0,.nils,.nils,.int .i64 0,.int .i64 0,.nils,.int .i64 0,.int .i64 0,.nils],.cells 55 [.str x1,.int .i64 x2,.list 1 (x3.map af),.nils,.int .i64 x5,.int .i64 x6,.nils,.int .i64 0,.int .i64 0,.nils]]⟩
      |y::k=>⟨[(6,.int .i64 a.1),(4,.int .i64 x7),(3,.ptr 2 0),(2,.ptr 1 0),(0,.ptr 0 0)],[.cells 176 [.list 1 (a.2.2.1.map af),.int .i64 a.2.2.2],.cells 55 [.str [],.int .i64 0,.nils,.nils,.int .i64 0,.int .i64 0,.nils,.int .i64 0,.int .i64 0,.nils],.cells 55 [.str x1,.int .i64 x2,.list 1 (x3.map af),.nils,.int .i64 x5,.int .i64 x6,.row 3,.int .i64 0,.int .i64 0,.nils],.row 41 1 ((y::k).map eD)]⟩) (fun a=>a.1<=x7.toNat/\au (dG (bF 0) a.1) (b7,e7) a.2.1 (a.2.2.1,a.2.2.2)/\(∀z∈a.2.1,(fun n:Int=>0<=n/\n<=9007199254740992) z)/\a.2.1.length=a.1) (fun a=>x7.toNat-a.1) (0,[],b7,e7) ⟨Nat.zero_le _,au.nil _,fun z hz=>(List.not_mem_nil hz).elim,rfl⟩ (Sv.aK [0,1,2]) ?_
     rintro⟨q,l,bl,el⟩ ⟨hq,hA,hO,hn⟩
     replace hq:q<=x7.toNat:=hq
     replace hA:au (dG (bF 0) q) (b7,e7) l (bl,el):=hA
     replace hO:∀z∈l,(fun n:Int=>0<=n/\n<=9007199254740992) z:=hO
     replace hn:l.length=q:=hn
     have dJ:bl.length<=8388609:=Nat.le_trans hA.len (by assumption)
     have fL:l.length<=4194304:=by omega
     cases l with
     |nil=>
      by_cases ey:(q:Int)<x7/\el=0
      ·obtain⟨hlt,rfl⟩:=ey
       repeat' (conv=>arg 2;whnf);first|refine bZ (by(try dsimp only);omega) ?_|refine aV ?_ ?_|refine bY (by simp;omega) ?_|refine aW 0 (gO 0) bl 0 dJ fun x9 b9 e9 a9 o9 l9=>?_|refine aT (by constructor<;>(simp only[List.length_cons,List.length_nil,maxLen] at hn ⊢;omega)) ?_|exact aZ (q+1,[x9],b9,e9) (Sv.mk' [0,1,2,4] rfl ⟨⟨rfl,rfl⟩,⟨rfl,rfl⟩,⟨rfl,rfl⟩,⟨rfl,by show AO.row _ _ ([]++[eD x9])=AO.row _ _ _;simp⟩,trivial⟩ ⟨rfl,rfl,rfl,rfl,rfl,trivial⟩) ⟨by show q+1<=_;omega,hA.snoc (bV 0) a9,fun z hz=>by first|(rcases List.mem_append.1 hz with hz|hz;exact hO z hz;rw[List.mem_singleton.1 hz];exact o9)|(rw[List.mem_singleton.1 hz];exact o9),by simp at hn ⊢;omega⟩ (by show x7.toNat-(q+1)<x7.toNat-q;omega)
      ·have hx:q=x7.toNat\/¬el=0:=by omega
       have hG:au (aP (bF 0) x7.toNat) (b7,e7) [] (bl,el):=hA.list (bV 0) hq hx
       rcases(show(¬(q:Int)<x7)\/((q:Int)<x7/\¬el=0) by omega) with dh|⟨dh,jU⟩
       all_goals
        repeat' (conv=>arg 2;whnf);first|refine bY (by simp;omega) ?_|refine bB (by simp;omega) ?_|refine bq ?_
        conv=>arg 2;whnf
        refine aW 0 (BA) bl el dJ fun x8 b8 e8 a8 o8 l8=>?_
        have h8:b8.length<=8388609:=by omega
        repeat' (conv=>arg 2;whnf);first|exact eg (r:=.agg (jv ⟨x1,x2,x3,[],x5,x6,[],x8⟩)) (h':=bz (b8,e8)) [] [0] (.inr rfl) rfl rfl ⟨⟨rfl,rfl⟩,trivial⟩ ⟨⟨rfl,rfl⟩,trivial⟩ .z ⟨_,_,_,Fu hu a7 hG a8,⟨Nat.le_trans o1 (by decide),bM o2 (by decide),Nat.le_trans o3 (by decide),⟨u5,oX⟩,bM o5 (by decide),bM o6 (by decide),⟨fL,fun z hz=>bM (hO z hz) (by decide)⟩,o8⟩,rfl,rfl⟩
     |cons y k=>
      by_cases ey:(q:Int)<x7/\el=0
      ·obtain⟨hlt,rfl⟩:=ey
       repeat' (conv=>arg 2;whnf);first|refine bZ (by(try dsimp only);omega) ?_|refine aV ?_ ?_|refine bY (by simp;omega) ?_|refine aW 0 (gO 0) bl 0 dJ fun x9 b9 e9 a9 o9 l9=>?_|refine aT (by constructor<;>(simp only[List.length_cons,List.length_nil,List.length_map,maxLen] at hn ⊢;omega)) ?_|exact aZ (q+1,((y::k)++[x9]),b9,e9) (Sv.mk' [0,1,2,5] rfl ⟨⟨rfl,rfl⟩,⟨rfl,rfl⟩,⟨rfl,rfl⟩,⟨rfl,by show AO.row _ _ ((y::k).map eD++[eD x9])=AO.row _ _ _;simp⟩,trivial⟩ ⟨rfl,rfl,rfl,rfl,rfl,trivial⟩) ⟨by show q+1<=_;omega,hA.snoc (bV 0) a9,fun z hz=>by first|(rcases List.mem_append.1 hz with hz|hz;exact hO z hz;rw[List.mem_singleton.1 hz];exact o9)|(rw[List.mem_singleton.1 hz];exact o9),by simp at hn ⊢;omega⟩ (by show x7.toNat-(q+1)<x7.toNat-q;omega)
      ·have hx:q=x7.toNat\/¬el=0:=by omega
       have hG:au (aP (bF 0) x7.toNat) (b7,e7) (y::k) (bl,el):=hA.list (bV 0) hq hx
       rcases(show(¬(q:Int)<x7)\/((q:Int)<x7/\¬el=0) by omega) with dh|⟨dh,jU⟩
       all_goals
        repeat' (conv=>arg 2;whnf);first|refine bY (by simp;omega) ?_|refine bB (by simp;omega) ?_|refine bq ?_
        conv=>arg 2;whnf
        refine aW 0 (BA) bl el dJ fun x8 b8 e8 a8 o8 l8=>?_
        have h8:b8.length<=8388609:=by omega
        repeat' (conv=>arg 2;whnf);first|exact eg (r:=.agg (jv ⟨x1,x2,x3,[],x5,x6,(y::k),x8⟩)) (h':=bz (b8,e8)) [3] [0] (.inr rfl) rfl rfl ⟨⟨rfl,rfl⟩,trivial⟩ ⟨⟨rfl,rfl⟩,trivial⟩ .z ⟨_,_,_,Fu hu a7 hG a8,⟨Nat.le_trans o1 (by decide),bM o2 (by decide),Nat.le_trans o3 (by decide),⟨u5,oX⟩,bM o5 (by decide),bM o6 (by decide),⟨fL,fun z hz=>bM (hO z hz) (by decide)⟩,o8⟩,rfl,rfl⟩
 |cons y k=>
  by_cases ey:(q:Int)<x4/\el=0
  ·obtain⟨hlt,rfl⟩:=ey
   repeat' (conv=>arg 2;whnf);first|refine bZ (by(try dsimp only);omega) ?_|refine aV ?_ ?_|refine bY (by simp;omega) ?_|refine aW 0 (OH) bl 0 dJ fun x9 b9 e9 a9 o9 l9=>?_|refine aT (by constructor<;>(simp only[List.length_cons,List.length_nil,List.length_map,maxLen] at hn ⊢;omega)) ?_|exact aZ (q+1,((y::k)++[x9]),b9,e9) (Sv.mk' [0,1,2,5] rfl ⟨⟨rfl,rfl⟩,⟨rfl,rfl⟩,⟨rfl,rfl⟩,⟨rfl,by show AO.row _ _ ((y::k).map eO++[eO x9])=AO.row _ _ _;simp⟩,trivial⟩ ⟨rfl,rfl,rfl,rfl,rfl,trivial⟩) ⟨by show q+1<=_;omega,hA.snoc ux a9,fun z hz=>by first|(rcases List.mem_append.1 hz with hz|hz;exact hO z hz;rw[List.mem_singleton.1 hz];exact o9)|(rw[List.mem_singleton.1 hz];exact o9),by simp at hn ⊢;omega⟩ (by show x4.toNat-(q+1)<x4.toNat-q;omega)
  ·have hx:q=x4.toNat\/¬el=0:=by omega
   have hG:au (aP jA x4.toNat) (b4,e4) (y::k) (bl,el):=hA.list ux hq hx
   rcases(show(¬(q:Int)<x4)\/((q:Int)<x4/\¬el=0) by omega) with dh|⟨dh,jU⟩
   all_goals
    repeat' (conv=>arg 2;whnf);first|refine bY (by simp;omega) ?_|refine bB (by simp;omega) ?_|refine bq ?_
    conv=>arg 2;whnf
    refine aW 0 (gO 0) bl el dJ fun x5 b5 e5 a5 o5 l5=>?_
    have h5:b5.length<=8388609:=by omega
    repeat' (conv=>arg 2;whnf);first|refine aY ?_|refine aV ?_ ?_
    conv=>arg 2;whnf
    refine aW 0 (nK 16 (by decide)) b5 e5 h5 fun x6 b6 e6 a6 o6 l6=>?_
    have h6:b6.length<=8388609:=by omega
    have aB:=Oa a1 a2 a3 a4 hG a5 a6
    have oX:=hO
    have u5:=fL
    clear hA hO hn fL dJ ey hx hG
    try clear dh jU
    have rY:(e6=0/\x5<x6)\/(e6=0/\¬x5<x6)\/¬e6=0:=by omega
    rcases rY with⟨rfl,hlt⟩|⟨rfl,dm⟩|Er
    focus
     have hu:=aB.gQ (f:=w8) (fun _=>if_pos hlt)
     repeat' (conv=>arg 2;whnf);first|refine bB (by simp;omega) ?_
     conv=>arg 2;whnf
     refine aW 0 (nK 8 (by decide)) b6 0 h6 fun x7 b7 e7 a7 o7 l7=>?_
     have h7:b7.length<=8388609:=by omega
    rotate_left
    focus
     have hu:=aB.nM (y:=(x1,x2,x3,(y::k),x5,x6)) (u:=([],100)) (f:=w8) (fun _=>by rw[show w8 (x1,x2,x3,(y::k),x5,x6)=100 from if_neg dm];decide) (show ¬(100:Int)=0 by decide) (Nat.zero_le _)
     repeat' (conv=>arg 2;whnf);first|refine bY (by simp;omega) ?_|refine cV [0] (kF (k:=100) (by decide) b6) ?_
     conv=>arg 2;whnf
     refine wG 0 (nK 8 (by decide)) [] 100 (Nat.zero_le _) ⟨⟨rfl,rfl⟩,trivial⟩ (aa.refl _) rfl fun x7 b7 e7 a7 o7 l7=>?_
     have h7:b7.length<=8388609:=Nat.le_trans l7 (by decide)
    rotate_left
    focus
     have hu:=aB.gQ (f:=w8) (fun e=>absurd e Er)
     repeat' (conv=>arg 2;whnf);first|refine bB (by simpa using Er) ?_
     conv=>arg 2;whnf
     refine aW 0 (nK 8 (by decide)) b6 e6 h6 fun x7 b7 e7 a7 o7 l7=>?_
     have h7:b7.length<=8388609:=by omega
    all_goals
     have Um:0<=x7/\x7<=8:=o7
     conv=>arg 2;whnf
     refine bE (α:=Nat×List Int×List UInt8×Int) (fun a=>match a.2.1 with
      |[]=>⟨[(6,.int .i64 a.1),(4,.int .i64 x7),(3,.ptr 2 0),(2,.ptr 1 0),(0,.ptr 0 0)],[.cells 176 [.list 1 (a.2.2.1.map af),.int .i64 a.2.2.2],.cells 55 [.str [],.int .i64 0,.nils,.nils,.int .i64 0,.int .i64 0,.nils,.int .i64 0,.int .i64 0,.nils],.cells 55 [.str x1,.int .i64 x2,.list 1 (x3.map af),.row 3,.int .i64 x5,.int .i64 x6,.nils,.int .i64 0,.int .i64 0,.nils],.row 187 5 ((y::k).map eO)]⟩
      |Y::K=>⟨[(6,.int .i64 a.1),(4,.int .i64 x7),(3,.ptr 2 0),(2,.ptr 1 0),(0,.ptr 0 0)],[.cells 176 [.list 1 (a.2.2.1.map af),.int .i64 a.2.2.2],.cells 55 [.str [],.int .i64 0,.nils,.nils,.int .i64 0,.int .i64 0,.nils,.int .i64 0,.int .i64 0,.nils],.cells 55 [.str x1,.int .i64 x2,.list 1 (x3.map af),.row 3,.int .i64 x5,.int .i64 x6,.row 4,.int .i64 0,.int .i64 0,.nils],.row 187 5 ((y::k).map eO),.row 41 1 ((Y::K).map eD)]⟩) (fun a=>a.1<=x7.toNat/\au (dG (bF 0) a.1) (b7,e7) a.2.1 (a.2.2.1,a.2.2.2)/\(∀z∈a.2.1,(fun n:Int=>0<=n/\n<=9007199254740992) z)/\a.2.1.length=a.1) (fun a=>x7.toNat-a.1) (0,[],b7,e7) ⟨Nat.zero_le _,au.nil _,fun z hz=>(List.not_mem_nil hz).elim,rfl⟩ (Sv.aK [0,1,2,3]) ?_
     rintro⟨q,l,bl,el⟩ ⟨hq,hA,hO,hn⟩
     replace hq:q<=x7.toNat:=hq
     replace hA:au (dG (bF 0) q) (b7,e7) l (bl,el):=hA
     replace hO:∀z∈l,(fun n:Int=>0<=n/\n<=9007199254740992) z:=hO
     replace hn:l.length=q:=hn
     have dJ:bl.length<=8388609:=Nat.le_trans hA.len (by assumption)
     have fL:l.length<=4194304:=by omega
     cases l with
     |nil=>
      by_cases ey:(q:Int)<x7/\el=0
      ·obtain⟨hlt,rfl⟩:=ey
       repeat' (conv=>arg 2;whnf);first|refine bZ (by(try dsimp only);omega) ?_|refine aV ?_ ?_|refine bY (by simp;omega) ?_|refine aW 0 (gO 0) bl 0 dJ fun x9 b9 e9 a9 o9 l9=>?_|refine aT (by constructor<;>(simp only[List.length_cons,List.length_nil,maxLen] at hn ⊢;omega)) ?_|exact aZ (q+1,[x9],b9,e9) (Sv.mk' [0,1,2,3,5] rfl ⟨⟨rfl,rfl⟩,⟨rfl,rfl⟩,⟨rfl,rfl⟩,⟨rfl,rfl⟩,⟨rfl,by show AO.row _ _ ([]++[eD x9])=AO.row _ _ _;simp⟩,trivial⟩ ⟨rfl,rfl,rfl,rfl,rfl,trivial⟩) ⟨by show q+1<=_;omega,hA.snoc (bV 0) a9,fun z hz=>by first|(rcases List.mem_append.1 hz with hz|hz;exact hO z hz;rw[List.mem_singleton.1 hz];exact o9)|(rw[List.mem_singleton.1 hz];exact o9),by simp at hn ⊢;omega⟩ (by show x7.toNat-(q+1)<x7.toNat-q;omega)
      ·have hx:q=x7.toNat\/¬el=0:=by omega
       have hG:au (aP (bF 0) x7.toNat) (b7,e7) [] (bl,el):=hA.list (bV 0) hq hx
       rcases(show(¬(q:Int)<x7)\/((q:Int)<x7/\¬el=0) by omega) with dh|⟨dh,jU⟩
       all_goals
        repeat' (conv=>arg 2;whnf);first|refine bY (by simp;omega) ?_|refine bB (by simp;omega) ?_|refine bq ?_
        conv=>arg 2;whnf
        refine aW 0 (BA) bl el dJ fun x8 b8 e8 a8 o8 l8=>?_
        have h8:b8.length<=8388609:=by omega
        repeat' (conv=>arg 2;whnf);first|exact eg (r:=.agg (jv ⟨x1,x2,x3,(y::k),x5,x6,[],x8⟩)) (h':=bz (b8,e8)) [3] [0] (.inr rfl) rfl rfl ⟨⟨rfl,rfl⟩,trivial⟩ ⟨⟨rfl,rfl⟩,trivial⟩ .z ⟨_,_,_,Fu hu a7 hG a8,⟨Nat.le_trans o1 (by decide),bM o2 (by decide),Nat.le_trans o3 (by decide),⟨u5,oX⟩,bM o5 (by decide),bM o6 (by decide),⟨fL,fun z hz=>bM (hO z hz) (by decide)⟩,o8⟩,rfl,rfl⟩
     |cons Y K=>
      by_cases ey:(q:Int)<x7/\el=0
      ·obtain⟨hlt,rfl⟩:=ey
       repeat' (conv=>arg 2;whnf);first|refine bZ (by(try dsimp only);omega) ?_|refine aV ?_ ?_|refine bY (by simp;omega) ?_|refine aW 0 (gO 0) bl 0 dJ fun x9 b9 e9 a9 o9 l9=>?_|refine aT (by constructor<;>(simp only[List.length_cons,List.length_nil,List.length_map,maxLen] at hn ⊢;omega)) ?_|exact aZ (q+1,((Y::K)++[x9]),b9,e9) (Sv.mk' [0,1,2,3,6] rfl ⟨⟨rfl,rfl⟩,⟨rfl,rfl⟩,⟨rfl,rfl⟩,⟨rfl,rfl⟩,⟨rfl,by show AO.row _ _ ((Y::K).map eD++[eD x9])=AO.row _ _ _;simp⟩,trivial⟩ ⟨rfl,rfl,rfl,rfl,rfl,trivial⟩) ⟨by show q+1<=_;omega,hA.snoc (bV 0) a9,fun z hz=>by first|(rcases List.mem_append.1 hz with hz|hz;exact hO z hz;rw[List.mem_singleton.1 hz];exact o9)|(rw[List.mem_singleton.1 hz];exact o9),by simp at hn ⊢;omega⟩ (by show x7.toNat-(q+1)<x7.toNat-q;omega)
      ·have hx:q=x7.toNat\/¬el=0:=by omega
       have hG:au (aP (bF 0) x7.toNat) (b7,e7) (Y::K) (bl,el):=hA.list (bV 0) hq hx
       rcases(show(¬(q:Int)<x7)\/((q:Int)<x7/\¬el=0) by omega) with dh|⟨dh,jU⟩
       all_goals
        repeat' (conv=>arg 2;whnf);first|refine bY (by simp;omega) ?_|refine bB (by simp;omega) ?_|refine bq ?_
        conv=>arg 2;whnf
        refine aW 0 (BA) bl el dJ fun x8 b8 e8 a8 o8 l8=>?_
        have h8:b8.length<=8388609:=by omega
        repeat' (conv=>arg 2;whnf);first|exact eg (r:=.agg (jv ⟨x1,x2,x3,(y::k),x5,x6,(Y::K),x8⟩)) (h':=bz (b8,e8)) [3,4] [0] (.inr rfl) rfl rfl ⟨⟨rfl,rfl⟩,trivial⟩ ⟨⟨rfl,rfl⟩,trivial⟩ .z ⟨_,_,_,Fu hu a7 hG a8,⟨Nat.le_trans o1 (by decide),bM o2 (by decide),Nat.le_trans o3 (by decide),⟨u5,oX⟩,bM o5 (by decide),bM o6 (by decide),⟨fL,fun z hz=>bM (hO z hz) (by decide)⟩,o8⟩,rfl,rfl⟩
theorem Fv {s0 s1 s2 s3 s4:RS} {x1 x2:Int} {x3:List bX} {x4:bJ} (a1:au (bF 0) s0 x1 s1) (a2:au (bF 1) s1 x2 s2) (a3:au jZ s2 x3 s3) (a4:au cO s3 x4 s4):au iC s0 ⟨x1,x2,x3,x4⟩ s4:=
 (a1.pair (a2.pair (a3.pair a4 eM) (oD.pair eM)) ((bV _).pair (oD.pair eM))).map (fun z:Int×Int×List bX×bJ=>(⟨z.1,z.2.1,z.2.2.1,z.2.2.2⟩:gq))
abbrev Hw:RS->((Int×Int×List cX×List gq)×bJ)×RS:=bg (bg (nR 12) (bg (bF 1) (bg (cY iE 13) (cY iC 8)))) cO
theorem Gm {s0 s1 s2 s3 s4 s5 s6 s7:RS} {x1 x2 x3 x4:Int} {l:List cX} {p:List gq} {x5:bJ} (a1:au (nR 12) s0 x1 s1) (a2:au (bF 1) s1 x2 s2) (a3:au (ia 13) s2 x3 s3) (hC:au (aP iE x3.toNat) s3 l s4) (a4:au (ia 8) s4 x4 s5) (hE:au (aP iC x4.toNat) s5 p s6) (a5:au cO s6 x5 s7):au Hw s0 ((x1,x2,l,p),x5) s7:=
 (a1.pair (a2.pair ((a3.cY sI hC).pair (a4.cY pE hE) (jL pE _)) ((jL sI _).pair (jL pE _))) ((bV _).pair ((jL sI _).pair (jL pE _)))).pair a5 eM
theorem WG [Wd]:lX 187 [.agg [.int .i64 8,.int .i64 0,.int .i64 0,.int .i64 0,.int .i64 0,.int .i64 0,.int .i64 0,.int .i64 0,.int .i64 0,.nils,.int .i64 0,.int .i64 0,.nils,.nils,.nils,.nils,.str [],.int .i64 0,.str [],.int .i64 0,.nils,.nils,.int .i64 0,.int .i64 0,.nils,.int .i64 0,.int .i64 0,.nils,.int .i64 0,.int .i64 0]] Hw (fun z=>(0<=z.1.1/\z.1.1<=12)/\(0<=z.1.2.1/\z.1.2.1<=9007199254740992)/\(dL fP).ok z.1.2.2.1/\(dL jx).ok z.1.2.2.2/\iO.ok z.2) (fun z=>.agg (aC {aE with kind:=8,src:=z.1.1,view:=z.1.2.1,changes:=z.1.2.2.1,entries:=z.1.2.2.2,sign:=z.2})):=by
 intro b0 e0 h0
 refine iV 72 [(7,⟨(.one 0 false (.one 2 false (.alt 1 (.one 3 true (.one 4 true (.one 5 true (.one 6 false (.one 7 true .done))))) (.one 3 true (.alt 1 (.one 4 true (.one 5 true (.one 6 false (.one 7 true .done)))) (.one 4 true (.one 1 true (.one 5 true (.one 6 false (.one 7 true .done)))))))))),[0,1,3]⟩)] func187 ?_
 repeat' (conv=>arg 2;whnf);first|refine aY ?_|refine aV ?_ ?_
 conv=>arg 2;whnf
 refine aW 0 (zw) b0 e0 h0 fun x1 b1 e1 a1 o1 l1=>?_
 have h1:b1.length<=8388609:=by omega
 repeat' (conv=>arg 2;whnf);first|refine aY ?_|refine aV ?_ ?_
 conv=>arg 2;whnf
 refine aW 0 (gO 1) b1 e1 h1 fun x2 b2 e2 a2 o2 l2=>?_
 have h2:b2.length<=8388609:=by omega
 repeat' (conv=>arg 2;whnf);first|refine aY ?_|refine aV ?_ ?_
 conv=>arg 2;whnf
 refine aW 0 (nK 13 (by decide)) b2 e2 h2 fun x3 b3 e3 a3 o3 l3=>?_
 have h3:b3.length<=8388609:=by omega
 have o3':0<=x3/\x3<=13:=o3
 repeat' (conv=>arg 2;whnf);first|refine aY ?_|refine aV ?_ ?_|(apply an<;>intro h<;>simp at h)
 conv=>arg 2;whnf
 refine bE (α:=Nat×List cX×List UInt8×Int) (fun a=>match a.2.1 with
  |[]=>⟨[(6,.int .i64 a.1),(5,.int .i64 x3),(4,.ptr 2 0),(3,.ptr 1 0),(0,.ptr 0 0)],[.cells 176 [.list 1 (a.2.2.1.map af),.int .i64 a.2.2.2],.cells 59 [.int .i64 8,.int .i64 x1,.int .i64 x2,.int .i64 0,.int .i64 0,.int .i64 0,.int .i64 0,.int .i64 0,.int .i64 0,.nils,.int .i64 0,.int .i64 0,.nils,.nils,.nils,.nils,.str [],.int .i64 0,.str [],.int .i64 0,.nils,.nils,.int .i64 0,.int .i64 0,.nils,.int .i64 0,.int .i64 0,.nils,.int .i64 0,.int .i64 0],.cells 59 [.int .i64 0,.int .i64 0,.int .i64 0,.int .i64 0,.int .i64 0,.int .i64 0,.int .i64 0,.int .i64 0,.int .i64 0,.nils,.int .i64 0,.int .i64 0,.nils,.nils,.nils,.nils,.str [],.int .i64 0,.str [],.int .i64 0,.nils,.nils,.int .i64 0,.int .i64 0,.nils,.int .i64 0,.int .i64 0,.nils,.int .i64 0,.int .i64 0]]⟩
  |y::k=>⟨[(6,.int .i64 a.1),(5,.int .i64 x3),(4,.ptr 2 0),(3,.ptr 1 0),(0,.ptr 0 0)],[.cells 176 [.list 1 (a.2.2.1.map af),.int .i64 a.2.2.2],.cells 59 [.int .i64 8,.int .i64 x1,.int .i64 x2,.int .i64 0,.int .i64 0,.int .i64 0,.int .i64 0,.int .i64 0,.int .i64 0,.nils,.int .i64 0,.int .i64 0,.nils,.row 3,.nils,.nils,.str [],.int .i64 0,.str [],.int .i64 0,.nils,.nils,.int .i64 0,.int .i64 0,.nils,.int .i64 0,.int .i64 0,.nils,.int .i64 0,.int .i64 0],.cells 59 [.int .i64 0,.int .i64 0,.int .i64 0,.int .i64 0,.int .i64 0,.int .i64 0,.int .i64 0,.int .i64 0,.int .i64 0,.nils,.int .i64 0,.int .i64 0,.nils,.nils,.nils,.nils,.str [],.int .i64 0,.str [],.int .i64 0,.nils,.nils,.int .i64 0,.int .i64 0,.nils,.int .i64 0,.int .i64 0,.nils,.int .i64 0,.int .i64 0],.row 145 8 ((y::k).map bU)]⟩) (fun a=>a.1<=x3.toNat/\au (dG iE a.1) (b3,e3) a.2.1 (a.2.2.1,a.2.2.2)/\(∀z∈a.2.1,fP.ok z)/\a.2.1.length=a.1) (fun a=>x3.toNat-a.1) (0,[],b3,e3) ⟨Nat.zero_le _,au.nil _,fun z hz=>(List.not_mem_nil hz).elim,rfl⟩ (Sv.aK [0,1,2]) ?_
 rintro⟨q,l,bl,el⟩ ⟨hq,hA,hO,hn⟩
 replace hq:q<=x3.toNat:=hq
 replace hA:au (dG iE q) (b3,e3) l (bl,el):=hA
 replace hO:∀z∈l,fP.ok z:=hO
 replace hn:l.length=q:=hn
 have dJ:bl.length<=8388609:=Nat.le_trans hA.len (by assumption)
 have fL:l.length<=4194304:=by omega
 cases l with
 |nil=>
  by_cases ey:(q:Int)<x3/\el=0
  ·obtain⟨hlt,rfl⟩:=ey
   repeat' (conv=>arg 2;whnf);first|refine bZ (by(try dsimp only);omega) ?_|refine aV ?_ ?_|refine bY (by simp;omega) ?_|refine aW 0 (Ft) bl 0 dJ fun x9 b9 e9 a9 o9 l9=>?_|refine aT (by constructor<;>(simp only[List.length_cons,List.length_nil,maxLen] at hn ⊢;omega)) ?_|exact aZ (q+1,[x9],b9,e9) (Sv.mk' [0,1,2,4] rfl ⟨⟨rfl,rfl⟩,⟨rfl,rfl⟩,⟨rfl,rfl⟩,⟨rfl,by show AO.row _ _ ([]++[bU x9])=AO.row _ _ _;simp⟩,trivial⟩ ⟨rfl,rfl,rfl,rfl,rfl,trivial⟩) ⟨by show q+1<=_;omega,hA.snoc sI a9,fun z hz=>by first|(rcases List.mem_append.1 hz with hz|hz;exact hO z hz;rw[List.mem_singleton.1 hz];exact o9)|(rw[List.mem_singleton.1 hz];exact o9),by simp at hn ⊢;omega⟩ (by show x3.toNat-(q+1)<x3.toNat-q;omega)
  ·have hx:q=x3.toNat\/¬el=0:=by omega
   have hG:au (aP iE x3.toNat) (b3,e3) [] (bl,el):=hA.list sI hq hx
   rcases(show(¬(q:Int)<x3)\/((q:Int)<x3/\¬el=0) by omega) with dh|⟨dh,jU⟩
   all_goals
    repeat' (conv=>arg 2;whnf);first|refine bY (by simp;omega) ?_|refine bB (by simp;omega) ?_|refine bq ?_
    conv=>arg 2;whnf
    refine aW 0 (nK 8 (by decide)) bl el dJ fun x4 b4 e4 a4 o4 l4=>?_
    have h4:b4.length<=8388609:=by omega
    have hC:=hG
    have oX:=hO
    have u5:=fL
    clear hA hO hn fL ey hx hG
    try clear dh jU
    have L9:0<=x4/\x4<=8:=o4
    conv=>arg 2;whnf
    refine bE (α:=Nat×List gq×List UInt8×Int) (fun a=>match a.2.1 with
     |[]=>⟨[(7,.int .i64 a.1),(5,.int .i64 x4),(4,.ptr 2 0),(3,.ptr 1 0),(0,.ptr 0 0)],[.cells 176 [.list 1 (a.2.2.1.map af),.int .i64 a.2.2.2],.cells 59 [.int .i64 8,.int .i64 x1,.int .i64 x2,.int .i64 0,.int .i64 0,.int .i64 0,.int .i64 0,.int .i64 0,.int .i64 0,.nils,.int .i64 0,.int .i64 0,.nils,.nils,.nils,.nils,.str [],.int .i64 0,.str [],.int .i64 0,.nils,.nils,.int .i64 0,.int .i64 0,.nils,.int .i64 0,.int .i64 0,.nils,.int .i64 0,.int .i64 0],.cells 59 [.int .i64 0,.int .i64 0,.int .i64 0,.int .i64 0,.int .i64 0,.int .i64 0,.int .i64 0,.int .i64 0,.int .i64 0,.nils,.int .i64 0,.int .i64 0,.nils,.nils,.nils,.nils,.str [],.int .i64 0,.str [],.int .i64 0,.nils,.nils,.int .i64 0,.int .i64 0,.nils,.int .i64 0,.int .i64 0,.nils,.int .i64 0,.int .i64 0]]⟩
     |y::k=>⟨[(7,.int .i64 a.1),(5,.int .i64 x4),(4,.ptr 2 0),(3,.ptr 1 0),(0,.ptr 0 0)],[.cells 176 [.list 1 (a.2.2.1.map af),.int .i64 a.2.2.2],.cells 59 [.int .i64 8,.int .i64 x1,.int .i64 x2,.int .i64 0,.int .i64 0,.int .i64 0,.int .i64 0,.int .i64 0,.int .i64 0,.nils,.int .i64 0,.int .i64 0,.nils,.nils,.row 3,.nils,.str [],.int .i64 0,.str [],.int .i64 0,.nils,.nils,.int .i64 0,.int .i64 0,.nils,.int .i64 0,.int .i64 0,.nils,.int .i64 0,.int .i64 0],.cells 59 [.int .i64 0,.int .i64 0,.int .i64 0,.int .i64 0,.int .i64 0,.int .i64 0,.int .i64 0,.int .i64 0,.int .i64 0,.nils,.int .i64 0,.int .i64 0,.nils,.nils,.nils,.nils,.str [],.int .i64 0,.str [],.int .i64 0,.nils,.nils,.int .i64 0,.int .i64 0,.nils,.int .i64 0,.int .i64 0,.nils,.int .i64 0,.int .i64 0],.row 159 5 ((y::k).map dV)]⟩) (fun a=>a.1<=x4.toNat/\au (dG iC a.1) (b4,e4) a.2.1 (a.2.2.1,a.2.2.2)/\(∀z∈a.2.1,jx.ok z)/\a.2.1.length=a.1) (fun a=>x4.toNat-a.1) (0,[],b4,e4) ⟨Nat.zero_le _,au.nil _,fun z hz=>(List.not_mem_nil hz).elim,rfl⟩ (Sv.aK [0,1,2]) ?_
    rintro⟨q,l,bl,el⟩ ⟨hq,hA,hO,hn⟩
    replace hq:q<=x4.toNat:=hq
    replace hA:au (dG iC q) (b4,e4) l (bl,el):=hA
    replace hO:∀z∈l,jx.ok z:=hO
    replace hn:l.length=q:=hn
    have dJ:bl.length<=8388609:=Nat.le_trans hA.len (by assumption)
    have fL:l.length<=4194304:=by omega
    cases l with
    |nil=>
     by_cases ey:(q:Int)<x4/\el=0
     ·obtain⟨hlt,rfl⟩:=ey
      repeat' (conv=>arg 2;whnf);first|refine bY (by simp;omega) ?_
      conv=>arg 2;whnf
      refine aW 0 (gO 0) bl 0 dJ fun u7 u9 AA a21 va Ma=>?_
      have AB:u9.length<=8388609:=by omega
      repeat' (conv=>arg 2;whnf);first|refine aY ?_|refine aV ?_ ?_
      conv=>arg 2;whnf
      refine aW 0 (gO 1) u9 AA AB fun vc ve AD AE vf Mb=>?_
      have AF:ve.length<=8388609:=by omega
      repeat' (conv=>arg 2;whnf);first|refine aY ?_|refine aV ?_ ?_
      conv=>arg 2;whnf
      refine aW 0 (zk) ve AD AF fun vg vh AG AH vi Mc=>?_
      have AI:vh.length<=8388609:=by omega
      repeat' (conv=>arg 2;whnf);first|refine aY ?_|refine aV ?_ ?_
      conv=>arg 2;whnf
      refine aW 0 (kE) vh AG AI fun vk vl AJ a24 vm Md=>?_
      have Me:vl.length<=8388609:=by omega
      repeat' (conv=>arg 2;whnf);first|refine bZ (by(try dsimp only);omega) ?_|refine aT (by constructor<;>(simp only[List.length_cons,List.length_nil,maxLen] at hn ⊢;omega)) ?_|exact aZ (q+1,[(gq.mk u7 vc vg vk)],vl,AJ) (Sv.mk' [0,1,2,8] rfl ⟨⟨rfl,rfl⟩,⟨rfl,rfl⟩,⟨rfl,rfl⟩,⟨rfl,by show AO.row _ _ ([]++[dV (gq.mk u7 vc vg vk)])=AO.row _ _ _;simp⟩,trivial⟩ ⟨rfl,rfl,rfl,rfl,rfl,trivial⟩) ⟨by show q+1<=_;omega,hA.snoc pE (Fv a21 AE AH a24),fun z hz=>by first|(rcases List.mem_append.1 hz with hz|hz;exact hO z hz;rw[List.mem_singleton.1 hz];exact⟨bM va (by decide),bM vf (by decide),vi,vm⟩)|(rw[List.mem_singleton.1 hz];exact⟨bM va (by decide),bM vf (by decide),vi,vm⟩),by simp at hn ⊢;omega⟩ (by show x4.toNat-(q+1)<x4.toNat-q;omega)
     ·have hx:q=x4.toNat\/¬el=0:=by omega
      have hG:au (aP iC x4.toNat) (b4,e4) [] (bl,el):=hA.list pE hq hx
      rcases(show(¬(q:Int)<x4)\/((q:Int)<x4/\¬el=0) by omega) with dh|⟨dh,jU⟩
      all_goals
       repeat' (conv=>arg 2;whnf);first|refine bY (by simp;omega) ?_|refine bB (by simp;omega) ?_|refine bq ?_
       conv=>arg 2;whnf
       refine aW 0 (kE) bl el dJ fun x5 b5 e5 a5 o5 l5=>?_
       have h5:b5.length<=8388609:=by omega
       repeat' (conv=>arg 2;whnf);first|exact eg (r:=.agg (aC {aE with kind:=8,src:=x1,view:=x2,changes:=[],entries:=[],sign:=x5})) (h':=bz (b5,e5)) [] [0] (.inr rfl) rfl rfl ⟨⟨rfl,rfl⟩,trivial⟩ ⟨⟨rfl,rfl⟩,trivial⟩ .z ⟨((x1,x2,[],[]),x5),_,_,Gm a1 a2 a3 hC a4 hG a5,⟨o1,o2,⟨u5,oX⟩,⟨fL,hO⟩,o5⟩,rfl,rfl⟩
    |cons y k=>
     by_cases ey:(q:Int)<x4/\el=0
     ·obtain⟨hlt,rfl⟩:=ey
      repeat' (conv=>arg 2;whnf);first|refine bY (by simp;omega) ?_
      conv=>arg 2;whnf
      refine aW 0 (gO 0) bl 0 dJ fun u7 u9 AA a21 va Ma=>?_
      have AB:u9.length<=8388609:=by omega
      repeat' (conv=>arg 2;whnf);first|refine aY ?_|refine aV ?_ ?_
      conv=>arg 2;whnf
      refine aW 0 (gO 1) u9 AA AB fun vc ve AD AE vf Mb=>?_
      have AF:ve.length<=8388609:=by omega
      repeat' (conv=>arg 2;whnf);first|refine aY ?_|refine aV ?_ ?_
      conv=>arg 2;whnf
      refine aW 0 (zk) ve AD AF fun vg vh AG AH vi Mc=>?_
      have AI:vh.length<=8388609:=by omega
      repeat' (conv=>arg 2;whnf);first|refine aY ?_|refine aV ?_ ?_
      conv=>arg 2;whnf
      refine aW 0 (kE) vh AG AI fun vk vl AJ a24 vm Md=>?_
      have Me:vl.length<=8388609:=by omega
      repeat' (conv=>arg 2;whnf);first|refine bZ (by(try dsimp only);omega) ?_|refine aT (by constructor<;>(simp only[List.length_cons,List.length_nil,List.length_map,maxLen] at hn ⊢;omega)) ?_|exact aZ (q+1,((y::k)++[(gq.mk u7 vc vg vk)]),vl,AJ) (Sv.mk' [0,1,2,9] rfl ⟨⟨rfl,rfl⟩,⟨rfl,rfl⟩,⟨rfl,rfl⟩,⟨rfl,by show AO.row _ _ ((y::k).map dV++[dV (gq.mk u7 vc vg vk)])=AO.row _ _ _;simp⟩,trivial⟩ ⟨rfl,rfl,rfl,rfl,rfl,trivial⟩) ⟨by show q+1<=_;omega,hA.snoc pE (Fv a21 AE AH a24),fun z hz=>by first|(rcases List.mem_append.1 hz with hz|hz;exact hO z hz;rw[List.mem_singleton.1 hz];exact⟨bM va (by decide),bM vf (by decide),vi,vm⟩)|(rw[List.mem_singleton.1 hz];exact⟨bM va (by decide),bM vf (by decide),vi,vm⟩),by simp at hn ⊢;omega⟩ (by show x4.toNat-(q+1)<x4.toNat-q;omega)
     ·have hx:q=x4.toNat\/¬el=0:=by omega
      have hG:au (aP iC x4.toNat) (b4,e4) (y::k) (bl,el):=hA.list pE hq hx
      rcases(show(¬(q:Int)<x4)\/((q:Int)<x4/\¬el=0) by omega) with dh|⟨dh,jU⟩
      all_goals
       repeat' (conv=>arg 2;whnf);first|refine bY (by simp;omega) ?_|refine bB (by simp;omega) ?_|refine bq ?_
       conv=>arg 2;whnf
       refine aW 0 (kE) bl el dJ fun x5 b5 e5 a5 o5 l5=>?_
       have h5:b5.length<=8388609:=by omega
       repeat' (conv=>arg 2;whnf);first|exact eg (r:=.agg (aC {aE with kind:=8,src:=x1,view:=x2,changes:=[],entries:=(y::k),sign:=x5})) (h':=bz (b5,e5)) [3] [0] (.inr rfl) rfl rfl ⟨⟨rfl,rfl⟩,trivial⟩ ⟨⟨rfl,rfl⟩,trivial⟩ .z ⟨((x1,x2,[],(y::k)),x5),_,_,Gm a1 a2 a3 hC a4 hG a5,⟨o1,o2,⟨u5,oX⟩,⟨fL,hO⟩,o5⟩,rfl,rfl⟩
 |cons y k=>
  by_cases ey:(q:Int)<x3/\el=0
  ·obtain⟨hlt,rfl⟩:=ey
   repeat' (conv=>arg 2;whnf);first|refine bZ (by(try dsimp only);omega) ?_|refine aV ?_ ?_|refine bY (by simp;omega) ?_|refine aW 0 (Ft) bl 0 dJ fun x9 b9 e9 a9 o9 l9=>?_|refine aT (by constructor<;>(simp only[List.length_cons,List.length_nil,List.length_map,maxLen] at hn ⊢;omega)) ?_|exact aZ (q+1,((y::k)++[x9]),b9,e9) (Sv.mk' [0,1,2,5] rfl ⟨⟨rfl,rfl⟩,⟨rfl,rfl⟩,⟨rfl,rfl⟩,⟨rfl,by show AO.row _ _ ((y::k).map bU++[bU x9])=AO.row _ _ _;simp⟩,trivial⟩ ⟨rfl,rfl,rfl,rfl,rfl,trivial⟩) ⟨by show q+1<=_;omega,hA.snoc sI a9,fun z hz=>by first|(rcases List.mem_append.1 hz with hz|hz;exact hO z hz;rw[List.mem_singleton.1 hz];exact o9)|(rw[List.mem_singleton.1 hz];exact o9),by simp at hn ⊢;omega⟩ (by show x3.toNat-(q+1)<x3.toNat-q;omega)
  ·have hx:q=x3.toNat\/¬el=0:=by omega
   have hG:au (aP iE x3.toNat) (b3,e3) (y::k) (bl,el):=hA.list sI hq hx
   rcases(show(¬(q:Int)<x3)\/((q:Int)<x3/\¬el=0) by omega) with dh|⟨dh,jU⟩
   all_goals
    repeat' (conv=>arg 2;whnf);first|refine bY (by simp;omega) ?_|refine bB (by simp;omega) ?_|refine bq ?_
    conv=>arg 2;whnf
    refine aW 0 (nK 8 (by decide)) bl el dJ fun x4 b4 e4 a4 o4 l4=>?_
    have h4:b4.length<=8388609:=by omega
    have hC:=hG
    have oX:=hO
    have u5:=fL
    clear hA hO hn fL ey hx hG
    try clear dh jU
    have L9:0<=x4/\x4<=8:=o4
    conv=>arg 2;whnf
    refine bE (α:=Nat×List gq×List UInt8×Int) (fun a=>match a.2.1 with
     |[]=>⟨[(7,.int .i64 a.1),(5,.int .i64 x4),(4,.ptr 2 0),(3,.ptr 1 0),(0,.ptr 0 0)],[.cells 176 [.list 1 (a.2.2.1.map af),.int .i64 a.2.2.2],.cells 59 [.int .i64 8,.int .i64 x1,.int .i64 x2,.int .i64 0,.int .i64 0,.int .i64 0,.int .i64 0,.int .i64 0,.int .i64 0,.nils,.int .i64 0,.int .i64 0,.nils,.row 3,.nils,.nils,.str [],.int .i64 0,.str [],.int .i64 0,.nils,.nils,.int .i64 0,.int .i64 0,.nils,.int .i64 0,.int .i64 0,.nils,.int .i64 0,.int .i64 0],.cells 59 [.int .i64 0,.int .i64 0,.int .i64 0,.int .i64 0,.int .i64 0,.int .i64 0,.int .i64 0,.int .i64 0,.int .i64 0,.nils,.int .i64 0,.int .i64 0,.nils,.nils,.nils,.nils,.str [],.int .i64 0,.str [],.int .i64 0,.nils,.nils,.int .i64 0,.int .i64 0,.nils,.int .i64 0,.int .i64 0,.nils,.int .i64 0,.int .i64 0],.row 145 8 ((y::k).map bU)]⟩
     |Y::K=>⟨[(7,.int .i64 a.1),(5,.int .i64 x4),(4,.ptr 2 0),(3,.ptr 1 0),(0,.ptr 0 0)],[.cells 176 [.list 1 (a.2.2.1.map af),.int .i64 a.2.2.2],.cells 59 [.int .i64 8,.int .i64 x1,.int .i64 x2,.int .i64 0,.int .i64 0,.int .i64 0,.int .i64 0,.int .i64 0,.int .i64 0,.nils,.int .i64 0,.int .i64 0,.nils,.row 3,.row 4,.nils,.str [],.int .i64 0,.str [],.int .i64 0,.nils,.nils,.int .i64 0,.int .i64 0,.nils,.int .i64 0,.int .i64 0,.nils,.int .i64 0,.int .i64 0],.cells 59 [.int .i64 0,.int .i64 0,.int .i64 0,.int .i64 0,.int .i64 0,.int .i64 0,.int .i64 0,.int .i64 0,.int .i64 0,.nils,.int .i64 0,.int .i64 0,.nils,.nils,.nils,.nils,.str [],.int .i64 0,.str [],.int .i64 0,.nils,.nils,.int .i64 0,.int .i64 0,.nils,.int .i64 0,.int .i64 0,.nils,.int .i64 0,.int .i64 0],.row 145 8 ((y::k).map bU),.row 159 5 ((Y::K).map dV)]⟩) (fun a=>a.1<=x4.toNat/\au (dG iC a.1) (b4,e4) a.2.1 (a.2.2.1,a.2.2.2)/\(∀z∈a.2.1,jx.ok z)/\a.2.1.length=a.1) (fun a=>x4.toNat-a.1) (0,[],b4,e4) ⟨Nat.zero_le _,au.nil _,fun z hz=>(List.not_mem_nil hz).elim,rfl⟩ (Sv.aK [0,1,2,3]) ?_
    rintro⟨q,l,bl,el⟩ ⟨hq,hA,hO,hn⟩
    replace hq:q<=x4.toNat:=hq
    replace hA:au (dG iC q) (b4,e4) l (bl,el):=hA
    replace hO:∀z∈l,jx.ok z:=hO
    replace hn:l.length=q:=hn
    have dJ:bl.length<=8388609:=Nat.le_trans hA.len (by assumption)
    have fL:l.length<=4194304:=by omega
    cases l with
    |nil=>
     by_cases ey:(q:Int)<x4/\el=0
     ·obtain⟨hlt,rfl⟩:=ey
      repeat' (conv=>arg 2;whnf);first|refine bY (by simp;omega) ?_
      conv=>arg 2;whnf
      refine aW 0 (gO 0) bl 0 dJ fun u7 u9 AA a21 va Ma=>?_
      have AB:u9.length<=8388609:=by omega
      repeat' (conv=>arg 2;whnf);first|refine aY ?_|refine aV ?_ ?_
      conv=>arg 2;whnf
      refine aW 0 (gO 1) u9 AA AB fun vc ve AD AE vf Mb=>?_
      have AF:ve.length<=8388609:=by omega
      repeat' (conv=>arg 2;whnf);first|refine aY ?_|refine aV ?_ ?_
      conv=>arg 2;whnf
      refine aW 0 (zk) ve AD AF fun vg vh AG AH vi Mc=>?_
      have AI:vh.length<=8388609:=by omega
      repeat' (conv=>arg 2;whnf);first|refine aY ?_|refine aV ?_ ?_
      conv=>arg 2;whnf
      refine aW 0 (kE) vh AG AI fun vk vl AJ a24 vm Md=>?_
      have Me:vl.length<=8388609:=by omega
      repeat' (conv=>arg 2;whnf);first|refine bZ (by(try dsimp only);omega) ?_|refine aT (by constructor<;>(simp only[List.length_cons,List.length_nil,maxLen] at hn ⊢;omega)) ?_|exact aZ (q+1,[(gq.mk u7 vc vg vk)],vl,AJ) (Sv.mk' [0,1,2,3,9] rfl ⟨⟨rfl,rfl⟩,⟨rfl,rfl⟩,⟨rfl,rfl⟩,⟨rfl,rfl⟩,⟨rfl,by show AO.row _ _ ([]++[dV (gq.mk u7 vc vg vk)])=AO.row _ _ _;simp⟩,trivial⟩ ⟨rfl,rfl,rfl,rfl,rfl,trivial⟩) ⟨by show q+1<=_;omega,hA.snoc pE (Fv a21 AE AH a24),fun z hz=>by first|(rcases List.mem_append.1 hz with hz|hz;exact hO z hz;rw[List.mem_singleton.1 hz];exact⟨bM va (by decide),bM vf (by decide),vi,vm⟩)|(rw[List.mem_singleton.1 hz];exact⟨bM va (by decide),bM vf (by decide),vi,vm⟩),by simp at hn ⊢;omega⟩ (by show x4.toNat-(q+1)<x4.toNat-q;omega)
     ·have hx:q=x4.toNat\/¬el=0:=by omega
      have hG:au (aP iC x4.toNat) (b4,e4) [] (bl,el):=hA.list pE hq hx
      rcases(show(¬(q:Int)<x4)\/((q:Int)<x4/\¬el=0) by omega) with dh|⟨dh,jU⟩
      all_goals
       repeat' (conv=>arg 2;whnf);first|refine bY (by simp;omega) ?_|refine bB (by simp;omega) ?_|refine bq ?_
       conv=>arg 2;whnf
       refine aW 0 (kE) bl el dJ fun x5 b5 e5 a5 o5 l5=>?_
       have h5:b5.length<=8388609:=by omega
       repeat' (conv=>arg 2;whnf);first|exact eg (r:=.agg (aC {aE with kind:=8,src:=x1,view:=x2,changes:=(y::k),entries:=[],sign:=x5})) (h':=bz (b5,e5)) [3] [0] (.inr rfl) rfl rfl ⟨⟨rfl,rfl⟩,trivial⟩ ⟨⟨rfl,rfl⟩,trivial⟩ .z ⟨((x1,x2,(y::k),[]),x5),_,_,Gm a1 a2 a3 hC a4 hG a5,⟨o1,o2,⟨u5,oX⟩,⟨fL,hO⟩,o5⟩,rfl,rfl⟩
    |cons Y K=>
     by_cases ey:(q:Int)<x4/\el=0
     ·obtain⟨hlt,rfl⟩:=ey
      repeat' (conv=>arg 2;whnf);first|refine bY (by simp;omega) ?_
      conv=>arg 2;whnf
      refine aW 0 (gO 0) bl 0 dJ fun u7 u9 AA a21 va Ma=>?_
      have AB:u9.length<=8388609:=by omega
      repeat' (conv=>arg 2;whnf);first|refine aY ?_|refine aV ?_ ?_
      conv=>arg 2;whnf
      refine aW 0 (gO 1) u9 AA AB fun vc ve AD AE vf Mb=>?_
      have AF:ve.length<=8388609:=by omega
      repeat' (conv=>arg 2;whnf);first|refine aY ?_|refine aV ?_ ?_
      conv=>arg 2;whnf
      refine aW 0 (zk) ve AD AF fun vg vh AG AH vi Mc=>?_
      have AI:vh.length<=8388609:=by omega
      repeat' (conv=>arg 2;whnf);first|refine aY ?_|refine aV ?_ ?_
      conv=>arg 2;whnf
      refine aW 0 (kE) vh AG AI fun vk vl AJ a24 vm Md=>?_
      have Me:vl.length<=8388609:=by omega
      repeat' (conv=>arg 2;whnf);first|refine bZ (by(try dsimp only);omega) ?_|refine aT (by constructor<;>(simp only[List.length_cons,List.length_nil,List.length_map,maxLen] at hn ⊢;omega)) ?_|exact aZ (q+1,((Y::K)++[(gq.mk u7 vc vg vk)]),vl,AJ) (Sv.mk' [0,1,2,3,10] rfl ⟨⟨rfl,rfl⟩,⟨rfl,rfl⟩,⟨rfl,rfl⟩,⟨rfl,rfl⟩,⟨rfl,by show AO.row _ _ ((Y::K).map dV++[dV (gq.mk u7 vc vg vk)])=AO.row _ _ _;simp⟩,trivial⟩ ⟨rfl,rfl,rfl,rfl,rfl,trivial⟩) ⟨by show q+1<=_;omega,hA.snoc pE (Fv a21 AE AH a24),fun z hz=>by first|(rcases List.mem_append.1 hz with hz|hz;exact hO z hz;rw[List.mem_singleton.1 hz];exact⟨bM va (by decide),bM vf (by decide),vi,vm⟩)|(rw[List.mem_singleton.1 hz];exact⟨bM va (by decide),bM vf (by decide),vi,vm⟩),by simp at hn ⊢;omega⟩ (by show x4.toNat-(q+1)<x4.toNat-q;omega)
     ·have hx:q=x4.toNat\/¬el=0:=by omega
      have hG:au (aP iC x4.toNat) (b4,e4) (Y::K) (bl,el):=hA.list pE hq hx
      rcases(show(¬(q:Int)<x4)\/((q:Int)<x4/\¬el=0) by omega) with dh|⟨dh,jU⟩
      all_goals
       repeat' (conv=>arg 2;whnf);first|refine bY (by simp;omega) ?_|refine bB (by simp;omega) ?_|refine bq ?_
       conv=>arg 2;whnf
       refine aW 0 (kE) bl el dJ fun x5 b5 e5 a5 o5 l5=>?_
       have h5:b5.length<=8388609:=by omega
       repeat' (conv=>arg 2;whnf);first|exact eg (r:=.agg (aC {aE with kind:=8,src:=x1,view:=x2,changes:=(y::k),entries:=(Y::K),sign:=x5})) (h':=bz (b5,e5)) [3,4] [0] (.inr rfl) rfl rfl ⟨⟨rfl,rfl⟩,trivial⟩ ⟨⟨rfl,rfl⟩,trivial⟩ .z ⟨((x1,x2,(y::k),(Y::K)),x5),_,_,Gm a1 a2 a3 hC a4 hG a5,⟨o1,o2,⟨u5,oX⟩,⟨fL,hO⟩,o5⟩,rfl,rfl⟩
theorem mq (k:Int) {s0 s1 s2 s3:RS} {m:aD} {g:bJ} (a0:au (nR MX) s0 k s1) (hb:au (cR k) s1 m s2) (hs:au (jS k) s2 g s3):au aU s0 {m with sign:=g} s3:=
 (a0.bind (q:=fun k=>bg (cR k) (jS k)) (hb.pair hs (zG k)) (fun k=>(C0 k).pair (zG k))).map (fun z:Int×aD×bJ=>({z.2.1 with sign:=z.2.2}:aD))
theorem Es (k:Int) (h:bW k=false) {s0 s1 s2:RS} {m:aD} (a0:au (nR MX) s0 k s1) (hb:au (cR k) s1 m s2):au aU s0 {m with sign:=dx} s2:=
 mq k a0 hb (by unfold jS;rw[h];exact au.pure _ _)
theorem Cy (k:Int) (h:bW k=true) {s0 s1 s2 s3:RS} {m:aD} {g:bJ} (a0:au (nR MX) s0 k s1) (hb:au (cR k) s1 m s2) (hs:au cO s2 g s3):au aU s0 {m with sign:=g} s3:=
 mq k a0 hb (by unfold jS;rw[h];exact hs)
theorem SD {k:Int} (h:¬(1<=k/\k<=12)):cR k=fZ (qM {aE with kind:=k}) fun _=>100:=by
 unfold cR
 rw[if_neg (by omega),if_neg (by omega),if_neg (by omega),if_neg (by omega),if_neg (by omega),if_neg (by omega),if_neg (by omega),if_neg (by omega),if_neg (by omega),if_neg (by omega),if_neg (by omega),if_neg (by omega)]
theorem KC {s0 s1 u:RS} {l:List bX} (a0:au (nR MX) s0 1 s1) (hb:au (fZ jZ fun l=>if l.length=1 then 0 else 100) s1 l u):au aU s0 {aE with kind:=1,batch:=l} u:=
 Es 1 (by decide) a0 ((hb.map (fun l:List bX=>({aE with kind:=1,batch:=l}:aD))).to (by unfold cR;rw[if_pos rfl]) rfl)
theorem adg {s0 s1 s2:RS} {l:List bX} (a0:au (nR MX) s0 1 s1) (a1:au jZ s1 l s2) (h:¬l.length=1):au aU s0 {aE with kind:=1,batch:=l} ([],100):=by
 refine KC a0 (a1.nM (f:=fun l=>if l.length=1 then 0 else 100) (fun _=>?_) (show ¬(100:Int)=0 by decide) (Nat.zero_le _))
 show ¬(if l.length=1 then(0:Int) else 100)=0
 rw[if_neg h]
 decide
theorem adh {s0 s1 s2 s3 s4:RS} {x:Int×Int×Int×Int} {l:List bX} {g:bJ} (a0:au (nR MX) s0 2 s1) (a1:au qF s1 x s2) (a2:au jZ s2 l s3) (aS:au cO s3 g s4):au aU s0 {aE with kind:=2,src:=x.1,view:=x.2.1,seq:=x.2.2.1,ah:=x.2.2.2,batch:=l,sign:=g} s4:=
 Cy 2 (by decide) a0 (((a1.pair a2 oD).map (fun z:(Int×Int×Int×Int)×List bX=>({aE with kind:=2,src:=z.1.1,view:=z.1.2.1,seq:=z.1.2.2.1,ah:=z.1.2.2.2,batch:=z.2}:aD))).to (by unfold cR;rw[if_neg (by decide),if_pos rfl]) rfl) aS
theorem adi {s0 s1 s2 s3:RS} {x:Int×Int×Int×Int} {g:bJ} (a0:au (nR MX) s0 3 s1) (a1:au qF s1 x s2) (aS:au cO s2 g s3):au aU s0 {aE with kind:=3,src:=x.1,view:=x.2.1,seq:=x.2.2.1,ah:=x.2.2.2,sign:=g} s3:=
 Cy 3 (by decide) a0 ((a1.map (fun z:Int×Int×Int×Int=>({aE with kind:=3,src:=z.1,view:=z.2.1,seq:=z.2.2.1,ah:=z.2.2.2}:aD))).to (by unfold cR;rw[if_neg (by decide),if_neg (by decide),if_pos rfl]) rfl) aS
theorem adj {s0 s1 s2 s3:RS} {x:Int×Int×Int×Int} {g:bJ} (a0:au (nR MX) s0 4 s1) (a1:au qF s1 x s2) (aS:au cO s2 g s3):au aU s0 {aE with kind:=4,src:=x.1,view:=x.2.1,seq:=x.2.2.1,ah:=x.2.2.2,sign:=g} s3:=
 Cy 4 (by decide) a0 ((a1.map (fun z:Int×Int×Int×Int=>({aE with kind:=4,src:=z.1,view:=z.2.1,seq:=z.2.2.1,ah:=z.2.2.2}:aD))).to (by unfold cR;rw[if_neg (by decide),if_neg (by decide),if_neg (by decide),if_pos rfl]) rfl) aS
theorem adk {s0 s1 s2 s3 s4 s5 s6 s7:RS} {a b c d:Int} {e:nH} {g:bJ} (a0:au (nR MX) s0 5 s1) (a1:au (nR 12) s1 a s2) (a2:au (bF 0) s2 b s3) (a3:au (nR 7) s3 c s4) (a4:au (bF 0) s4 d s5) (a5:au rz s5 e s6) (aS:au cO s6 g s7):au aU s0 {aE with kind:=5,src:=a,view:=b,bD:=c,time:=d,result:=e,sign:=g} s7:=
 Cy 5 (by decide) a0 (((a1.pair (a2.pair (a3.pair (a4.pair a5 Be) ((bV _).pair Be)) ((dD _).pair ((bV _).pair Be))) ((bV _).pair ((dD _).pair ((bV _).pair Be)))).map (fun z:Int×Int×Int×Int×nH=>({aE with kind:=5,src:=z.1,view:=z.2.1,bD:=z.2.2.1,time:=z.2.2.2.1,result:=z.2.2.2.2}:aD))).to (by unfold cR;rw[if_neg (by decide),if_neg (by decide),if_neg (by decide),if_neg (by decide),if_pos rfl]) rfl) aS
theorem adl {s0 s1 s2 s3 s4 s5:RS} {a b c:Int} {g:bJ} (a0:au (nR MX) s0 6 s1) (a1:au (nR 12) s1 a s2) (a2:au (bF 1) s2 b s3) (a3:au (bF 1) s3 c s4) (aS:au cO s4 g s5):au aU s0 {aE with kind:=6,src:=a,seq:=b,ah:=c,sign:=g} s5:=
 Cy 6 (by decide) a0 (((a1.pair (a2.pair a3 (bV _)) ((bV _).pair (bV _))).map (fun z:Int×Int×Int=>({aE with kind:=6,src:=z.1,seq:=z.2.1,ah:=z.2.2}:aD))).to (by unfold cR;rw[if_neg (by decide),if_neg (by decide),if_neg (by decide),if_neg (by decide),if_neg (by decide),if_pos rfl]) rfl) aS
theorem RA {s0 s1 s2:RS} {c:cX} (a0:au (nR MX) s0 7 s1) (a1:au iE s1 c s2):au aU s0 {aE with kind:=7,src:=c.src,view:=c.view,changes:=[c]} s2:=
 Es 7 (by decide) a0 ((a1.map (fun c:cX=>({aE with kind:=7,src:=c.src,view:=c.view,changes:=[c]}:aD))).to (by unfold cR;rw[if_neg (by decide),if_neg (by decide),if_neg (by decide),if_neg (by decide),if_neg (by decide),if_neg (by decide),if_pos rfl]) rfl)
theorem adm {s0 s1 u:RS} {z:(Int×Int×List cX×List gq)×bJ} (a0:au (nR MX) s0 8 s1) (a1:au Hw s1 z u):au aU s0 {aE with kind:=8,src:=z.1.1,view:=z.1.2.1,changes:=z.1.2.2.1,entries:=z.1.2.2.2,sign:=z.2} u:=by
 have e:bg (cR 8) (jS 8)=bN (fun z:(Int×Int×List cX×List gq)×bJ=>(({aE with kind:=8,src:=z.1.1,view:=z.1.2.1,changes:=z.1.2.2.1,entries:=z.1.2.2.2}:aD),z.2)) Hw:=by
  unfold cR
  rw[if_neg (by decide),if_neg (by decide),if_neg (by decide),if_neg (by decide),if_neg (by decide),if_neg (by decide),if_neg (by decide),if_pos rfl]
  rfl
 have a2:au (bg (cR 8) (jS 8)) s1 (({aE with kind:=8,src:=z.1.1,view:=z.1.2.1,changes:=z.1.2.2.1,entries:=z.1.2.2.2}:aD),z.2) u:=
  (a1.map (fun z:(Int×Int×List cX×List gq)×bJ=>(({aE with kind:=8,src:=z.1.1,view:=z.1.2.1,changes:=z.1.2.2.1,entries:=z.1.2.2.2}:aD),z.2))).to e rfl
 exact(a0.bind (q:=fun k=>bg (cR k) (jS k)) a2 (fun k=>(C0 k).pair (zG k))).map (fun z:Int×aD×bJ=>({z.2.1 with sign:=z.2.2}:aD))
theorem adn {s0 s1 s2 s3 s4:RS} {a b:Int} {g:bJ} (a0:au (nR MX) s0 9 s1) (a1:au (nR 12) s1 a s2) (a2:au (bF 0) s2 b s3) (aS:au cO s3 g s4):au aU s0 {aE with kind:=9,src:=a,seq:=b,sign:=g} s4:=
 Cy 9 (by decide) a0 (((a1.pair a2 (bV _)).map (fun z:Int×Int=>({aE with kind:=9,src:=z.1,seq:=z.2}:aD))).to (by unfold cR;rw[if_neg (by decide),if_neg (by decide),if_neg (by decide),if_neg (by decide),if_neg (by decide),if_neg (by decide),if_neg (by decide),if_neg (by decide),if_pos rfl]) rfl) aS
theorem abQ {s0 s1 s2 s3 s4:RS} {a:Int} {b:gX} {c:List UInt8} (a0:au (nR MX) s0 10 s1) (a1:au (nR 12) s1 a s2) (a2:au lT s2 b s3) (a3:au (fB 262144) s3 c s4):au aU s0 {aE with kind:=10,src:=a,cert:=b,state:=c} s4:=
 Es 10 (by decide) a0 (((a1.pair (a2.pair a3 (iB _)) (uw.pair (iB _))).map (fun z:Int×gX×List UInt8=>({aE with kind:=10,src:=z.1,cert:=z.2.1,state:=z.2.2}:aD))).to (by unfold cR;rw[if_neg (by decide),if_neg (by decide),if_neg (by decide),if_neg (by decide),if_neg (by decide),if_neg (by decide),if_neg (by decide),if_neg (by decide),if_neg (by decide),if_pos rfl]) rfl)
theorem abR {s0 s1 s2 s3 s4:RS} {a c:Int} {b:List UInt8} (a0:au (nR MX) s0 11 s1) (a1:au (nR 7) s1 a s2) (a2:au nS s2 b s3) (a3:au (bF 0) s3 c s4):au aU s0 {aE with kind:=11,bD:=a,av:=b,offset:=c} s4:=
 Es 11 (by decide) a0 (((a1.pair (a2.pair a3 (bV _)) (C9.pair (bV _))).map (fun z:Int×List UInt8×Int=>({aE with kind:=11,bD:=z.1,av:=z.2.1,offset:=z.2.2}:aD))).to (by unfold cR;rw[if_neg (by decide),if_neg (by decide),if_neg (by decide),if_neg (by decide),if_neg (by decide),if_neg (by decide),if_neg (by decide),if_neg (by decide),if_neg (by decide),if_neg (by decide),if_pos rfl]) rfl)
theorem abS {s0 s1 s2 s3:RS} {a:Int} {b:jX} (a0:au (nR MX) s0 12 s1) (a1:au (nR 12) s1 a s2) (a2:au uD s2 b s3):au aU s0 {aE with kind:=12,src:=a,proof:=b} s3:=
 Es 12 (by decide) a0 (((a1.pair a2 Jb).map (fun z:Int×jX=>({aE with kind:=12,src:=z.1,proof:=z.2}:aD))).to (by unfold cR;rw[if_neg (by decide),if_neg (by decide),if_neg (by decide),if_neg (by decide),if_neg (by decide),if_neg (by decide),if_neg (by decide),if_neg (by decide),if_neg (by decide),if_neg (by decide),if_neg (by decide),if_pos rfl]) rfl)
theorem QS {k:Int} {s0 s1 u:RS} (h:¬(1<=k/\k<=12)) (a0:au (nR MX) s0 k s1) (hu:¬u.2=0) (hl:u.1=[]):au aU s0 {aE with kind:=k} u:=by
 have hb:au (cR k) s1 {aE with kind:=k} u:=by
  rw[SD h]
  exact au.guard (f:=fun _:aD=>(100:Int)) (u:=u) (au.pure {aE with kind:=k} s1) (fun _ e=>absurd e (by decide)) (fun _ _=>hu) (fun _=>hu) (by rw[hl];exact Nat.zero_le _)
 have hs:au (jS k) u dx u:=.xu ((zG k).stay u hu) hu (Nat.le_refl _)
 exact mq k a0 hb hs
theorem ado [Wd]:lX 126 [] aU bh.ok (fun m=>.agg (aC m)):=by
 intro b0 e0 h0
 obtain⟨z1,z2,z3,z4,z5,z6,z7,z8,z9,iW,nY,z12,nZ,og,oh,om,uU⟩:=vS
 refine ak 147 [] func126 ?_
 repeat' (conv=>arg 2;whnf);first|refine aY ?_|refine aV ?_ ?_
 conv=>arg 2;whnf
 refine aW 0 (mg MX (by decide)) b0 e0 h0 fun x1 b1 e1 a1 o1 l1=>?_
 have h1:b1.length<=8388609:=by omega
 have Ep:0<=x1/\x1<=9007199254740992:=o1
 have d1:=bM Ep (by decide)
 have hk:x1=1\/x1=2\/x1=3\/x1=4\/x1=5\/x1=6\/x1=7\/x1=8\/x1=9\/x1=10\/x1=11\/x1=12\/¬(1<=x1/\x1<=12):=by omega
 rcases hk with rfl|rfl|rfl|rfl|rfl|rfl|rfl|rfl|rfl|rfl|rfl|rfl|hk
 ·repeat'
   (conv=>arg 2;whnf)
   first|refine bw (by first|rfl|exact cj (by omega) (by omega)) ?_
  conv=>arg 2;whnf
  refine aW 0 (zk) b1 e1 h1 fun x2 b2 e2 a2 o2 l2=>?_
  have h2:b2.length<=8388609:=by omega
  by_cases he:e2=0
  ·subst he
   by_cases hl:x2.length=1
   ·repeat' (conv=>arg 2;whnf);first|refine bB (by simp[hl]) ?_|exact bf (r:=.agg (aC {aE with kind:=1,batch:=x2})) (h':=bz (b2,0)) [0] (.inr rfl) rfl rfl ⟨⟨rfl,rfl⟩,trivial⟩ ⟨⟨rfl,rfl⟩,trivial⟩ .z ⟨_,_,_,KC a1 (a2.gQ (fun _=>if_pos hl)),⟨d1,z2,z3,z4,z5,z6,z7,z8,o2,iW,nY,z12,nZ,og,oh,om,uU⟩,rfl,rfl⟩
   ·repeat' (conv=>arg 2;whnf);first|refine bY (by simp;omega) ?_|refine cV [0] (kF (k:=100) (by decide) b2) ?_|exact bf (r:=.agg (aC {aE with kind:=1,batch:=x2})) (h':=bz ([],100)) [0] (.inr rfl) rfl rfl ⟨⟨rfl,rfl⟩,trivial⟩ ⟨⟨rfl,rfl⟩,trivial⟩ .z ⟨_,_,_,adg a1 a2 hl,⟨d1,z2,z3,z4,z5,z6,z7,z8,o2,iW,nY,z12,nZ,og,oh,om,uU⟩,rfl,rfl⟩
  ·repeat' (conv=>arg 2;whnf);first|refine bB (by simpa using he) ?_|exact bf (r:=.agg (aC {aE with kind:=1,batch:=x2})) (h':=bz (b2,e2)) [0] (.inr rfl) rfl rfl ⟨⟨rfl,rfl⟩,trivial⟩ ⟨⟨rfl,rfl⟩,trivial⟩ .z ⟨_,_,_,KC a1 (a2.gQ (fun e=>absurd e he)),⟨d1,z2,z3,z4,z5,z6,z7,z8,o2,iW,nY,z12,nZ,og,oh,om,uU⟩,rfl,rfl⟩
 ·repeat'
   (conv=>arg 2;whnf)
   first|refine bw (by first|rfl|exact cj (by omega) (by omega)) ?_
  conv=>arg 2;whnf
  refine wG 0 (J8 ({aE with kind:=2})) b1 e1 h1 ⟨⟨rfl,rfl⟩,trivial⟩ (aa.cons (.refl _) (.cons .z .nil)) rfl fun x2 b2 e2 a2 o2 l2=>?_
  have h2:b2.length<=8388609:=by omega
  repeat' (conv=>arg 2;whnf);first|refine bw (by first|rfl|exact cj (by omega) (by omega)) ?_|refine aY ?_|refine aV ?_ ?_
  conv=>arg 2;whnf
  refine aW 0 (zk) b2 e2 h2 fun x3 b3 e3 a3 o3 l3=>?_
  have h3:b3.length<=8388609:=by omega
  repeat' (conv=>arg 2;whnf);first|refine bw (by first|rfl|exact cj (by omega) (by omega)) ?_|refine aY ?_|refine aV ?_ ?_
  conv=>arg 2;whnf
  refine aW 0 (kE) b3 e3 h3 fun x4 b4 e4 a4 o4 l4=>?_
  have h4:b4.length<=8388609:=by omega
  repeat' (conv=>arg 2;whnf);first|exact bf (r:=.agg (aC {aE with kind:=2,src:=x2.1,view:=x2.2.1,seq:=x2.2.2.1,ah:=x2.2.2.2,batch:=x3,sign:=x4})) (h':=bz (b4,e4)) [0] (.inr rfl) rfl rfl ⟨⟨rfl,rfl⟩,trivial⟩ ⟨⟨rfl,rfl⟩,trivial⟩ .z ⟨_,_,_,adh a1 a2 a3 a4,⟨d1,(bM o2.1 (by decide)),(bM o2.2.1 (by decide)),(bM o2.2.2.1 (by decide)),(bM o2.2.2.2 (by decide)),z6,z7,z8,o3,iW,nY,z12,nZ,og,oh,om,o4⟩,rfl,rfl⟩
 ·repeat'
   (conv=>arg 2;whnf)
   first|refine bw (by first|rfl|exact cj (by omega) (by omega)) ?_
  conv=>arg 2;whnf
  refine wG 0 (J8 ({aE with kind:=3})) b1 e1 h1 ⟨⟨rfl,rfl⟩,trivial⟩ (aa.cons (.refl _) (.cons .z .nil)) rfl fun x2 b2 e2 a2 o2 l2=>?_
  have h2:b2.length<=8388609:=by omega
  repeat' (conv=>arg 2;whnf);first|refine bw (by first|rfl|exact cj (by omega) (by omega)) ?_|refine aY ?_|refine aV ?_ ?_
  conv=>arg 2;whnf
  refine aW 0 (kE) b2 e2 h2 fun x3 b3 e3 a3 o3 l3=>?_
  have h3:b3.length<=8388609:=by omega
  repeat' (conv=>arg 2;whnf);first|exact bf (r:=.agg (aC {aE with kind:=3,src:=x2.1,view:=x2.2.1,seq:=x2.2.2.1,ah:=x2.2.2.2,sign:=x3})) (h':=bz (b3,e3)) [0] (.inr rfl) rfl rfl ⟨⟨rfl,rfl⟩,trivial⟩ ⟨⟨rfl,rfl⟩,trivial⟩ .z ⟨_,_,_,adi a1 a2 a3,⟨d1,(bM o2.1 (by decide)),(bM o2.2.1 (by decide)),(bM o2.2.2.1 (by decide)),(bM o2.2.2.2 (by decide)),z6,z7,z8,z9,iW,nY,z12,nZ,og,oh,om,o3⟩,rfl,rfl⟩
 ·repeat'
   (conv=>arg 2;whnf)
   first|refine bw (by first|rfl|exact cj (by omega) (by omega)) ?_
  conv=>arg 2;whnf
  refine wG 0 (J8 ({aE with kind:=4})) b1 e1 h1 ⟨⟨rfl,rfl⟩,trivial⟩ (aa.cons (.refl _) (.cons .z .nil)) rfl fun x2 b2 e2 a2 o2 l2=>?_
  have h2:b2.length<=8388609:=by omega
  repeat' (conv=>arg 2;whnf);first|refine bw (by first|rfl|exact cj (by omega) (by omega)) ?_|refine aY ?_|refine aV ?_ ?_
  conv=>arg 2;whnf
  refine aW 0 (kE) b2 e2 h2 fun x3 b3 e3 a3 o3 l3=>?_
  have h3:b3.length<=8388609:=by omega
  repeat' (conv=>arg 2;whnf);first|exact bf (r:=.agg (aC {aE with kind:=4,src:=x2.1,view:=x2.2.1,seq:=x2.2.2.1,ah:=x2.2.2.2,sign:=x3})) (h':=bz (b3,e3)) [0] (.inr rfl) rfl rfl ⟨⟨rfl,rfl⟩,trivial⟩ ⟨⟨rfl,rfl⟩,trivial⟩ .z ⟨_,_,_,adj a1 a2 a3,⟨d1,(bM o2.1 (by decide)),(bM o2.2.1 (by decide)),(bM o2.2.2.1 (by decide)),(bM o2.2.2.2 (by decide)),z6,z7,z8,z9,iW,nY,z12,nZ,og,oh,om,o3⟩,rfl,rfl⟩
 ·repeat'
   (conv=>arg 2;whnf)
   first|refine bw (by first|rfl|exact cj (by omega) (by omega)) ?_
  conv=>arg 2;whnf
  refine aW 0 (zw) b1 e1 h1 fun x2 b2 e2 a2 o2 l2=>?_
  have h2:b2.length<=8388609:=by omega
  repeat' (conv=>arg 2;whnf);first|refine bw (by first|rfl|exact cj (by omega) (by omega)) ?_|refine aY ?_|refine aV ?_ ?_
  conv=>arg 2;whnf
  refine aW 0 (gO 0) b2 e2 h2 fun x3 b3 e3 a3 o3 l3=>?_
  have h3:b3.length<=8388609:=by omega
  repeat' (conv=>arg 2;whnf);first|refine bw (by first|rfl|exact cj (by omega) (by omega)) ?_|refine aY ?_|refine aV ?_ ?_
  conv=>arg 2;whnf
  refine aW 0 (mg 7 (by decide)) b3 e3 h3 fun x4 b4 e4 a4 o4 l4=>?_
  have h4:b4.length<=8388609:=by omega
  repeat' (conv=>arg 2;whnf);first|refine bw (by first|rfl|exact cj (by omega) (by omega)) ?_
  conv=>arg 2;whnf
  refine aW 0 (gO 0) b4 e4 h4 fun x5 b5 e5 a5 o5 l5=>?_
  have h5:b5.length<=8388609:=by omega
  repeat' (conv=>arg 2;whnf);first|refine bw (by first|rfl|exact cj (by omega) (by omega)) ?_|refine aY ?_|refine aV ?_ ?_
  conv=>arg 2;whnf
  refine aW 0 (US) b5 e5 h5 fun x6 b6 e6 a6 o6 l6=>?_
  have h6:b6.length<=8388609:=by omega
  repeat' (conv=>arg 2;whnf);first|refine bw (by first|rfl|exact cj (by omega) (by omega)) ?_|refine aY ?_|refine aV ?_ ?_
  conv=>arg 2;whnf
  refine aW 0 (kE) b6 e6 h6 fun x7 b7 e7 a7 o7 l7=>?_
  have h7:b7.length<=8388609:=by omega
  repeat' (conv=>arg 2;whnf);first|exact bf (r:=.agg (aC {aE with kind:=5,src:=x2,view:=x3,bD:=x4,time:=x5,result:=x6,sign:=x7})) (h':=bz (b7,e7)) [0] (.inr rfl) rfl rfl ⟨⟨rfl,rfl⟩,trivial⟩ ⟨⟨rfl,rfl⟩,trivial⟩ .z ⟨_,_,_,adk a1 a2 a3 a4 a5 a6 a7,⟨d1,(bM o2 (by decide)),(bM o3 (by decide)),z4,z5,(bM o4 (by decide)),(bM o5 (by decide)),o6,z9,iW,nY,z12,nZ,og,oh,om,o7⟩,rfl,rfl⟩
 ·repeat'
   (conv=>arg 2;whnf)
   first|refine bw (by first|rfl|exact cj (by omega) (by omega)) ?_
  conv=>arg 2;whnf
  refine aW 0 (zw) b1 e1 h1 fun x2 b2 e2 a2 o2 l2=>?_
  have h2:b2.length<=8388609:=by omega
  repeat' (conv=>arg 2;whnf);first|refine bw (by first|rfl|exact cj (by omega) (by omega)) ?_|refine aY ?_|refine aV ?_ ?_
  conv=>arg 2;whnf
  refine aW 0 (gO 1) b2 e2 h2 fun x3 b3 e3 a3 o3 l3=>?_
  have h3:b3.length<=8388609:=by omega
  repeat' (conv=>arg 2;whnf);first|refine bw (by first|rfl|exact cj (by omega) (by omega)) ?_|refine aY ?_|refine aV ?_ ?_
  conv=>arg 2;whnf
  refine aW 0 (gO 1) b3 e3 h3 fun x4 b4 e4 a4 o4 l4=>?_
  have h4:b4.length<=8388609:=by omega
  repeat' (conv=>arg 2;whnf);first|refine bw (by first|rfl|exact cj (by omega) (by omega)) ?_|refine aY ?_|refine aV ?_ ?_
  conv=>arg 2;whnf
  refine aW 0 (kE) b4 e4 h4 fun x5 b5 e5 a5 o5 l5=>?_
  have h5:b5.length<=8388609:=by omega
  repeat' (conv=>arg 2;whnf);first|exact bf (r:=.agg (aC {aE with kind:=6,src:=x2,seq:=x3,ah:=x4,sign:=x5})) (h':=bz (b5,e5)) [0] (.inr rfl) rfl rfl ⟨⟨rfl,rfl⟩,trivial⟩ ⟨⟨rfl,rfl⟩,trivial⟩ .z ⟨_,_,_,adl a1 a2 a3 a4 a5,⟨d1,(bM o2 (by decide)),z3,(bM o3 (by decide)),(bM o4 (by decide)),z6,z7,z8,z9,iW,nY,z12,nZ,og,oh,om,o5⟩,rfl,rfl⟩
 ·repeat'
   (conv=>arg 2;whnf)
   first|refine bw (by first|rfl|exact cj (by omega) (by omega)) ?_
  conv=>arg 2;whnf
  refine aW 0 (Ft) b1 e1 h1 fun x2 b2 e2 a2 o2 l2=>?_
  have h2:b2.length<=8388609:=by omega
  repeat' (conv=>arg 2;whnf);first|exact bf (r:=.agg (aC {aE with kind:=7,src:=x2.src,view:=x2.view,changes:=[x2]})) (h':=bz (b2,e2)) [0] (.inr rfl) rfl rfl ⟨⟨rfl,rfl⟩,trivial⟩ ⟨⟨rfl,rfl⟩,trivial⟩ .z ⟨_,_,_,RA a1 a2,⟨d1,o2.2.1,o2.1,z4,z5,z6,z7,z8,z9,iW,⟨show 1<=4194304 by decide,fun z hz=>by rw[List.mem_singleton.1 hz];exact o2⟩,z12,nZ,og,oh,om,uU⟩,rfl,rfl⟩
 ·repeat'
   (conv=>arg 2;whnf)
   first|refine bw (by first|rfl|exact cj (by omega) (by omega)) ?_
  conv=>arg 2;whnf
  refine aW 0 (WG) b1 e1 h1 fun x2 b2 e2 a2 o2 l2=>?_
  have h2:b2.length<=8388609:=by omega
  repeat' (conv=>arg 2;whnf);first|exact bf (r:=.agg (aC {aE with kind:=8,src:=x2.1.1,view:=x2.1.2.1,changes:=x2.1.2.2.1,entries:=x2.1.2.2.2,sign:=x2.2})) (h':=bz (b2,e2)) [0] (.inr rfl) rfl rfl ⟨⟨rfl,rfl⟩,trivial⟩ ⟨⟨rfl,rfl⟩,trivial⟩ .z ⟨_,_,_,adm a1 a2,⟨d1,(bM o2.1 (by decide)),(bM o2.2.1 (by decide)),z4,z5,z6,z7,z8,z9,iW,o2.2.2.1,o2.2.2.2.1,nZ,og,oh,om,o2.2.2.2.2⟩,rfl,rfl⟩
 ·repeat'
   (conv=>arg 2;whnf)
   first|refine bw (by first|rfl|exact cj (by omega) (by omega)) ?_
  conv=>arg 2;whnf
  refine aW 0 (zw) b1 e1 h1 fun x2 b2 e2 a2 o2 l2=>?_
  have h2:b2.length<=8388609:=by omega
  repeat' (conv=>arg 2;whnf);first|refine bw (by first|rfl|exact cj (by omega) (by omega)) ?_|refine aY ?_|refine aV ?_ ?_
  conv=>arg 2;whnf
  refine aW 0 (gO 0) b2 e2 h2 fun x3 b3 e3 a3 o3 l3=>?_
  have h3:b3.length<=8388609:=by omega
  repeat' (conv=>arg 2;whnf);first|refine bw (by first|rfl|exact cj (by omega) (by omega)) ?_|refine aY ?_|refine aV ?_ ?_
  conv=>arg 2;whnf
  refine aW 0 (kE) b3 e3 h3 fun x4 b4 e4 a4 o4 l4=>?_
  have h4:b4.length<=8388609:=by omega
  repeat' (conv=>arg 2;whnf);first|exact bf (r:=.agg (aC {aE with kind:=9,src:=x2,seq:=x3,sign:=x4})) (h':=bz (b4,e4)) [0] (.inr rfl) rfl rfl ⟨⟨rfl,rfl⟩,trivial⟩ ⟨⟨rfl,rfl⟩,trivial⟩ .z ⟨_,_,_,adn a1 a2 a3 a4,⟨d1,(bM o2 (by decide)),z3,(bM o3 (by decide)),z5,z6,z7,z8,z9,iW,nY,z12,nZ,og,oh,om,o4⟩,rfl,rfl⟩
 ·repeat'
   (conv=>arg 2;whnf)
   first|refine bw (by first|rfl|exact cj (by omega) (by omega)) ?_
  conv=>arg 2;whnf
  refine aW 0 (zw) b1 e1 h1 fun x2 b2 e2 a2 o2 l2=>?_
  have h2:b2.length<=8388609:=by omega
  repeat' (conv=>arg 2;whnf);first|refine bw (by first|rfl|exact cj (by omega) (by omega)) ?_|refine aY ?_|refine aV ?_ ?_
  conv=>arg 2;whnf
  refine aW 0 (BA) b2 e2 h2 fun x3 b3 e3 a3 o3 l3=>?_
  have h3:b3.length<=8388609:=by omega
  repeat' (conv=>arg 2;whnf);first|refine bw (by first|rfl|exact cj (by omega) (by omega)) ?_|refine aY ?_|refine aV ?_ ?_
  conv=>arg 2;whnf
  refine aW 0 (sD 262144 (by decide)) b3 e3 h3 fun x4 b4 e4 a4 o4 l4=>?_
  have h4:b4.length<=8388609:=by omega
  repeat' (conv=>arg 2;whnf);first|exact bf (r:=.agg (aC {aE with kind:=10,src:=x2,cert:=x3,state:=x4})) (h':=bz (b4,e4)) [0] (.inr rfl) rfl rfl ⟨⟨rfl,rfl⟩,trivial⟩ ⟨⟨rfl,rfl⟩,trivial⟩ .z ⟨_,_,_,abQ a1 a2 a3 a4,⟨d1,(bM o2 (by decide)),z3,z4,z5,z6,z7,z8,z9,o3,nY,z12,(Nat.le_trans o4 (by decide)),og,oh,om,uU⟩,rfl,rfl⟩
 ·repeat'
   (conv=>arg 2;whnf)
   first|refine bw (by first|rfl|exact cj (by omega) (by omega)) ?_
  conv=>arg 2;whnf
  refine aW 0 (mg 7 (by decide)) b1 e1 h1 fun x2 b2 e2 a2 o2 l2=>?_
  have h2:b2.length<=8388609:=by omega
  repeat' (conv=>arg 2;whnf);first|refine bw (by first|rfl|exact cj (by omega) (by omega)) ?_
  conv=>arg 2;whnf
  refine aW 0 (QL) b2 e2 h2 fun x3 b3 e3 a3 o3 l3=>?_
  have h3:b3.length<=8388609:=by omega
  repeat' (conv=>arg 2;whnf);first|refine bw (by first|rfl|exact cj (by omega) (by omega)) ?_|refine aY ?_|refine aV ?_ ?_
  conv=>arg 2;whnf
  refine aW 0 (gO 0) b3 e3 h3 fun x4 b4 e4 a4 o4 l4=>?_
  have h4:b4.length<=8388609:=by omega
  repeat' (conv=>arg 2;whnf);first|exact bf (r:=.agg (aC {aE with kind:=11,bD:=x2,av:=x3,offset:=x4})) (h':=bz (b4,e4)) [0] (.inr rfl) rfl rfl ⟨⟨rfl,rfl⟩,trivial⟩ ⟨⟨rfl,rfl⟩,trivial⟩ .z ⟨_,_,_,abR a1 a2 a3 a4,⟨d1,z2,z3,z4,z5,(bM o2 (by decide)),z7,z8,z9,iW,nY,z12,nZ,(Nat.le_trans o3 (by decide)),(bM o4 (by decide)),om,uU⟩,rfl,rfl⟩
 ·repeat'
   (conv=>arg 2;whnf)
   first|refine bw (by first|rfl|exact cj (by omega) (by omega)) ?_
  conv=>arg 2;whnf
  refine aW 0 (zw) b1 e1 h1 fun x2 b2 e2 a2 o2 l2=>?_
  have h2:b2.length<=8388609:=by omega
  repeat' (conv=>arg 2;whnf);first|refine bw (by first|rfl|exact cj (by omega) (by omega)) ?_|refine aY ?_|refine aV ?_ ?_
  conv=>arg 2;whnf
  refine aW 0 (ZM) b2 e2 h2 fun x3 b3 e3 a3 o3 l3=>?_
  have h3:b3.length<=8388609:=by omega
  repeat' (conv=>arg 2;whnf);first|exact bf (r:=.agg (aC {aE with kind:=12,src:=x2,proof:=x3})) (h':=bz (b3,e3)) [0] (.inr rfl) rfl rfl ⟨⟨rfl,rfl⟩,trivial⟩ ⟨⟨rfl,rfl⟩,trivial⟩ .z ⟨_,_,_,abS a1 a2 a3,⟨d1,(bM o2 (by decide)),z3,z4,z5,z6,z7,z8,z9,iW,nY,z12,nZ,og,oh,o3,uU⟩,rfl,rfl⟩
 ·by_cases he:e1=0
  ·subst he
   repeat' (conv=>arg 2;whnf);first|refine bw (by first|rfl|exact cj (by omega) (by omega)) ?_|refine bB (by simp;omega) ?_|refine cV [0] (kF (k:=100) (by decide) b1) ?_|exact bf (r:=.agg (aC {aE with kind:=x1})) (h':=bz ([],100)) [0] (.inr rfl) rfl rfl ⟨⟨rfl,rfl⟩,trivial⟩ ⟨⟨rfl,rfl⟩,trivial⟩ .z ⟨_,_,_,QS hk a1 (show ¬(100:Int)=0 by decide) rfl,⟨d1,z2,z3,z4,z5,z6,z7,z8,z9,iW,nY,z12,nZ,og,oh,om,uU⟩,rfl,rfl⟩
  ·repeat' (conv=>arg 2;whnf);first|refine bw (by first|rfl|exact cj (by omega) (by omega)) ?_|refine bB (by simp;omega) ?_|refine cV [0] (JA he 100 b1) ?_|exact bf (r:=.agg (aC {aE with kind:=x1})) (h':=bz ([],e1)) [0] (.inr rfl) rfl rfl ⟨⟨rfl,rfl⟩,trivial⟩ ⟨⟨rfl,rfl⟩,trivial⟩ .z ⟨_,_,_,QS hk a1 he rfl,⟨d1,z2,z3,z4,z5,z6,z7,z8,z9,iW,nY,z12,nZ,og,oh,om,uU⟩,rfl,rfl⟩
theorem BC {α:Type} {p:RS->α×RS} {bs b:List UInt8} {e:Int} {x:α} (g:au p (bs,0) x (b,e)):(dA (b,e)=0->p (bs,0)=(x,(b,0))/\dA (b,0)=0)/\(¬dA (b,e)=0->¬dA (p (bs,0)).2=0):=by
 by_cases he:e=0
 ·subst he
  rw[g.kM rfl]
  exact⟨fun h=>⟨rfl,h⟩,fun h=>h⟩
 ·have hb:=g.bad he
  refine⟨fun h=>absurd (F3 h) he,fun _=>?_⟩
  rw[JE hb]
  exact hb
def Gn (bs:List UInt8) (x:aD) (k:Int):Prop:=bh.ok x/\(k=0->cS aU aE bs=(x,0))/\(¬k=0->¬(cS aU aE bs).2=0)
theorem abT {bs b:List UInt8} {e:Int} {x:aD} (hl:¬262144<bs.length) (g:au aU (bs,0) x (b,e)) (hx:bh.ok x):(dA (b,e)=0->Gn bs x 0)/\(¬dA (b,e)=0->Gn bs aE (dA (b,e))):=by
 obtain⟨q1,q2⟩:=BC g
 refine⟨fun h=>⟨hx,fun _=>FK hl (q1 h).1 (q1 h).2,fun k=>absurd rfl k⟩,fun h=>⟨vS,fun k=>absurd k h,fun _=>?_⟩⟩
 rw[OA (c:=(aU (bs,0)).1) (s:=(aU (bs,0)).2) hl rfl (q2 h)]
 exact q2 h
theorem ZN {bs:List UInt8} (hl:262144<bs.length):Gn bs aE 3:=⟨vS,fun h=>absurd h (by decide),fun _=>by rw[Oz hl];decide⟩
def GN (bs:List UInt8) (x:bt) (k:Int):Prop:=fD.ok x/\(k=0->qX bs=some x)/\(¬k=0->qX bs=none)
theorem adp {bs b:List UInt8} {e:Int} {x:bt} (g:au eF (bs,0) x (b,e)) (hx:fD.ok x):(dA (b,e)=0->GN bs x 0)/\(¬dA (b,e)=0->GN bs za (dA (b,e))):=by
 obtain⟨q1,q2⟩:=BC g
 refine⟨fun h=>⟨hx,fun _=>?_,fun k=>absurd rfl k⟩,fun h=>⟨jh,fun k=>absurd k h,fun _=>?_⟩⟩
 ·unfold qX
  rw[(q1 h).1,if_pos (q1 h).2]
 ·unfold qX
  rw[if_neg (q2 h)]
theorem PB [Wd] (bs:List UInt8) (kC:bs.length<=8388609):bC prog 81 [.list 1 (bs.map af)] [] (fun r h=>(∃x k,Gn bs x k/\r=.aj [.agg (aC x),.int .i64 k])/\h=[]):=by
 by_cases hl:262144<bs.length
 ·refine ak 22 [] func81 ?_
  repeat' (conv=>arg 2;whnf);first|refine bY (by simp;omega) ?_|exact bf (r:=.aj [.agg (aC aE),.int .i64 3]) (h':=[]) [] (.inr rfl) rfl rfl trivial trivial .y ⟨⟨_,_,ZN hl,rfl⟩,rfl⟩
 ·refine ak 22 [] func81 ?_
  repeat' (conv=>arg 2;whnf);first|refine bB (by simp;omega) ?_|refine cV [] (Dq bs) ?_
  conv=>arg 2;whnf
  refine aW 1 (ado) bs 0 kC fun x1 b1 e1 a1 o1 l1=>?_
  have h1:b1.length<=8388609:=by omega
  obtain⟨q1,q2⟩:=abT hl a1 o1
  by_cases hD:dA (b1,e1)=0
  ·repeat' (conv=>arg 2;whnf);first|refine qG 1 b1 e1 ⟨⟨rfl,rfl⟩,trivial⟩ (aa.refl _) rfl ?_|refine bB (by simpa using hD) ?_|exact bf (r:=.aj [.agg (aC x1),.int .i64 0]) (h':=[]) [] (.inr rfl) rfl rfl trivial trivial .y ⟨⟨_,_,q1 hD,rfl⟩,rfl⟩
  ·repeat' (conv=>arg 2;whnf);first|refine qG 1 b1 e1 ⟨⟨rfl,rfl⟩,trivial⟩ (aa.refl _) rfl ?_|refine bY (by simpa using hD) ?_|exact bf (r:=.aj [.agg (aC aE),.int .i64 (dA (b1,e1))]) (h':=[]) [] (.inr rfl) rfl rfl trivial trivial .y ⟨⟨_,_,q2 hD,rfl⟩,rfl⟩
theorem WH [Wd] (bs:List UInt8) (kC:bs.length<=8388609):bC prog 49 [.list 1 (bs.map af)] [] (fun r h=>(∃x k,GN bs x k/\r=.aj [.agg (cC x),.int .i64 k])/\h=[]):=by
 refine ak 18 [] func49 ?_
 repeat' (conv=>arg 2;whnf);first|refine cV [] (Dq bs) ?_
 conv=>arg 2;whnf
 refine aW 1 (OJ) bs 0 kC fun x1 b1 e1 a1 o1 l1=>?_
 have h1:b1.length<=8388609:=by omega
 obtain⟨q1,q2⟩:=adp a1 o1
 by_cases hD:dA (b1,e1)=0
 ·repeat' (conv=>arg 2;whnf);first|refine qG 1 b1 e1 ⟨⟨rfl,rfl⟩,trivial⟩ (aa.refl _) rfl ?_|refine bB (by simpa using hD) ?_|exact bf (r:=.aj [.agg (cC x1),.int .i64 0]) (h':=[]) [] (.inr rfl) rfl rfl trivial trivial .y ⟨⟨_,_,q1 hD,rfl⟩,rfl⟩
 ·repeat' (conv=>arg 2;whnf);first|refine qG 1 b1 e1 ⟨⟨rfl,rfl⟩,trivial⟩ (aa.refl _) rfl ?_|refine bY (by simpa using hD) ?_|exact bf (r:=.aj [.agg (cC za),.int .i64 (dA (b1,e1))]) (h':=[]) [] (.inr rfl) rfl rfl trivial trivial .y ⟨⟨_,_,q2 hD,rfl⟩,rfl⟩
theorem OO [Wd] (bs:List UInt8) (kC:bs.length<=8388609) (h:(cS aU aE bs).2=0):aq prog 81 [.list 1 (bs.map af)] (.aj [.agg (aC (cS aU aE bs).1),.int .i64 0]):=
 (PB bs kC).yS (fun r h' ⟨⟨x,k,q,e⟩,e2⟩=>by
   have hk:k=0:=Classical.byContradiction fun n=>q.2.2 n h
   subst hk
   have e3:=q.2.1 rfl
   rw[e3]
   exact⟨e,e2⟩)
theorem OP [Wd] (bs:List UInt8) (kC:bs.length<=8388609) (h:¬(cS aU aE bs).2=0):bC prog 81 [.list 1 (bs.map af)] [] (fun r h=>(∃x k,bh.ok x/\¬k=0/\r=.aj [.agg (aC x),.int .i64 k])/\h=[]):=
 (PB bs kC).yS (fun r h' ⟨⟨x,k,q,e⟩,e2⟩=>⟨⟨x,k,q.1,fun hk=>h (by rw[q.2.1 hk]),e⟩,e2⟩)
def Hy (x y:Int) (c:D):List D:=[.int .i64 7,.int .i64 x,.int .i64 y,.int .i64 0,.int .i64 0,.int .i64 0,.int .i64 0,.int .i64 0,.int .i64 0,.nils,.int .i64 0,.int .i64 0,.nils,c,.nils,.nils,.str [],.int .i64 0,.str [],.int .i64 0,.nils,.nils,.int .i64 0,.int .i64 0,.nils,.int .i64 0,.int .i64 0,.nils,.int .i64 0,.int .i64 0]
theorem abY [Wd] (b0:List UInt8) (e0:Int) (h0:b0.length<=8388609) (h7:(nR MX (b0,e0)).1=7) (Ur:(nR MX (b0,e0)).2.2=0):bC prog 126 [.ptr 0 0] (bz (b0,e0)) (fun r h=>∃c b e,au aU (b0,e0) {aE with kind:=7,src:=c.src,view:=c.view,changes:=[c]} (b,e)/\fP.ok c/\r=.agg (Hy c.src c.view (.row 1))/\h=[.cells 176 [.list 1 (b.map af),.int .i64 e],.row 145 8 [bU c]]):=by
 refine kK false 147 [] func126 ?_
 repeat' (conv=>arg 2;whnf);first|refine aY ?_|refine aV ?_ ?_
 conv=>arg 2;whnf
 refine aW 0 (mg MX (by decide)) b0 e0 h0 fun x1 b1 e1 a1 o1 l1=>?_
 have h1:b1.length<=8388609:=by omega
 have dh:x1=7:=by
  have Us:e1=0:=a1.done.2 Ur
  have:=a1.kM Us
  rw[this] at h7
  exact h7
 subst dh
 repeat' (conv=>arg 2;whnf);first|refine bw (by first|rfl|exact cj (by omega) (by omega)) ?_
 conv=>arg 2;whnf
 refine aW 0 (Ft) b1 e1 h1 fun x2 b2 e2 a2 o2 l2=>?_
 have h2:b2.length<=8388609:=by omega
 repeat' (conv=>arg 2;whnf);first|exact bf (r:=.agg (Hy x2.src x2.view (.row 1))) (h':=[.cells 176 [.list 1 (b2.map af),.int .i64 e2],.row 145 8 [bU x2]]) [0,6] (.inr rfl) rfl rfl ⟨⟨rfl,rfl⟩,⟨rfl,rfl⟩,trivial⟩ ⟨⟨rfl,rfl⟩,trivial⟩ (.refl _) ⟨_,_,_,RA a1 a2,o2,rfl,rfl⟩
theorem VT (k:Int) (s:RS):(cR k s).1.kind=k:=by
 by_cases hk:1<=k/\k<=12
 ·have h:k=1\/k=2\/k=3\/k=4\/k=5\/k=6\/k=7\/k=8\/k=9\/k=10\/k=11\/k=12:=by omega
  rcases h with rfl|rfl|rfl|rfl|rfl|rfl|rfl|rfl|rfl|rfl|rfl|rfl
  ·unfold cR;rw[if_pos rfl];rfl
  ·unfold cR;rw[if_neg (by decide),if_pos rfl];rfl
  ·unfold cR;rw[if_neg (by decide),if_neg (by decide),if_pos rfl];rfl
  ·unfold cR;rw[if_neg (by decide),if_neg (by decide),if_neg (by decide),if_pos rfl];rfl
  ·unfold cR;rw[if_neg (by decide),if_neg (by decide),if_neg (by decide),if_neg (by decide),if_pos rfl];rfl
  ·unfold cR;rw[if_neg (by decide),if_neg (by decide),if_neg (by decide),if_neg (by decide),if_neg (by decide),if_pos rfl];rfl
  ·unfold cR;rw[if_neg (by decide),if_neg (by decide),if_neg (by decide),if_neg (by decide),if_neg (by decide),if_neg (by decide),if_pos rfl];rfl
  ·unfold cR;rw[if_neg (by decide),if_neg (by decide),if_neg (by decide),if_neg (by decide),if_neg (by decide),if_neg (by decide),if_neg (by decide),if_pos rfl];rfl
  ·unfold cR;rw[if_neg (by decide),if_neg (by decide),if_neg (by decide),if_neg (by decide),if_neg (by decide),if_neg (by decide),if_neg (by decide),if_neg (by decide),if_pos rfl];rfl
  ·unfold cR;rw[if_neg (by decide),if_neg (by decide),if_neg (by decide),if_neg (by decide),if_neg (by decide),if_neg (by decide),if_neg (by decide),if_neg (by decide),if_neg (by decide),if_pos rfl];rfl
  ·unfold cR;rw[if_neg (by decide),if_neg (by decide),if_neg (by decide),if_neg (by decide),if_neg (by decide),if_neg (by decide),if_neg (by decide),if_neg (by decide),if_neg (by decide),if_neg (by decide),if_pos rfl];rfl
  ·unfold cR;rw[if_neg (by decide),if_neg (by decide),if_neg (by decide),if_neg (by decide),if_neg (by decide),if_neg (by decide),if_neg (by decide),if_neg (by decide),if_neg (by decide),if_neg (by decide),if_neg (by decide),if_pos rfl];rfl
 ·rw[SD hk];rfl
theorem JF {bs:List UInt8} (h:(cS aU aE bs).2=0):¬262144<bs.length/\dA (aU (bs,0)).2=0/\(cS aU aE bs).1=(aU (bs,0)).1/\(nR MX (bs,0)).1=(cS aU aE bs).1.kind/\(nR MX (bs,0)).2.2=0:=by
 unfold cS at h ⊢
 split at h
 ·cases h
 ·rename_i h1
  rw[if_neg h1]
  split at h
  ·rename_i h2
   rw[if_pos h2]
   refine⟨h1,h2,rfl,(VT _ _).symm,?_⟩
   refine Classical.byContradiction fun hn=>?_
   have he:(aU (bs,0)).2.2=0:=F3 (b:=(aU (bs,0)).2.1) h2
   exact CZ (fun k=>(C0 k).pair (zG k)) hn he
  ·rename_i h2
   exact absurd h h2
theorem OQ [Wd] (bs:List UInt8) (kC:bs.length<=8388609) (h:(cS aU aE bs).2=0) (h7:(cS aU aE bs).1.kind=7):bC prog 81 [.list 1 (bs.map af)] [] (fun r h=>∃c,(cS aU aE bs).1=fV c.src c.view c/\fP.ok c/\r=.aj [.agg (Hy c.src c.view (.row 0)),.int .i64 0]/\h=[.row 145 8 [bU c]]):=by
 obtain⟨p1,p2,p3,p4,p5⟩:=JF h
 have hM:=abY bs 0 kC (p4.trans h7) p5
 refine kK false 22 [] func81 ?_
 repeat' (conv=>arg 2;whnf);first|refine bB (by simp;omega) ?_|refine cV [] (Dq bs) ?_
 conv=>arg 2;whnf
 refine pH [1] hM (.mk' rfl ⟨⟨rfl,rfl⟩,trivial⟩) (aa.refl _) rfl ?_
 rintro r h' ⟨c,b1,e1,hA,hc,rfl,rfl⟩
 have hD:dA (b1,e1)=0:=Classical.byContradiction fun n=>(BC hA).2 n p2
 have hX:(cS aU aE bs).1=fV c.src c.view c:=by rw[p3,((BC hA).1 hD).1]
 repeat' (conv=>arg 2;whnf);first|refine qG 1 b1 e1 ⟨⟨rfl,rfl⟩,trivial⟩ (aa.refl _) rfl ?_|refine bB (by simpa using hD) ?_|exact bf (r:=.aj [.agg (Hy c.src c.view (.row 0)),.int .i64 0]) (h':=[.row 145 8 [bU c]]) [3] (.inr rfl) rfl rfl ⟨⟨rfl,rfl⟩,trivial⟩ trivial (.refl _) ⟨c,hX,hc,rfl,rfl⟩
def nU (s:List UInt8) (i fr:Nat) (out:List (List UInt8)):Prop:=
 (i<=s.length/\fr<=i/\fc s=out++fc (s.drop fr)/\vT ((s.drop fr).take (i-fr)))\/(i=s.length+1/\out=fc s)
theorem nU.len {s:List UInt8} {i fr:Nat} {out:List (List UInt8)} (h:nU s i fr out):out.length<=s.length+1:=by
 have:=IL s
 rcases h with⟨_,_,e,_⟩|⟨_,e⟩
 ·rw[e,List.length_append] at this;omega
 ·rw[e];exact this
theorem nU.at {s:List UInt8} {i fr:Nat} {out:List (List UInt8)} (h:nU s i fr out) (hi:i<=s.length):fr<=i/\fc s=out++fc (s.drop fr)/\vT ((s.drop fr).take (i-fr)):=by
 rcases h with⟨_,h⟩|⟨e,_⟩
 ·exact h
 ·omega
theorem abA {s:List UInt8} {i fr:Nat} {c:UInt8} (h:fr<=i) (hc:s[i]?=some c):(s.drop fr).take (i+1-fr)=(s.drop fr).take (i-fr)++[c]:=by
 rw[show i+1-fr=(i-fr)+1 by omega,List.take_add_one,List.getElem?_drop,show fr+(i-fr)=i by omega,hc]
 rfl
theorem nU.no {s:List UInt8} {i fr:Nat} {out:List (List UInt8)} {c:UInt8} (h:nU s i fr out) (hc:s[i]?=some c) (hn:c≠32):nU s (i+1) fr out:=by
 have hi:=(List.getElem?_eq_some_iff.1 hc).1
 obtain⟨h1,h2,h3⟩:=h.at (by omega)
 refine .inl ⟨by omega,by omega,h2,?_⟩
 rw[abA h1 hc]
 intro d hd
 rcases List.mem_append.1 hd with hd|hd
 ·exact h3 d hd
 ·rw[List.mem_singleton] at hd;rw[hd];exact hn
theorem nU.yes {s:List UInt8} {i fr:Nat} {out:List (List UInt8)} (h:nU s i fr out) (hc:s[i]?=some 32):nU s (i+1) (i+1) (out++[(s.drop fr).take (i-fr)]):=by
 have hi:=(List.getElem?_eq_some_iff.1 hc).1
 obtain⟨h1,h2,h3⟩:=h.at (by omega)
 refine .inl ⟨by omega,by omega,?_,by simp[vT]⟩
 have e:s.drop fr=(s.drop fr).take (i-fr)++32::s.drop (i+1):=by
  conv=>lhs;rw[<-List.take_append_drop (i-fr) (s.drop fr)]
  rw[List.drop_drop,show fr+(i-fr)=i by omega,List.drop_eq_getElem_cons hi]
  have:s[i]=32:=by have:=List.getElem?_eq_getElem hi;rw[hc] at this;injection this with this;exact this.symm
  rw[this]
 rw[h2]
 conv=>lhs;rw[e]
 rw[I9 _ _ h3,List.append_assoc]
 rfl
theorem nU.fin {s:List UInt8} {i fr:Nat} {out:List (List UInt8)} (h:nU s i fr out) (hi:i=s.length):nU s (i+1) (i+1) (out++[(s.drop fr).take (i-fr)]):=by
 obtain⟨h1,h2,h3⟩:=h.at (by omega)
 refine .inr ⟨by omega,?_⟩
 rw[h2]
 have e:(s.drop fr).take (i-fr)=s.drop fr:=List.take_of_length_le (by simp;omega)
 rw[e] at h3 ⊢
 rw[IN _ h3]
theorem nU.out {s:List UInt8} {i fr:Nat} {out:List (List UInt8)} (h:nU s i fr out) (hi:s.length<i):out=fc s:=by
 rcases h with⟨h,_⟩|⟨_,h⟩
 ·omega
 ·exact h
theorem ZB [Wd] (s:List UInt8) (hl:s.length<=4194304):aq prog 38 [.str s] (.list 1 (cW (fc s))):=by
 refine kK false 32 [] func38 ?_
 conv=>arg 2;whnf
 refine bE (α:=Nat×Nat×List (List UInt8)) (fun a=>match a.2.2 with
  |[]=>⟨[(5,.int .i64 a.1),(4,.int .i64 a.2.1),(3,.nils),(2,.nils),(0,.str s)],[]⟩
  |x::k=>⟨[(5,.int .i64 a.1),(4,.int .i64 a.2.1),(3,.row 0),(2,.nils),(0,.str s)],[.row 9 1 (cW (x::k))]⟩) (fun a=>nU s a.1 a.2.1 a.2.2) (fun a=>s.length+1-a.1) (0,0,[]) (.inl ⟨Nat.zero_le _,Nat.le_refl _,rfl,by simp[vT]⟩) (Sv.aK []) ?_
 rintro⟨i,fr,out⟩ hJ
 replace hJ:nU s i fr out:=hJ
 have ho:=hJ.len
 cases out with
 |nil=>
  rcases Nat.lt_trichotomy i s.length with hi|hi|hi
  ·obtain⟨x,hx⟩:∃x,s[i]?=some x:=⟨_,List.getElem?_eq_getElem hi⟩
   have uj:=(hJ.at (by omega)).1
   by_cases Au:x=32
   ·subst Au
    repeat' (conv=>arg 2;whnf);first|apply an<;>intro h|(exfalso;simp at h;omega)|refine bZ (by(try dsimp only);omega) ?_|refine aT (by(try dsimp only);omega) ?_|refine aT (by constructor<;>(simp only[List.length_cons,List.length_nil,maxLen] at ho ⊢;omega)) ?_|refine dK 32 (by omega) (by simpa using hx) ?_|refine aZ (i+1,i+1,[(s.drop fr).take (i-fr)]) (Sv.aK [1]) (hJ.yes hx) (by show s.length+1-(i+1)<s.length+1-i;omega)
   ·have Ek:¬(x.toNat=32):=fun e=>Au (UInt8.toNat_inj.1 (by rw[e];rfl))
    repeat' (conv=>arg 2;whnf);first|apply an<;>intro h|(exfalso;simp at h;omega)|refine bZ (by(try dsimp only);omega) ?_|refine dK x (by omega) (by simpa using hx) ?_|refine aZ (i+1,fr,[]) (Sv.aK []) (hJ.no hx Au) (by show s.length+1-(i+1)<s.length+1-i;omega)
  ·have uj:=(hJ.at (by omega)).1
   repeat' (conv=>arg 2;whnf);first|apply an<;>intro h|(exfalso;simp at h;omega)|refine bZ (by(try dsimp only);omega) ?_|refine aT (by(try dsimp only);omega) ?_|refine aT (by constructor<;>(simp only[List.length_cons,List.length_nil,maxLen] at ho ⊢;omega)) ?_|refine aZ (i+1,i+1,[(s.drop fr).take (i-fr)]) (Sv.aK [1]) (hJ.fin hi) (by show s.length+1-(i+1)<s.length+1-i;omega)
  ·have he:=hJ.out hi
   exact absurd he.symm (OC s)
 |cons z out=>
  rcases Nat.lt_trichotomy i s.length with hi|hi|hi
  ·obtain⟨x,hx⟩:∃x,s[i]?=some x:=⟨_,List.getElem?_eq_getElem hi⟩
   have uj:=(hJ.at (by omega)).1
   by_cases Au:x=32
   ·subst Au
    repeat' (conv=>arg 2;whnf);first|apply an<;>intro h|(exfalso;simp at h;omega)|refine bZ (by(try dsimp only);omega) ?_|refine aT (by(try dsimp only);omega) ?_|refine aT (by constructor<;>(simp only[cW,List.length_cons,List.length_nil,List.length_map,maxLen] at ho ⊢;omega)) ?_|refine dK 32 (by omega) (by simpa using hx) ?_|refine aZ (i+1,i+1,(z::out)++[(s.drop fr).take (i-fr)]) (Sv.mk' [2] rfl ⟨⟨rfl,by show AO.row _ _ _=AO.row _ _ _;simp[cW]⟩,trivial⟩ ⟨rfl,rfl,rfl,rfl,rfl,trivial⟩) (hJ.yes hx) (by show s.length+1-(i+1)<s.length+1-i;omega)
   ·have Ek:¬(x.toNat=32):=fun e=>Au (UInt8.toNat_inj.1 (by rw[e];rfl))
    repeat' (conv=>arg 2;whnf);first|apply an<;>intro h|(exfalso;simp at h;omega)|refine bZ (by(try dsimp only);omega) ?_|refine dK x (by omega) (by simpa using hx) ?_|refine aZ (i+1,fr,z::out) (Sv.aK [0]) (hJ.no hx Au) (by show s.length+1-(i+1)<s.length+1-i;omega)
  ·have uj:=(hJ.at (by omega)).1
   repeat' (conv=>arg 2;whnf);first|apply an<;>intro h|(exfalso;simp at h;omega)|refine bZ (by(try dsimp only);omega) ?_|refine aT (by(try dsimp only);omega) ?_|refine aT (by constructor<;>(simp only[cW,List.length_cons,List.length_nil,List.length_map,maxLen] at ho ⊢;omega)) ?_|refine aZ (i+1,i+1,(z::out)++[(s.drop fr).take (i-fr)]) (Sv.mk' [2] rfl ⟨⟨rfl,by show AO.row _ _ _=AO.row _ _ _;simp[cW]⟩,trivial⟩ ⟨rfl,rfl,rfl,rfl,rfl,trivial⟩) (hJ.fin hi) (by show s.length+1-(i+1)<s.length+1-i;omega)
  ·have he:=hJ.out hi
   repeat' (conv=>arg 2;whnf);first|(exfalso;simp at h;omega)|apply an<;>intro h|refine bq ?_|exact mE [0] (.inr rfl) rfl (by rw[<-he];exact .refl _) rfl
theorem ah2 [Wd] (iT:Ag) (line:List UInt8) (hl:line.length<=4194304) (s:sW) (hs:agl line s):aq prog 11 [.str line] (.aj [.agg (aga s),.bool true]):=by
 obtain⟨uE,hn,rfl⟩:=hs
 have hs:=uE
 rw[agn] at hs
 obtain⟨b1,b2,b3,b4,b5⟩:=hs
 replace b1:-9223372036854775808<=s.f/\s.f<=9223372036854775807:=b1
 replace b2:0<=s.jP/\s.jP<=65535:=b2
 replace b3:0<=s.jC/\s.jC<=65535:=b3
 replace b4:-9223372036854775808<=s.room/\s.room<=9223372036854775807:=b4
 have i1:=Lib.itoa_length_le s.f b1.1 b1.2
 have i2:=Lib.itoa_length_le s.jP (by omega) (by omega)
 have i3:=Lib.itoa_length_le s.jC (by omega) (by omega)
 have i4:=Lib.itoa_length_le s.room b4.1 b4.2
 have w1:IntKind.u16.wrap s.jP=s.jP:=by simp[IntKind.wrap,IntKind.bits,IntKind.signed];omega
 have w2:IntKind.u16.wrap s.jC=s.jC:=by simp[IntKind.wrap,IntKind.bits,IntKind.signed];omega
 have HS:aq prog 38 [.str (pP s)] (.list 1 (cW [KT,Lib.itoa s.f,Lib.itoa s.jP,Lib.itoa s.jC,Lib.itoa s.room,s.av])):=by
  have:=ZB (pP s) hl
  rw[agF hn] at this
  exact this
 refine ak 74 [] func11 ?_
 repeat' (conv=>arg 2;whnf);first|refine okF HS ?_|refine eT _ (by decide) rfl ?_|(refine eI (pz iT (Lib.itoa s.f) (by omega)) rfl (aa.refl _) ?_;rintro r ⟨n,b,jr,rfl,he⟩;obtain rfl:=he s.f b1 rfl)|(refine eI (pz iT (Lib.itoa s.jP) (by omega)) rfl (aa.refl _) ?_;rintro r ⟨n,b,jr,rfl,he⟩;obtain rfl:=he s.jP (by omega) rfl)|(refine eI (pz iT (Lib.itoa s.jC) (by omega)) rfl (aa.refl _) ?_;rintro r ⟨n,b,jr,rfl,he⟩;obtain rfl:=he s.jC (by omega) rfl)|(refine eI (pz iT (Lib.itoa s.room) (by omega)) rfl (aa.refl _) ?_;rintro r ⟨n,b,jr,rfl,he⟩;obtain rfl:=he s.room b4 rfl)|(rw[w1,w2];refine okF (agG iT s uE hn) ?_)|(apply an<;>intro h)|(exfalso;simp at h;done)|exact cg
theorem Ue {α:Type} {l:List α} (h:l.length=6):∃a b c d e f,l=[a,b,c,d,e,f]:=by
 match l,h with
 |[a,b,c,d,e,f],_=>exact⟨a,b,c,d,e,f,rfl⟩
theorem ah3 [Wd] (iT:Ag) (line:List UInt8) (hl:line.length<=4194304) (hs:¬∃s,agl line s):aq prog 11 [.str line] (.aj [.agg (aga afU),.bool false]):=by
 obtain⟨ws,vn⟩:∃ws,ws=fc line:=⟨_,rfl⟩
 have hb:kO ws:=vn▸kO.split hl
 have HS:aq prog 38 [.str line] (.list 1 (cW ws)):=vn▸ZB line hl
 clear vn
 by_cases h6:ws.length=6
 ·obtain⟨a0,a1,a2,a3,a4,a5,rfl⟩:=Ue h6
  have l1:=hb.2 a1 (by simp)
  have l2:=hb.2 a2 (by simp)
  have l3:=hb.2 a3 (by simp)
  have l4:=hb.2 a4 (by simp)
  have l5:=hb.2 a5 (by simp)
  refine ak 74 [] func11 ?_
  repeat' (conv=>arg 2;whnf);first|refine okF HS ?_|refine eT _ (by decide) rfl ?_|(refine eI (pz iT _ (by assumption)) rfl (aa.refl _) ?_;rintro r ⟨n,b,hn,rfl,_⟩)
  rename_i n1 c1 h1 d1 n2 c2 h2 d2 n3 c3 h3 d3 d4
  have afL:afW.ok ⟨n1,IntKind.u16.wrap n2,IntKind.u16.wrap n3,n,a5⟩:=agk h1 (agf n2) (agf n3) hn l5
  cases hN:jg a5
  ·repeat' (conv=>arg 2;whnf);first|refine okF (ah5 iT ⟨n1,IntKind.u16.wrap n2,IntKind.u16.wrap n3,n,a5⟩ afL hN) ?_|exact cg
  ·have cu:¬pP ⟨n1,IntKind.u16.wrap n2,IntKind.u16.wrap n3,n,a5⟩=line:=fun e=>hs ⟨_,afL,hN,e.symm⟩
   repeat' (conv=>arg 2;whnf);first|refine okF (agG iT ⟨n1,IntKind.u16.wrap n2,IntKind.u16.wrap n3,n,a5⟩ afL hN) ?_|(exfalso;simp at h;exact cu h)|exact cg|apply an<;>intro h
 ·have h7:((((cW ws).length:Int)!=6))=true:=by simp[cW];omega
  refine ak 74 [] func11 ?_
  repeat' (conv=>arg 2;whnf);first|refine okF HS ?_|refine aec h7 ?_|exact cg
theorem ab9 {w:World} (h:Lib.TabIs prog w "internal/strconv.uint64pow10" .u64 Lib.pow10Tab):B7<w.heap.size:=by
 unfold Lib.TabIs World.var? at h
 rw[Sy] at h
 simp only[Option.bind_some] at h
 rcases Nat.lt_or_ge B7 w.heap.size with h'|h'
 ·exact h'
 ·rw[Array.getElem?_eq_none h'] at h;simp at h
theorem PS [Old] {I:Nat->Prop} {g:bH} {w:World} {v:Value} {s:List UInt8} {n:Int} (h:Vr I g w v (.aj [.str s,.int .i64 n])):v=.tuple #[.string (aA s),.int .i64 n]:=by
 obtain⟨vs,rfl,hl,h2⟩:=h.F7
 match vs,hl with
 |[a,b],_=>
  have ha:=(h2 0 a _ rfl rfl).nJ
  have hb:=(h2 1 b _ rfl rfl).nI
  rw[ha,hb]
theorem WR:@yE BU:=by
 intro n hn
 refine⟨by kernel_rfl,fun w I g vs hW hd ha=>?_⟩
 obtain⟨u,xN,rfl,h1,h2⟩:=ha.zW
 obtain rfl:=h2.Dm
 rw[h1.nI]
 have hg:g=[]:=List.eq_nil_of_length_eq_zero hd.len
 subst hg
 have hT:qT w:=fun w' hb=>(@Wd.cl BU _ _ _ _ hW (fun b k=>hb.block b (hd.aG b k)) (fun _ k=>k)).2
 refine(BW hT hn).mono ?_
 rintro e w' ⟨rfl,hb⟩
 exact .inl ⟨_,I,[],_,[],rfl,⟨rfl,rfl⟩,hd.later hb,.rd (.str _),Ext.of_B hb,fun _ h=>h,fun _ h=>.inl h,fun b h=>.inl h,fun o p t cs _ h=>by simp at h⟩
theorem adA {aG:Nat->Prop} {w:World} {cs:List Value} {x:bK} (hT:qT w) (hx:iF.rd aG w cs x):Calls prog 17 #[.agg cs.toArray] w (FR w x):=by
 have hI:iF.rd (fun b=>aG b\/b=B7) w cs x:=iF.mono hx (fun _=>.inl)
 have ht:=hT w (Below.refl _ _)
 have k:=@Sc BU.toOld
 refine(@aq.calls BU (@Ae.mk BU (fun _ h=>h)) _ _ _ _ (@J7 BU WR x (k.to hI).2.1) _ w [.agg cs.toArray] (k.arg hI) ⟨⟨.inr rfl,ab9 ht⟩,ht⟩).mono ?_
 rintro e w' ⟨v,I',rfl,hb,hv,_⟩
 unfold FR
 by_cases h:kH x
 ·rw[zP h] at hv
  exact⟨by rw[PS hv,if_pos h],hb⟩
 ·rw[w6 h] at hv
  exact⟨by rw[PS hv,if_neg h];rfl,hb⟩
section
open Go.RowKit Go.Deep
theorem acC {w:World} {x:bK} {r:Ending} {w':World} (hk:kH x) (h:FR w x r w'):r=.returned (.tuple #[.string (aA (j0 x)),.int .i64 0])/\B w w':=by
 obtain⟨h1,h2⟩:=h
 exact⟨by rw[h1,if_pos hk],h2⟩
theorem lineNo {w:World} {x:bK} {r:Ending} {w':World} (hk:¬kH x) (h:FR w x r w'):r=.returned (.tuple #[.string ⟨#[]⟩,.int .i64 1])/\B w w':=by
 obtain⟨h1,h2⟩:=h
 exact⟨by rw[h1,if_neg hk],h2⟩
theorem NU (l:List UInt8):(aA l++⟨#[10]⟩).size=l.length+1:=by
 rw[ByteArray.size_append]
 simp[aA,ByteArray.size]
theorem Rh {K b:Nat} {bs:List Value} {s:ByteArray} {w:World} (h:Lib.IsBuilder 114 5 K b bs w) (hlen:bs.length+s.size<=140737488355328) (hK:K<=w.heap.size):
 Calls prog 57 #[.pointer (some ⟨b,0,none⟩),.string s] w fun e w'=>e=.returned (.tuple #[.int .i64 s.size,.nilIface])/\(Lib.BuilderAt 114 5 K b (.pointer (some ⟨b,0,none⟩)) (bs++Lib.strCells s) w'/\Below K w w'):=
 Any.Builder_WriteString {Tryz.Kf with} Tryz.Io K b bs s w h hlen hK
theorem aay {K b:Nat} {l:List UInt8} {w:World} (h:Lib.IsBuilder 114 5 K b (Lib.byteCells l) w) (h0:l≠[]):
 Calls prog 58 #[.pointer (some ⟨b,0,none⟩)] w fun e w'=>e=.returned (.string ⟨l.toArray⟩)/\Below K w w':=
 Tryz.Builder_String K b l w h h0
open Classical in
theorem Yn {s:qw} {x:bK} {q:Nat} (hk:jg s.fJ.av=true) (hl:s.kA.length<=4096) (hx:s.kA[q]?=some x) (hy:¬kH x):qI s=([],1):=by
 unfold qI
 rw[if_neg (by simp[hk]),if_neg (by omega),if_neg (fun h=>hy (h x (List.mem_of_getElem? hx)))]
open Classical in
theorem W4 {s:qw} (hk:jg s.fJ.av=true) (hl:s.kA.length<=4096) (h:∀j a,j<s.kA.length->s.kA[j]?=some a->kH a):qI s=(mG s s.kA.length,0):=by
 unfold qI
 rw[if_neg (by simp[hk]),if_neg (by omega),if_pos (by
  intro a ha
  obtain⟨j,hj⟩:=List.getElem?_of_mem ha
  exact h j a (List.getElem?_eq_some_iff.1 hj).1 hj)]
 unfold mG
 rw[List.take_length]
theorem Qb {ops:Array Oper} {Q:Exit->Act->World->Prop} {rest:List Oper} {op:Oper} {a:Act} {wr:World} {Z C:Array Value} {tx ty:Tmp} (rY:op.guard=none) (ho:op.op=.store 61 (.tmp tx) (.tmp ty)) (hz:Z.size=40) (hC:C.size=40) (h1:C.all (·.oneCell')=true)
 (hx:a.eval (.tmp tx)=.pointer (some ⟨wr.heap.size,0,none⟩)) (hy:a.eval (.tmp ty)=.agg C) (h:∀w3,St wr w3 [gK wr.heap.size 61 C]->wpList prog ops Q rest (a.put op.dst undef) w3):wpList prog ops Q (op::rest) a (wr.alloc (.cells Z 61)):=by
 have hS:=gK.new (St.nil wr) 61 Z
 exact wpList_store_mid rY 61 (.tmp tx) (.tmp ty) ho wr.heap.size 0 C hx hy (Z3 hS 0 _ (by omega)) (by rw[hC];exact K2) h1 (h _ (gK.adz hS (by omega)))
set_option maxRecDepth 20000 in
theorem aaz {aG:Nat->Prop} {w:World} {cs:List Value} {s:qw} (hT:qT w) (h:BD.rd aG w cs s) (hk:jg s.fJ.av=true) (hl:s.kA.length<=4096):
 Calls prog 26 #[.agg cs.toArray] w fun r w'=>r=.returned (.tuple #[.string (aA (qI s).1),.int .i64 (qI s).2])/\B w w':=by
 obtain⟨c0,c1,rfl,h0,h1⟩:=h
 have HC:=Lib.hid (fun w' (hb:B w w')=>Rg (hT.later hb) (nN.later h0 hb))
 have CB:=Lib.hid (Oi h0)
 obtain⟨rfl,b1,b2,b3,b4,b5⟩:=nN.parts h0
 obtain⟨A,c,rfl,hs⟩:=tL.slice h1
 have HS:=Lib.hid (gK.new (St.nil w) 69 #[.int .i64 s.fJ.f,.int .u16 s.fJ.jP,.int .u16 s.fJ.jC,.int .i64 s.fJ.room,.string (aA s.fJ.av),.slice A s.kA.length c])
 have HK:=Lib.hid hk
 have HT:=Lib.hid hT
 have HR:=Lib.hid h1
 obtain⟨n,hn⟩:∃n,s.kA.length=n:=⟨_,rfl⟩
 have HN:=Lib.hid hn
 obtain⟨T0,Nh⟩:∃z,pP s.fJ=z:=⟨_,rfl⟩
 have Ni:=Lib.hid Nh
 rw[hn] at hl HS ⊢
 rw[hk,Nh] at HC
 clear hk hT h0 h1 hs hn Nh
 have TW:=Lib.hid (show([]:List Value).length+(aA T0++⟨#[10]⟩).size<=140737488355328 from by have:=CB.out;rw[Ni.out] at this;rw[NU];simp;omega)
 have Ca:¬9223372036854775807<(aA T0).size+1:=by have:=CB.out;rw[Ni.out] at this;simp[aA,ByteArray.size];omega
 have SZ:=Lib.hid (show ∀j a,s.kA[j]?=some a->kH a->(j0 a).length<=33554448 from fun j a hj ho=>by
  obtain⟨_,ba,oa,ca,rfl,r1,k1⟩:=tL.at HR.out hj
  exact Yk r1 ho.1)
 have Tf:(n:Int)<=4096:=by omega
 have KG:=(gK.get HS.out).cell
 go_enter func26,ntmps26
 go_wp2_with (first
  |(go_at_call 8;(with_reducible refine qC (HC.out _ HS.out.b) ?_);rintro r w1 ⟨hr,hb⟩;replace HS:=Lib.hid (HS.out.on.later hb);clear hb;simp only[if_true] at hr;subst hr;replace KG:=(gK.get HS.out).cell;have HBW:=Lib.hid HS.out.b;have HF:=Lib.hid (Lib.fresh_isBuilder 114 5 w1);have TX:=Lib.hid (show w1.heap.size<=(w1.alloc (.cells #[.pointer none,.slice none 0 0] 114)).heap.size from by simp))
  |(go_at_call 57;((with_reducible refine qC (Rh HF.out TW.out TX.out) ?_);rintro r w2 ⟨rfl,hB,hb⟩;replace HS:=Lib.hid (HS.out.later (show B w1 w2 from Below.trans ((Below.refl w1.heap.size w1).alloc (Nat.le_refl _) _) hb));replace KG:=(gK.get HS.out).cell;replace HF:=Lib.hid hB;clear hb hB TW))
  |fail)
 have HF2:=Lib.hid (show Lib.IsBuilder 114 5 w1.heap.size w1.heap.size (Lib.byteCells (mG s 0)) w2 from by
  have h:=HF.out
  rw[List.nil_append,<-Ni.out,Ym] at h
  exact .inr h)
 have Nf:=Lib.hid HS.out.b
 have Cr:=Lib.hid (show w.heap.size<=w1.heap.size from HBW.out.size)
 have Ng:=Lib.hid (show w1.heap.size<=w2.heap.size from Nat.le_of_lt HF.out.lt)
 clear HF KG HS TX HC
 go_loopw [30] (fun i wr=>∃q:Nat,q<=n/\i=.int .i64 q/\Hid (∀j a,j<q->s.kA[j]?=some a->kH a)/\Hid (B w wr/\w1.heap.size<=wr.heap.size/\Lib.IsBuilder 114 5 w1.heap.size w1.heap.size (Lib.byteCells (mG s q)) wr)) (fun i _=>n-(intOf i).toNat)
 case atStart=>exact⟨0,Nat.zero_le _,rfl,fun j a h=>by omega,Nf.out,Ng.out,HF2.out⟩
 case round=>
  obtain⟨q,hq,rfl,HP,HW⟩:=hrel
  by_cases hlt:q<n
  ·obtain⟨x,hx⟩:∃x,s.kA[q]?=some x:=⟨_,List.getElem?_eq_getElem (by have:=HN.out;omega)⟩
   obtain⟨_,ba,oa,ca,rfl,r1,k1⟩:=tL.at HR.out hx
   have jr:ca.length=40:=iF.len r1
   simp only[show iF.n=40 from rfl] at k1
   have TY:=Lib.hid (show wr.rangeAt ba (oa+q*40) ca from fun j v hv=>B.cell HW.out.1 (k1 j v hv))
   have HI:=Lib.hid (show(prog.info? 61).map (·.size)=some ca.length from by rw[jr];exact K2)
   have Nj:=Lib.hid (fun w' (hb:B w w')=>adA (HT.out.later hb) (iF.later r1 hb))
   obtain⟨C,hC⟩:∃C,ca.toArray=C:=⟨_,rfl⟩
   have EP:=Lib.hid (show C.size=40/\C.all (·.oneCell')=true from by rw[<-hC];exact iF.one r1)
   have TZ:=Lib.hid (show(prog.info? 61).map (·.size)=some C.size from by rw[EP.out.1];exact K2)
   have HX:=Lib.hid hx
   have ahZ:=Lib.hid (fun Z:Array Value=>gK.new (St.nil wr) 61 Z)
   rw[hC] at Nj
   have T3:=Lib.hid hC
   clear k1 r1 hx hC jr
   by_cases hy:kH x
   ·have HY:=Lib.hid hy
    have nC:=SZ.out q x HX.out hy
    have ahT:¬9223372036854775807<(aA (j0 x)).size+1:=by simp[aA,ByteArray.size];omega
    have HLQ:=Lib.hid (show(Lib.byteCells (mG s q)).length+(aA (j0 x)++⟨#[10]⟩).size<=140737488355328 from by
     have h:=P9 33554448 CB.out q (fun j a hj ha=>SZ.out j a ha (HP.out j a hj ha))
     rw[Lib.byteCells_length,NU]
     omega)
    clear hy nC
    go_wp2_with (first
     |(refine wpList_load_mid rfl 61 (.tmp 32) rfl ba (oa+q*40) rfl ca _ TY.out underlying61 rfl HI.out ?_;rw[T3.out])
     |(refine Qb (C:=C) rfl rfl rfl EP.out.1 EP.out.2 rfl rfl (fun w3 ER=>?_);have A6:=Lib.hid ER;clear ER;have Nk:=Lib.hid (gK.get A6.out))
     |(refine wpList_load_row rfl 61 (.tmp 8) rfl wr.heap.size rfl 61 C (0,0) _ Nk.out underlying61 rfl TZ.out ?_)
     |(go_at_call 17;(with_reducible refine qC (Nj.out _ (HW.out.1.trans A6.out.b)) ?_);rintro r w4 hr;obtain⟨rfl,hb⟩:=acC HY.out hr;clear hr;have zj:=Lib.hid (show B wr w4 from A6.out.b.trans hb);clear hb)
     |(go_at_call 57;(with_reducible refine qC (Rh (UB HW.out.2.2 zj.out) HLQ.out (Nat.le_trans HW.out.2.1 zj.out.size)) ?_);rintro r w5 ⟨rfl,hB,hb⟩)
     |fail)
    have HE:=Lib.hid (Below.trans (HW.out.1.trans zj.out) (Below.mono hb Cr.out))
    have hP:=HP.out
    refine⟨⟨q+1,by omega,by push_cast;rfl,fun j a hj ha=>?_,HE.out,Nat.le_trans (Nat.le_trans HW.out.2.1 zj.out.size) hb.size,.inr (by rw[<-Yl HX.out];exact hB)⟩,by simp[intOf];omega⟩
    by_cases hjq:j=q
    ·subst hjq
     have:=HX.out
     rw[ha] at this
     injection this with this
     rw[this]
     exact HY.out
    ·exact hP j a (by omega) ha
   ·have HY:=Lib.hid hy
    have HQ:=Lib.hid (Yn HK.out (by have:=HN.out;omega) HX.out hy)
    clear hy
    go_wp2_with (first
     |(refine wpList_load_mid rfl 61 (.tmp 32) rfl ba (oa+q*40) rfl ca _ TY.out underlying61 rfl HI.out ?_;rw[T3.out])
     |(refine Qb (C:=C) rfl rfl rfl EP.out.1 EP.out.2 rfl rfl (fun w3 ER=>?_);have A6:=Lib.hid ER;clear ER;have Nk:=Lib.hid (gK.get A6.out))
     |(refine wpList_load_row rfl 61 (.tmp 8) rfl wr.heap.size rfl 61 C (0,0) _ Nk.out underlying61 rfl TZ.out ?_)
     |(go_at_call 17;(with_reducible refine qC (Nj.out _ (HW.out.1.trans A6.out.b)) ?_);rintro r w4 hr;obtain⟨rfl,hb⟩:=lineNo HY.out hr;clear hr;have zj:=Lib.hid (show B wr w4 from A6.out.b.trans hb);clear hb)
     |fail)
    go_ret2
    rw[HQ.out]
    exact⟨rfl,HW.out.1.trans zj.out⟩
  ·have hqn:q=n:=by omega
   subst hqn
   have HQ:=Lib.hid (W4 HK.out (by have:=HN.out;omega) (fun j a hj ha=>HP.out j a (by have:=HN.out;omega) ha))
   have HO:=Lib.hid (show mG s q≠[] from by simp[mG])
   go_wp2_with (first
    |(go_at_call 58;(with_reducible refine qC (aay HW.out.2.2 HO.out) ?_);rintro r w4 ⟨rfl,hb⟩)
    |fail)
   go_ret2
   rw[HQ.out,HN.out]
   exact⟨rfl,Below.trans HW.out.1 (Below.mono hb Cr.out)⟩
theorem acD {aG:Nat->Prop} {w:World} {cs:List Value} {s:qw} (hT:qT w) (h:BD.rd aG w cs s):
 Calls prog 26 #[.agg cs.toArray] w fun r w'=>r=.returned (.tuple #[.string (aA (qI s).1),.int .i64 (qI s).2])/\B w w':=by
 cases hk:jg s.fJ.av with
 |false=>exact Qa hT h (.inl hk)
 |true=>
  by_cases hl:s.kA.length<=4096
  ·exact aaz hT h hk hl
  ·exact Qa hT h (.inr (by omega))
end
section
open Go.RowKit Go.Deep
def T4:List Value:=[.int .i64 1,.string (aA [116]),.string ⟨#[]⟩,.int .i64 0,.slice none 0 0]
def Cj:List Value:=xF 6 2 0 T4 (.slice none 0 0) GO false
def Ck:List Value:=xF 8 3 (-1) LA (.slice none 0 0) GO false
def Cl:List Value:=xF 12 0 0 LA (.slice none 0 0) GO false
theorem adV (aG:Nat->Prop) (w:World):mW.rd aG w T4 lq.op:=
 mW.mk (s:=lq.op) (by simp[lq,za,aR]) (by simp[lq,za,aR]) (by simp[lq,za,aR]) (by simp[lq,za,aR]) (tL.nil _ _ _)
theorem adW (aG:Nat->Prop) (w:World):iF.rd aG w Cj lq:=
 iF.mk' (s:=lq) (by simp[lq]) (by simp[lq]) (by simp[lq,aR]) (adV _ _) (tY.nil _ _) (Kc _ _)
theorem adX (aG:Nat->Prop) (w:World):iF.rd aG w Ck qi:=
 iF.mk' (s:=qi) (by simp[qi]) (by simp[qi]) (by simp[qi]) (RD _ _) (tY.nil _ _) (Kc _ _)
theorem adY (aG:Nat->Prop) (w:World):iF.rd aG w Cl qj:=
 iF.mk' (s:=qj) (by simp[qj]) (by simp[qj,aR]) (by simp[qj,aR]) (RD _ _) (tY.nil _ _) (Kc _ _)
theorem Lb {w:World} {g o:Nat} {Z:Array Value} {t:TypeId} {a c d:List Value} (hb:dR w g t Z) (hz:Z.toList=a++c++d) (ho:a.length=o):∀j v,c[j]?=some v->w.cell? ⟨g,o+j,none⟩=some v:=by
 intro j v hv
 have hl:j<c.length:=(List.getElem?_eq_some_iff.1 hv).1
 rw[hb.cell,<-Array.getElem?_toList,hz,List.append_assoc,List.getElem?_append_right (by omega),List.getElem?_append_left (by omega)]
 rw[show o+j-a.length=j by omega]
 exact hv
theorem ae6 {w:World} (hT:qT w) {Z:Array Value} (hz:Z.toList=Cj++Ck++Cl):
 Calls prog 26 #[.agg #[.int .i64 1,.int .u16 0,.int .u16 0,.int .i64 65536,.string ⟨#[116]⟩,.slice (some ⟨w.heap.size,0,none⟩) 3 3]] (w.alloc (.cells Z 61)) fun r w'=>r=.returned (.tuple #[.string (aA Im),.int .i64 0])/\B w w':=by
 have hb:dR (w.alloc (.cells Z 61)) w.heap.size 61 Z:=gK.get (gK.new (St.nil w) 61 Z)
 have hB:B w (w.alloc (.cells Z 61)):=B.j9 _ _
 have l1:Cj.length=40:=rfl
 have l2:Ck.length=40:=rfl
 have l3:Cl.length=40:=rfl
 have h:(tL iF).rd (fun _=>True) (w.alloc (.cells Z 61)) [.slice (some ⟨w.heap.size,0,none⟩) 3 3] oy.kA:=by
  refine⟨some ⟨w.heap.size,0,none⟩,3,rfl,by simp[oy],by unfold maxLen;omega,by simp,by simp[oy],fun _=>⟨w.heap.size,0,rfl,by simp,trivial,?_⟩⟩
  intro i x hx
  rcases i with _|_|_|i
  ·simp only[oy,List.getElem?_cons_zero,Option.some.injEq] at hx
   subst hx
   exact⟨Cj,adW _ _,Lb (o:=0) (a:=[]) (d:=Ck++Cl) hb (by rw[hz];simp) rfl⟩
  ·simp only[oy,List.getElem?_cons_zero,List.getElem?_cons_succ,Option.some.injEq] at hx
   subst hx
   exact⟨Ck,adX _ _,Lb (o:=40) (a:=Cj) (d:=Cl) hb hz l1⟩
  ·simp only[oy,List.getElem?_cons_zero,List.getElem?_cons_succ,Option.some.injEq] at hx
   subst hx
   exact⟨Cl,adY _ _,Lb (o:=80) (a:=Cj++Ck) (d:=[]) hb (by rw[hz];simp) (by rw[List.length_append,l1,l2])⟩
  ·simp[oy] at hx
 have hS:=BD.mk (s:=oy) (by simp[oy,vA]) (by simp[oy,vA]) (by simp[oy,vA]) (by simp[oy,vA]) (by simp[oy,vA]) h
 refine(acD (hT.later hB) hS).mono fun r w' hr=>?_
 obtain⟨rfl,cw⟩:=hr
 rw[aax]
 exact⟨rfl,hB.trans cw⟩
set_option maxRecDepth 20000 in
set_option maxHeartbeats 20000000 in
theorem acW {w:World} (hT:qT w):Calls prog 7 #[] w fun r w'=>r=.returned (.bool true)/\B w w':=by
 have HP:=Lib.hid (fun (Z:Array Value) hz=>ae6 hT (Z:=Z) hz)
 have hlv:aA Im=⟨#[119,111,114,108,100,32,49,32,48,32,48,32,54,53,53,51,54,32,116,10,97,115,107,32,50,32,120,48,49,48,49,55,52,10,99,114,97,115,104,32,51,32,45,49,10,114,111,117,110,100,10]⟩:=by decide+kernel
 rw[hlv] at HP
 clear hT
 go_enter func7,ntmps7
 go_wp2_with (first|(go_at_call 26;(refine qC (HP.out _ rfl) ?_);rintro r w1 ⟨rfl,hb⟩)|fail)
 go_ret
 exact⟨rfl,hb⟩
end
section
attribute [local instance] uA
theorem acV:aq prog 7 [] (.bool true):=bC.Lj (v:=.bool true) (fun _ _=>.bool true) (by kernel_rfl) (fun w I vs hW hi hd=>by
 have:vs=[]:=List.eq_nil_of_length_eq_zero hd.1
 subst this
 exact acW (hW.Te hi)) rfl
end
def zY (x y:List UInt8) (m:aD):Prop:=qt m/\((cI m).key<=9223372036854775807/\(cI m).ah<=9223372036854775807)/\ny m=[x,y]
def CA (b:List UInt8) (s:bJ):aD:=if(cS aU aE b).2=0 then kJ (cS aU aE b).1 s else kJ (cS aU aE (b++[0,1])).1 s
theorem Ka {x y b c:List UInt8} {m:aD} (hv:zY x y m) (hx:dU x=some b) (hy:dU y=some c):nV c=some (cI m)/\((cS aU aE b).2=0\/(cS aU aE (b++[0,1])).2=0)/\∀s,nV c=some s->CA b s=m:=by
 obtain⟨⟨h1,h2,h3,h4,h5⟩,hd,hw⟩:=hv
 unfold ny nu at hw
 injection hw with y8 hw
 injection hw with jH _
 subst y8 jH
 rw[Fp] at hx hy
 injection hx with hx
 injection hy with hy
 subst hx hy
 have hs:=QJ ⟨h2,hd.1⟩ ⟨h3,hd.2⟩
 have hr:=yd (nG (oA h1.1))
 rw[Bd] at hr
 have e:=Bz.there (eu m) [] h1.1
 rw[List.append_nil] at e
 have e2:cS aU aE (kg (eu m))=(eu m,0):=FK (by have:=h1.2;omega) e rfl
 rw[NM (nG (oA h1.1))] at e2
 have key:∀s,nV (enc (cI m).key.toNat++enc (cI m).ah.toNat)=some s->s=cI m:=fun s h=>by rw[hs] at h;injection h with h;exact h.symm
 cases hf:mO m.kind with
 |true=>
  rw[hf] at e2
  simp only[if_true] at e2
  refine⟨hs,.inl (by rw[e2]),fun s h=>?_⟩
  rw[key s h]
  unfold CA
  rw[e2]
  simp only[if_true]
  exact Iu hr
 |false=>
  rw[hf] at e2
  simp only[Bool.false_eq_true,if_false] at e2
  have fu:¬(cS aU aE (aO m)).2=0:=fun h=>by
   obtain⟨p1,p2,p3,p4,p5⟩:=JF h
   have hz:(aU (aO m,0)).2.2=0:=F3 (b:=(aU (aO m,0)).2.1) p2
   obtain⟨k1,k2⟩:=Bz.back (aO m) hz
   have hn:(aU (aO m,0)).2.1=[]:=by
    unfold dA at p2
    rw[if_pos hz] at p2
    exact Classical.byContradiction fun n=>by rw[if_neg n] at p2;cases p2
   rw[hn,List.append_nil] at k2
   have t:=Bz.there _ [0,1] k1
   rw[<-k2] at t
   obtain⟨_,r2,_,_,_⟩:=JF (bs:=aO m++[0,1]) (by rw[e2])
   rw[t] at r2
   replace r2:dA ([0,1],0)=0:=r2
   revert r2
   decide
  refine⟨hs,.inr (by rw[e2]),fun s h=>?_⟩
  rw[key s h]
  unfold CA
  rw[if_neg fu,e2]
  exact Iu hr
theorem aq.Ut [Wd] {f:FuncId} {ar:List D} {r r':D} (hF:aq prog f ar r) (h:Co r r'):aq prog f ar r':=by
 refine⟨hF.1,fun w I g vs hW hd ha=>(hF.2 w I g vs hW hd ha).mono ?_⟩
 rintro e w' (⟨v,I',g',r0,h0,e1,⟨rfl,e3⟩,e4,e5,e6⟩|hp)
 ·exact .inl ⟨v,I',g',r',h0,e1,⟨rfl,e3⟩,e4,h.ok e5,e6⟩
 ·exact .inr hp
theorem ZV:(aJ 0).length=1:=by
 show(enc 0).length=1
 rw[sN (by decide)]
 rfl
theorem FP [Wd] (s:List UInt8) (hl:s.length<=4194304):∃(b:List UInt8) (f:Bool),b.length<=2097152/\aq prog 13 [.str s] (.aj [.list 1 (b.map af),.bool f])/\(f=true->dU s=some b)/\(f=false->dU s=none):=by
 have h:=VO s hl
 cases hq:dU s with
 |none=>exact⟨[],false,by decide,by rw[vF hq] at h;exact h.Ut (J5 _),fun h=>(by cases h),fun _=>rfl⟩
 |some b=>exact⟨b,true,by have:=PF hq;omega,by rw[show D.aj [.list 1 (b.map af),.bool true]=tF s by unfold tF;rw[hq]];exact h,fun _=>rfl,fun h=>by cases h⟩
theorem abZ (b:List UInt8):(b++aJ 0)++aJ 1=b++[0,1]:=by
 rw[List.append_assoc]
 congr 1
 show enc 0++enc 1=_
 rw[sN (by decide),sN (by decide)]
 rfl
theorem QZ [Wd] (x y:List UInt8) (hx:x.length<=4194304) (hy:y.length<=4194304):bC prog 50 [.str x,.str y] [] (fun r h=>(∃m k,bh.ok m/\r=.aj [.agg (aC m),.bool k]/\∀M,zY x y M->m=M)/\h=[]):=by
 obtain⟨b,fx,hb,HX,xT,Ev⟩:=FP x hx
 obtain⟨c,fy,hc,HY,Ew,Uu⟩:=FP y hy
 refine kK false 74 [] func50 ?_
 repeat' (conv=>arg 2;whnf);first|refine okF HX ?_|refine okF HY ?_|refine cV [] (Dq c) ?_
 conv=>arg 2;whnf
 refine aW 1 (mg MB (by decide)) c 0 (Nat.le_trans hc (by decide)) fun x1 b1 e1 a1 o1 l1=>?_
 have h1:b1.length<=8388609:=Nat.le_trans l1 (Nat.le_trans hc (by decide))
 have Ep:0<=x1/\x1<=9223372036854775807:=o1
 repeat' (conv=>arg 2;whnf);first|refine gJ ?_
 conv=>arg 2;whnf
 refine aW 1 (mg MB (by decide)) b1 e1 h1 fun x2 b2 e2 a2 o2 l2=>?_
 have h2:b2.length<=8388609:=Nat.le_trans l2 h1
 have L7:0<=x2/\x2<=9223372036854775807:=o2
 by_cases Mk:fx=true/\fy=true
 case neg=>
  have fu:∀M,¬zY x y M:=fun M hv=>by
   have hw:=hv.2.2
   unfold ny nu at hw
   injection hw with y8 hw
   injection hw with jH _
   refine Mk ⟨?_,?_⟩
   ·cases fx
    ·have:=Ev rfl
     rw[<-y8,Fp] at this
     cases this
    ·rfl
   ·cases fy
    ·have:=Uu rfl
     rw[<-jH,Fp] at this
     cases this
    ·rfl
  cases fx<;>cases fy
  all_goals
   repeat' (conv=>arg 2;whnf);first|refine gJ ?_|(exfalso;simp at Mk;done)|exact eg (r:=.aj [.agg (aC aE),.bool false]) (h':=[]) [] [] (.inr rfl) rfl rfl trivial trivial .y ⟨⟨_,_,jO,rfl,fun M hv=>absurd hv (fu M)⟩,rfl⟩
 obtain⟨rfl,rfl⟩:=Mk
 replace xT:=xT rfl
 replace Ew:=Ew rfl
 by_cases hD:dA (b2,e2)=0
 case neg=>
  have fu:∀M,¬zY x y M:=fun M hv=>by
   have h:=(Ka hv xT Ew).1
   have a12:=a1.bind (q:=fun _=>nR MB) a2 (fun _=>dD MB)
   have:=(BC a12).2 hD
   unfold nV at h
   rw[if_neg (show ¬dA (nR MB (nR MB (c,0)).2).2=0 from this)] at h
   cases h
  repeat' (conv=>arg 2;whnf);first|refine gJ ?_|refine qG 1 b2 e2 ⟨⟨rfl,rfl⟩,trivial⟩ (aa.refl _) rfl ?_|refine bY (by simpa using hD) ?_|exact eg (r:=.aj [.agg (aC aE),.bool false]) (h':=[]) [] [] (.inr rfl) rfl rfl trivial trivial .y ⟨⟨_,_,jO,rfl,fun M hv=>absurd hv (fu M)⟩,rfl⟩
 have hs:nV c=some ⟨x1,x2⟩:=by
  have a12:=a1.bind (q:=fun _=>nR MB) a2 (fun _=>dD MB)
  obtain⟨p1,p2⟩:=(BC a12).1 hD
  have q1:((nR MB (c,0)).1,(nR MB (nR MB (c,0)).2).1)=(x1,x2):=congrArg Prod.fst p1
  have q2:(nR MB (nR MB (c,0)).2).2=(b2,0):=congrArg Prod.snd p1
  injection q1 with q3 q4
  unfold nV
  rw[q2,if_pos p2,q3,q4]
 have hV:∀M,zY x y M->CA b ⟨x1,x2⟩=M:=fun M hv=>(Ka hv xT Ew).2.2 _ hs
 have Hz:iO.ok ⟨x1,x2⟩:=⟨bM Ep (by decide),bM L7 (by decide)⟩
 have Ml:=mI b 0 (by unfold aL;omega)
 have HH:=mI (b++aJ 0) 1 (by rw[List.length_append,ZV];unfold aL;omega)
 rw[abZ] at HH
 have eJ:(b++[0,1]).length<=8388609:=by simp;omega
 by_cases hA:(cS aU aE b).2=0
 ·have ot:CA b ⟨x1,x2⟩=kJ (cS aU aE b).1 ⟨x1,x2⟩:=if_pos hA
  have zc:=zR hA
  by_cases h7:(cS aU aE b).1.kind=7
  ·have HZ:=OQ b (by omega) hA h7
   repeat' (conv=>arg 2;whnf);first|refine gJ ?_|refine qG 1 b2 e2 ⟨⟨rfl,rfl⟩,trivial⟩ (aa.refl _) rfl ?_|refine bB (by simpa using hD) ?_|(refine pH [] HZ (.mk' rfl trivial) (aa.refl _) rfl ?_;rintro r h' ⟨c7,e7,Uv,rfl,rfl⟩;rw[e7] at ot)|refine aT (by simp) ?_|refine eT (bU c7) (by decide) rfl ?_|exact eg (r:=.aj [.agg (aC (fV c7.src c7.view {c7 with sign:=⟨x1,x2⟩})),.bool true]) (h':=[]) [6] [] (.inr rfl) rfl rfl trivial trivial .y ⟨⟨_,_,(Dn (m:=fV c7.src c7.view c7) (s:=⟨x1,x2⟩) (by rw[<-e7];exact zc) Hz),rfl,fun M hv=>ot.symm.trans (hV M hv)⟩,rfl⟩
  ·have HZ:=OO b (by omega) hA
   rw[show kJ (cS aU aE b).1 ⟨x1,x2⟩={(cS aU aE b).1 with sign:=⟨x1,x2⟩} from if_neg h7] at ot
   have An:bh.ok {(cS aU aE b).1 with sign:=(⟨x1,x2⟩:bJ)}:=by have:=Dn zc Hz;rw[show kJ (cS aU aE b).1 ⟨x1,x2⟩={(cS aU aE b).1 with sign:=⟨x1,x2⟩} from if_neg h7] at this;exact this
   revert HZ ot An h7
   generalize (cS aU aE b).1=X
   intro ot h7 HZ An
   repeat' (conv=>arg 2;whnf);first|refine gJ ?_|refine qG 1 b2 e2 ⟨⟨rfl,rfl⟩,trivial⟩ (aa.refl _) rfl ?_|refine bB (by simpa using hD) ?_|refine okF HZ ?_|refine bB (by simpa using h7) ?_|exact eg (r:=.aj [.agg (aC {X with sign:=⟨x1,x2⟩}),.bool true]) (h':=[]) [] [] (.inr rfl) rfl rfl trivial trivial .y ⟨⟨_,_,An,rfl,fun M hv=>ot.symm.trans (hV M hv)⟩,rfl⟩
 ·have HN:=OP b (by omega) hA
  by_cases hB:(cS aU aE (b++[0,1])).2=0
  ·have ot:CA b ⟨x1,x2⟩=kJ (cS aU aE (b++[0,1])).1 ⟨x1,x2⟩:=if_neg hA
   have zc:=zR hB
   by_cases h7:(cS aU aE (b++[0,1])).1.kind=7
   ·have HZ:=OQ (b++[0,1]) eJ hB h7
    repeat' (conv=>arg 2;whnf);first|refine gJ ?_|refine qG 1 b2 e2 ⟨⟨rfl,rfl⟩,trivial⟩ (aa.refl _) rfl ?_|refine bB (by simpa using hD) ?_|(refine eI HN rfl (aa.refl _) ?_;rintro r ⟨X0,k0,Cp,cm,rfl⟩)|refine bY (by simpa using cm) ?_|refine okF Ml ?_|refine okF HH ?_|(refine pH [] HZ (.mk' rfl trivial) (aa.refl _) rfl ?_;rintro r h' ⟨c7,e7,Uv,rfl,rfl⟩;rw[e7] at ot)|refine aT (by simp) ?_|refine eT (bU c7) (by decide) rfl ?_|exact eg (r:=.aj [.agg (aC (fV c7.src c7.view {c7 with sign:=⟨x1,x2⟩})),.bool true]) (h':=[]) [7] [] (.inr rfl) rfl rfl trivial trivial .y ⟨⟨_,_,(Dn (m:=fV c7.src c7.view c7) (s:=⟨x1,x2⟩) (by rw[<-e7];exact zc) Hz),rfl,fun M hv=>ot.symm.trans (hV M hv)⟩,rfl⟩
   ·have HZ:=OO (b++[0,1]) eJ hB
    rw[show kJ (cS aU aE (b++[0,1])).1 ⟨x1,x2⟩={(cS aU aE (b++[0,1])).1 with sign:=⟨x1,x2⟩} from if_neg h7] at ot
    have An:bh.ok {(cS aU aE (b++[0,1])).1 with sign:=(⟨x1,x2⟩:bJ)}:=by have:=Dn zc Hz;rw[show kJ (cS aU aE (b++[0,1])).1 ⟨x1,x2⟩={(cS aU aE (b++[0,1])).1 with sign:=⟨x1,x2⟩} from if_neg h7] at this;exact this
    revert HZ ot An h7
    generalize (cS aU aE (b++[0,1])).1=X
    intro ot h7 HZ An
    repeat' (conv=>arg 2;whnf);first|refine gJ ?_|refine qG 1 b2 e2 ⟨⟨rfl,rfl⟩,trivial⟩ (aa.refl _) rfl ?_|refine bB (by simpa using hD) ?_|(refine eI HN rfl (aa.refl _) ?_;rintro r ⟨X0,k0,Cp,cm,rfl⟩)|refine bY (by simpa using cm) ?_|refine okF Ml ?_|refine okF HH ?_|refine okF HZ ?_|refine bB (by simpa using h7) ?_|exact eg (r:=.aj [.agg (aC {X with sign:=⟨x1,x2⟩}),.bool true]) (h':=[]) [] [] (.inr rfl) rfl rfl trivial trivial .y ⟨⟨_,_,An,rfl,fun M hv=>ot.symm.trans (hV M hv)⟩,rfl⟩
  ·have Uw:=OP (b++[0,1]) eJ hB
   have fu:∀M,¬zY x y M:=fun M hv=>(Ka hv xT Ew).2.1.elim hA hB
   repeat' (conv=>arg 2;whnf);first|refine gJ ?_|refine qG 1 b2 e2 ⟨⟨rfl,rfl⟩,trivial⟩ (aa.refl _) rfl ?_|refine bB (by simpa using hD) ?_|(refine eI HN rfl (aa.refl _) ?_;rintro r ⟨X0,k0,Cp,cm,rfl⟩)|refine bY (by simpa using cm) ?_|refine okF Ml ?_|refine okF HH ?_|(refine eI Uw rfl (aa.refl _) ?_;rintro r ⟨X2,k2,hX2,iH,rfl⟩)|refine bY (by simpa using iH) ?_|exact eg (r:=.aj [.agg (aC aE),.bool false]) (h':=[]) [] [] (.inr rfl) rfl rfl trivial trivial .y ⟨⟨_,_,jO,rfl,fun M hv=>absurd hv (fu M)⟩,rfl⟩
end Go.Proofs.YtafomdobfmmleaaGreatDoor
