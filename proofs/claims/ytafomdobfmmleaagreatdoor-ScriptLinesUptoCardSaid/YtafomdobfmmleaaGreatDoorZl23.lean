/- Lemmas and contracts, part 23. -/
import Derived.Test.YtafomdobfmmleaaGreatDoorZl22
namespace Go.Proofs.YtafomdobfmmleaaGreatDoor
set_option linter.unusedVariables false
open Go.RowKit
open Go.Proofs.Tryz
set_option maxRecDepth 20000
set_option maxHeartbeats 20000000
theorem QY [Wd]:Am 76 xE (fun m=>.agg (aC m)):=by
 intro ws hw hp
 cases eb:mF ws with
 |none=>
  refine kK false 45 [] func76 ?_
  repeat' (conv=>arg 2;whnf);first|(refine pH [0] (PC ws hw (fun _=>hp (lN eb))) (.mk' rfl ⟨⟨rfl,rfl⟩,trivial⟩) (aa.refl _) rfl ?_;rintro r h' ⟨b',r1',AL,_⟩;rw[eb] at AL;cases AL;done)
 |some p=>
  obtain⟨b,r1⟩:=p
  have e:xE ws=oR b r1:=fO eb
  have h:=ZS b (Db hw eb) r1 (hw.one eb) (fun h=>hp (e.trans h)) ws hw eb
  rw[<-e] at h
  exact h
theorem bC.yS [Wd] {P:Program} {f:FuncId} {ar:List D} {h:List AO} {cZ DP:D->List AO->Prop} (hF:bC P f ar h cZ) (k:∀r h',cZ r h'->DP r h'):bC P f ar h DP:=by
 refine⟨hF.1,fun w I g vs hW hd ha=>(hF.2 w I g vs hW hd ha).mono ?_⟩
 rintro e w' (⟨v,I',g',r,h',e1,e2,k2⟩|k2)
 ·exact .inl ⟨v,I',g',r,h',e1,k r h' e2,k2⟩
 ·exact .inr k2
theorem sP [Wd] [qW]:Am 37 jD (D.int .i64):=by
 intro ws hw hp
 cases e:jD ws with
 |none=>
  refine(aby (hp e) F0 QD ws hw.1 hw.2).yS ?_
  rintro r h' ⟨n,rest,hn,rfl,_⟩
  rw[ru hn] at e
  cases e
 |some p=>
  obtain⟨n,rest⟩:=p
  cases ws with
  |nil=>cases e
  |cons s r=>
   have e2:(tG s).map (fun x=>(x,r))=some (n,rest):=e
   cases hq:tG s with
   |none=>rw[hq] at e2;cases e2
   |some x=>
    rw[hq] at e2
    injection e2 with e2
    injection e2 with e3 e4
    subst e3 e4
    obtain⟨rfl,hr⟩:=J6 hq
    exact(abz F0 QD x hr r (by have:=hw.1;simp at this;omega)).yS (fun r' h' ⟨e5,e6⟩=>⟨x,r,rfl,e5,e6⟩)
theorem abX [Wd] [qW]:Am 47 ku (fun a=>.agg (cr a)):=by
 intro ws hw hp
 refine ak 91 [] func47 ?_
 repeat' (conv=>arg 2;whnf);first|refine aY ?_|refine aV ?_ ?_
 conv=>arg 2;whnf
 refine lU 0 KB ws hw (fun h=>hp (lN h)) fun s rest hs=>?_
 have eA:ku ws=dN s rest:=fO hs
 have jH:=(F5 hw hs).2
 by_cases sE:s=pF
 ·subst sE
  rw[EV] at eA
  repeat' (conv=>arg 2;whnf);first|refine aY ?_|refine aV ?_ ?_
  conv=>arg 2;whnf
  refine lU 0 sP rest jH (fun h=>hp (eA.trans (lN h))) fun n3 r3 iX=>?_
  have e3:ku ws=_:=eA.trans (fO iX)
  have oZ:=jH.one iX
  repeat' (conv=>arg 2;whnf);first|exact bf (r:=.agg (cr {aR with kind:=1,num:=n3})) (h':=fj r3) [0] (.inr rfl) rfl rfl ⟨⟨rfl,rfl⟩,trivial⟩ ⟨⟨rfl,rfl⟩,trivial⟩ .z ⟨_,_,e3,rfl,rfl⟩
 by_cases tr:s=pQ
 ·subst tr
  rw[Fi] at eA
  repeat' (conv=>arg 2;whnf);first|refine aY ?_|refine aV ?_ ?_
  conv=>arg 2;whnf
  refine lU 0 sP rest jH (fun h=>hp (eA.trans (lN h))) fun n3 r3 iX=>?_
  have e3:ku ws=_:=eA.trans (fO iX)
  have oZ:=jH.one iX
  repeat' (conv=>arg 2;whnf);first|exact bf (r:=.agg (cr {aR with kind:=2,num:=n3})) (h':=fj r3) [0] (.inr rfl) rfl rfl ⟨⟨rfl,rfl⟩,trivial⟩ ⟨⟨rfl,rfl⟩,trivial⟩ .z ⟨_,_,e3,rfl,rfl⟩
 by_cases sK:s=pG
 ·subst sK
  rw[EY] at eA
  repeat' (conv=>arg 2;whnf);first|refine aY ?_|refine aV ?_ ?_
  conv=>arg 2;whnf
  refine lU 0 sP rest jH (fun h=>hp (eA.trans (lN h))) fun n3 r3 iX=>?_
  have e3:ku ws=_:=eA.trans (fO iX)
  have oZ:=jH.one iX
  repeat' (conv=>arg 2;whnf);first|exact bf (r:=.agg (cr {aR with kind:=3,num:=n3})) (h':=fj r3) [0] (.inr rfl) rfl rfl ⟨⟨rfl,rfl⟩,trivial⟩ ⟨⟨rfl,rfl⟩,trivial⟩ .z ⟨_,_,e3,rfl,rfl⟩
 by_cases tu:s=pR
 ·subst tu
  rw[Fj] at eA
  repeat' (conv=>arg 2;whnf);first|refine aY ?_|refine aV ?_ ?_
  conv=>arg 2;whnf
  refine lU 0 sP rest jH (fun h=>hp (eA.trans (lN h))) fun n3 r3 iX=>?_
  have e3:ku ws=_:=eA.trans (fO iX)
  have oZ:=jH.one iX
  repeat' (conv=>arg 2;whnf);first|exact bf (r:=.agg (cr {aR with kind:=4,bA:=n3})) (h':=fj r3) [0] (.inr rfl) rfl rfl ⟨⟨rfl,rfl⟩,trivial⟩ ⟨⟨rfl,rfl⟩,trivial⟩ .z ⟨_,_,e3,rfl,rfl⟩
 by_cases sQ:s=pM
 ·subst sQ
  rw[E1] at eA
  repeat' (conv=>arg 2;whnf);first|refine aY ?_|refine aV ?_ ?_
  conv=>arg 2;whnf
  refine lU 0 sP rest jH (fun h=>hp (eA.trans (lN h))) fun n3 r3 iX=>?_
  have e3:ku ws=_:=eA.trans (fO iX)
  have oZ:=jH.one iX
  repeat' (conv=>arg 2;whnf);first|exact bf (r:=.agg (cr {aR with kind:=5,bA:=n3})) (h':=fj r3) [0] (.inr rfl) rfl rfl ⟨⟨rfl,rfl⟩,trivial⟩ ⟨⟨rfl,rfl⟩,trivial⟩ .z ⟨_,_,e3,rfl,rfl⟩
 by_cases tN:s=mR
 ·subst tN
  rw[FM] at eA
  repeat' (conv=>arg 2;whnf);first|refine aY ?_|refine aV ?_ ?_
  conv=>arg 2;whnf
  refine lU 0 sP rest jH (fun h=>hp (eA.trans (lN h))) fun n3 r3 iX=>?_
  have e3:ku ws=_:=eA.trans (fO iX)
  have oZ:=jH.one iX
  repeat' (conv=>arg 2;whnf);first|refine aY ?_|refine aV ?_ ?_
  conv=>arg 2;whnf
  refine lU 0 F6 r3 oZ (fun h=>hp (e3.trans (lN (lN h)))) fun b r4 hb=>?_
  have dJ:=Db oZ hb
  have e4:Cu r3=uL (qX b) r4:=fO hb
  by_cases hD:dA (eF (b,0)).2=0
  ·have hP:=XZ b (Nat.le_trans dJ (by decide)) hD
   have e5:qX b=some (eF (b,0)).1:=if_pos hD
   generalize (eF (b,0)).1=x at hP e5
   have e6:ku ws=some ({aR with kind:=6,bA:=n3,op:=x},r4):=e3.trans (fO (by rw[e4,e5];rfl))
   repeat' (conv=>arg 2;whnf);first|refine okF hP ?_|(refine eI (lB _ (fun h=>by cases h)) rfl (aa.refl _) ?_;rintro r ⟨hr,rfl⟩)|exact bf (r:=.agg (cr {aR with kind:=6,bA:=n3,op:=x})) (h':=fj r4) [0] (.inr rfl) rfl rfl ⟨⟨rfl,rfl⟩,trivial⟩ ⟨⟨rfl,rfl⟩,trivial⟩ .z ⟨_,_,e6,rfl,rfl⟩
  ·have hP:=X1 b (Nat.le_trans dJ (by decide)) hD
   have e5:qX b=none:=if_neg hD
   generalize dA (eF (b,0)).2=d at hP hD
   have e6:ku ws=none:=e3.trans (lN (by rw[e4,e5];rfl))
   repeat' (conv=>arg 2;whnf);first|refine okF hP ?_|(refine eI (lB _ (fun _=>hp e6)) rfl (aa.refl _) ?_;rintro r ⟨hr,rfl⟩;exact absurd (by simpa using hr) hD)
 by_cases tv:s=pS
 ·subst tv
  rw[Fk] at eA
  repeat' (conv=>arg 2;whnf);first|refine aY ?_|refine aV ?_ ?_
  conv=>arg 2;whnf
  refine lU 0 sP rest jH (fun h=>hp (eA.trans (lN h))) fun n3 r3 iX=>?_
  have e3:ku ws=_:=eA.trans (fO iX)
  have oZ:=jH.one iX
  repeat' (conv=>arg 2;whnf);first|exact bf (r:=.agg (cr {aR with kind:=7,bA:=n3})) (h':=fj r3) [0] (.inr rfl) rfl rfl ⟨⟨rfl,rfl⟩,trivial⟩ ⟨⟨rfl,rfl⟩,trivial⟩ .z ⟨_,_,e3,rfl,rfl⟩
 by_cases sR:s=nL
 ·subst sR
  rw[E2] at eA
  repeat' (conv=>arg 2;whnf);first|refine aY ?_|refine aV ?_ ?_
  conv=>arg 2;whnf
  refine lU 0 sP rest jH (fun h=>hp (eA.trans (lN h))) fun n3 r3 iX=>?_
  have e3:ku ws=_:=eA.trans (fO iX)
  have oZ:=jH.one iX
  repeat' (conv=>arg 2;whnf);first|refine aY ?_|refine aV ?_ ?_
  conv=>arg 2;whnf
  refine lU 0 sP r3 oZ (fun h=>hp (e3.trans (lN h))) fun n4 r4 Ct=>?_
  have e4:ku ws=_:=e3.trans (fO Ct)
  have hw4:=oZ.one Ct
  repeat' (conv=>arg 2;whnf);first|exact bf (r:=.agg (cr {aR with kind:=8,bA:=n3,num:=n4})) (h':=fj r4) [0] (.inr rfl) rfl rfl ⟨⟨rfl,rfl⟩,trivial⟩ ⟨⟨rfl,rfl⟩,trivial⟩ .z ⟨_,_,e4,rfl,rfl⟩
 by_cases sS:s=pN
 ·subst sS
  rw[E3] at eA
  repeat' (conv=>arg 2;whnf);first|refine aY ?_|refine aV ?_ ?_
  conv=>arg 2;whnf
  refine lU 0 sP rest jH (fun h=>hp (eA.trans (lN h))) fun n3 r3 iX=>?_
  have e3:ku ws=_:=eA.trans (fO iX)
  have oZ:=jH.one iX
  repeat' (conv=>arg 2;whnf);first|exact bf (r:=.agg (cr {aR with kind:=9,bA:=n3})) (h':=fj r3) [0] (.inr rfl) rfl rfl ⟨⟨rfl,rfl⟩,trivial⟩ ⟨⟨rfl,rfl⟩,trivial⟩ .z ⟨_,_,e3,rfl,rfl⟩
 by_cases tw:s=nP
 ·subst tw
  rw[Fl] at eA
  repeat' (conv=>arg 2;whnf);first|refine aY ?_|refine aV ?_ ?_
  conv=>arg 2;whnf
  refine lU 0 F6 rest jH (fun h=>hp (eA.trans (lN h))) fun b r3 hb=>?_
  have e3:ku ws=_:=eA.trans (fO hb)
  repeat' (conv=>arg 2;whnf);first|exact bf (r:=.agg (cr {aR with kind:=10,bytes:=b})) (h':=fj r3) [0] (.inr rfl) rfl rfl ⟨⟨rfl,rfl⟩,trivial⟩ ⟨⟨rfl,rfl⟩,trivial⟩ .z ⟨_,_,e3,rfl,rfl⟩
 by_cases tC:s=mP
 ·subst tC
  rw[Fm] at eA
  repeat' (conv=>arg 2;whnf);first|refine aY ?_|refine aV ?_ ?_
  conv=>arg 2;whnf
  refine lU 0 sP rest jH (fun h=>hp (eA.trans (lN h))) fun n3 r3 iX=>?_
  have e3:ku ws=_:=eA.trans (fO iX)
  have oZ:=jH.one iX
  repeat' (conv=>arg 2;whnf);first|refine aY ?_|refine aV ?_ ?_
  conv=>arg 2;whnf
  refine lU 0 QY r3 oZ (fun h=>hp (e3.trans (lN h))) fun m r4 hm=>?_
  have e4:ku ws=_:=e3.trans (fO hm)
  repeat' (conv=>arg 2;whnf);first|exact bf (r:=.agg (cr {aR with kind:=11,bA:=n3,msg:=m})) (h':=fj r4) [0] (.inr rfl) rfl rfl ⟨⟨rfl,rfl⟩,trivial⟩ ⟨⟨rfl,rfl⟩,trivial⟩ .z ⟨_,_,e4,rfl,rfl⟩
 by_cases wm:s=nQ
 ·subst wm
  rw[Fo] at eA
  repeat' (conv=>arg 2;whnf);first|refine aY ?_|refine aV ?_ ?_
  conv=>arg 2;whnf
  refine lU 0 sP rest jH (fun h=>hp (eA.trans (lN h))) fun n3 r3 iX=>?_
  have e3:ku ws=_:=eA.trans (fO iX)
  have oZ:=jH.one iX
  repeat' (conv=>arg 2;whnf);first|refine aY ?_|refine aV ?_ ?_
  conv=>arg 2;whnf
  refine lU 0 QY r3 oZ (fun h=>hp (e3.trans (lN h))) fun m r4 hm=>?_
  have e4:ku ws=_:=e3.trans (fO hm)
  repeat' (conv=>arg 2;whnf);first|exact bf (r:=.agg (cr {aR with kind:=11,bA:=n3,msg:=m,jN:=true})) (h':=fj r4) [0] (.inr rfl) rfl rfl ⟨⟨rfl,rfl⟩,trivial⟩ ⟨⟨rfl,rfl⟩,trivial⟩ .z ⟨_,_,e4,rfl,rfl⟩
 by_cases sU:s=ni
 ·subst sU
  rw[E4] at eA
  repeat' (conv=>arg 2;whnf);first|refine aY ?_|refine aV ?_ ?_
  repeat' (conv=>arg 2;whnf);first|exact bf (r:=.agg (cr {aR with kind:=12})) (h':=fj rest) [0] (.inr rfl) rfl rfl ⟨⟨rfl,rfl⟩,trivial⟩ ⟨⟨rfl,rfl⟩,trivial⟩ .z ⟨_,_,eA,rfl,rfl⟩
 have eN:ku ws=none:=by rw[eA];unfold dN;rw[if_neg sE,if_neg tr,if_neg sK,if_neg tu,if_neg sQ,if_neg tN,if_neg tv,if_neg sR,if_neg sS,if_neg tw,if_neg tC,if_neg wm,if_neg sU]
 repeat' (conv=>arg 2;whnf);first|refine bB (decide_eq_false sE) ?_|refine bB (decide_eq_false tr) ?_|refine bB (decide_eq_false sK) ?_|refine bB (decide_eq_false tu) ?_|refine bB (decide_eq_false sQ) ?_|refine bB (decide_eq_false tN) ?_|refine bB (decide_eq_false tv) ?_|refine bB (decide_eq_false sR) ?_|refine bB (decide_eq_false sS) ?_|refine bB (decide_eq_false tw) ?_|refine bB (decide_eq_false tC) ?_|refine bB (decide_eq_false wm) ?_|refine bB (decide_eq_false sU) ?_|exact R8 (hp eN)
theorem OO [Wd] (bs:List UInt8) (kC:bs.length<=8388609) (h:(cS aU aE bs).2=0):aq prog 81 [.list 1 (bs.map af)] (.aj [.agg (aC (cS aU aE bs).1),.int .i64 0]):=
 (PB bs kC).yS (fun r h' ⟨⟨x,k,q,e⟩,e2⟩=>by
   have hk:k=0:=Classical.byContradiction fun n=>q.2.2 n h
   subst hk
   have e3:=q.2.1 rfl
   rw[e3]
   exact⟨e,e2⟩)
theorem OP [Wd] (bs:List UInt8) (kC:bs.length<=8388609) (h:¬(cS aU aE bs).2=0):bC prog 81 [.list 1 (bs.map af)] [] (fun r h=>(∃x k,bh.ok x/\¬k=0/\r=.aj [.agg (aC x),.int .i64 k])/\h=[]):=
 (PB bs kC).yS (fun r h' ⟨⟨x,k,q,e⟩,e2⟩=>⟨⟨x,k,q.1,fun hk=>h (by rw[q.2.1 hk]),e⟩,e2⟩)
def Hy (x y:Int) (c:D):List D:=[.int .i64 7,.int .i64 x,.int .i64 y,.int .i64 0,.int .i64 0,.int .i64 0,.int .i64 0,.int .i64 0,.int .i64 0,.nils,.int .i64 0,.int .i64 0,.nils,c,.nils,.nils,.str [],.int .i64 0,.str [],.int .i64 0,.nils,.nils,.int .i64 0,.int .i64 0,.nils,.int .i64 0,.int .i64 0,.nils,.int .i64 0,.int .i64 0]
theorem abY [Wd] (b0:List UInt8) (e0:Int) (h0:b0.length<=8388609) (h7:(nR MX (b0,e0)).1=7) (he7:(nR MX (b0,e0)).2.2=0):bC prog 126 [.ptr 0 0] (bz (b0,e0)) (fun r h=>∃c b e,au aU (b0,e0) {aE with kind:=7,src:=c.src,view:=c.view,changes:=[c]} (b,e)/\fP.ok c/\r=.agg (Hy c.src c.view (.row 1))/\h=[.cells 176 [.list 1 (b.map af),.int .i64 e],.row 145 8 [bU c]]):=by
 refine kK false 147 [] func126 ?_
 repeat' (conv=>arg 2;whnf);first|refine aY ?_|refine aV ?_ ?_
 conv=>arg 2;whnf
 refine aW 0 (mg MX (by decide)) b0 e0 h0 fun x1 b1 e1 a1 o1 l1=>?_
 have h1:b1.length<=8388609:=by omega
 have dh:x1=7:=by
  have he1:e1=0:=a1.done.2 he7
  have:=a1.kM he1
  rw[this] at h7
  exact h7
 subst dh
 repeat' (conv=>arg 2;whnf);first|refine bw (by first|rfl|exact cj (by omega) (by omega)) ?_
 conv=>arg 2;whnf
 refine aW 0 (Ft) b1 e1 h1 fun x2 b2 e2 a2 o2 l2=>?_
 have h2:b2.length<=8388609:=by omega
 repeat' (conv=>arg 2;whnf);first|exact bf (r:=.agg (Hy x2.src x2.view (.row 1))) (h':=[.cells 176 [.list 1 (b2.map af),.int .i64 e2],.row 145 8 [bU x2]]) [0,6] (.inr rfl) rfl rfl ⟨⟨rfl,rfl⟩,⟨rfl,rfl⟩,trivial⟩ ⟨⟨rfl,rfl⟩,trivial⟩ (.refl _) ⟨_,_,_,RA a1 a2,o2,rfl,rfl⟩
theorem VT (k:Int) (s:RS):(cR k s).1.kind=k:=by
 by_cases hk:1<=k/\k<=12
 ·have h:k=1\/k=2\/k=3\/k=4\/k=5\/k=6\/k=7\/k=8\/k=9\/k=10\/k=11\/k=12:=by omega
  rcases h with rfl|rfl|rfl|rfl|rfl|rfl|rfl|rfl|rfl|rfl|rfl|rfl
  ·unfold cR;rw[if_pos rfl];rfl
  ·unfold cR;rw[if_neg (by decide),if_pos rfl];rfl
  ·unfold cR;rw[if_neg (by decide),if_neg (by decide),if_pos rfl];rfl
  ·unfold cR;rw[if_neg (by decide),if_neg (by decide),if_neg (by decide),if_pos rfl];rfl
  ·unfold cR;rw[if_neg (by decide),if_neg (by decide),if_neg (by decide),if_neg (by decide),if_pos rfl];rfl
  ·unfold cR;rw[if_neg (by decide),if_neg (by decide),if_neg (by decide),if_neg (by decide),if_neg (by decide),if_pos rfl];rfl
  ·unfold cR;rw[if_neg (by decide),if_neg (by decide),if_neg (by decide),if_neg (by decide),if_neg (by decide),if_neg (by decide),if_pos rfl];rfl
  ·unfold cR;rw[if_neg (by decide),if_neg (by decide),if_neg (by decide),if_neg (by decide),if_neg (by decide),if_neg (by decide),if_neg (by decide),if_pos rfl];rfl
  ·unfold cR;rw[if_neg (by decide),if_neg (by decide),if_neg (by decide),if_neg (by decide),if_neg (by decide),if_neg (by decide),if_neg (by decide),if_neg (by decide),if_pos rfl];rfl
  ·unfold cR;rw[if_neg (by decide),if_neg (by decide),if_neg (by decide),if_neg (by decide),if_neg (by decide),if_neg (by decide),if_neg (by decide),if_neg (by decide),if_neg (by decide),if_pos rfl];rfl
  ·unfold cR;rw[if_neg (by decide),if_neg (by decide),if_neg (by decide),if_neg (by decide),if_neg (by decide),if_neg (by decide),if_neg (by decide),if_neg (by decide),if_neg (by decide),if_neg (by decide),if_pos rfl];rfl
  ·unfold cR;rw[if_neg (by decide),if_neg (by decide),if_neg (by decide),if_neg (by decide),if_neg (by decide),if_neg (by decide),if_neg (by decide),if_neg (by decide),if_neg (by decide),if_neg (by decide),if_neg (by decide),if_pos rfl];rfl
 ·rw[SD hk];rfl
theorem JF {bs:List UInt8} (h:(cS aU aE bs).2=0):¬262144<bs.length/\dA (aU (bs,0)).2=0/\(cS aU aE bs).1=(aU (bs,0)).1/\(nR MX (bs,0)).1=(cS aU aE bs).1.kind/\(nR MX (bs,0)).2.2=0:=by
 unfold cS at h ⊢
 split at h
 ·cases h
 ·rename_i h1
  rw[if_neg h1]
  split at h
  ·rename_i h2
   rw[if_pos h2]
   refine⟨h1,h2,rfl,(VT _ _).symm,?_⟩
   refine Classical.byContradiction fun hn=>?_
   have he:(aU (bs,0)).2.2=0:=F3 (b:=(aU (bs,0)).2.1) h2
   exact CZ (fun k=>(C0 k).pair (zG k)) hn he
  ·rename_i h2
   exact absurd h h2
theorem OQ [Wd] (bs:List UInt8) (kC:bs.length<=8388609) (h:(cS aU aE bs).2=0) (h7:(cS aU aE bs).1.kind=7):bC prog 81 [.list 1 (bs.map af)] [] (fun r h=>∃c,(cS aU aE bs).1=fV c.src c.view c/\fP.ok c/\r=.aj [.agg (Hy c.src c.view (.row 0)),.int .i64 0]/\h=[.row 145 8 [bU c]]):=by
 obtain⟨p1,p2,p3,p4,p5⟩:=JF h
 have hM:=abY bs 0 kC (p4.trans h7) p5
 refine kK false 22 [] func81 ?_
 repeat' (conv=>arg 2;whnf);first|refine bB (by simp;omega) ?_|refine cV [] (Dq bs) ?_
 conv=>arg 2;whnf
 refine pH [1] hM (.mk' rfl ⟨⟨rfl,rfl⟩,trivial⟩) (aa.refl _) rfl ?_
 rintro r h' ⟨c,b1,e1,hA,hc,rfl,rfl⟩
 have hD:dA (b1,e1)=0:=Classical.byContradiction fun n=>(BC hA).2 n p2
 have hX:(cS aU aE bs).1=fV c.src c.view c:=by rw[p3,((BC hA).1 hD).1]
 repeat' (conv=>arg 2;whnf);first|refine qG 1 b1 e1 ⟨⟨rfl,rfl⟩,trivial⟩ (aa.refl _) rfl ?_|refine bB (by simpa using hD) ?_|exact bf (r:=.aj [.agg (Hy c.src c.view (.row 0)),.int .i64 0]) (h':=[.row 145 8 [bU c]]) [3] (.inr rfl) rfl rfl ⟨⟨rfl,rfl⟩,trivial⟩ trivial (.refl _) ⟨c,hX,hc,rfl,rfl⟩
section
attribute [local instance] uA
theorem Pw {q:Prop} {Q:Exit->S->Prop} {F:FuncId} {n:Nat} {fS GM:List D} {hs hb:List AO} {c:D->List AO->T} {cZ:D->List AO->Prop} (σ:List Nat) (hF:@bC (yD q) prog F fS hs cZ) (V:View σ hb hs) (hc:aa GM (D.bO.rl σ fS)) (hM:(σ.all fun o=>(jT hb [.fn F n GM]).elem o)=true)
 (k1:∀r0 h0,cZ r0 h0->(c (.bool true) (lK hb σ hs h0)).ok prog Q) (k2:q->(c (.bool false) (qE (jT hb [.fn F n GM]) hb)).ok prog Q):(T.call 32 [.fn F n GM] hb c).ok prog Q:=by
 refine⟨_,Zz (@bC.aL (yD q) _ _ _ _ _ hF _ _ V _ hc _ (fun o ho=>by have:=List.all_eq_true.1 hM o ho;simpa using this)),fun r h' hp=>?_⟩
 rcases hp with⟨rfl,r0,r1,h0,hp,_,rfl⟩|⟨rfl,hq,rfl⟩
 ·exact k1 r1 h0 hp
 ·exact k2 hq
end
def nU (s:List UInt8) (i fr:Nat) (out:List (List UInt8)):Prop:=
 (i<=s.length/\fr<=i/\fc s=out++fc (s.drop fr)/\vT ((s.drop fr).take (i-fr)))\/(i=s.length+1/\out=fc s)
theorem nU.len {s:List UInt8} {i fr:Nat} {out:List (List UInt8)} (h:nU s i fr out):out.length<=s.length+1:=by
 have:=IL s
 rcases h with⟨_,_,e,_⟩|⟨_,e⟩
 ·rw[e,List.length_append] at this;omega
 ·rw[e];exact this
theorem nU.at {s:List UInt8} {i fr:Nat} {out:List (List UInt8)} (h:nU s i fr out) (hi:i<=s.length):fr<=i/\fc s=out++fc (s.drop fr)/\vT ((s.drop fr).take (i-fr)):=by
 rcases h with⟨_,h⟩|⟨e,_⟩
 ·exact h
 ·omega
theorem abA {s:List UInt8} {i fr:Nat} {c:UInt8} (h:fr<=i) (hc:s[i]?=some c):(s.drop fr).take (i+1-fr)=(s.drop fr).take (i-fr)++[c]:=by
 rw[show i+1-fr=(i-fr)+1 by omega,List.take_add_one,List.getElem?_drop,show fr+(i-fr)=i by omega,hc]
 rfl
theorem nU.no {s:List UInt8} {i fr:Nat} {out:List (List UInt8)} {c:UInt8} (h:nU s i fr out) (hc:s[i]?=some c) (hn:c≠32):nU s (i+1) fr out:=by
 have hi:=(List.getElem?_eq_some_iff.1 hc).1
 obtain⟨h1,h2,h3⟩:=h.at (by omega)
 refine .inl ⟨by omega,by omega,h2,?_⟩
 rw[abA h1 hc]
 intro d hd
 rcases List.mem_append.1 hd with hd|hd
 ·exact h3 d hd
 ·rw[List.mem_singleton] at hd;rw[hd];exact hn
theorem nU.yes {s:List UInt8} {i fr:Nat} {out:List (List UInt8)} (h:nU s i fr out) (hc:s[i]?=some 32):nU s (i+1) (i+1) (out++[(s.drop fr).take (i-fr)]):=by
 have hi:=(List.getElem?_eq_some_iff.1 hc).1
 obtain⟨h1,h2,h3⟩:=h.at (by omega)
 refine .inl ⟨by omega,by omega,?_,by simp[vT]⟩
 have e:s.drop fr=(s.drop fr).take (i-fr)++32::s.drop (i+1):=by
  conv=>lhs;rw[<-List.take_append_drop (i-fr) (s.drop fr)]
  rw[List.drop_drop,show fr+(i-fr)=i by omega,List.drop_eq_getElem_cons hi]
  have:s[i]=32:=by have:=List.getElem?_eq_getElem hi;rw[hc] at this;injection this with this;exact this.symm
  rw[this]
 rw[h2]
 conv=>lhs;rw[e]
 rw[I9 _ _ h3,List.append_assoc]
 rfl
theorem nU.fin {s:List UInt8} {i fr:Nat} {out:List (List UInt8)} (h:nU s i fr out) (hi:i=s.length):nU s (i+1) (i+1) (out++[(s.drop fr).take (i-fr)]):=by
 obtain⟨h1,h2,h3⟩:=h.at (by omega)
 refine .inr ⟨by omega,?_⟩
 rw[h2]
 have e:(s.drop fr).take (i-fr)=s.drop fr:=List.take_of_length_le (by simp;omega)
 rw[e] at h3 ⊢
 rw[IN _ h3]
theorem nU.out {s:List UInt8} {i fr:Nat} {out:List (List UInt8)} (h:nU s i fr out) (hi:s.length<i):out=fc s:=by
 rcases h with⟨h,_⟩|⟨_,h⟩
 ·omega
 ·exact h
theorem ZB [Wd] (s:List UInt8) (hl:s.length<=4194304):aq prog 38 [.str s] (.list 1 (cW (fc s))):=by
 refine kK false 32 [] func38 ?_
 conv=>arg 2;whnf
 refine bE (α:=Nat×Nat×List (List UInt8)) (fun a=>match a.2.2 with
  |[]=>⟨[(5,.int .i64 a.1),(4,.int .i64 a.2.1),(3,.nils),(2,.nils),(0,.str s)],[]⟩
  |x::k=>⟨[(5,.int .i64 a.1),(4,.int .i64 a.2.1),(3,.row 0),(2,.nils),(0,.str s)],[.row 9 1 (cW (x::k))]⟩) (fun a=>nU s a.1 a.2.1 a.2.2) (fun a=>s.length+1-a.1) (0,0,[]) (.inl ⟨Nat.zero_le _,Nat.le_refl _,rfl,by simp[vT]⟩) (Sv.aK []) ?_
 rintro⟨i,fr,out⟩ hJ
 replace hJ:nU s i fr out:=hJ
 have ho:=hJ.len
 cases out with
 |nil=>
  rcases Nat.lt_trichotomy i s.length with hi|hi|hi
  ·obtain⟨x,hx⟩:∃x,s[i]?=some x:=⟨_,List.getElem?_eq_getElem hi⟩
   have uj:=(hJ.at (by omega)).1
   by_cases Au:x=32
   ·subst Au
    repeat' (conv=>arg 2;whnf);first|apply an<;>intro h|(exfalso;simp at h;omega)|refine bZ (by(try dsimp only);omega) ?_|refine aT (by(try dsimp only);omega) ?_|refine aT (by constructor<;>(simp only[List.length_cons,List.length_nil,maxLen] at ho ⊢;omega)) ?_|refine dK 32 (by omega) (by simpa using hx) ?_|refine aZ (i+1,i+1,[(s.drop fr).take (i-fr)]) (Sv.aK [1]) (hJ.yes hx) (by show s.length+1-(i+1)<s.length+1-i;omega)
   ·have Ek:¬(x.toNat=32):=fun e=>Au (UInt8.toNat_inj.1 (by rw[e];rfl))
    repeat' (conv=>arg 2;whnf);first|apply an<;>intro h|(exfalso;simp at h;omega)|refine bZ (by(try dsimp only);omega) ?_|refine dK x (by omega) (by simpa using hx) ?_|refine aZ (i+1,fr,[]) (Sv.aK []) (hJ.no hx Au) (by show s.length+1-(i+1)<s.length+1-i;omega)
  ·have uj:=(hJ.at (by omega)).1
   repeat' (conv=>arg 2;whnf);first|apply an<;>intro h|(exfalso;simp at h;omega)|refine bZ (by(try dsimp only);omega) ?_|refine aT (by(try dsimp only);omega) ?_|refine aT (by constructor<;>(simp only[List.length_cons,List.length_nil,maxLen] at ho ⊢;omega)) ?_|refine aZ (i+1,i+1,[(s.drop fr).take (i-fr)]) (Sv.aK [1]) (hJ.fin hi) (by show s.length+1-(i+1)<s.length+1-i;omega)
  ·have he:=hJ.out hi
   exact absurd he.symm (OC s)
 |cons z out=>
  rcases Nat.lt_trichotomy i s.length with hi|hi|hi
  ·obtain⟨x,hx⟩:∃x,s[i]?=some x:=⟨_,List.getElem?_eq_getElem hi⟩
   have uj:=(hJ.at (by omega)).1
   by_cases Au:x=32
   ·subst Au
    repeat' (conv=>arg 2;whnf);first|apply an<;>intro h|(exfalso;simp at h;omega)|refine bZ (by(try dsimp only);omega) ?_|refine aT (by(try dsimp only);omega) ?_|refine aT (by constructor<;>(simp only[cW,List.length_cons,List.length_nil,List.length_map,maxLen] at ho ⊢;omega)) ?_|refine dK 32 (by omega) (by simpa using hx) ?_|refine aZ (i+1,i+1,(z::out)++[(s.drop fr).take (i-fr)]) (Sv.mk' [2] rfl ⟨⟨rfl,by show AO.row _ _ _=AO.row _ _ _;simp[cW]⟩,trivial⟩ ⟨rfl,rfl,rfl,rfl,rfl,trivial⟩) (hJ.yes hx) (by show s.length+1-(i+1)<s.length+1-i;omega)
   ·have Ek:¬(x.toNat=32):=fun e=>Au (UInt8.toNat_inj.1 (by rw[e];rfl))
    repeat' (conv=>arg 2;whnf);first|apply an<;>intro h|(exfalso;simp at h;omega)|refine bZ (by(try dsimp only);omega) ?_|refine dK x (by omega) (by simpa using hx) ?_|refine aZ (i+1,fr,z::out) (Sv.aK [0]) (hJ.no hx Au) (by show s.length+1-(i+1)<s.length+1-i;omega)
  ·have uj:=(hJ.at (by omega)).1
   repeat' (conv=>arg 2;whnf);first|apply an<;>intro h|(exfalso;simp at h;omega)|refine bZ (by(try dsimp only);omega) ?_|refine aT (by(try dsimp only);omega) ?_|refine aT (by constructor<;>(simp only[cW,List.length_cons,List.length_nil,List.length_map,maxLen] at ho ⊢;omega)) ?_|refine aZ (i+1,i+1,(z::out)++[(s.drop fr).take (i-fr)]) (Sv.mk' [2] rfl ⟨⟨rfl,by show AO.row _ _ _=AO.row _ _ _;simp[cW]⟩,trivial⟩ ⟨rfl,rfl,rfl,rfl,rfl,trivial⟩) (hJ.fin hi) (by show s.length+1-(i+1)<s.length+1-i;omega)
  ·have he:=hJ.out hi
   repeat' (conv=>arg 2;whnf);first|(exfalso;simp at h;omega)|apply an<;>intro h|refine bq ?_|exact mE [0] (.inr rfl) rfl (by rw[<-he];exact .refl _) rfl
section
open Go.RowKit Go.Deep
open Classical in
noncomputable def qI (s:qw):List UInt8×Int:=
 if jg s.fJ.av=false then([],1)
 else if 4096<s.kA.length then([],3)
 else if ∀a∈s.kA,kH a then(pP s.fJ++10::s.kA.flatMap (fun a=>j0 a++[10]),0)
 else([],1)
def lq:bK:={aR with kind:=6,bA:=2,op:={dW with kind:=1,av:=[116]}}
def qi:bK:={aR with kind:=8,bA:=3,num:=-1}
def qj:bK:={aR with kind:=12}
def vA:sW:=⟨1,0,0,65536,[116]⟩
def oy:qw:=⟨vA,[lq,qi,qj]⟩
def Im:List UInt8:= "world 1 0 0 65536 t\nask 2 x010174\ncrash 3 -1\nround\n".toUTF8.data.toList
theorem Km:jg [116]=true:=by decide+kernel
theorem aeS:bS lq.op=0:=by
 have:=Km
 simp[bS,lq,aR,dW,kindOk,rC,jz,Km]
theorem acB:enc 1=[1]:=by rw[enc,dif_pos (by omega)];rfl
theorem adR:kH lq:=by
 refine⟨⟨by simp[lq],fun _=>aeS,fun h=>by simp[lq] at h⟩,?_⟩
 simp[nv,lq]
theorem adS:kH qi:=by
 refine⟨⟨by simp[qi],fun h=>by simp[qi] at h,fun h=>by simp[qi] at h⟩,?_⟩
 simp[nv,qi]
theorem adT:kH qj:=by
 refine⟨⟨by simp[qj],fun h=>by simp[qj] at h,fun h=>by simp[qj] at h⟩,?_⟩
 simp[nv,qj]
theorem aeT:Lib.itoa 0=[48]:=by simp[Lib.itoa,Lib.decDigits]
theorem aeU:Lib.itoa 1=[49]:=by simp[Lib.itoa,Lib.decDigits]
theorem aeV:Lib.itoa 2=[50]:=by simp[Lib.itoa,Lib.decDigits]
theorem aeW:Lib.itoa 3=[51]:=by simp[Lib.itoa,Lib.decDigits]
theorem aeX:Lib.itoa (-1)=[45,49]:=by simp[Lib.itoa,Lib.decDigits]
theorem aeY:Lib.itoa 65536=[54,53,53,51,54]:=by simp[Lib.itoa,Lib.decDigits]
theorem adU:iy lq.op=[1,1,116]:=by
 simp[iy,lq,aR,dW,cB,acB]
theorem aeZ:j0 lq=[97,115,107,32,50,32,120,48,49,48,49,55,52]:=by
 have h:jf lq=[pZ 6 false,[50],gw [1,1,116]]:=by
  unfold jf pX
  rw[adU]
  simp[lq,aR,aeV]
 unfold j0
 rw[h]
 decide+kernel
theorem ae0:j0 qi=[99,114,97,115,104,32,51,32,45,49]:=by
 have h:jf qi=[pZ 8 false,[51],[45,49]]:=by
  unfold jf pX
  simp[qi,aR,aeW,aeX]
 unfold j0
 rw[h]
 decide+kernel
theorem ae5:j0 qj=[114,111,117,110,100]:=by
 have h:jf qj=[pZ 12 false]:=by
  unfold jf pX
  simp[qj,aR]
 unfold j0
 rw[h]
 decide+kernel
theorem aaw:pP vA=[119,111,114,108,100,32,49,32,48,32,48,32,54,53,53,51,54,32,116]:=by
 have h:vY vA=[KT,[49],[48],[48],[54,53,53,51,54],[116]]:=by
  unfold vY
  simp[vA,aeT,aeU,aeY]
 unfold pP
 rw[h]
 decide+kernel
theorem aax:qI oy=(Im,0):=by
 have hl:Im=pP vA++10::[lq,qi,qj].flatMap (fun a=>j0 a++[10]):=by
  simp only[List.flatMap_cons,List.flatMap_nil]
  rw[aaw,aeZ,ae0,ae5]
  decide+kernel
 rw[hl]
 unfold qI
 rw[if_neg (by simp[oy,vA,Km]),if_neg (by simp[oy]),if_pos (by
  intro a ha
  simp only[oy,List.mem_cons,List.not_mem_nil,or_false] at ha
  rcases ha with rfl|rfl|rfl
  ·exact adR
  ·exact adS
  ·exact adT)]
 rfl
end
section
open Go.RowKit Go.Deep
theorem Nt {T e:TypeId} {K b:Nat} {p:Value} {bs:List Value} {w w':World} (h:Lib.BuilderAt T e K b p bs w) (hb:B w w'):Lib.BuilderAt T e K b p bs w':=by
 have hlt:=h.lt
 obtain⟨h1,v,h2,h3,h4⟩:=h
 exact⟨h1,v,by rw[hb.block b hlt];exact h2,I4 h3 hb,h4⟩
theorem UB {T e:TypeId} {K b:Nat} {bs:List Value} {w w':World} (h:Lib.IsBuilder T e K b bs w) (hb:B w w'):Lib.IsBuilder T e K b bs w':=
 h.elim (fun h=>.inl (Nt h hb)) (fun h=>.inr (Nt h hb))
def mG (s:qw) (k:Nat):List UInt8:=pP s.fJ++10::(s.kA.take k).flatMap (fun a=>j0 a++[10])
theorem Si (l:List UInt8):Lib.strCells (aA l++⟨#[10]⟩)=Lib.byteCells (l++[10]):=by
 rw[Lib.strCells_eq,ByteArray.data_append]
 simp[aA]
theorem Yl {s:qw} {k:Nat} {x:bK} (hx:s.kA[k]?=some x):Lib.byteCells (mG s k)++Lib.strCells (aA (j0 x)++⟨#[10]⟩)=Lib.byteCells (mG s (k+1)):=by
 rw[Si,<-Lib.byteCells_append]
 congr 1
 unfold mG
 rw[List.take_add_one,hx]
 simp
theorem Ym (s:qw):Lib.strCells (aA (pP s.fJ)++⟨#[10]⟩)=Lib.byteCells (mG s 0):=by
 rw[Si]
 simp[mG]
theorem P9 {s:qw} (K:Nat) (h0:(pP s.fJ).length<=30000000):∀k,(∀j a,j<k->s.kA[j]?=some a->(j0 a).length<=K)->(mG s k).length<=30000001+k*(K+1)
 |0,_=>by simp[mG];omega
 |k+1,h=>by
  have h1:=P9 K h0 k (fun j a hj=>h j a (by omega))
  cases hx:s.kA[k]? with
  |none=>
   have:mG s (k+1)=mG s k:=by unfold mG;rw[List.take_add_one,hx];simp
   rw[this,Nat.succ_mul]
   omega
  |some x=>
   have h2:=h k x (by omega) hx
   have:mG s (k+1)=mG s k++(j0 x++[10]):=by unfold mG;rw[List.take_add_one,hx];simp
   rw[this,Nat.succ_mul]
   simp
   omega
set_option maxRecDepth 20000 in
set_option maxHeartbeats 20000000 in
theorem Qa {aG:Nat->Prop} {w:World} {cs:List Value} {s:qw} (hT:qT w) (h:BD.rd aG w cs s) (hk:jg s.fJ.av=false\/4096<s.kA.length):
 Calls prog 26 #[.agg cs.toArray] w fun r w'=>r=.returned (.tuple #[.string (aA (qI s).1),.int .i64 (qI s).2])/\B w w':=by
 obtain⟨c0,c1,rfl,h0,h1⟩:=h
 have HC:=Lib.hid (fun w' (hb:B w w')=>Rg (hT.later hb) (nN.later h0 hb))
 obtain⟨rfl,b1,b2,b3,b4,b5⟩:=nN.parts h0
 obtain⟨A,c,rfl,hs⟩:=tL.slice h1
 have HS:=Lib.hid (gK.new (St.nil w) 69 #[.int .i64 s.fJ.f,.int .u16 s.fJ.jP,.int .u16 s.fJ.jC,.int .i64 s.fJ.room,.string (aA s.fJ.av),.slice A s.kA.length c])
 have HP:=Lib.hid (show qI s=if jg s.fJ.av=false then([],1) else([],3) from by
  unfold qI
  split
  ·rfl
  ·rename_i hn
   rw[if_pos (by rcases hk with h|h;exact absurd h hn;exact h)])
 rw[HP.out]
 obtain⟨n,hn⟩:∃n,jg s.fJ.av=n:=⟨_,rfl⟩
 rw[hn] at hk ⊢
 rw[hn] at HC
 clear hn HP h0 h1
 cases n with
 |false=>
  clear hk
  go_enter func26,ntmps26
  go_wp2_with (first|(go_at_call 8;(with_reducible refine qC (HC.out _ HS.out.b) ?_);rintro r w1 ⟨hr,hb⟩;replace HS:=Lib.hid (HS.out.on.later hb);clear hb;simp only[Bool.false_eq_true,if_false] at hr;subst hr)|fail)
  go_ret2
  exact⟨rfl,HS.out.b⟩
 |true=>
  have hl:4096<s.kA.length:=by simpa using hk
  clear hk
  have KG:=(gK.get HS.out).cell
  go_enter func26,ntmps26
  go_wp2_with (first|(go_at_call 8;(with_reducible refine qC (HC.out _ HS.out.b) ?_);rintro r w1 ⟨hr,hb⟩;replace HS:=Lib.hid (HS.out.on.later hb);clear hb;simp only[if_true] at hr;subst hr;replace KG:=(gK.get HS.out).cell)|fail)
  go_ret2
  exact⟨rfl,HS.out.b⟩
end
theorem ab9 {w:World} (h:Lib.TabIs prog w "internal/strconv.uint64pow10" .u64 Lib.pow10Tab):B7<w.heap.size:=by
 unfold Lib.TabIs World.var? at h
 rw[Sy] at h
 simp only[Option.bind_some] at h
 rcases Nat.lt_or_ge B7 w.heap.size with h'|h'
 ·exact h'
 ·rw[Array.getElem?_eq_none h'] at h;simp at h
theorem PS [Old] {I:Nat->Prop} {g:bH} {w:World} {v:Value} {s:List UInt8} {n:Int} (h:Vr I g w v (.aj [.str s,.int .i64 n])):v=.tuple #[.string (aA s),.int .i64 n]:=by
 obtain⟨vs,rfl,hl,h2⟩:=h.F7
 match vs,hl with
 |[a,b],_=>
  have ha:=(h2 0 a _ rfl rfl).nJ
  have hb:=(h2 1 b _ rfl rfl).nI
  rw[ha,hb]
theorem WR:@yE BU:=by
 intro n hn
 refine⟨by kernel_rfl,fun w I g vs hW hd ha=>?_⟩
 obtain⟨u,xN,rfl,h1,h2⟩:=ha.zW
 obtain rfl:=h2.Dm
 rw[h1.nI]
 have hg:g=[]:=List.eq_nil_of_length_eq_zero hd.len
 subst hg
 have hT:qT w:=fun w' hb=>(@Wd.cl BU _ _ _ _ hW (fun b k=>hb.block b (hd.aG b k)) (fun _ k=>k)).2
 refine(BW hT hn).mono ?_
 rintro e w' ⟨rfl,hb⟩
 exact .inl ⟨_,I,[],_,[],rfl,⟨rfl,rfl⟩,hd.later hb,.rd (.str _),Ext.of_B hb,fun _ h=>h,fun _ h=>.inl h,fun b h=>.inl h,fun o p t cs _ h=>by simp at h⟩
theorem adA {aG:Nat->Prop} {w:World} {cs:List Value} {x:bK} (hT:qT w) (hx:iF.rd aG w cs x):Calls prog 17 #[.agg cs.toArray] w (FR w x):=by
 have hI:iF.rd (fun b=>aG b\/b=B7) w cs x:=iF.mono hx (fun _=>.inl)
 have ht:=hT w (Below.refl _ _)
 have k:=@Sc BU.toOld
 refine(@aq.calls BU (@Ae.mk BU (fun _ h=>h)) _ _ _ _ (@J7 BU WR x (k.to hI).2.1) _ w [.agg cs.toArray] (k.arg hI) ⟨⟨.inr rfl,ab9 ht⟩,ht⟩).mono ?_
 rintro e w' ⟨v,I',rfl,hb,hv,_⟩
 unfold FR
 by_cases h:kH x
 ·rw[zP h] at hv
  exact⟨by rw[PS hv,if_pos h],hb⟩
 ·rw[w6 h] at hv
  exact⟨by rw[PS hv,if_neg h];rfl,hb⟩
section
open Go.RowKit Go.Deep
theorem acC {w:World} {x:bK} {r:Ending} {w':World} (hk:kH x) (h:FR w x r w'):r=.returned (.tuple #[.string (aA (j0 x)),.int .i64 0])/\B w w':=by
 obtain⟨h1,h2⟩:=h
 exact⟨by rw[h1,if_pos hk],h2⟩
theorem lineNo {w:World} {x:bK} {r:Ending} {w':World} (hk:¬kH x) (h:FR w x r w'):r=.returned (.tuple #[.string ⟨#[]⟩,.int .i64 1])/\B w w':=by
 obtain⟨h1,h2⟩:=h
 exact⟨by rw[h1,if_neg hk],h2⟩
theorem NU (l:List UInt8):(aA l++⟨#[10]⟩).size=l.length+1:=by
 rw[ByteArray.size_append]
 simp[aA,ByteArray.size]
theorem Rh {K b:Nat} {bs:List Value} {s:ByteArray} {w:World} (h:Lib.IsBuilder 114 5 K b bs w) (hlen:bs.length+s.size<=140737488355328) (hK:K<=w.heap.size):
 Calls prog 57 #[.pointer (some ⟨b,0,none⟩),.string s] w fun e w'=>e=.returned (.tuple #[.int .i64 s.size,.nilIface])/\(Lib.BuilderAt 114 5 K b (.pointer (some ⟨b,0,none⟩)) (bs++Lib.strCells s) w'/\Below K w w'):=
 Any.Builder_WriteString {Tryz.Kf with} Tryz.Io K b bs s w h hlen hK
theorem aay {K b:Nat} {l:List UInt8} {w:World} (h:Lib.IsBuilder 114 5 K b (Lib.byteCells l) w) (h0:l≠[]):
 Calls prog 58 #[.pointer (some ⟨b,0,none⟩)] w fun e w'=>e=.returned (.string ⟨l.toArray⟩)/\Below K w w':=
 Tryz.Builder_String K b l w h h0
open Classical in
theorem Yn {s:qw} {x:bK} {q:Nat} (hk:jg s.fJ.av=true) (hl:s.kA.length<=4096) (hx:s.kA[q]?=some x) (hy:¬kH x):qI s=([],1):=by
 unfold qI
 rw[if_neg (by simp[hk]),if_neg (by omega),if_neg (fun h=>hy (h x (List.mem_of_getElem? hx)))]
open Classical in
theorem W4 {s:qw} (hk:jg s.fJ.av=true) (hl:s.kA.length<=4096) (h:∀j a,j<s.kA.length->s.kA[j]?=some a->kH a):qI s=(mG s s.kA.length,0):=by
 unfold qI
 rw[if_neg (by simp[hk]),if_neg (by omega),if_pos (by
  intro a ha
  obtain⟨j,hj⟩:=List.getElem?_of_mem ha
  exact h j a (List.getElem?_eq_some_iff.1 hj).1 hj)]
 unfold mG
 rw[List.take_length]
theorem Qb {ops:Array Oper} {Q:Exit->Act->World->Prop} {rest:List Oper} {op:Oper} {a:Act} {wr:World} {Z C:Array Value} {tx ty:Tmp} (rY:op.guard=none) (ho:op.op=.store 61 (.tmp tx) (.tmp ty)) (hz:Z.size=40) (hC:C.size=40) (h1:C.all (·.oneCell')=true)
 (hx:a.eval (.tmp tx)=.pointer (some ⟨wr.heap.size,0,none⟩)) (hy:a.eval (.tmp ty)=.agg C) (h:∀w3,St wr w3 [gK wr.heap.size 61 C]->wpList prog ops Q rest (a.put op.dst undef) w3):wpList prog ops Q (op::rest) a (wr.alloc (.cells Z 61)):=by
 have hS:=gK.new (St.nil wr) 61 Z
 exact wpList_store_mid rY 61 (.tmp tx) (.tmp ty) ho wr.heap.size 0 C hx hy (Z3 hS 0 _ (by omega)) (by rw[hC];exact K2) h1 (h _ (gK.adz hS (by omega)))
set_option maxRecDepth 20000 in
theorem aaz {aG:Nat->Prop} {w:World} {cs:List Value} {s:qw} (hT:qT w) (h:BD.rd aG w cs s) (hk:jg s.fJ.av=true) (hl:s.kA.length<=4096):
 Calls prog 26 #[.agg cs.toArray] w fun r w'=>r=.returned (.tuple #[.string (aA (qI s).1),.int .i64 (qI s).2])/\B w w':=by
 obtain⟨c0,c1,rfl,h0,h1⟩:=h
 have HC:=Lib.hid (fun w' (hb:B w w')=>Rg (hT.later hb) (nN.later h0 hb))
 have CB:=Lib.hid (Oi h0)
 obtain⟨rfl,b1,b2,b3,b4,b5⟩:=nN.parts h0
 obtain⟨A,c,rfl,hs⟩:=tL.slice h1
 have HS:=Lib.hid (gK.new (St.nil w) 69 #[.int .i64 s.fJ.f,.int .u16 s.fJ.jP,.int .u16 s.fJ.jC,.int .i64 s.fJ.room,.string (aA s.fJ.av),.slice A s.kA.length c])
 have HK:=Lib.hid hk
 have HT:=Lib.hid hT
 have HR:=Lib.hid h1
 obtain⟨n,hn⟩:∃n,s.kA.length=n:=⟨_,rfl⟩
 have HN:=Lib.hid hn
 obtain⟨T0,Nh⟩:∃z,pP s.fJ=z:=⟨_,rfl⟩
 have Ni:=Lib.hid Nh
 rw[hn] at hl HS ⊢
 rw[hk,Nh] at HC
 clear hk hT h0 h1 hs hn Nh
 have TW:=Lib.hid (show([]:List Value).length+(aA T0++⟨#[10]⟩).size<=140737488355328 from by have:=CB.out;rw[Ni.out] at this;rw[NU];simp;omega)
 have Ca:¬9223372036854775807<(aA T0).size+1:=by have:=CB.out;rw[Ni.out] at this;simp[aA,ByteArray.size];omega
 have SZ:=Lib.hid (show ∀j a,s.kA[j]?=some a->kH a->(j0 a).length<=33554448 from fun j a hj ho=>by
  obtain⟨_,ba,oa,ca,rfl,r1,k1⟩:=tL.at HR.out hj
  exact Yk r1 ho.1)
 have Tf:(n:Int)<=4096:=by omega
 have KG:=(gK.get HS.out).cell
 go_enter func26,ntmps26
 go_wp2_with (first
  |(go_at_call 8;(with_reducible refine qC (HC.out _ HS.out.b) ?_);rintro r w1 ⟨hr,hb⟩;replace HS:=Lib.hid (HS.out.on.later hb);clear hb;simp only[if_true] at hr;subst hr;replace KG:=(gK.get HS.out).cell;have HBW:=Lib.hid HS.out.b;have HF:=Lib.hid (Lib.fresh_isBuilder 114 5 w1);have TX:=Lib.hid (show w1.heap.size<=(w1.alloc (.cells #[.pointer none,.slice none 0 0] 114)).heap.size from by simp))
  |(go_at_call 57;((with_reducible refine qC (Rh HF.out TW.out TX.out) ?_);rintro r w2 ⟨rfl,hB,hb⟩;replace HS:=Lib.hid (HS.out.later (show B w1 w2 from Below.trans ((Below.refl w1.heap.size w1).alloc (Nat.le_refl _) _) hb));replace KG:=(gK.get HS.out).cell;replace HF:=Lib.hid hB;clear hb hB TW))
  |fail)
 have HF2:=Lib.hid (show Lib.IsBuilder 114 5 w1.heap.size w1.heap.size (Lib.byteCells (mG s 0)) w2 from by
  have h:=HF.out
  rw[List.nil_append,<-Ni.out,Ym] at h
  exact .inr h)
 have Nf:=Lib.hid HS.out.b
 have Cr:=Lib.hid (show w.heap.size<=w1.heap.size from HBW.out.size)
 have Ng:=Lib.hid (show w1.heap.size<=w2.heap.size from Nat.le_of_lt HF.out.lt)
 clear HF KG HS TX HC
 go_loopw [30] (fun i wr=>∃q:Nat,q<=n/\i=.int .i64 q/\Hid (∀j a,j<q->s.kA[j]?=some a->kH a)/\Hid (B w wr/\w1.heap.size<=wr.heap.size/\Lib.IsBuilder 114 5 w1.heap.size w1.heap.size (Lib.byteCells (mG s q)) wr)) (fun i _=>n-(intOf i).toNat)
 case atStart=>exact⟨0,Nat.zero_le _,rfl,fun j a h=>by omega,Nf.out,Ng.out,HF2.out⟩
 case round=>
  obtain⟨q,hq,rfl,HP,HW⟩:=hrel
  by_cases hlt:q<n
  ·obtain⟨x,hx⟩:∃x,s.kA[q]?=some x:=⟨_,List.getElem?_eq_getElem (by have:=HN.out;omega)⟩
   obtain⟨_,ba,oa,ca,rfl,r1,k1⟩:=tL.at HR.out hx
   have jr:ca.length=40:=iF.len r1
   simp only[show iF.n=40 from rfl] at k1
   have TY:=Lib.hid (show wr.rangeAt ba (oa+q*40) ca from fun j v hv=>B.cell HW.out.1 (k1 j v hv))
   have HI:=Lib.hid (show(prog.info? 61).map (·.size)=some ca.length from by rw[jr];exact K2)
   have Nj:=Lib.hid (fun w' (hb:B w w')=>adA (HT.out.later hb) (iF.later r1 hb))
   obtain⟨C,hC⟩:∃C,ca.toArray=C:=⟨_,rfl⟩
   have EP:=Lib.hid (show C.size=40/\C.all (·.oneCell')=true from by rw[<-hC];exact iF.one r1)
   have TZ:=Lib.hid (show(prog.info? 61).map (·.size)=some C.size from by rw[EP.out.1];exact K2)
   have HX:=Lib.hid hx
   have ahZ:=Lib.hid (fun Z:Array Value=>gK.new (St.nil wr) 61 Z)
   rw[hC] at Nj
   have T3:=Lib.hid hC
   clear k1 r1 hx hC jr
   by_cases hy:kH x
   ·have HY:=Lib.hid hy
    have nC:=SZ.out q x HX.out hy
    have ahT:¬9223372036854775807<(aA (j0 x)).size+1:=by simp[aA,ByteArray.size];omega
    have HLQ:=Lib.hid (show(Lib.byteCells (mG s q)).length+(aA (j0 x)++⟨#[10]⟩).size<=140737488355328 from by
     have h:=P9 33554448 CB.out q (fun j a hj ha=>SZ.out j a ha (HP.out j a hj ha))
     rw[Lib.byteCells_length,NU]
     omega)
    clear hy nC
    go_wp2_with (first
     |(refine wpList_load_mid rfl 61 (.tmp 32) rfl ba (oa+q*40) rfl ca _ TY.out underlying61 rfl HI.out ?_;rw[T3.out])
     |(refine Qb (C:=C) rfl rfl rfl EP.out.1 EP.out.2 rfl rfl (fun w3 ER=>?_);have A6:=Lib.hid ER;clear ER;have Nk:=Lib.hid (gK.get A6.out))
     |(refine wpList_load_row rfl 61 (.tmp 8) rfl wr.heap.size rfl 61 C (0,0) _ Nk.out underlying61 rfl TZ.out ?_)
     |(go_at_call 17;(with_reducible refine qC (Nj.out _ (HW.out.1.trans A6.out.b)) ?_);rintro r w4 hr;obtain⟨rfl,hb⟩:=acC HY.out hr;clear hr;have zj:=Lib.hid (show B wr w4 from A6.out.b.trans hb);clear hb)
     |(go_at_call 57;(with_reducible refine qC (Rh (UB HW.out.2.2 zj.out) HLQ.out (Nat.le_trans HW.out.2.1 zj.out.size)) ?_);rintro r w5 ⟨rfl,hB,hb⟩)
     |fail)
    have HE:=Lib.hid (Below.trans (HW.out.1.trans zj.out) (Below.mono hb Cr.out))
    have hP:=HP.out
    refine⟨⟨q+1,by omega,by push_cast;rfl,fun j a hj ha=>?_,HE.out,Nat.le_trans (Nat.le_trans HW.out.2.1 zj.out.size) hb.size,.inr (by rw[<-Yl HX.out];exact hB)⟩,by simp[intOf];omega⟩
    by_cases hjq:j=q
    ·subst hjq
     have:=HX.out
     rw[ha] at this
     injection this with this
     rw[this]
     exact HY.out
    ·exact hP j a (by omega) ha
   ·have HY:=Lib.hid hy
    have HQ:=Lib.hid (Yn HK.out (by have:=HN.out;omega) HX.out hy)
    clear hy
    go_wp2_with (first
     |(refine wpList_load_mid rfl 61 (.tmp 32) rfl ba (oa+q*40) rfl ca _ TY.out underlying61 rfl HI.out ?_;rw[T3.out])
     |(refine Qb (C:=C) rfl rfl rfl EP.out.1 EP.out.2 rfl rfl (fun w3 ER=>?_);have A6:=Lib.hid ER;clear ER;have Nk:=Lib.hid (gK.get A6.out))
     |(refine wpList_load_row rfl 61 (.tmp 8) rfl wr.heap.size rfl 61 C (0,0) _ Nk.out underlying61 rfl TZ.out ?_)
     |(go_at_call 17;(with_reducible refine qC (Nj.out _ (HW.out.1.trans A6.out.b)) ?_);rintro r w4 hr;obtain⟨rfl,hb⟩:=lineNo HY.out hr;clear hr;have zj:=Lib.hid (show B wr w4 from A6.out.b.trans hb);clear hb)
     |fail)
    go_ret2
    rw[HQ.out]
    exact⟨rfl,HW.out.1.trans zj.out⟩
  ·have hqn:q=n:=by omega
   subst hqn
   have HQ:=Lib.hid (W4 HK.out (by have:=HN.out;omega) (fun j a hj ha=>HP.out j a (by have:=HN.out;omega) ha))
   have HO:=Lib.hid (show mG s q≠[] from by simp[mG])
   go_wp2_with (first
    |(go_at_call 58;(with_reducible refine qC (aay HW.out.2.2 HO.out) ?_);rintro r w4 ⟨rfl,hb⟩)
    |fail)
   go_ret2
   rw[HQ.out,HN.out]
   exact⟨rfl,Below.trans HW.out.1 (Below.mono hb Cr.out)⟩
theorem acD {aG:Nat->Prop} {w:World} {cs:List Value} {s:qw} (hT:qT w) (h:BD.rd aG w cs s):
 Calls prog 26 #[.agg cs.toArray] w fun r w'=>r=.returned (.tuple #[.string (aA (qI s).1),.int .i64 (qI s).2])/\B w w':=by
 cases hk:jg s.fJ.av with
 |false=>exact Qa hT h (.inl hk)
 |true=>
  by_cases hl:s.kA.length<=4096
  ·exact aaz hT h hk hl
  ·exact Qa hT h (.inr (by omega))
end
section
open Go.RowKit Go.Deep
def T4:List Value:=[.int .i64 1,.string (aA [116]),.string ⟨#[]⟩,.int .i64 0,.slice none 0 0]
def Cj:List Value:=xF 6 2 0 T4 (.slice none 0 0) GO false
def Ck:List Value:=xF 8 3 (-1) LA (.slice none 0 0) GO false
def Cl:List Value:=xF 12 0 0 LA (.slice none 0 0) GO false
theorem adV (aG:Nat->Prop) (w:World):mW.rd aG w T4 lq.op:=
 mW.mk (s:=lq.op) (by simp[lq,dW,aR]) (by simp[lq,dW,aR]) (by simp[lq,dW,aR]) (by simp[lq,dW,aR]) (tL.nil _ _ _)
theorem adW (aG:Nat->Prop) (w:World):iF.rd aG w Cj lq:=
 iF.mk' (s:=lq) (by simp[lq]) (by simp[lq]) (by simp[lq,aR]) (adV _ _) (tY.nil _ _) (Kc _ _)
theorem adX (aG:Nat->Prop) (w:World):iF.rd aG w Ck qi:=
 iF.mk' (s:=qi) (by simp[qi]) (by simp[qi]) (by simp[qi]) (RD _ _) (tY.nil _ _) (Kc _ _)
theorem adY (aG:Nat->Prop) (w:World):iF.rd aG w Cl qj:=
 iF.mk' (s:=qj) (by simp[qj]) (by simp[qj,aR]) (by simp[qj,aR]) (RD _ _) (tY.nil _ _) (Kc _ _)
theorem Lb {w:World} {g o:Nat} {Z:Array Value} {t:TypeId} {a c d:List Value} (hb:dR w g t Z) (hz:Z.toList=a++c++d) (ho:a.length=o):∀j v,c[j]?=some v->w.cell? ⟨g,o+j,none⟩=some v:=by
 intro j v hv
 have hl:j<c.length:=(List.getElem?_eq_some_iff.1 hv).1
 rw[hb.cell,<-Array.getElem?_toList,hz,List.append_assoc,List.getElem?_append_right (by omega),List.getElem?_append_left (by omega)]
 rw[show o+j-a.length=j by omega]
 exact hv
theorem ae6 {w:World} (hT:qT w) {Z:Array Value} (hz:Z.toList=Cj++Ck++Cl):
 Calls prog 26 #[.agg #[.int .i64 1,.int .u16 0,.int .u16 0,.int .i64 65536,.string ⟨#[116]⟩,.slice (some ⟨w.heap.size,0,none⟩) 3 3]] (w.alloc (.cells Z 61)) fun r w'=>r=.returned (.tuple #[.string (aA Im),.int .i64 0])/\B w w':=by
 have hb:dR (w.alloc (.cells Z 61)) w.heap.size 61 Z:=gK.get (gK.new (St.nil w) 61 Z)
 have hB:B w (w.alloc (.cells Z 61)):=B.j9 _ _
 have l1:Cj.length=40:=rfl
 have l2:Ck.length=40:=rfl
 have l3:Cl.length=40:=rfl
 have h:(tL iF).rd (fun _=>True) (w.alloc (.cells Z 61)) [.slice (some ⟨w.heap.size,0,none⟩) 3 3] oy.kA:=by
  refine⟨some ⟨w.heap.size,0,none⟩,3,rfl,by simp[oy],by unfold maxLen;omega,by simp,by simp[oy],fun _=>⟨w.heap.size,0,rfl,by simp,trivial,?_⟩⟩
  intro i x hx
  rcases i with _|_|_|i
  ·simp only[oy,List.getElem?_cons_zero,Option.some.injEq] at hx
   subst hx
   exact⟨Cj,adW _ _,Lb (o:=0) (a:=[]) (d:=Ck++Cl) hb (by rw[hz];simp) rfl⟩
  ·simp only[oy,List.getElem?_cons_zero,List.getElem?_cons_succ,Option.some.injEq] at hx
   subst hx
   exact⟨Ck,adX _ _,Lb (o:=40) (a:=Cj) (d:=Cl) hb hz l1⟩
  ·simp only[oy,List.getElem?_cons_zero,List.getElem?_cons_succ,Option.some.injEq] at hx
   subst hx
   exact⟨Cl,adY _ _,Lb (o:=80) (a:=Cj++Ck) (d:=[]) hb (by rw[hz];simp) (by rw[List.length_append,l1,l2])⟩
  ·simp[oy] at hx
 have hS:=BD.mk (s:=oy) (by simp[oy,vA]) (by simp[oy,vA]) (by simp[oy,vA]) (by simp[oy,vA]) (by simp[oy,vA]) h
 refine(acD (hT.later hB) hS).mono fun r w' hr=>?_
 obtain⟨rfl,cw⟩:=hr
 rw[aax]
 exact⟨rfl,hB.trans cw⟩
set_option maxRecDepth 20000 in
set_option maxHeartbeats 20000000 in
theorem acW {w:World} (hT:qT w):Calls prog 7 #[] w fun r w'=>r=.returned (.bool true)/\B w w':=by
 have HP:=Lib.hid (fun (Z:Array Value) hz=>ae6 hT (Z:=Z) hz)
 have hlv:aA Im=⟨#[119,111,114,108,100,32,49,32,48,32,48,32,54,53,53,51,54,32,116,10,97,115,107,32,50,32,120,48,49,48,49,55,52,10,99,114,97,115,104,32,51,32,45,49,10,114,111,117,110,100,10]⟩:=by decide+kernel
 rw[hlv] at HP
 clear hT
 go_enter func7,ntmps7
 go_wp2_with (first|(go_at_call 26;(refine qC (HP.out _ rfl) ?_);rintro r w1 ⟨rfl,hb⟩)|fail)
 go_ret
 exact⟨rfl,hb⟩
end
section
attribute [local instance] uA
theorem acV:aq prog 7 [] (.bool true):=bC.Lj (v:=.bool true) (fun _ _=>.bool true) (by kernel_rfl) (fun w I vs hW hi hd=>by
 have:vs=[]:=List.eq_nil_of_length_eq_zero hd.1
 subst this
 exact acW (hW.Te hi)) rfl
end
def zY (x y:List UInt8) (m:aD):Prop:=qt m/\((cI m).key<=9223372036854775807/\(cI m).ah<=9223372036854775807)/\ny m=[x,y]
def CA (b:List UInt8) (s:bJ):aD:=if(cS aU aE b).2=0 then kJ (cS aU aE b).1 s else kJ (cS aU aE (b++[0,1])).1 s
theorem Ka {x y b c:List UInt8} {m:aD} (hv:zY x y m) (hx:dU x=some b) (hy:dU y=some c):nV c=some (cI m)/\((cS aU aE b).2=0\/(cS aU aE (b++[0,1])).2=0)/\∀s,nV c=some s->CA b s=m:=by
 obtain⟨⟨h1,h2,h3,h4,h5⟩,hd,hw⟩:=hv
 unfold ny nu at hw
 injection hw with y8 hw
 injection hw with jH _
 subst y8 jH
 rw[Fp] at hx hy
 injection hx with hx
 injection hy with hy
 subst hx hy
 have hs:=QJ ⟨h2,hd.1⟩ ⟨h3,hd.2⟩
 have hr:=yd (nG (oA h1.1))
 rw[Bd] at hr
 have e:=Bz.there (eu m) [] h1.1
 rw[List.append_nil] at e
 have e2:cS aU aE (kg (eu m))=(eu m,0):=FK (by have:=h1.2;omega) e rfl
 rw[NM (nG (oA h1.1))] at e2
 have key:∀s,nV (enc (cI m).key.toNat++enc (cI m).ah.toNat)=some s->s=cI m:=fun s h=>by rw[hs] at h;injection h with h;exact h.symm
 cases hf:mO m.kind with
 |true=>
  rw[hf] at e2
  simp only[if_true] at e2
  refine⟨hs,.inl (by rw[e2]),fun s h=>?_⟩
  rw[key s h]
  unfold CA
  rw[e2]
  simp only[if_true]
  exact Iu hr
 |false=>
  rw[hf] at e2
  simp only[Bool.false_eq_true,if_false] at e2
  have fu:¬(cS aU aE (aO m)).2=0:=fun h=>by
   obtain⟨p1,p2,p3,p4,p5⟩:=JF h
   have hz:(aU (aO m,0)).2.2=0:=F3 (b:=(aU (aO m,0)).2.1) p2
   obtain⟨k1,k2⟩:=Bz.back (aO m) hz
   have hn:(aU (aO m,0)).2.1=[]:=by
    unfold dA at p2
    rw[if_pos hz] at p2
    exact Classical.byContradiction fun n=>by rw[if_neg n] at p2;cases p2
   rw[hn,List.append_nil] at k2
   have t:=Bz.there _ [0,1] k1
   rw[<-k2] at t
   obtain⟨_,r2,_,_,_⟩:=JF (bs:=aO m++[0,1]) (by rw[e2])
   rw[t] at r2
   replace r2:dA ([0,1],0)=0:=r2
   revert r2
   decide
  refine⟨hs,.inr (by rw[e2]),fun s h=>?_⟩
  rw[key s h]
  unfold CA
  rw[if_neg fu,e2]
  exact Iu hr
theorem aq.coW [Wd] {f:FuncId} {ar:List D} {r r':D} (hF:aq prog f ar r) (h:Co r r'):aq prog f ar r':=by
 refine⟨hF.1,fun w I g vs hW hd ha=>(hF.2 w I g vs hW hd ha).mono ?_⟩
 rintro e w' (⟨v,I',g',r0,h0,e1,⟨rfl,e3⟩,e4,e5,e6⟩|hp)
 ·exact .inl ⟨v,I',g',r',h0,e1,⟨rfl,e3⟩,e4,h.ok e5,e6⟩
 ·exact .inr hp
theorem ZV:(aJ 0).length=1:=by
 show(enc 0).length=1
 rw[sN (by decide)]
 rfl
theorem FP [Wd] (s:List UInt8) (hl:s.length<=4194304):∃(b:List UInt8) (f:Bool),b.length<=2097152/\aq prog 13 [.str s] (.aj [.list 1 (b.map af),.bool f])/\(f=true->dU s=some b)/\(f=false->dU s=none):=by
 have h:=VO s hl
 cases hq:dU s with
 |none=>exact⟨[],false,by decide,by rw[vF hq] at h;exact h.coW (J5 _),fun h=>(by cases h),fun _=>rfl⟩
 |some b=>exact⟨b,true,by have:=PF hq;omega,by rw[show D.aj [.list 1 (b.map af),.bool true]=tF s by unfold tF;rw[hq]];exact h,fun _=>rfl,fun h=>by cases h⟩
theorem abZ (b:List UInt8):(b++aJ 0)++aJ 1=b++[0,1]:=by
 rw[List.append_assoc]
 congr 1
 show enc 0++enc 1=_
 rw[sN (by decide),sN (by decide)]
 rfl
theorem QZ [Wd] (x y:List UInt8) (hx:x.length<=4194304) (hy:y.length<=4194304):bC prog 50 [.str x,.str y] [] (fun r h=>(∃m k,bh.ok m/\r=.aj [.agg (aC m),.bool k]/\∀M,zY x y M->m=M)/\h=[]):=by
 obtain⟨b,fx,hb,HX,xT,Ev⟩:=FP x hx
 obtain⟨c,fy,hc,HY,Ew,y1n⟩:=FP y hy
 refine kK false 74 [] func50 ?_
 repeat' (conv=>arg 2;whnf);first|refine okF HX ?_|refine okF HY ?_|refine cV [] (Dq c) ?_
 conv=>arg 2;whnf
 refine aW 1 (mg MB (by decide)) c 0 (Nat.le_trans hc (by decide)) fun x1 b1 e1 a1 o1 l1=>?_
 have h1:b1.length<=8388609:=Nat.le_trans l1 (Nat.le_trans hc (by decide))
 have Ep:0<=x1/\x1<=9223372036854775807:=o1
 repeat' (conv=>arg 2;whnf);first|refine gJ ?_
 conv=>arg 2;whnf
 refine aW 1 (mg MB (by decide)) b1 e1 h1 fun x2 b2 e2 a2 o2 l2=>?_
 have h2:b2.length<=8388609:=Nat.le_trans l2 h1
 have L7:0<=x2/\x2<=9223372036854775807:=o2
 by_cases Mk:fx=true/\fy=true
 case neg=>
  have fu:∀M,¬zY x y M:=fun M hv=>by
   have hw:=hv.2.2
   unfold ny nu at hw
   injection hw with y8 hw
   injection hw with jH _
   refine Mk ⟨?_,?_⟩
   ·cases fx
    ·have:=Ev rfl
     rw[<-y8,Fp] at this
     cases this
    ·rfl
   ·cases fy
    ·have:=y1n rfl
     rw[<-jH,Fp] at this
     cases this
    ·rfl
  cases fx<;>cases fy
  all_goals
   repeat' (conv=>arg 2;whnf);first|refine gJ ?_|(exfalso;simp at Mk;done)|exact eg (r:=.aj [.agg (aC aE),.bool false]) (h':=[]) [] [] (.inr rfl) rfl rfl trivial trivial .y ⟨⟨_,_,jO,rfl,fun M hv=>absurd hv (fu M)⟩,rfl⟩
 obtain⟨rfl,rfl⟩:=Mk
 replace xT:=xT rfl
 replace Ew:=Ew rfl
 by_cases hD:dA (b2,e2)=0
 case neg=>
  have fu:∀M,¬zY x y M:=fun M hv=>by
   have h:=(Ka hv xT Ew).1
   have a12:=a1.bind (q:=fun _=>nR MB) a2 (fun _=>dD MB)
   have:=(BC a12).2 hD
   unfold nV at h
   rw[if_neg (show ¬dA (nR MB (nR MB (c,0)).2).2=0 from this)] at h
   cases h
  repeat' (conv=>arg 2;whnf);first|refine gJ ?_|refine qG 1 b2 e2 ⟨⟨rfl,rfl⟩,trivial⟩ (aa.refl _) rfl ?_|refine bY (by simpa using hD) ?_|exact eg (r:=.aj [.agg (aC aE),.bool false]) (h':=[]) [] [] (.inr rfl) rfl rfl trivial trivial .y ⟨⟨_,_,jO,rfl,fun M hv=>absurd hv (fu M)⟩,rfl⟩
 have hs:nV c=some ⟨x1,x2⟩:=by
  have a12:=a1.bind (q:=fun _=>nR MB) a2 (fun _=>dD MB)
  obtain⟨p1,p2⟩:=(BC a12).1 hD
  have q1:((nR MB (c,0)).1,(nR MB (nR MB (c,0)).2).1)=(x1,x2):=congrArg Prod.fst p1
  have q2:(nR MB (nR MB (c,0)).2).2=(b2,0):=congrArg Prod.snd p1
  injection q1 with q3 q4
  unfold nV
  rw[q2,if_pos p2,q3,q4]
 have hV:∀M,zY x y M->CA b ⟨x1,x2⟩=M:=fun M hv=>(Ka hv xT Ew).2.2 _ hs
 have Hz:iO.ok ⟨x1,x2⟩:=⟨bM Ep (by decide),bM L7 (by decide)⟩
 have Ml:=mI b 0 (by unfold aL;omega)
 have HH:=mI (b++aJ 0) 1 (by rw[List.length_append,ZV];unfold aL;omega)
 rw[abZ] at HH
 have eJ:(b++[0,1]).length<=8388609:=by simp;omega
 by_cases hA:(cS aU aE b).2=0
 ·have ot:CA b ⟨x1,x2⟩=kJ (cS aU aE b).1 ⟨x1,x2⟩:=if_pos hA
  have zc:=zR hA
  by_cases h7:(cS aU aE b).1.kind=7
  ·have HZ:=OQ b (by omega) hA h7
   repeat' (conv=>arg 2;whnf);first|refine gJ ?_|refine qG 1 b2 e2 ⟨⟨rfl,rfl⟩,trivial⟩ (aa.refl _) rfl ?_|refine bB (by simpa using hD) ?_|(refine pH [] HZ (.mk' rfl trivial) (aa.refl _) rfl ?_;rintro r h' ⟨c7,e7,hc7,rfl,rfl⟩;rw[e7] at ot)|refine aT (by simp) ?_|refine eT (bU c7) (by decide) rfl ?_|exact eg (r:=.aj [.agg (aC (fV c7.src c7.view {c7 with sign:=⟨x1,x2⟩})),.bool true]) (h':=[]) [6] [] (.inr rfl) rfl rfl trivial trivial .y ⟨⟨_,_,(Dn (m:=fV c7.src c7.view c7) (s:=⟨x1,x2⟩) (by rw[<-e7];exact zc) Hz),rfl,fun M hv=>ot.symm.trans (hV M hv)⟩,rfl⟩
  ·have HZ:=OO b (by omega) hA
   rw[show kJ (cS aU aE b).1 ⟨x1,x2⟩={(cS aU aE b).1 with sign:=⟨x1,x2⟩} from if_neg h7] at ot
   have An:bh.ok {(cS aU aE b).1 with sign:=(⟨x1,x2⟩:bJ)}:=by have:=Dn zc Hz;rw[show kJ (cS aU aE b).1 ⟨x1,x2⟩={(cS aU aE b).1 with sign:=⟨x1,x2⟩} from if_neg h7] at this;exact this
   revert HZ ot An h7
   generalize (cS aU aE b).1=X
   intro ot h7 HZ An
   repeat' (conv=>arg 2;whnf);first|refine gJ ?_|refine qG 1 b2 e2 ⟨⟨rfl,rfl⟩,trivial⟩ (aa.refl _) rfl ?_|refine bB (by simpa using hD) ?_|refine okF HZ ?_|refine bB (by simpa using h7) ?_|exact eg (r:=.aj [.agg (aC {X with sign:=⟨x1,x2⟩}),.bool true]) (h':=[]) [] [] (.inr rfl) rfl rfl trivial trivial .y ⟨⟨_,_,An,rfl,fun M hv=>ot.symm.trans (hV M hv)⟩,rfl⟩
 ·have HN:=OP b (by omega) hA
  by_cases hB:(cS aU aE (b++[0,1])).2=0
  ·have ot:CA b ⟨x1,x2⟩=kJ (cS aU aE (b++[0,1])).1 ⟨x1,x2⟩:=if_neg hA
   have zc:=zR hB
   by_cases h7:(cS aU aE (b++[0,1])).1.kind=7
   ·have HZ:=OQ (b++[0,1]) eJ hB h7
    repeat' (conv=>arg 2;whnf);first|refine gJ ?_|refine qG 1 b2 e2 ⟨⟨rfl,rfl⟩,trivial⟩ (aa.refl _) rfl ?_|refine bB (by simpa using hD) ?_|(refine eI HN rfl (aa.refl _) ?_;rintro r ⟨X0,k0,Cp,cm,rfl⟩)|refine bY (by simpa using cm) ?_|refine okF Ml ?_|refine okF HH ?_|(refine pH [] HZ (.mk' rfl trivial) (aa.refl _) rfl ?_;rintro r h' ⟨c7,e7,hc7,rfl,rfl⟩;rw[e7] at ot)|refine aT (by simp) ?_|refine eT (bU c7) (by decide) rfl ?_|exact eg (r:=.aj [.agg (aC (fV c7.src c7.view {c7 with sign:=⟨x1,x2⟩})),.bool true]) (h':=[]) [7] [] (.inr rfl) rfl rfl trivial trivial .y ⟨⟨_,_,(Dn (m:=fV c7.src c7.view c7) (s:=⟨x1,x2⟩) (by rw[<-e7];exact zc) Hz),rfl,fun M hv=>ot.symm.trans (hV M hv)⟩,rfl⟩
   ·have HZ:=OO (b++[0,1]) eJ hB
    rw[show kJ (cS aU aE (b++[0,1])).1 ⟨x1,x2⟩={(cS aU aE (b++[0,1])).1 with sign:=⟨x1,x2⟩} from if_neg h7] at ot
    have An:bh.ok {(cS aU aE (b++[0,1])).1 with sign:=(⟨x1,x2⟩:bJ)}:=by have:=Dn zc Hz;rw[show kJ (cS aU aE (b++[0,1])).1 ⟨x1,x2⟩={(cS aU aE (b++[0,1])).1 with sign:=⟨x1,x2⟩} from if_neg h7] at this;exact this
    revert HZ ot An h7
    generalize (cS aU aE (b++[0,1])).1=X
    intro ot h7 HZ An
    repeat' (conv=>arg 2;whnf);first|refine gJ ?_|refine qG 1 b2 e2 ⟨⟨rfl,rfl⟩,trivial⟩ (aa.refl _) rfl ?_|refine bB (by simpa using hD) ?_|(refine eI HN rfl (aa.refl _) ?_;rintro r ⟨X0,k0,Cp,cm,rfl⟩)|refine bY (by simpa using cm) ?_|refine okF Ml ?_|refine okF HH ?_|refine okF HZ ?_|refine bB (by simpa using h7) ?_|exact eg (r:=.aj [.agg (aC {X with sign:=⟨x1,x2⟩}),.bool true]) (h':=[]) [] [] (.inr rfl) rfl rfl trivial trivial .y ⟨⟨_,_,An,rfl,fun M hv=>ot.symm.trans (hV M hv)⟩,rfl⟩
  ·have HN2:=OP (b++[0,1]) eJ hB
   have fu:∀M,¬zY x y M:=fun M hv=>(Ka hv xT Ew).2.1.elim hA hB
   repeat' (conv=>arg 2;whnf);first|refine gJ ?_|refine qG 1 b2 e2 ⟨⟨rfl,rfl⟩,trivial⟩ (aa.refl _) rfl ?_|refine bB (by simpa using hD) ?_|(refine eI HN rfl (aa.refl _) ?_;rintro r ⟨X0,k0,Cp,cm,rfl⟩)|refine bY (by simpa using cm) ?_|refine okF Ml ?_|refine okF HH ?_|(refine eI HN2 rfl (aa.refl _) ?_;rintro r ⟨X2,k2,hX2,iH,rfl⟩)|refine bY (by simpa using iH) ?_|exact eg (r:=.aj [.agg (aC aE),.bool false]) (h':=[]) [] [] (.inr rfl) rfl rfl trivial trivial .y ⟨⟨_,_,jO,rfl,fun M hv=>absurd hv (fu M)⟩,rfl⟩
section
theorem gB {α β:Type} {p:lW α} {q:α->lW β} {ws:List (List UInt8)} {z:β×List (List UInt8)} (h:fC p q ws=some z):∃x r,p ws=some (x,r)/\q x r=some z:=by
 unfold fC at h
 split at h
 ·rename_i y hy
  exact⟨y.1,y.2,hy,h⟩
 ·cases h
theorem sV {ws r:List (List UInt8)} {n:Int} (h:jD ws=some (n,r)):dI.ok n:=by
 cases ws with
 |nil=>cases h
 |cons s r'=>
  have e2:(tG s).map (fun x=>(x,r'))=some (n,r):=h
  cases hq:tG s with
  |none=>rw[hq] at e2;cases e2
  |some x=>
   rw[hq] at e2
   injection e2 with e2
   injection e2 with e3 e4
   subst e3
   exact fM (J6 hq).2
theorem aei {ws r:List (List UInt8)} {x:bt} (h:Cu ws=some (x,r)):fD.ok x:=by
 obtain⟨b,r1,_,h2⟩:=gB h
 unfold uL at h2
 cases hq:qX b with
 |none=>rw[hq] at h2;cases h2
 |some y=>
  rw[hq] at h2
  injection h2 with h2
  injection h2 with h2 _
  subst h2
  exact aeg hq
theorem RC {ws r:List (List UInt8)} {x:aD} (h:xE ws=some (x,r)):bh.ok x:=by
 obtain⟨b,r1,_,h2⟩:=gB h
 obtain⟨c,r2,_,h3⟩:=gB h2
 obtain⟨s,r3,h4,h5⟩:=gB h3
 unfold uL at h4 h5
 cases hs:nV c with
 |none=>rw[hs] at h4;cases h4
 |some s'=>
  rw[hs] at h4
  injection h4 with h4
  injection h4 with h4 _
  subst h4
  cases hq:uM b s' with
  |none=>rw[hq] at h5;cases h5
  |some y=>
   rw[hq] at h5
   injection h5 with h5
   injection h5 with h5 _
   subst h5
   exact ada (ac0 hs) hq
theorem ads {ws r:List (List UInt8)} {a:bK} (hw:kO ws) (h:ku ws=some (a,r)):gh.ok a:=by
 obtain⟨s,rest,hs,h⟩:=gB h
 have jH:=(F5 hw hs).2
 have zb:dY.ok []:=Nat.zero_le _
 by_cases sE:s=pF
 ·subst sE;rw[EV] at h
  obtain⟨n,r3,e3,h⟩:=gB h;injection h with h;injection h with h _;subst h
  exact⟨fM (n:=1) (by decide),bu,sV e3,tj,zb,jO,trivial⟩
 by_cases tr:s=pQ
 ·subst tr;rw[Fi] at h
  obtain⟨n,r3,e3,h⟩:=gB h;injection h with h;injection h with h _;subst h
  exact⟨fM (n:=2) (by decide),bu,sV e3,tj,zb,jO,trivial⟩
 by_cases sK:s=pG
 ·subst sK;rw[EY] at h
  obtain⟨n,r3,e3,h⟩:=gB h;injection h with h;injection h with h _;subst h
  exact⟨fM (n:=3) (by decide),bu,sV e3,tj,zb,jO,trivial⟩
 by_cases tu:s=pR
 ·subst tu;rw[Fj] at h
  obtain⟨n,r3,e3,h⟩:=gB h;injection h with h;injection h with h _;subst h
  exact⟨fM (n:=4) (by decide),sV e3,bu,tj,zb,jO,trivial⟩
 by_cases sQ:s=pM
 ·subst sQ;rw[E1] at h
  obtain⟨n,r3,e3,h⟩:=gB h;injection h with h;injection h with h _;subst h
  exact⟨fM (n:=5) (by decide),sV e3,bu,tj,zb,jO,trivial⟩
 by_cases tN:s=mR
 ·subst tN;rw[FM] at h
  obtain⟨n,r3,e3,h⟩:=gB h;obtain⟨x,r4,e4,h⟩:=gB h;injection h with h;injection h with h _;subst h
  exact⟨fM (n:=6) (by decide),sV e3,bu,aei e4,zb,jO,trivial⟩
 by_cases tv:s=pS
 ·subst tv;rw[Fk] at h
  obtain⟨n,r3,e3,h⟩:=gB h;injection h with h;injection h with h _;subst h
  exact⟨fM (n:=7) (by decide),sV e3,bu,tj,zb,jO,trivial⟩
 by_cases sR:s=nL
 ·subst sR;rw[E2] at h
  obtain⟨n,r3,e3,h⟩:=gB h;obtain⟨n4,r4,e4,h⟩:=gB h;injection h with h;injection h with h _;subst h
  exact⟨fM (n:=8) (by decide),sV e3,sV e4,tj,zb,jO,trivial⟩
 by_cases sS:s=pN
 ·subst sS;rw[E3] at h
  obtain⟨n,r3,e3,h⟩:=gB h;injection h with h;injection h with h _;subst h
  exact⟨fM (n:=9) (by decide),sV e3,bu,tj,zb,jO,trivial⟩
 by_cases tw:s=nP
 ·subst tw;rw[Fl] at h
  obtain⟨b,r3,e3,h⟩:=gB h;injection h with h;injection h with h _;subst h
  exact⟨fM (n:=10) (by decide),bu,bu,tj,Nat.le_trans (Db jH e3) (by decide),jO,trivial⟩
 by_cases tC:s=mP
 ·subst tC;rw[Fm] at h
  obtain⟨n,r3,e3,h⟩:=gB h;obtain⟨x,r4,e4,h⟩:=gB h;injection h with h;injection h with h _;subst h
  exact⟨fM (n:=11) (by decide),sV e3,bu,tj,zb,RC e4,trivial⟩
 by_cases wm:s=nQ
 ·subst wm;rw[Fo] at h
  obtain⟨n,r3,e3,h⟩:=gB h;obtain⟨x,r4,e4,h⟩:=gB h;injection h with h;injection h with h _;subst h
  exact⟨fM (n:=11) (by decide),sV e3,bu,tj,zb,RC e4,trivial⟩
 by_cases sU:s=ni
 ·subst sU;rw[E4] at h
  injection h with h;injection h with h _;subst h
  exact⟨fM (n:=12) (by decide),bu,bu,tj,zb,jO,trivial⟩
 unfold dN at h
 rw[if_neg sE,if_neg tr,if_neg sK,if_neg tu,if_neg sQ,if_neg tN,if_neg tv,if_neg sR,if_neg sS,if_neg tw,if_neg tC,if_neg wm,if_neg sU] at h
 cases h
theorem Bn {line:List UInt8} {a:bK} (h:fE line a):ku (fc line)=some (a,[]):=by
 obtain⟨h1,h2,rfl⟩:=h
 rw[N6 h2]
 exact abH h1 h2
def Mj (line:List UInt8) (cs:List D):List AO:=[.cells 9 [.str line],.cells 61 cs]
def aej:List D:=[.int .i64 0,.int .i64 0,.int .i64 0,.int .i64 0,.str [],.str [],.int .i64 0,.nils,.nils,.int .i64 0,.int .i64 0,.int .i64 0,.int .i64 0,.int .i64 0,.int .i64 0,.int .i64 0,.int .i64 0,.int .i64 0,.nils,.int .i64 0,.int .i64 0,.nils,.nils,.nils,.nils,.str [],.int .i64 0,.str [],.int .i64 0,.nils,.nils,.int .i64 0,.int .i64 0,.nils,.int .i64 0,.int .i64 0,.nils,.int .i64 0,.int .i64 0,.bool false]
theorem PG [Wd] [qW] (line:List UInt8) (hl:line.length<=4194304) (hp:(∀a,¬fE line a)->Wd.kY rq):bC prog 46 [.ptr 0 0,.ptr 1 0] (Mj line aej) (fun r h=>∃a,fE line a/\r=.aj []/\h=Mj line (cr a)):=by
 obtain⟨ws,vn⟩:∃ws,ws=fc line:=⟨_,rfl⟩
 have hb:kO ws:=vn▸kO.split hl
 have HS:aq prog 34 [.str line,.str [32]] (.list 1 (cW ws)):=vn▸ZA line hl
 have hR:∀a,fE line a->ku ws=some (a,[]):=fun a h=>by rw[vn];exact Bn h
 clear vn
 refine ak 32 [] func46 ?_
 repeat' (conv=>arg 2;whnf);first|refine okF HS ?_
 conv=>arg 2;whnf
 refine lU 2 abX ws hb (fun h=>hp (fun a ha=>by rw[hR a ha] at h;cases h)) fun a rest ha=>?_
 have kB:=ads hb ha
 have hS:=J7 F0 a kB
 by_cases hG:rest=[]/\kH a/\j0 a=line
 ·obtain⟨rfl,h2,h3⟩:=hG
  rw[zP h2] at hS
  repeat' (conv=>arg 2;whnf);first|refine okF hS ?_|(refine eI (lB _ (fun h=>by simp[h3] at h)) rfl (aa.refl _) ?_;rintro r ⟨hr,rfl⟩)|exact bf (r:=.aj []) (h':=Mj line (cr a)) [0,1] (.inl rfl) rfl rfl ⟨⟨rfl,rfl⟩,⟨rfl,rfl⟩,trivial⟩ ⟨⟨rfl,rfl⟩,⟨rfl,rfl⟩,trivial⟩ (.refl _) ⟨a,⟨kB,h2,h3.symm⟩,rfl,rfl⟩
 ·have hN:∀a',¬fE line a':=fun a' h'=>hG (by
   have:=hR a' h'
   rw[ha] at this
   injection this with this
   injection this with e1 e2
   subst e1
   exact⟨e2,h'.2.1,h'.2.2.symm⟩)
  by_cases h2:kH a
  ·rw[zP h2] at hS
   by_cases h1:rest=[]
   ·subst h1
    have h3:¬j0 a=line:=fun h=>hG ⟨rfl,h2,h⟩
    repeat' (conv=>arg 2;whnf);first|refine okF hS ?_|(refine eI (lB _ (fun _=>hp hN)) rfl (aa.refl _) ?_;rintro r ⟨hr,rfl⟩;exfalso;simp[h3] at hr;done)
   ·have h4:¬((cW rest).length:Int)=0:=by simpa[cW] using h1
    repeat' (conv=>arg 2;whnf);first|refine okF hS ?_|refine bB (by simpa using h4) ?_|(refine eI (lB _ (fun _=>hp hN)) rfl (aa.refl _) ?_;rintro r ⟨hr,rfl⟩;exfalso;simp[] at hr;done)
  ·rw[w6 h2] at hS
   repeat' (conv=>arg 2;whnf);first|refine okF hS ?_|apply an<;>intro h|(refine eI (lB _ (fun _=>hp hN)) rfl (aa.refl _) ?_;rintro r ⟨hr,rfl⟩;exfalso;simp at hr;done)
attribute [local instance] uA
theorem ZT (line:List UInt8) (hl:line.length<=4194304) (a:bK) (ha:fE line a):aq prog 19 [.str line] (.aj [.agg (cr a),.bool true]):=by
 refine ak 12 [] func19 ?_
 repeat' (conv=>arg 2;whnf);first|(refine Pw [0,2] (@PG (yD False) _ line hl (fun h=>absurd ha (h a))) (.mk' rfl ⟨⟨rfl,rfl⟩,⟨rfl,rfl⟩,trivial⟩) (aa.refl _) rfl ?_ (fun h=>h.elim);rintro r0 h0 ⟨a',LU,rfl,rfl⟩;obtain rfl:a'=a:=by(have e:=Bn ha;rw[Bn LU] at e;injection e with e;injection e with e _))|exact cg
theorem ZU (line:List UInt8) (hl:line.length<=4194304) (hs:∀a,¬fE line a):aq prog 19 [.str line] (.aj [.agg (cr aR),.bool false]):=by
 refine ak 12 [] func19 ?_
 repeat' (conv=>arg 2;whnf);first|refine Pw [0,2] (@PG (yD True) _ line hl (fun _=>⟨trivial,rfl⟩)) (.mk' rfl ⟨⟨rfl,rfl⟩,⟨rfl,rfl⟩,trivial⟩) (aa.refl _) rfl (fun r0 h0 hp=>by obtain⟨a,q1,_⟩:=hp;exact absurd q1 (hs a)) (fun _=>?_)|exact G5
end
def eY (ws:List (List UInt8)) (i:Nat):List UInt8:=(ws[i]?).getD []
theorem mm [Wd] (ws:List (List UInt8)) (i:Nat):aq prog 48 [.list 1 (cW ws),.int .i64 (i:Int)] (.str (eY ws i)):=by
 refine ak 13 [] func48 ?_
 by_cases h:i<ws.length
 ·have e:eY ws i=ws[i]:=by unfold eY;rw[List.getElem?_eq_getElem h];rfl
  rw[e]
  have hn:(cW ws)[((i:Int)).toNat]?=some [.str ws[i]]:=by simp[cW,h]
  repeat' (conv=>arg 2;whnf);first|refine bB (by simp[cW];omega) ?_|refine eT [.str ws[i]] (Int.natCast_nonneg _) hn ?_|exact cg
 ·have e:eY ws i=[]:=by unfold eY;rw[List.getElem?_eq_none (by omega)];rfl
  rw[e]
  repeat' (conv=>arg 2;whnf);first|refine bY (by simp[cW];omega) ?_|exact cg
def K1 (k:Int):List UInt8:=if k=1 then pF else if k=2 then pQ else if k=3 then pG else if k=4 then pR else if k=5 then pM else if k=6 then mR else if k=7 then pS else if k=8 then nL else if k=9 then pN else if k=10 then nP else if k=11 then mP else if k=12 then ni else[]
theorem adt [Wd] (k:Int) (hk:1<=k/\k<=12):aq prog 43 [.agg (cr {aR with kind:=k})] (.str (K1 k)):=by
 have t:=Qv {aR with kind:=k} hk
 have h:k=1\/k=2\/k=3\/k=4\/k=5\/k=6\/k=7\/k=8\/k=9\/k=10\/k=11\/k=12:=by omega
 rcases h with rfl|rfl|rfl|rfl|rfl|rfl|rfl|rfl|rfl|rfl|rfl|rfl<;>exact t
def kq (s:List UInt8):Nat->Int
 |0=>0
 |k+1=>if K1 ((k+1:Nat):Int)=s then((k+1:Nat):Int) else kq s k
theorem ab0 {s:List UInt8} (sE:¬s=pF) (tr:¬s=pQ) (sK:¬s=pG) (tu:¬s=pR) (sQ:¬s=pM) (tN:¬s=mR) (tv:¬s=pS) (sR:¬s=nL) (sS:¬s=pN) (tw:¬s=nP) (tC:¬s=mP) (sU:¬s=ni):kq s 12=0:=by
 unfold kq
 rw[if_neg (fun e=>sU (e.symm.trans rfl))]
 show kq s 11=0
 unfold kq
 rw[if_neg (fun e=>tC (e.symm.trans rfl))]
 show kq s 10=0
 unfold kq
 rw[if_neg (fun e=>tw (e.symm.trans rfl))]
 show kq s 9=0
 unfold kq
 rw[if_neg (fun e=>sS (e.symm.trans rfl))]
 show kq s 8=0
 unfold kq
 rw[if_neg (fun e=>sR (e.symm.trans rfl))]
 show kq s 7=0
 unfold kq
 rw[if_neg (fun e=>tv (e.symm.trans rfl))]
 show kq s 6=0
 unfold kq
 rw[if_neg (fun e=>tN (e.symm.trans rfl))]
 show kq s 5=0
 unfold kq
 rw[if_neg (fun e=>sQ (e.symm.trans rfl))]
 show kq s 4=0
 unfold kq
 rw[if_neg (fun e=>tu (e.symm.trans rfl))]
 show kq s 3=0
 unfold kq
 rw[if_neg (fun e=>sK (e.symm.trans rfl))]
 show kq s 2=0
 unfold kq
 rw[if_neg (fun e=>tr (e.symm.trans rfl))]
 show kq s 1=0
 unfold kq
 rw[if_neg (fun e=>sE (e.symm.trans rfl))]
 rfl
theorem WK [Wd] (iT:Ag):bC prog 39 [.str []] [] (fun r h=>(∃b,r=.aj [.int .i64 0,.bool b])/\h=[]):=by
 refine ak 59 [] func39 ?_
 repeat' (conv=>arg 2;whnf);first|refine okF (iT _ (zu _)) ?_|refine bE (α:=Unit) (fun a=>⟨[(7,.int .i64 0),(6,.int .u64 0),(5,.str []),(4,.bool false),(3,.bool false),(2,.int .i64 0),(0,.str [])],[]⟩) (fun a=>True) (fun a=>0) () trivial (Sv.aK []) ?_|(intro a _;skip)|exact bf (r:=.aj [.int .i64 0,.bool _]) (h':=[]) [] (.inr rfl) rfl rfl trivial trivial (.refl _) ⟨⟨_,rfl⟩,rfl⟩
theorem ab1 {ws:List (List UInt8)} (h:kO ws) (i:Nat):(eY ws i).length<=4194304:=by
 unfold eY
 cases e:ws[i]? with
 |none=>exact Nat.zero_le _
 |some w=>exact h.2 w (List.mem_of_getElem? e)
theorem ab2 {b:List UInt8} {x y:bt} {k:Int} {r r':List (List UInt8)} (q:GN b x k) (h:uL (qX b) r=some (y,r')):x=y:=by
 unfold uL at h
 by_cases hk:k=0
 ·rw[q.2.1 hk] at h
  injection h with h
  injection h with h _
 ·rw[q.2.2 hk] at h
  cases h
theorem PI {s:List UInt8} {rest:List (List UInt8)} {a:bK} (ha:gh.ok a) (hl:kH a) (hk:a.kind=11) (h:s::rest=jf a):zY (eY (s::rest) 2) (eY (s::rest) 3) a.msg:=by
 have hm:bh.ok a.msg:=ha.2.2.2.2.2.1
 have e:pX a=Lib.itoa a.bA::ny a.msg:=by unfold pX;rw[hk];rfl
 unfold jf at h
 injection h with h1 h2
 rw[e] at h2
 subst h2
 exact⟨hl.1.2.2 hk,OE hm,rfl⟩
theorem sF {ws r:List (List UInt8)} {n:Int} (h:jD ws=some (n,r)):ws=Lib.itoa n::r/\-9223372036854775808<=n/\n<=9223372036854775807:=by
 cases ws with
 |nil=>cases h
 |cons s r'=>
  have e2:(tG s).map (fun x=>(x,r'))=some (n,r):=h
  cases hq:tG s with
  |none=>rw[hq] at e2;cases e2
  |some x=>
   rw[hq] at e2
   injection e2 with e2
   injection e2 with e3 e4
   subst e3 e4
   obtain⟨rfl,hr⟩:=J6 hq
   exact⟨rfl,hr⟩
theorem PJ {ws r:List (List UInt8)} {b:List UInt8} (h:mF ws=some (b,r)):∃s,ws=s::r/\dU s=some b:=by
 cases ws with
 |nil=>cases h
 |cons s r'=>
  have e2:(dU s).map (fun x=>(x,r'))=some (b,r):=h
  cases hq:dU s with
  |none=>rw[hq] at e2;cases e2
  |some x=>
   rw[hq] at e2
   injection e2 with e2
   injection e2 with e3 e4
   subst e3 e4
   exact⟨s,rfl,hq⟩
theorem pI [Wd] (iT:Ag) {a:bK} {line:List UInt8} (ok:gh.ok a) (hV:∀b,fE line b->a=b):(∃u,aq prog 18 [.agg (cr a)] (.aj [.str u,.int .i64 0])/\(u=line->fE line a)/\(¬u=line->∀b,¬fE line b))\/(aq prog 18 [.agg (cr a)] (.aj [.str [],.int .i64 1])/\∀b,¬fE line b):=by
 have hS:=Qx iT a ok
 by_cases h:kH a
 ·rw[zP h] at hS
  exact .inl ⟨_,hS,fun e=>⟨ok,h,e.symm⟩,fun e b hb=>e (by rw[hV b hb];exact hb.2.2.symm)⟩
 ·rw[w6 h] at hS
  exact .inr ⟨hS,fun b hb=>h (by rw[hV b hb];exact hb.2.1)⟩
theorem PK [Wd] [qW] (line:List UInt8) (hl:line.length<=4194304):bC prog 20 [.str line] [] (fun r h=>((∃a,fE line a/\r=.aj [.agg (cr a),.bool true])\/((∀a,¬fE line a)/\r=.aj [.agg (cr aR),.bool false]))/\h=[]):=by
 obtain⟨ws,vn⟩:∃ws,ws=fc line:=⟨_,rfl⟩
 have hb:kO ws:=vn▸kO.split hl
 have HW:=ZB line hl
 rw[<-vn] at HW
 have hR:∀a,fE line a->ku ws=some (a,[]):=fun a h=>by rw[vn];exact Bn h
 have cu:ws≠[]:=vn▸OC line
 have hK:∀a,fE line a->ws=jf a:=fun a h=>by rw[vn,h.2.2];exact N6 h.2.1
 clear vn
 obtain⟨s,rest,rfl⟩:∃s rest,ws=s::rest:=by cases ws with
  |nil=>exact absurd rfl cu
  |cons s r=>exact⟨s,r,rfl⟩
 refine iV 114 [(6,⟨PT.of [(0,false),(1,false),(3,false),(4,false),(5,false),(2,true),(6,false)],[1]⟩)] func20 ?_
 repeat' (conv=>arg 2;whnf);first|refine okF HW ?_
 conv=>arg 2;whnf
 refine bE (α:=Nat) (fun a=>⟨[(6,.int .i64 ((a:Int)+1)),(5,.ptr 1 0),(4,.list 1 (cW (s::rest))),(3,.bool false),(2,.ptr 0 0),(0,.str line)],[.cells 61 [.int .i64 0,.int .i64 0,.int .i64 0,.int .i64 0,.str [],.str [],.int .i64 0,.nils,.nils,.int .i64 0,.int .i64 0,.int .i64 0,.int .i64 0,.int .i64 0,.int .i64 0,.int .i64 0,.int .i64 0,.int .i64 0,.nils,.int .i64 0,.int .i64 0,.nils,.nils,.nils,.nils,.str [],.int .i64 0,.str [],.int .i64 0,.nils,.nils,.int .i64 0,.int .i64 0,.nils,.int .i64 0,.int .i64 0,.nils,.int .i64 0,.int .i64 0,.bool false],.cells 61 [.int .i64 (kq s a),.int .i64 0,.int .i64 0,.int .i64 0,.str [],.str [],.int .i64 0,.nils,.nils,.int .i64 0,.int .i64 0,.int .i64 0,.int .i64 0,.int .i64 0,.int .i64 0,.int .i64 0,.int .i64 0,.int .i64 0,.nils,.int .i64 0,.int .i64 0,.nils,.nils,.nils,.nils,.str [],.int .i64 0,.str [],.int .i64 0,.nils,.nils,.int .i64 0,.int .i64 0,.nils,.int .i64 0,.int .i64 0,.nils,.int .i64 0,.int .i64 0,.bool false]]⟩) (fun a=>a<=12) (fun a=>12-a) 0 (Nat.zero_le _) (Sv.aK [0,1]) ?_
 intro q hq
 replace hq:q<=12:=hq
 by_cases ey:q<12
 ·have Mm:=adt ((q:Int)+1) (by omega)
  have Tm:(cW (s::rest))[(0:Int).toNat]?=some [.str s]:=rfl
  by_cases he:K1 ((q:Int)+1)=s
  ·have Mn:=(show kq s (q+1)=(q:Int)+1 from if_pos he)
   repeat' (conv=>arg 2;whnf);first|refine gJ ?_|refine bY (by simp;omega) ?_|refine iU Mm (.cons .z .nil) ?_|refine eT [.str s] (by decide) Tm ?_|exact aZ (q+1) (Sv.mk' [0,1] rfl ⟨⟨rfl,rfl⟩,⟨rfl,by rw[Mn];rfl⟩,trivial⟩ ⟨rfl,rfl,rfl,rfl,rfl,rfl,trivial⟩) (by show q+1<=12;omega) (by show 12-(q+1)<12-q;omega)
  ·have Mn:=(show kq s (q+1)=kq s q from if_neg he)
   repeat' (conv=>arg 2;whnf);first|refine gJ ?_|refine bY (by simp;omega) ?_|refine iU Mm (.cons .z .nil) ?_|refine eT [.str s] (by decide) Tm ?_|refine bB (by simpa using he) ?_|exact aZ (q+1) (Sv.mk' [0,1] rfl ⟨⟨rfl,rfl⟩,⟨rfl,by rw[Mn];rfl⟩,trivial⟩ ⟨rfl,rfl,rfl,rfl,rfl,rfl,trivial⟩) (by show q+1<=12;omega) (by show 12-(q+1)<12-q;omega)
 obtain rfl:q=12:=by omega
 have la:∀i,(eY (s::rest) i).length<=4194304:=ab1 hb
 repeat' (conv=>arg 2;whnf);first|refine bq ?_
 conv=>arg 2;whnf
 generalize hκ:kq s 12=κ
 have zb:dY.ok []:=Nat.zero_le _
 by_cases sE:s=pF
 ·subst sE
  have j6:κ=1:=hκ.symm.trans (by decide)
  subst j6
  have hA:∀a,fE line a->dN pF rest=some (a,[]):=fun a h=>hR a h
  rw[EV] at hA
  repeat' (conv=>arg 2;whnf);first|refine eT [.str pF] (by decide) rfl ?_|refine okF (mm (pF::rest) 1) ?_|(refine eI (pz iN (eY (pF::rest) 1) (la 1)) rfl (aa.refl _) ?_;rintro r ⟨n1,g1,jr,rfl,lg⟩)
  have fN:gh.ok ({aR with kind:=1,num:=n1}:bK):=⟨fM (n:=1) (by decide),bu,fM jr,jh,zb,jO,trivial⟩
  have hV:∀a,fE line a->({aR with kind:=1,num:=n1}:bK)=a:=fun a h=>by obtain⟨x,r5,e1,e2⟩:=gB (hA a h);injection e2 with e2;injection e2 with e2 e3;subst e2;obtain⟨e4,e5⟩:=sF e1;have q1:=lg x e5 (by unfold eY;rw[e4];rfl);rw[q1]
  rcases pI iN fN hV with⟨u,hS,hY,hN⟩|⟨hS,hN⟩
  all_goals
   repeat' (conv=>arg 2;whnf);first|refine iU hS (.cons .z .nil) ?_|apply an<;>intro h|(refine bf (r:=.aj [.agg (cr ({aR with kind:=1,num:=n1}:bK)),.bool true]) (h':=[]) [] (.inr rfl) rfl rfl trivial trivial .y ?_;exact⟨.inl ⟨_,hY (by simpa using h),rfl⟩,rfl⟩)|(refine bf (r:=.aj [.agg (cr aR),.bool false]) (h':=[]) [] (.inr rfl) rfl rfl trivial trivial .y ?_;exact⟨.inr ⟨hN (by simpa using h),rfl⟩,rfl⟩)|exact bf (r:=.aj [.agg (cr aR),.bool false]) (h':=[]) [] (.inr rfl) rfl rfl trivial trivial .y ⟨.inr ⟨hN,rfl⟩,rfl⟩
 by_cases tr:s=pQ
 ·subst tr
  have j6:κ=2:=hκ.symm.trans (by decide)
  subst j6
  have hA:∀a,fE line a->dN pQ rest=some (a,[]):=fun a h=>hR a h
  rw[Fi] at hA
  repeat' (conv=>arg 2;whnf);first|refine eT [.str pQ] (by decide) rfl ?_|refine okF (mm (pQ::rest) 1) ?_|(refine eI (pz iN (eY (pQ::rest) 1) (la 1)) rfl (aa.refl _) ?_;rintro r ⟨n1,g1,jr,rfl,lg⟩)
  have fN:gh.ok ({aR with kind:=2,num:=n1}:bK):=⟨fM (n:=2) (by decide),bu,fM jr,jh,zb,jO,trivial⟩
  have hV:∀a,fE line a->({aR with kind:=2,num:=n1}:bK)=a:=fun a h=>by obtain⟨x,r5,e1,e2⟩:=gB (hA a h);injection e2 with e2;injection e2 with e2 e3;subst e2;obtain⟨e4,e5⟩:=sF e1;have q1:=lg x e5 (by unfold eY;rw[e4];rfl);rw[q1]
  rcases pI iN fN hV with⟨u,hS,hY,hN⟩|⟨hS,hN⟩
  all_goals
   repeat' (conv=>arg 2;whnf);first|refine iU hS (.cons .z .nil) ?_|apply an<;>intro h|(refine bf (r:=.aj [.agg (cr ({aR with kind:=2,num:=n1}:bK)),.bool true]) (h':=[]) [] (.inr rfl) rfl rfl trivial trivial .y ?_;exact⟨.inl ⟨_,hY (by simpa using h),rfl⟩,rfl⟩)|(refine bf (r:=.aj [.agg (cr aR),.bool false]) (h':=[]) [] (.inr rfl) rfl rfl trivial trivial .y ?_;exact⟨.inr ⟨hN (by simpa using h),rfl⟩,rfl⟩)|exact bf (r:=.aj [.agg (cr aR),.bool false]) (h':=[]) [] (.inr rfl) rfl rfl trivial trivial .y ⟨.inr ⟨hN,rfl⟩,rfl⟩
 by_cases sK:s=pG
 ·subst sK
  have j6:κ=3:=hκ.symm.trans (by decide)
  subst j6
  have hA:∀a,fE line a->dN pG rest=some (a,[]):=fun a h=>hR a h
  rw[EY] at hA
  repeat' (conv=>arg 2;whnf);first|refine eT [.str pG] (by decide) rfl ?_|refine okF (mm (pG::rest) 1) ?_|(refine eI (pz iN (eY (pG::rest) 1) (la 1)) rfl (aa.refl _) ?_;rintro r ⟨n1,g1,jr,rfl,lg⟩)
  have fN:gh.ok ({aR with kind:=3,num:=n1}:bK):=⟨fM (n:=3) (by decide),bu,fM jr,jh,zb,jO,trivial⟩
  have hV:∀a,fE line a->({aR with kind:=3,num:=n1}:bK)=a:=fun a h=>by obtain⟨x,r5,e1,e2⟩:=gB (hA a h);injection e2 with e2;injection e2 with e2 e3;subst e2;obtain⟨e4,e5⟩:=sF e1;have q1:=lg x e5 (by unfold eY;rw[e4];rfl);rw[q1]
  rcases pI iN fN hV with⟨u,hS,hY,hN⟩|⟨hS,hN⟩
  all_goals
   repeat' (conv=>arg 2;whnf);first|refine iU hS (.cons .z .nil) ?_|apply an<;>intro h|(refine bf (r:=.aj [.agg (cr ({aR with kind:=3,num:=n1}:bK)),.bool true]) (h':=[]) [] (.inr rfl) rfl rfl trivial trivial .y ?_;exact⟨.inl ⟨_,hY (by simpa using h),rfl⟩,rfl⟩)|(refine bf (r:=.aj [.agg (cr aR),.bool false]) (h':=[]) [] (.inr rfl) rfl rfl trivial trivial .y ?_;exact⟨.inr ⟨hN (by simpa using h),rfl⟩,rfl⟩)|exact bf (r:=.aj [.agg (cr aR),.bool false]) (h':=[]) [] (.inr rfl) rfl rfl trivial trivial .y ⟨.inr ⟨hN,rfl⟩,rfl⟩
 by_cases tu:s=pR
 ·subst tu
  have j6:κ=4:=hκ.symm.trans (by decide)
  subst j6
  have hA:∀a,fE line a->dN pR rest=some (a,[]):=fun a h=>hR a h
  rw[Fj] at hA
  repeat' (conv=>arg 2;whnf);first|refine eT [.str pR] (by decide) rfl ?_|refine okF (mm (pR::rest) 1) ?_|(refine eI (pz iN (eY (pR::rest) 1) (la 1)) rfl (aa.refl _) ?_;rintro r ⟨n1,g1,jr,rfl,lg⟩)
  have fN:gh.ok ({aR with kind:=4,bA:=n1}:bK):=⟨fM (n:=4) (by decide),fM jr,bu,jh,zb,jO,trivial⟩
  have hV:∀a,fE line a->({aR with kind:=4,bA:=n1}:bK)=a:=fun a h=>by obtain⟨x,r5,e1,e2⟩:=gB (hA a h);injection e2 with e2;injection e2 with e2 e3;subst e2;obtain⟨e4,e5⟩:=sF e1;have q1:=lg x e5 (by unfold eY;rw[e4];rfl);rw[q1]
  rcases pI iN fN hV with⟨u,hS,hY,hN⟩|⟨hS,hN⟩
  all_goals
   repeat' (conv=>arg 2;whnf);first|refine iU hS (.cons .z .nil) ?_|apply an<;>intro h|(refine bf (r:=.aj [.agg (cr ({aR with kind:=4,bA:=n1}:bK)),.bool true]) (h':=[]) [] (.inr rfl) rfl rfl trivial trivial .y ?_;exact⟨.inl ⟨_,hY (by simpa using h),rfl⟩,rfl⟩)|(refine bf (r:=.aj [.agg (cr aR),.bool false]) (h':=[]) [] (.inr rfl) rfl rfl trivial trivial .y ?_;exact⟨.inr ⟨hN (by simpa using h),rfl⟩,rfl⟩)|exact bf (r:=.aj [.agg (cr aR),.bool false]) (h':=[]) [] (.inr rfl) rfl rfl trivial trivial .y ⟨.inr ⟨hN,rfl⟩,rfl⟩
 by_cases sQ:s=pM
 ·subst sQ
  have j6:κ=5:=hκ.symm.trans (by decide)
  subst j6
  have hA:∀a,fE line a->dN pM rest=some (a,[]):=fun a h=>hR a h
  rw[E1] at hA
  repeat' (conv=>arg 2;whnf);first|refine eT [.str pM] (by decide) rfl ?_|refine okF (mm (pM::rest) 1) ?_|(refine eI (pz iN (eY (pM::rest) 1) (la 1)) rfl (aa.refl _) ?_;rintro r ⟨n1,g1,jr,rfl,lg⟩)
  have fN:gh.ok ({aR with kind:=5,bA:=n1}:bK):=⟨fM (n:=5) (by decide),fM jr,bu,jh,zb,jO,trivial⟩
  have hV:∀a,fE line a->({aR with kind:=5,bA:=n1}:bK)=a:=fun a h=>by obtain⟨x,r5,e1,e2⟩:=gB (hA a h);injection e2 with e2;injection e2 with e2 e3;subst e2;obtain⟨e4,e5⟩:=sF e1;have q1:=lg x e5 (by unfold eY;rw[e4];rfl);rw[q1]
  rcases pI iN fN hV with⟨u,hS,hY,hN⟩|⟨hS,hN⟩
  all_goals
   repeat' (conv=>arg 2;whnf);first|refine iU hS (.cons .z .nil) ?_|apply an<;>intro h|(refine bf (r:=.aj [.agg (cr ({aR with kind:=5,bA:=n1}:bK)),.bool true]) (h':=[]) [] (.inr rfl) rfl rfl trivial trivial .y ?_;exact⟨.inl ⟨_,hY (by simpa using h),rfl⟩,rfl⟩)|(refine bf (r:=.aj [.agg (cr aR),.bool false]) (h':=[]) [] (.inr rfl) rfl rfl trivial trivial .y ?_;exact⟨.inr ⟨hN (by simpa using h),rfl⟩,rfl⟩)|exact bf (r:=.aj [.agg (cr aR),.bool false]) (h':=[]) [] (.inr rfl) rfl rfl trivial trivial .y ⟨.inr ⟨hN,rfl⟩,rfl⟩
 by_cases tN:s=mR
 ·subst tN
  have j6:κ=6:=hκ.symm.trans (by decide)
  subst j6
  have hA:∀a,fE line a->dN mR rest=some (a,[]):=fun a h=>hR a h
  rw[FM] at hA
  repeat' (conv=>arg 2;whnf);first|refine eT [.str mR] (by decide) rfl ?_|refine okF (mm (mR::rest) 1) ?_|(refine eI (pz iN (eY (mR::rest) 1) (la 1)) rfl (aa.refl _) ?_;rintro r ⟨n1,g1,jr,rfl,lg⟩)
  obtain⟨bx,fx,Tn,HX,xT,Ev⟩:=FP (eY (mR::rest) 2) (la 2)
  repeat' (conv=>arg 2;whnf);first|refine okF HX ?_|refine okF (mm (mR::rest) 2) ?_|(refine eI (WH bx (by omega)) rfl (aa.refl _) ?_;rintro r ⟨xo,ko,qo,rfl⟩)
  have fN:gh.ok ({aR with kind:=6,bA:=n1,op:=xo}:bK):=⟨fM (n:=6) (by decide),fM jr,bu,qo.1,zb,jO,trivial⟩
  have hV:∀a,fE line a->({aR with kind:=6,bA:=n1,op:=xo}:bK)=a:=fun a h=>by obtain⟨x,r5,e1,e2⟩:=gB (hA a h);obtain⟨x6,r6,e6,e7⟩:=gB e2;injection e7 with e7;injection e7 with e7 _;subst e7;obtain⟨e4,e5⟩:=sF e1;obtain⟨b9,r9,e8,e9⟩:=gB e6;obtain⟨sx,uW,To⟩:=PJ e8;have q1:=lg x e5 (by unfold eY;rw[e4];rfl);have AN:dU (eY (mR::rest) 2)=some b9:=(by unfold eY;rw[e4,uW];exact To);cases fx;(rw[Ev rfl] at AN;cases AN);(rw[xT rfl] at AN;injection AN with AN;subst AN;rw[q1,ab2 qo e9])
  rcases pI iN fN hV with⟨u,hS,hY,hN⟩|⟨hS,hN⟩
  all_goals
   repeat' (conv=>arg 2;whnf);first|refine iU hS (.cons .z .nil) ?_|apply an<;>intro h|(refine bf (r:=.aj [.agg (cr ({aR with kind:=6,bA:=n1,op:=xo}:bK)),.bool true]) (h':=[]) [] (.inr rfl) rfl rfl trivial trivial .y ?_;exact⟨.inl ⟨_,hY (by simpa using h),rfl⟩,rfl⟩)|(refine bf (r:=.aj [.agg (cr aR),.bool false]) (h':=[]) [] (.inr rfl) rfl rfl trivial trivial .y ?_;exact⟨.inr ⟨hN (by simpa using h),rfl⟩,rfl⟩)|exact bf (r:=.aj [.agg (cr aR),.bool false]) (h':=[]) [] (.inr rfl) rfl rfl trivial trivial .y ⟨.inr ⟨hN,rfl⟩,rfl⟩
 by_cases tv:s=pS
 ·subst tv
  have j6:κ=7:=hκ.symm.trans (by decide)
  subst j6
  have hA:∀a,fE line a->dN pS rest=some (a,[]):=fun a h=>hR a h
  rw[Fk] at hA
  repeat' (conv=>arg 2;whnf);first|refine eT [.str pS] (by decide) rfl ?_|refine okF (mm (pS::rest) 1) ?_|(refine eI (pz iN (eY (pS::rest) 1) (la 1)) rfl (aa.refl _) ?_;rintro r ⟨n1,g1,jr,rfl,lg⟩)
  have fN:gh.ok ({aR with kind:=7,bA:=n1}:bK):=⟨fM (n:=7) (by decide),fM jr,bu,jh,zb,jO,trivial⟩
  have hV:∀a,fE line a->({aR with kind:=7,bA:=n1}:bK)=a:=fun a h=>by obtain⟨x,r5,e1,e2⟩:=gB (hA a h);injection e2 with e2;injection e2 with e2 e3;subst e2;obtain⟨e4,e5⟩:=sF e1;have q1:=lg x e5 (by unfold eY;rw[e4];rfl);rw[q1]
  rcases pI iN fN hV with⟨u,hS,hY,hN⟩|⟨hS,hN⟩
  all_goals
   repeat' (conv=>arg 2;whnf);first|refine iU hS (.cons .z .nil) ?_|apply an<;>intro h|(refine bf (r:=.aj [.agg (cr ({aR with kind:=7,bA:=n1}:bK)),.bool true]) (h':=[]) [] (.inr rfl) rfl rfl trivial trivial .y ?_;exact⟨.inl ⟨_,hY (by simpa using h),rfl⟩,rfl⟩)|(refine bf (r:=.aj [.agg (cr aR),.bool false]) (h':=[]) [] (.inr rfl) rfl rfl trivial trivial .y ?_;exact⟨.inr ⟨hN (by simpa using h),rfl⟩,rfl⟩)|exact bf (r:=.aj [.agg (cr aR),.bool false]) (h':=[]) [] (.inr rfl) rfl rfl trivial trivial .y ⟨.inr ⟨hN,rfl⟩,rfl⟩
 by_cases sR:s=nL
 ·subst sR
  have j6:κ=8:=hκ.symm.trans (by decide)
  subst j6
  have hA:∀a,fE line a->dN nL rest=some (a,[]):=fun a h=>hR a h
  rw[E2] at hA
  repeat' (conv=>arg 2;whnf);first|refine eT [.str nL] (by decide) rfl ?_|refine okF (mm (nL::rest) 1) ?_|(refine eI (pz iN (eY (nL::rest) 1) (la 1)) rfl (aa.refl _) ?_;rintro r ⟨n1,g1,jr,rfl,lg⟩)
  repeat' (conv=>arg 2;whnf);first|refine okF (mm (nL::rest) 2) ?_|(refine eI (pz iN (eY (nL::rest) 2) (la 2)) rfl (aa.refl _) ?_;rintro r ⟨n2,g2,xU,rfl,hu2⟩)
  have fN:gh.ok ({aR with kind:=8,bA:=n1,num:=n2}:bK):=⟨fM (n:=8) (by decide),fM jr,fM xU,jh,zb,jO,trivial⟩
  have hV:∀a,fE line a->({aR with kind:=8,bA:=n1,num:=n2}:bK)=a:=fun a h=>by obtain⟨x,r5,e1,e2⟩:=gB (hA a h);obtain⟨x6,r6,e6,e7⟩:=gB e2;injection e7 with e7;injection e7 with e7 _;subst e7;obtain⟨e4,e5⟩:=sF e1;obtain⟨e8,e9⟩:=sF e6;have q1:=lg x e5 (by unfold eY;rw[e4];rfl);have q2:=hu2 x6 e9 (by unfold eY;rw[e4,e8];rfl);rw[q1,q2]
  rcases pI iN fN hV with⟨u,hS,hY,hN⟩|⟨hS,hN⟩
  all_goals
   repeat' (conv=>arg 2;whnf);first|refine iU hS (.cons .z .nil) ?_|apply an<;>intro h|(refine bf (r:=.aj [.agg (cr ({aR with kind:=8,bA:=n1,num:=n2}:bK)),.bool true]) (h':=[]) [] (.inr rfl) rfl rfl trivial trivial .y ?_;exact⟨.inl ⟨_,hY (by simpa using h),rfl⟩,rfl⟩)|(refine bf (r:=.aj [.agg (cr aR),.bool false]) (h':=[]) [] (.inr rfl) rfl rfl trivial trivial .y ?_;exact⟨.inr ⟨hN (by simpa using h),rfl⟩,rfl⟩)|exact bf (r:=.aj [.agg (cr aR),.bool false]) (h':=[]) [] (.inr rfl) rfl rfl trivial trivial .y ⟨.inr ⟨hN,rfl⟩,rfl⟩
 by_cases sS:s=pN
 ·subst sS
  have j6:κ=9:=hκ.symm.trans (by decide)
  subst j6
  have hA:∀a,fE line a->dN pN rest=some (a,[]):=fun a h=>hR a h
  rw[E3] at hA
  repeat' (conv=>arg 2;whnf);first|refine eT [.str pN] (by decide) rfl ?_|refine okF (mm (pN::rest) 1) ?_|(refine eI (pz iN (eY (pN::rest) 1) (la 1)) rfl (aa.refl _) ?_;rintro r ⟨n1,g1,jr,rfl,lg⟩)
  have fN:gh.ok ({aR with kind:=9,bA:=n1}:bK):=⟨fM (n:=9) (by decide),fM jr,bu,jh,zb,jO,trivial⟩
  have hV:∀a,fE line a->({aR with kind:=9,bA:=n1}:bK)=a:=fun a h=>by obtain⟨x,r5,e1,e2⟩:=gB (hA a h);injection e2 with e2;injection e2 with e2 e3;subst e2;obtain⟨e4,e5⟩:=sF e1;have q1:=lg x e5 (by unfold eY;rw[e4];rfl);rw[q1]
  rcases pI iN fN hV with⟨u,hS,hY,hN⟩|⟨hS,hN⟩
  all_goals
   repeat' (conv=>arg 2;whnf);first|refine iU hS (.cons .z .nil) ?_|apply an<;>intro h|(refine bf (r:=.aj [.agg (cr ({aR with kind:=9,bA:=n1}:bK)),.bool true]) (h':=[]) [] (.inr rfl) rfl rfl trivial trivial .y ?_;exact⟨.inl ⟨_,hY (by simpa using h),rfl⟩,rfl⟩)|(refine bf (r:=.aj [.agg (cr aR),.bool false]) (h':=[]) [] (.inr rfl) rfl rfl trivial trivial .y ?_;exact⟨.inr ⟨hN (by simpa using h),rfl⟩,rfl⟩)|exact bf (r:=.aj [.agg (cr aR),.bool false]) (h':=[]) [] (.inr rfl) rfl rfl trivial trivial .y ⟨.inr ⟨hN,rfl⟩,rfl⟩
 by_cases tw:s=nP
 ·subst tw
  have j6:κ=10:=hκ.symm.trans (by decide)
  subst j6
  have hA:∀a,fE line a->dN nP rest=some (a,[]):=fun a h=>hR a h
  rw[Fl] at hA
  repeat' (conv=>arg 2;whnf);first|refine eT [.str nP] (by decide) rfl ?_|refine okF (mm (nP::rest) 1) ?_|(refine eI (pz iN (eY (nP::rest) 1) (la 1)) rfl (aa.refl _) ?_;rintro r ⟨n1,g1,jr,rfl,lg⟩)
  obtain⟨bx,fx,Tn,HX,xT,Ev⟩:=FP (eY (nP::rest) 1) (la 1)
  have fN:gh.ok ({aR with kind:=10,bytes:=bx}:bK):=⟨fM (n:=10) (by decide),bu,bu,jh,(Nat.le_trans Tn (by decide)),jO,trivial⟩
  have hV:∀a,fE line a->({aR with kind:=10,bytes:=bx}:bK)=a:=fun a h=>by obtain⟨x,r5,e1,e2⟩:=gB (hA a h);injection e2 with e2;injection e2 with e2 _;subst e2;obtain⟨sx,e4,e5⟩:=PJ e1;have e6:dU (eY (nP::rest) 1)=some x:=(by unfold eY;rw[e4];exact e5);cases fx;(rw[Ev rfl] at e6;cases e6);(rw[xT rfl] at e6;injection e6 with e6;rw[e6])
  rcases pI iN fN hV with⟨u,hS,hY,hN⟩|⟨hS,hN⟩
  all_goals
   repeat' (conv=>arg 2;whnf);first|refine okF HX ?_|refine iU hS (.cons .z .nil) ?_|apply an<;>intro h|(refine bf (r:=.aj [.agg (cr ({aR with kind:=10,bytes:=bx}:bK)),.bool true]) (h':=[]) [] (.inr rfl) rfl rfl trivial trivial .y ?_;exact⟨.inl ⟨_,hY (by simpa using h),rfl⟩,rfl⟩)|(refine bf (r:=.aj [.agg (cr aR),.bool false]) (h':=[]) [] (.inr rfl) rfl rfl trivial trivial .y ?_;exact⟨.inr ⟨hN (by simpa using h),rfl⟩,rfl⟩)|exact bf (r:=.aj [.agg (cr aR),.bool false]) (h':=[]) [] (.inr rfl) rfl rfl trivial trivial .y ⟨.inr ⟨hN,rfl⟩,rfl⟩
 by_cases tC:s=mP
 ·subst tC
  have j6:κ=11:=hκ.symm.trans (by decide)
  subst j6
  have hA:∀a,fE line a->dN mP rest=some (a,[]):=fun a h=>hR a h
  rw[Fm] at hA
  repeat' (conv=>arg 2;whnf);first|refine eT [.str mP] (by decide) rfl ?_|refine okF (mm (mP::rest) 1) ?_|(refine eI (pz iN (eY (mP::rest) 1) (la 1)) rfl (aa.refl _) ?_;rintro r ⟨n1,g1,jr,rfl,lg⟩)
  repeat' (conv=>arg 2;whnf);first|refine okF (mm (mP::rest) 2) ?_|refine okF (mm (mP::rest) 3) ?_|(refine eI (QZ (eY (mP::rest) 2) (eY (mP::rest) 3) (la 2) (la 3)) rfl (aa.refl _) ?_;rintro r ⟨xm,km,Cw,rfl,ot⟩)
  have fN:gh.ok ({aR with kind:=11,bA:=n1,msg:=xm}:bK):=⟨fM (n:=11) (by decide),fM jr,bu,jh,zb,Cw,trivial⟩
  have hV:∀a,fE line a->({aR with kind:=11,bA:=n1,msg:=xm}:bK)=a:=fun a h=>by have Mo:=hK a h;have D4:=h;obtain⟨x,r5,e1,e2⟩:=gB (hA a h);obtain⟨x6,r6,e6,e7⟩:=gB e2;injection e7 with e7;injection e7 with e7 _;subst e7;obtain⟨e4,e5⟩:=sF e1;have q1:=lg x e5 (by unfold eY;rw[e4];rfl);rw[q1,ot x6 (PI D4.1 D4.2.1 rfl Mo)]
  rcases pI iN fN hV with⟨u,hS,hY,hN⟩|⟨hS,hN⟩
  all_goals
   repeat' (conv=>arg 2;whnf);first|refine iU hS (.cons .z .nil) ?_|apply an<;>intro h|(refine bf (r:=.aj [.agg (cr ({aR with kind:=11,bA:=n1,msg:=xm}:bK)),.bool true]) (h':=[]) [] (.inr rfl) rfl rfl trivial trivial .y ?_;exact⟨.inl ⟨_,hY (by simpa using h),rfl⟩,rfl⟩)|(refine bf (r:=.aj [.agg (cr aR),.bool false]) (h':=[]) [] (.inr rfl) rfl rfl trivial trivial .y ?_;exact⟨.inr ⟨hN (by simpa using h),rfl⟩,rfl⟩)|exact bf (r:=.aj [.agg (cr aR),.bool false]) (h':=[]) [] (.inr rfl) rfl rfl trivial trivial .y ⟨.inr ⟨hN,rfl⟩,rfl⟩
 by_cases wm:s=nQ
 ·subst wm
  have j6:κ=0:=hκ.symm.trans (by decide)
  subst j6
  have hA:∀a,fE line a->dN nQ rest=some (a,[]):=fun a h=>hR a h
  rw[Fo] at hA
  repeat' (conv=>arg 2;whnf);first|refine eT [.str nQ] (by decide) rfl ?_|refine okF (mm (nQ::rest) 1) ?_|(refine eI (pz iN (eY (nQ::rest) 1) (la 1)) rfl (aa.refl _) ?_;rintro r ⟨n1,g1,jr,rfl,lg⟩)
  repeat' (conv=>arg 2;whnf);first|refine okF (mm (nQ::rest) 2) ?_|refine okF (mm (nQ::rest) 3) ?_|(refine eI (QZ (eY (nQ::rest) 2) (eY (nQ::rest) 3) (la 2) (la 3)) rfl (aa.refl _) ?_;rintro r ⟨xm,km,Cw,rfl,ot⟩)
  have fN:gh.ok ({aR with kind:=11,bA:=n1,msg:=xm,jN:=true}:bK):=⟨fM (n:=11) (by decide),fM jr,bu,jh,zb,Cw,trivial⟩
  have hV:∀a,fE line a->({aR with kind:=11,bA:=n1,msg:=xm,jN:=true}:bK)=a:=fun a h=>by have Mo:=hK a h;have D4:=h;obtain⟨x,r5,e1,e2⟩:=gB (hA a h);obtain⟨x6,r6,e6,e7⟩:=gB e2;injection e7 with e7;injection e7 with e7 _;subst e7;obtain⟨e4,e5⟩:=sF e1;have q1:=lg x e5 (by unfold eY;rw[e4];rfl);rw[q1,ot x6 (PI D4.1 D4.2.1 rfl Mo)]
  rcases pI iN fN hV with⟨u,hS,hY,hN⟩|⟨hS,hN⟩
  all_goals
   repeat' (conv=>arg 2;whnf);first|refine iU hS (.cons .z .nil) ?_|apply an<;>intro h|(refine bf (r:=.aj [.agg (cr ({aR with kind:=11,bA:=n1,msg:=xm,jN:=true}:bK)),.bool true]) (h':=[]) [] (.inr rfl) rfl rfl trivial trivial .y ?_;exact⟨.inl ⟨_,hY (by simpa using h),rfl⟩,rfl⟩)|(refine bf (r:=.aj [.agg (cr aR),.bool false]) (h':=[]) [] (.inr rfl) rfl rfl trivial trivial .y ?_;exact⟨.inr ⟨hN (by simpa using h),rfl⟩,rfl⟩)|exact bf (r:=.aj [.agg (cr aR),.bool false]) (h':=[]) [] (.inr rfl) rfl rfl trivial trivial .y ⟨.inr ⟨hN,rfl⟩,rfl⟩
 by_cases sU:s=ni
 ·subst sU
  have j6:κ=12:=hκ.symm.trans (by decide)
  subst j6
  have hA:∀a,fE line a->dN ni rest=some (a,[]):=fun a h=>hR a h
  rw[E4] at hA
  by_cases Tp:rest=[]
  ·have e0:eY (ni::rest) 1=[]:=by unfold eY;rw[Tp];rfl
   repeat' (conv=>arg 2;whnf);first|refine eT [.str ni] (by decide) rfl ?_|refine okF (mm (ni::rest) 1) ?_
   conv=>arg 2;whnf
   rw[e0]
   refine eI (WK iN) rfl (aa.refl _) ?_
   rintro r ⟨g1,rfl⟩
   have fN:gh.ok ({aR with kind:=12}:bK):=⟨fM (n:=12) (by decide),bu,bu,jh,zb,jO,trivial⟩
   have hV:∀a,fE line a->({aR with kind:=12}:bK)=a:=fun a h=>by have e:=hA a h;injection e with e;injection e with e _
   rcases pI iN fN hV with⟨u,hS,hY,hN⟩|⟨hS,hN⟩
   all_goals
    repeat' (conv=>arg 2;whnf);first|refine iU hS (.cons .z .nil) ?_|apply an<;>intro h|(refine bf (r:=.aj [.agg (cr ({aR with kind:=12}:bK)),.bool true]) (h':=[]) [] (.inr rfl) rfl rfl trivial trivial .y ?_;exact⟨.inl ⟨_,hY (by simpa using h),rfl⟩,rfl⟩)|(refine bf (r:=.aj [.agg (cr aR),.bool false]) (h':=[]) [] (.inr rfl) rfl rfl trivial trivial .y ?_;exact⟨.inr ⟨hN (by simpa using h),rfl⟩,rfl⟩)|exact bf (r:=.aj [.agg (cr aR),.bool false]) (h':=[]) [] (.inr rfl) rfl rfl trivial trivial .y ⟨.inr ⟨hN,rfl⟩,rfl⟩
  ·repeat'
    (conv=>arg 2;whnf)
    first|refine eT [.str ni] (by decide) rfl ?_|refine okF (mm (ni::rest) 1) ?_|(refine eI (pz iN (eY (ni::rest) 1) (la 1)) rfl (aa.refl _) ?_;rintro r ⟨n1,g1,jr,rfl,lg⟩)
   have fN:gh.ok ({aR with kind:=12,bA:=n1}:bK):=⟨fM (n:=12) (by decide),fM jr,bu,jh,zb,jO,trivial⟩
   have hV:∀a,fE line a->({aR with kind:=12,bA:=n1}:bK)=a:=fun a h=>by have e:=hA a h;injection e with e;injection e with _ e;exact absurd e Tp
   rcases pI iN fN hV with⟨u,hS,hY,hN⟩|⟨hS,hN⟩
   all_goals
    repeat' (conv=>arg 2;whnf);first|refine iU hS (.cons .z .nil) ?_|apply an<;>intro h|(refine bf (r:=.aj [.agg (cr ({aR with kind:=12,bA:=n1}:bK)),.bool true]) (h':=[]) [] (.inr rfl) rfl rfl trivial trivial .y ?_;exact⟨.inl ⟨_,hY (by simpa using h),rfl⟩,rfl⟩)|(refine bf (r:=.aj [.agg (cr aR),.bool false]) (h':=[]) [] (.inr rfl) rfl rfl trivial trivial .y ?_;exact⟨.inr ⟨hN (by simpa using h),rfl⟩,rfl⟩)|exact bf (r:=.aj [.agg (cr aR),.bool false]) (h':=[]) [] (.inr rfl) rfl rfl trivial trivial .y ⟨.inr ⟨hN,rfl⟩,rfl⟩
 have rW:∀a,¬fE line a:=fun a h=>by
  have e:dN s rest=some (a,[]):=hR a h
  unfold dN at e
  rw[if_neg sE,if_neg tr,if_neg sK,if_neg tu,if_neg sQ,if_neg tN,if_neg tv,if_neg sR,if_neg sS,if_neg tw,if_neg tC,if_neg wm,if_neg sU] at e
  cases e
 have j6:κ=0:=hκ.symm.trans (ab0 sE tr sK tu sQ tN tv sR sS tw tC sU)
 subst j6
 repeat' (conv=>arg 2;whnf);first|refine eT [.str s] (by decide) rfl ?_|refine bB (decide_eq_false wm) ?_|refine okF (mm (s::rest) 1) ?_|(refine eI (pz iN (eY (s::rest) 1) (la 1)) rfl (aa.refl _) ?_;rintro r ⟨n1,g1,jr,rfl,lg⟩)
 have fN:gh.ok ({aR with kind:=0,bA:=n1}:bK):=⟨fM (n:=0) (by decide),fM jr,bu,jh,zb,jO,trivial⟩
 have hV:∀a,fE line a->({aR with kind:=0,bA:=n1}:bK)=a:=fun a h=>absurd h (rW a)
 rcases pI iN fN hV with⟨u,hS,hY,hN⟩|⟨hS,hN⟩
 all_goals
  repeat' (conv=>arg 2;whnf);first|refine iU hS (.cons .z .nil) ?_|apply an<;>intro h|(refine bf (r:=.aj [.agg (cr ({aR with kind:=0,bA:=n1}:bK)),.bool true]) (h':=[]) [] (.inr rfl) rfl rfl trivial trivial .y ?_;exact⟨.inl ⟨_,hY (by simpa using h),rfl⟩,rfl⟩)|(refine bf (r:=.aj [.agg (cr aR),.bool false]) (h':=[]) [] (.inr rfl) rfl rfl trivial trivial .y ?_;exact⟨.inr ⟨hN (by simpa using h),rfl⟩,rfl⟩)|exact bf (r:=.aj [.agg (cr aR),.bool false]) (h':=[]) [] (.inr rfl) rfl rfl trivial trivial .y ⟨.inr ⟨hN,rfl⟩,rfl⟩
section
attribute [local instance] uA
theorem ZW (a:bK) (ha:gh.ok a):∃(x:List UInt8) (e:Int),aq prog 17 [.agg (cr a)] (.aj [.str x,.int .i64 e])/\aq prog 18 [.agg (cr a)] (.aj [.str x,.int .i64 e]):=by
 have h1:=J7 F0 a ha
 have h2:=Qx iN a ha
 by_cases h:kH a
 ·rw[zP h] at h1 h2
  exact⟨_,_,h1,h2⟩
 ·rw[w6 h] at h1 h2
  exact⟨_,_,h1,h2⟩
theorem adu:gh.ok aR:=⟨bu,bu,bu,jh,Nat.zero_le _,jO,trivial⟩
theorem WL (line:List UInt8) (hl:line.length<=4194304):∃(p:bK) (b:Bool),gh.ok p/\aq prog 19 [.str line] (.aj [.agg (cr p),.bool b])/\aq prog 20 [.str line] (.aj [.agg (cr p),.bool b]):=by
 by_cases h:∃a,fE line a
 ·obtain⟨a,ha⟩:=h
  refine⟨a,true,ha.1,ZT line hl a ha,(PK line hl).yS ?_⟩
  rintro r h' ⟨⟨a',h1,rfl⟩|⟨h1,_⟩,rfl⟩
  ·have e:=Bn ha
   rw[Bn h1] at e
   injection e with e
   injection e with e _
   subst e
   exact⟨rfl,rfl⟩
  ·exact absurd ha (h1 a)
 ·refine⟨aR,false,adu,ZU line hl (fun a k=>h ⟨a,k⟩),(PK line hl).yS ?_⟩
  rintro r h' ⟨⟨a',h1,rfl⟩|⟨h1,rfl⟩,rfl⟩
  ·exact absurd ⟨a',h1⟩ h
  ·exact⟨rfl,rfl⟩
theorem ab3 (a o:bK) (ha:gh.ok a) (ho:gh.ok o) (line:List UInt8) (hl:line.length<=4194304):aq prog 4 [.agg (cr a),.agg (cr o),.str line] (.bool true):=by
 obtain⟨x,e,k1,k2⟩:=ZW a ha
 obtain⟨p,b,hp,k3,k4⟩:=WL line hl
 have k5:=Kq p p hp hp
 have k6:=JZ a o ha ho
 have k7:=Kq a o ha ho
 have k8:=JZ a a ha ha
 refine iV 69 [(7,⟨PT.of [(0,false),(1,false),(2,false),(3,false),(4,false),(5,false),(6,false),(7,false),(8,false),(9,false),(10,false),(11,false),(12,false),(13,false),(14,false),(15,false),(16,true),(17,false),(18,false),(19,false),(20,false),(22,false),(23,false),(21,true),(24,true),(25,false),(26,false),(27,false),(28,false),(29,false),(30,true),(31,false),(32,false)],[9]⟩)] func4 ?_
 repeat' (conv=>arg 2;whnf);first|(exfalso;simp[cx] at h;done)|refine okF acV ?_|refine okF k1 ?_|refine okF k2 ?_|refine okF k3 ?_|refine okF k4 ?_|refine okF k5 ?_|refine okF k8 ?_|refine okF k6 ?_|refine okF k7 ?_|(refine cL ?_;simp[cx];done)|apply an<;>intro h
end
end Go.Proofs.YtafomdobfmmleaaGreatDoor
