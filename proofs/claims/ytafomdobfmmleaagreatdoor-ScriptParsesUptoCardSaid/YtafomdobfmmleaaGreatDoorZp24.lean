/- Lemmas and contracts, part 24. -/
import Derived.Test.YtafomdobfmmleaaGreatDoorZp23
namespace Go.Proofs.YtafomdobfmmleaaGreatDoor
set_option linter.unusedVariables false
open Go.RowKit
open Go.Proofs.Tryz
set_option maxRecDepth 20000
set_option maxHeartbeats 20000000
def eY (ws:List (List UInt8)) (i:Nat):List UInt8:=(ws[i]?).getD []
theorem mm [Wd] (ws:List (List UInt8)) (i:Nat):aq prog 48 [.list 1 (cW ws),.int .i64 (i:Int)] (.str (eY ws i)):=by
 refine ak 13 [] func48 ?_
 by_cases h:i<ws.length
 ·have e:eY ws i=ws[i]:=by unfold eY;rw[List.getElem?_eq_getElem h];rfl
  rw[e]
  have hn:(cW ws)[((i:Int)).toNat]?=some [.str ws[i]]:=by simp[cW,h]
  repeat' (conv=>arg 2;whnf);first|refine bB (by simp[cW];omega) ?_|refine eT [.str ws[i]] (Int.natCast_nonneg _) hn ?_|exact cg
 ·have e:eY ws i=[]:=by unfold eY;rw[List.getElem?_eq_none (by omega)];rfl
  rw[e]
  repeat' (conv=>arg 2;whnf);first|refine bY (by simp[cW];omega) ?_|exact cg
def K1 (k:Int):List UInt8:=if k=1 then pF else if k=2 then pQ else if k=3 then pG else if k=4 then pR else if k=5 then pM else if k=6 then mR else if k=7 then pS else if k=8 then nL else if k=9 then pN else if k=10 then nP else if k=11 then mP else if k=12 then ni else[]
theorem adt [Wd] (k:Int) (hk:1<=k/\k<=12):aq prog 43 [.agg (cr {aR with kind:=k})] (.str (K1 k)):=by
 have t:=Qv {aR with kind:=k} hk
 have h:k=1\/k=2\/k=3\/k=4\/k=5\/k=6\/k=7\/k=8\/k=9\/k=10\/k=11\/k=12:=by omega
 rcases h with rfl|rfl|rfl|rfl|rfl|rfl|rfl|rfl|rfl|rfl|rfl|rfl<;>exact t
def kq (s:List UInt8):Nat->Int
 |0=>0
 |k+1=>if K1 ((k+1:Nat):Int)=s then((k+1:Nat):Int) else kq s k
theorem ab0 {s:List UInt8} (sE:¬s=pF) (tr:¬s=pQ) (sK:¬s=pG) (tu:¬s=pR) (sQ:¬s=pM) (tN:¬s=mR) (tv:¬s=pS) (sR:¬s=nL) (sS:¬s=pN) (tw:¬s=nP) (tC:¬s=mP) (sU:¬s=ni):kq s 12=0:=by
 unfold kq
 rw[if_neg (fun e=>sU (e.symm.trans rfl))]
 show kq s 11=0
 unfold kq
 rw[if_neg (fun e=>tC (e.symm.trans rfl))]
 show kq s 10=0
 unfold kq
 rw[if_neg (fun e=>tw (e.symm.trans rfl))]
 show kq s 9=0
 unfold kq
 rw[if_neg (fun e=>sS (e.symm.trans rfl))]
 show kq s 8=0
 unfold kq
 rw[if_neg (fun e=>sR (e.symm.trans rfl))]
 show kq s 7=0
 unfold kq
 rw[if_neg (fun e=>tv (e.symm.trans rfl))]
 show kq s 6=0
 unfold kq
 rw[if_neg (fun e=>tN (e.symm.trans rfl))]
 show kq s 5=0
 unfold kq
 rw[if_neg (fun e=>sQ (e.symm.trans rfl))]
 show kq s 4=0
 unfold kq
 rw[if_neg (fun e=>tu (e.symm.trans rfl))]
 show kq s 3=0
 unfold kq
 rw[if_neg (fun e=>sK (e.symm.trans rfl))]
 show kq s 2=0
 unfold kq
 rw[if_neg (fun e=>tr (e.symm.trans rfl))]
 show kq s 1=0
 unfold kq
 rw[if_neg (fun e=>sE (e.symm.trans rfl))]
 rfl
theorem WK [Wd] (iT:Ag):bC prog 39 [.str []] [] (fun r h=>(∃b,r=.aj [.int .i64 0,.bool b])/\h=[]):=by
 refine ak 59 [] func39 ?_
 repeat' (conv=>arg 2;whnf);first|refine okF (iT _ (zu _)) ?_|refine bE (α:=Unit) (fun a=>⟨[(7,.int .i64 0),(6,.int .u64 0),(5,.str []),(4,.bool false),(3,.bool false),(2,.int .i64 0),(0,.str [])],[]⟩) (fun a=>True) (fun a=>0) () trivial (Sv.aK []) ?_|(intro a _;skip)|exact bf (r:=.aj [.int .i64 0,.bool _]) (h':=[]) [] (.inr rfl) rfl rfl trivial trivial (.refl _) ⟨⟨_,rfl⟩,rfl⟩
theorem ab1 {ws:List (List UInt8)} (h:kO ws) (i:Nat):(eY ws i).length<=4194304:=by
 unfold eY
 cases e:ws[i]? with
 |none=>exact Nat.zero_le _
 |some w=>exact h.2 w (List.mem_of_getElem? e)
theorem ab2 {b:List UInt8} {x y:bt} {k:Int} {r r':List (List UInt8)} (q:GN b x k) (h:uL (qX b) r=some (y,r')):x=y:=by
 unfold uL at h
 by_cases hk:k=0
 ·rw[q.2.1 hk] at h
  injection h with h
  injection h with h _
 ·rw[q.2.2 hk] at h
  cases h
theorem PI {s:List UInt8} {rest:List (List UInt8)} {a:bK} (ha:gh.ok a) (hl:kH a) (hk:a.kind=11) (h:s::rest=jf a):zY (eY (s::rest) 2) (eY (s::rest) 3) a.msg:=by
 have hm:bh.ok a.msg:=ha.2.2.2.2.2.1
 have e:pX a=Lib.itoa a.bA::ny a.msg:=by unfold pX;rw[hk];rfl
 unfold jf at h
 injection h with h1 h2
 rw[e] at h2
 subst h2
 exact⟨hl.1.2.2 hk,OE hm,rfl⟩
theorem sF {ws r:List (List UInt8)} {n:Int} (h:jD ws=some (n,r)):ws=Lib.itoa n::r/\-9223372036854775808<=n/\n<=9223372036854775807:=by
 cases ws with
 |nil=>cases h
 |cons s r'=>
  have e2:(tG s).map (fun x=>(x,r'))=some (n,r):=h
  cases hq:tG s with
  |none=>rw[hq] at e2;cases e2
  |some x=>
   rw[hq] at e2
   injection e2 with e2
   injection e2 with e3 e4
   subst e3 e4
   obtain⟨rfl,hr⟩:=J6 hq
   exact⟨rfl,hr⟩
theorem PJ {ws r:List (List UInt8)} {b:List UInt8} (h:mF ws=some (b,r)):∃s,ws=s::r/\dU s=some b:=by
 cases ws with
 |nil=>cases h
 |cons s r'=>
  have e2:(dU s).map (fun x=>(x,r'))=some (b,r):=h
  cases hq:dU s with
  |none=>rw[hq] at e2;cases e2
  |some x=>
   rw[hq] at e2
   injection e2 with e2
   injection e2 with e3 e4
   subst e3 e4
   exact⟨s,rfl,hq⟩
theorem pI [Wd] (iT:Ag) {a:bK} {line:List UInt8} (ok:gh.ok a) (hV:∀b,fE line b->a=b):(∃u,aq prog 18 [.agg (cr a)] (.aj [.str u,.int .i64 0])/\(u=line->fE line a)/\(¬u=line->∀b,¬fE line b))\/(aq prog 18 [.agg (cr a)] (.aj [.str [],.int .i64 1])/\∀b,¬fE line b):=by
 have hS:=Qx iT a ok
 by_cases h:kH a
 ·rw[zP h] at hS
  exact .inl ⟨_,hS,fun e=>⟨ok,h,e.symm⟩,fun e b hb=>e (by rw[hV b hb];exact hb.2.2.symm)⟩
 ·rw[w6 h] at hS
  exact .inr ⟨hS,fun b hb=>h (by rw[hV b hb];exact hb.2.1)⟩
theorem PK [Wd] [qW] (line:List UInt8) (hl:line.length<=4194304):bC prog 20 [.str line] [] (fun r h=>((∃a,fE line a/\r=.aj [.agg (cr a),.bool true])\/((∀a,¬fE line a)/\r=.aj [.agg (cr aR),.bool false]))/\h=[]):=by
 obtain⟨ws,vn⟩:∃ws,ws=fc line:=⟨_,rfl⟩
 have hb:kO ws:=vn▸kO.split hl
 have HW:=ZB line hl
 rw[<-vn] at HW
 have hR:∀a,fE line a->ku ws=some (a,[]):=fun a h=>by rw[vn];exact Bn h
 have cu:ws≠[]:=vn▸OC line
 have hK:∀a,fE line a->ws=jf a:=fun a h=>by rw[vn,h.2.2];exact N6 h.2.1
 clear vn
 obtain⟨s,rest,rfl⟩:∃s rest,ws=s::rest:=by cases ws with
  |nil=>exact absurd rfl cu
  |cons s r=>exact⟨s,r,rfl⟩
 refine iV 114 [(6,⟨PT.of [(0,false),(1,false),(3,false),(4,false),(5,false),(2,true),(6,false)],[1]⟩)] func20 ?_
 repeat' (conv=>arg 2;whnf);first|refine okF HW ?_
 conv=>arg 2;whnf
 refine bE (α:=Nat) (fun a=>⟨[(6,.int .i64 ((a:Int)+1)),(5,.ptr 1 0),(4,.list 1 (cW (s::rest))),(3,.bool false),(2,.ptr 0 0),(0,.str line)],[.cells 61 [.int .i64 0,.int .i64 0,.int .i64 0,.int .i64 0,.str [],.str [],.int .i64 0,.nils,.nils,.int .i64 0,.int .i64 0,.int .i64 0,.int .i64 0,.int .i64 0,.int .i64 0,.int .i64 0,.int .i64 0,.int .i64 0,.nils,.int .i64 0,.int .i64 0,.nils,.nils,.nils,.nils,.str [],.int .i64 0,.str [],.int .i64 0,.nils,.nils,.int .i64 0,.int .i64 0,.nils,.int .i64 0,.int .i64 0,.nils,.int .i64 0,.int .i64 0,.bool false],.cells 61 [.int .i64 (kq s a),.int .i64 0,.int .i64 0,.int .i64 0,.str [],.str [],.int .i64 0,.nils,.nils,.int .i64 0,.int .i64 0,.int .i64 0,.int .i64 0,.int .i64 0,.int .i64 0,.int .i64 0,.int .i64 0,.int .i64 0,.nils,.int .i64 0,.int .i64 0,.nils,.nils,.nils,.nils,.str [],.int .i64 0,.str [],.int .i64 0,.nils,.nils,.int .i64 0,.int .i64 0,.nils,.int .i64 0,.int .i64 0,.nils,.int .i64 0,.int .i64 0,.bool false]]⟩) (fun a=>a<=12) (fun a=>12-a) 0 (Nat.zero_le _) (Sv.aK [0,1]) ?_
 intro q hq
 replace hq:q<=12:=hq
 by_cases ey:q<12
 ·have Mm:=adt ((q:Int)+1) (by omega)
  have Tm:(cW (s::rest))[(0:Int).toNat]?=some [.str s]:=rfl
  by_cases he:K1 ((q:Int)+1)=s
  ·have Mn:=(show kq s (q+1)=(q:Int)+1 from if_pos he)
   repeat' (conv=>arg 2;whnf);first|refine gJ ?_|refine bY (by simp;omega) ?_|refine iU Mm (.cons .z .nil) ?_|refine eT [.str s] (by decide) Tm ?_|exact aZ (q+1) (Sv.mk' [0,1] rfl ⟨⟨rfl,rfl⟩,⟨rfl,by rw[Mn];rfl⟩,trivial⟩ ⟨rfl,rfl,rfl,rfl,rfl,rfl,trivial⟩) (by show q+1<=12;omega) (by show 12-(q+1)<12-q;omega)
  ·have Mn:=(show kq s (q+1)=kq s q from if_neg he)
   repeat' (conv=>arg 2;whnf);first|refine gJ ?_|refine bY (by simp;omega) ?_|refine iU Mm (.cons .z .nil) ?_|refine eT [.str s] (by decide) Tm ?_|refine bB (by simpa using he) ?_|exact aZ (q+1) (Sv.mk' [0,1] rfl ⟨⟨rfl,rfl⟩,⟨rfl,by rw[Mn];rfl⟩,trivial⟩ ⟨rfl,rfl,rfl,rfl,rfl,rfl,trivial⟩) (by show q+1<=12;omega) (by show 12-(q+1)<12-q;omega)
 obtain rfl:q=12:=by omega
 have la:∀i,(eY (s::rest) i).length<=4194304:=ab1 hb
 repeat' (conv=>arg 2;whnf);first|refine bq ?_
 conv=>arg 2;whnf
 generalize hκ:kq s 12=κ
 have zb:dY.ok []:=Nat.zero_le _
 by_cases sE:s=pF
 ·subst sE
  have j6:κ=1:=hκ.symm.trans (by decide)
  subst j6
  have hA:∀a,fE line a->dN pF rest=some (a,[]):=fun a h=>hR a h
  rw[EV] at hA
  repeat' (conv=>arg 2;whnf);first|refine eT [.str pF] (by decide) rfl ?_|refine okF (mm (pF::rest) 1) ?_|(refine eI (pz iN (eY (pF::rest) 1) (la 1)) rfl (aa.refl _) ?_;rintro r ⟨n1,g1,jr,rfl,lg⟩)
  have fN:gh.ok ({aR with kind:=1,num:=n1}:bK):=⟨fM (n:=1) (by decide),bu,fM jr,jh,zb,jO,trivial⟩
  have hV:∀a,fE line a->({aR with kind:=1,num:=n1}:bK)=a:=fun a h=>by obtain⟨x,r5,e1,e2⟩:=gB (hA a h);injection e2 with e2;injection e2 with e2 e3;subst e2;obtain⟨e4,e5⟩:=sF e1;have q1:=lg x e5 (by unfold eY;rw[e4];rfl);rw[q1]
  rcases pI iN fN hV with⟨u,hS,hY,hN⟩|⟨hS,hN⟩
  all_goals
   repeat' (conv=>arg 2;whnf);first|refine iU hS (.cons .z .nil) ?_|apply an<;>intro h|(refine bf (r:=.aj [.agg (cr ({aR with kind:=1,num:=n1}:bK)),.bool true]) (h':=[]) [] (.inr rfl) rfl rfl trivial trivial .y ?_;exact⟨.inl ⟨_,hY (by simpa using h),rfl⟩,rfl⟩)|(refine bf (r:=.aj [.agg (cr aR),.bool false]) (h':=[]) [] (.inr rfl) rfl rfl trivial trivial .y ?_;exact⟨.inr ⟨hN (by simpa using h),rfl⟩,rfl⟩)|exact bf (r:=.aj [.agg (cr aR),.bool false]) (h':=[]) [] (.inr rfl) rfl rfl trivial trivial .y ⟨.inr ⟨hN,rfl⟩,rfl⟩
 by_cases tr:s=pQ
 ·subst tr
  have j6:κ=2:=hκ.symm.trans (by decide)
  subst j6
  have hA:∀a,fE line a->dN pQ rest=some (a,[]):=fun a h=>hR a h
  rw[Fi] at hA
  repeat' (conv=>arg 2;whnf);first|refine eT [.str pQ] (by decide) rfl ?_|refine okF (mm (pQ::rest) 1) ?_|(refine eI (pz iN (eY (pQ::rest) 1) (la 1)) rfl (aa.refl _) ?_;rintro r ⟨n1,g1,jr,rfl,lg⟩)
  have fN:gh.ok ({aR with kind:=2,num:=n1}:bK):=⟨fM (n:=2) (by decide),bu,fM jr,jh,zb,jO,trivial⟩
  have hV:∀a,fE line a->({aR with kind:=2,num:=n1}:bK)=a:=fun a h=>by obtain⟨x,r5,e1,e2⟩:=gB (hA a h);injection e2 with e2;injection e2 with e2 e3;subst e2;obtain⟨e4,e5⟩:=sF e1;have q1:=lg x e5 (by unfold eY;rw[e4];rfl);rw[q1]
  rcases pI iN fN hV with⟨u,hS,hY,hN⟩|⟨hS,hN⟩
  all_goals
   repeat' (conv=>arg 2;whnf);first|refine iU hS (.cons .z .nil) ?_|apply an<;>intro h|(refine bf (r:=.aj [.agg (cr ({aR with kind:=2,num:=n1}:bK)),.bool true]) (h':=[]) [] (.inr rfl) rfl rfl trivial trivial .y ?_;exact⟨.inl ⟨_,hY (by simpa using h),rfl⟩,rfl⟩)|(refine bf (r:=.aj [.agg (cr aR),.bool false]) (h':=[]) [] (.inr rfl) rfl rfl trivial trivial .y ?_;exact⟨.inr ⟨hN (by simpa using h),rfl⟩,rfl⟩)|exact bf (r:=.aj [.agg (cr aR),.bool false]) (h':=[]) [] (.inr rfl) rfl rfl trivial trivial .y ⟨.inr ⟨hN,rfl⟩,rfl⟩
 by_cases sK:s=pG
 ·subst sK
  have j6:κ=3:=hκ.symm.trans (by decide)
  subst j6
  have hA:∀a,fE line a->dN pG rest=some (a,[]):=fun a h=>hR a h
  rw[EY] at hA
  repeat' (conv=>arg 2;whnf);first|refine eT [.str pG] (by decide) rfl ?_|refine okF (mm (pG::rest) 1) ?_|(refine eI (pz iN (eY (pG::rest) 1) (la 1)) rfl (aa.refl _) ?_;rintro r ⟨n1,g1,jr,rfl,lg⟩)
  have fN:gh.ok ({aR with kind:=3,num:=n1}:bK):=⟨fM (n:=3) (by decide),bu,fM jr,jh,zb,jO,trivial⟩
  have hV:∀a,fE line a->({aR with kind:=3,num:=n1}:bK)=a:=fun a h=>by obtain⟨x,r5,e1,e2⟩:=gB (hA a h);injection e2 with e2;injection e2 with e2 e3;subst e2;obtain⟨e4,e5⟩:=sF e1;have q1:=lg x e5 (by unfold eY;rw[e4];rfl);rw[q1]
  rcases pI iN fN hV with⟨u,hS,hY,hN⟩|⟨hS,hN⟩
  all_goals
   repeat' (conv=>arg 2;whnf);first|refine iU hS (.cons .z .nil) ?_|apply an<;>intro h|(refine bf (r:=.aj [.agg (cr ({aR with kind:=3,num:=n1}:bK)),.bool true]) (h':=[]) [] (.inr rfl) rfl rfl trivial trivial .y ?_;exact⟨.inl ⟨_,hY (by simpa using h),rfl⟩,rfl⟩)|(refine bf (r:=.aj [.agg (cr aR),.bool false]) (h':=[]) [] (.inr rfl) rfl rfl trivial trivial .y ?_;exact⟨.inr ⟨hN (by simpa using h),rfl⟩,rfl⟩)|exact bf (r:=.aj [.agg (cr aR),.bool false]) (h':=[]) [] (.inr rfl) rfl rfl trivial trivial .y ⟨.inr ⟨hN,rfl⟩,rfl⟩
 by_cases tu:s=pR
 ·subst tu
  have j6:κ=4:=hκ.symm.trans (by decide)
  subst j6
  have hA:∀a,fE line a->dN pR rest=some (a,[]):=fun a h=>hR a h
  rw[Fj] at hA
  repeat' (conv=>arg 2;whnf);first|refine eT [.str pR] (by decide) rfl ?_|refine okF (mm (pR::rest) 1) ?_|(refine eI (pz iN (eY (pR::rest) 1) (la 1)) rfl (aa.refl _) ?_;rintro r ⟨n1,g1,jr,rfl,lg⟩)
  have fN:gh.ok ({aR with kind:=4,bA:=n1}:bK):=⟨fM (n:=4) (by decide),fM jr,bu,jh,zb,jO,trivial⟩
  have hV:∀a,fE line a->({aR with kind:=4,bA:=n1}:bK)=a:=fun a h=>by obtain⟨x,r5,e1,e2⟩:=gB (hA a h);injection e2 with e2;injection e2 with e2 e3;subst e2;obtain⟨e4,e5⟩:=sF e1;have q1:=lg x e5 (by unfold eY;rw[e4];rfl);rw[q1]
  rcases pI iN fN hV with⟨u,hS,hY,hN⟩|⟨hS,hN⟩
  all_goals
   repeat' (conv=>arg 2;whnf);first|refine iU hS (.cons .z .nil) ?_|apply an<;>intro h|(refine bf (r:=.aj [.agg (cr ({aR with kind:=4,bA:=n1}:bK)),.bool true]) (h':=[]) [] (.inr rfl) rfl rfl trivial trivial .y ?_;exact⟨.inl ⟨_,hY (by simpa using h),rfl⟩,rfl⟩)|(refine bf (r:=.aj [.agg (cr aR),.bool false]) (h':=[]) [] (.inr rfl) rfl rfl trivial trivial .y ?_;exact⟨.inr ⟨hN (by simpa using h),rfl⟩,rfl⟩)|exact bf (r:=.aj [.agg (cr aR),.bool false]) (h':=[]) [] (.inr rfl) rfl rfl trivial trivial .y ⟨.inr ⟨hN,rfl⟩,rfl⟩
 by_cases sQ:s=pM
 ·subst sQ
  have j6:κ=5:=hκ.symm.trans (by decide)
  subst j6
  have hA:∀a,fE line a->dN pM rest=some (a,[]):=fun a h=>hR a h
  rw[E1] at hA
  repeat' (conv=>arg 2;whnf);first|refine eT [.str pM] (by decide) rfl ?_|refine okF (mm (pM::rest) 1) ?_|(refine eI (pz iN (eY (pM::rest) 1) (la 1)) rfl (aa.refl _) ?_;rintro r ⟨n1,g1,jr,rfl,lg⟩)
  have fN:gh.ok ({aR with kind:=5,bA:=n1}:bK):=⟨fM (n:=5) (by decide),fM jr,bu,jh,zb,jO,trivial⟩
  have hV:∀a,fE line a->({aR with kind:=5,bA:=n1}:bK)=a:=fun a h=>by obtain⟨x,r5,e1,e2⟩:=gB (hA a h);injection e2 with e2;injection e2 with e2 e3;subst e2;obtain⟨e4,e5⟩:=sF e1;have q1:=lg x e5 (by unfold eY;rw[e4];rfl);rw[q1]
  rcases pI iN fN hV with⟨u,hS,hY,hN⟩|⟨hS,hN⟩
  all_goals
   repeat' (conv=>arg 2;whnf);first|refine iU hS (.cons .z .nil) ?_|apply an<;>intro h|(refine bf (r:=.aj [.agg (cr ({aR with kind:=5,bA:=n1}:bK)),.bool true]) (h':=[]) [] (.inr rfl) rfl rfl trivial trivial .y ?_;exact⟨.inl ⟨_,hY (by simpa using h),rfl⟩,rfl⟩)|(refine bf (r:=.aj [.agg (cr aR),.bool false]) (h':=[]) [] (.inr rfl) rfl rfl trivial trivial .y ?_;exact⟨.inr ⟨hN (by simpa using h),rfl⟩,rfl⟩)|exact bf (r:=.aj [.agg (cr aR),.bool false]) (h':=[]) [] (.inr rfl) rfl rfl trivial trivial .y ⟨.inr ⟨hN,rfl⟩,rfl⟩
 by_cases tN:s=mR
 ·subst tN
  have j6:κ=6:=hκ.symm.trans (by decide)
  subst j6
  have hA:∀a,fE line a->dN mR rest=some (a,[]):=fun a h=>hR a h
  rw[FM] at hA
  repeat' (conv=>arg 2;whnf);first|refine eT [.str mR] (by decide) rfl ?_|refine okF (mm (mR::rest) 1) ?_|(refine eI (pz iN (eY (mR::rest) 1) (la 1)) rfl (aa.refl _) ?_;rintro r ⟨n1,g1,jr,rfl,lg⟩)
  obtain⟨bx,fx,Tn,HX,xT,Ev⟩:=FP (eY (mR::rest) 2) (la 2)
  repeat' (conv=>arg 2;whnf);first|refine okF HX ?_|refine okF (mm (mR::rest) 2) ?_|(refine eI (WH bx (by omega)) rfl (aa.refl _) ?_;rintro r ⟨xo,ko,qo,rfl⟩)
  have fN:gh.ok ({aR with kind:=6,bA:=n1,op:=xo}:bK):=⟨fM (n:=6) (by decide),fM jr,bu,qo.1,zb,jO,trivial⟩
  have hV:∀a,fE line a->({aR with kind:=6,bA:=n1,op:=xo}:bK)=a:=fun a h=>by obtain⟨x,r5,e1,e2⟩:=gB (hA a h);obtain⟨x6,r6,e6,e7⟩:=gB e2;injection e7 with e7;injection e7 with e7 _;subst e7;obtain⟨e4,e5⟩:=sF e1;obtain⟨b9,r9,e8,e9⟩:=gB e6;obtain⟨sx,uW,To⟩:=PJ e8;have q1:=lg x e5 (by unfold eY;rw[e4];rfl);have AN:dU (eY (mR::rest) 2)=some b9:=(by unfold eY;rw[e4,uW];exact To);cases fx;(rw[Ev rfl] at AN;cases AN);(rw[xT rfl] at AN;injection AN with AN;subst AN;rw[q1,ab2 qo e9])
  rcases pI iN fN hV with⟨u,hS,hY,hN⟩|⟨hS,hN⟩
  all_goals
   repeat' (conv=>arg 2;whnf);first|refine iU hS (.cons .z .nil) ?_|apply an<;>intro h|(refine bf (r:=.aj [.agg (cr ({aR with kind:=6,bA:=n1,op:=xo}:bK)),.bool true]) (h':=[]) [] (.inr rfl) rfl rfl trivial trivial .y ?_;exact⟨.inl ⟨_,hY (by simpa using h),rfl⟩,rfl⟩)|(refine bf (r:=.aj [.agg (cr aR),.bool false]) (h':=[]) [] (.inr rfl) rfl rfl trivial trivial .y ?_;exact⟨.inr ⟨hN (by simpa using h),rfl⟩,rfl⟩)|exact bf (r:=.aj [.agg (cr aR),.bool false]) (h':=[]) [] (.inr rfl) rfl rfl trivial trivial .y ⟨.inr ⟨hN,rfl⟩,rfl⟩
 by_cases tv:s=pS
 ·subst tv
  have j6:κ=7:=hκ.symm.trans (by decide)
  subst j6
  have hA:∀a,fE line a->dN pS rest=some (a,[]):=fun a h=>hR a h
  rw[Fk] at hA
  repeat' (conv=>arg 2;whnf);first|refine eT [.str pS] (by decide) rfl ?_|refine okF (mm (pS::rest) 1) ?_|(refine eI (pz iN (eY (pS::rest) 1) (la 1)) rfl (aa.refl _) ?_;rintro r ⟨n1,g1,jr,rfl,lg⟩)
  have fN:gh.ok ({aR with kind:=7,bA:=n1}:bK):=⟨fM (n:=7) (by decide),fM jr,bu,jh,zb,jO,trivial⟩
  have hV:∀a,fE line a->({aR with kind:=7,bA:=n1}:bK)=a:=fun a h=>by obtain⟨x,r5,e1,e2⟩:=gB (hA a h);injection e2 with e2;injection e2 with e2 e3;subst e2;obtain⟨e4,e5⟩:=sF e1;have q1:=lg x e5 (by unfold eY;rw[e4];rfl);rw[q1]
  rcases pI iN fN hV with⟨u,hS,hY,hN⟩|⟨hS,hN⟩
  all_goals
   repeat' (conv=>arg 2;whnf);first|refine iU hS (.cons .z .nil) ?_|apply an<;>intro h|(refine bf (r:=.aj [.agg (cr ({aR with kind:=7,bA:=n1}:bK)),.bool true]) (h':=[]) [] (.inr rfl) rfl rfl trivial trivial .y ?_;exact⟨.inl ⟨_,hY (by simpa using h),rfl⟩,rfl⟩)|(refine bf (r:=.aj [.agg (cr aR),.bool false]) (h':=[]) [] (.inr rfl) rfl rfl trivial trivial .y ?_;exact⟨.inr ⟨hN (by simpa using h),rfl⟩,rfl⟩)|exact bf (r:=.aj [.agg (cr aR),.bool false]) (h':=[]) [] (.inr rfl) rfl rfl trivial trivial .y ⟨.inr ⟨hN,rfl⟩,rfl⟩
 by_cases sR:s=nL
 ·subst sR
  have j6:κ=8:=hκ.symm.trans (by decide)
  subst j6
  have hA:∀a,fE line a->dN nL rest=some (a,[]):=fun a h=>hR a h
  rw[E2] at hA
  repeat' (conv=>arg 2;whnf);first|refine eT [.str nL] (by decide) rfl ?_|refine okF (mm (nL::rest) 1) ?_|(refine eI (pz iN (eY (nL::rest) 1) (la 1)) rfl (aa.refl _) ?_;rintro r ⟨n1,g1,jr,rfl,lg⟩)
  repeat' (conv=>arg 2;whnf);first|refine okF (mm (nL::rest) 2) ?_|(refine eI (pz iN (eY (nL::rest) 2) (la 2)) rfl (aa.refl _) ?_;rintro r ⟨n2,g2,xU,rfl,Ux⟩)
  have fN:gh.ok ({aR with kind:=8,bA:=n1,num:=n2}:bK):=⟨fM (n:=8) (by decide),fM jr,fM xU,jh,zb,jO,trivial⟩
  have hV:∀a,fE line a->({aR with kind:=8,bA:=n1,num:=n2}:bK)=a:=fun a h=>by obtain⟨x,r5,e1,e2⟩:=gB (hA a h);obtain⟨x6,r6,e6,e7⟩:=gB e2;injection e7 with e7;injection e7 with e7 _;subst e7;obtain⟨e4,e5⟩:=sF e1;obtain⟨e8,e9⟩:=sF e6;have q1:=lg x e5 (by unfold eY;rw[e4];rfl);have q2:=Ux x6 e9 (by unfold eY;rw[e4,e8];rfl);rw[q1,q2]
  rcases pI iN fN hV with⟨u,hS,hY,hN⟩|⟨hS,hN⟩
  all_goals
   repeat' (conv=>arg 2;whnf);first|refine iU hS (.cons .z .nil) ?_|apply an<;>intro h|(refine bf (r:=.aj [.agg (cr ({aR with kind:=8,bA:=n1,num:=n2}:bK)),.bool true]) (h':=[]) [] (.inr rfl) rfl rfl trivial trivial .y ?_;exact⟨.inl ⟨_,hY (by simpa using h),rfl⟩,rfl⟩)|(refine bf (r:=.aj [.agg (cr aR),.bool false]) (h':=[]) [] (.inr rfl) rfl rfl trivial trivial .y ?_;exact⟨.inr ⟨hN (by simpa using h),rfl⟩,rfl⟩)|exact bf (r:=.aj [.agg (cr aR),.bool false]) (h':=[]) [] (.inr rfl) rfl rfl trivial trivial .y ⟨.inr ⟨hN,rfl⟩,rfl⟩
 by_cases sS:s=pN
 ·subst sS
  have j6:κ=9:=hκ.symm.trans (by decide)
  subst j6
  have hA:∀a,fE line a->dN pN rest=some (a,[]):=fun a h=>hR a h
  rw[E3] at hA
  repeat' (conv=>arg 2;whnf);first|refine eT [.str pN] (by decide) rfl ?_|refine okF (mm (pN::rest) 1) ?_|(refine eI (pz iN (eY (pN::rest) 1) (la 1)) rfl (aa.refl _) ?_;rintro r ⟨n1,g1,jr,rfl,lg⟩)
  have fN:gh.ok ({aR with kind:=9,bA:=n1}:bK):=⟨fM (n:=9) (by decide),fM jr,bu,jh,zb,jO,trivial⟩
  have hV:∀a,fE line a->({aR with kind:=9,bA:=n1}:bK)=a:=fun a h=>by obtain⟨x,r5,e1,e2⟩:=gB (hA a h);injection e2 with e2;injection e2 with e2 e3;subst e2;obtain⟨e4,e5⟩:=sF e1;have q1:=lg x e5 (by unfold eY;rw[e4];rfl);rw[q1]
  rcases pI iN fN hV with⟨u,hS,hY,hN⟩|⟨hS,hN⟩
  all_goals
   repeat' (conv=>arg 2;whnf);first|refine iU hS (.cons .z .nil) ?_|apply an<;>intro h|(refine bf (r:=.aj [.agg (cr ({aR with kind:=9,bA:=n1}:bK)),.bool true]) (h':=[]) [] (.inr rfl) rfl rfl trivial trivial .y ?_;exact⟨.inl ⟨_,hY (by simpa using h),rfl⟩,rfl⟩)|(refine bf (r:=.aj [.agg (cr aR),.bool false]) (h':=[]) [] (.inr rfl) rfl rfl trivial trivial .y ?_;exact⟨.inr ⟨hN (by simpa using h),rfl⟩,rfl⟩)|exact bf (r:=.aj [.agg (cr aR),.bool false]) (h':=[]) [] (.inr rfl) rfl rfl trivial trivial .y ⟨.inr ⟨hN,rfl⟩,rfl⟩
 by_cases tw:s=nP
 ·subst tw
  have j6:κ=10:=hκ.symm.trans (by decide)
  subst j6
  have hA:∀a,fE line a->dN nP rest=some (a,[]):=fun a h=>hR a h
  rw[Fl] at hA
  repeat' (conv=>arg 2;whnf);first|refine eT [.str nP] (by decide) rfl ?_|refine okF (mm (nP::rest) 1) ?_|(refine eI (pz iN (eY (nP::rest) 1) (la 1)) rfl (aa.refl _) ?_;rintro r ⟨n1,g1,jr,rfl,lg⟩)
  obtain⟨bx,fx,Tn,HX,xT,Ev⟩:=FP (eY (nP::rest) 1) (la 1)
  have fN:gh.ok ({aR with kind:=10,bytes:=bx}:bK):=⟨fM (n:=10) (by decide),bu,bu,jh,(Nat.le_trans Tn (by decide)),jO,trivial⟩
  have hV:∀a,fE line a->({aR with kind:=10,bytes:=bx}:bK)=a:=fun a h=>by obtain⟨x,r5,e1,e2⟩:=gB (hA a h);injection e2 with e2;injection e2 with e2 _;subst e2;obtain⟨sx,e4,e5⟩:=PJ e1;have e6:dU (eY (nP::rest) 1)=some x:=(by unfold eY;rw[e4];exact e5);cases fx;(rw[Ev rfl] at e6;cases e6);(rw[xT rfl] at e6;injection e6 with e6;rw[e6])
  rcases pI iN fN hV with⟨u,hS,hY,hN⟩|⟨hS,hN⟩
  all_goals
   repeat' (conv=>arg 2;whnf);first|refine okF HX ?_|refine iU hS (.cons .z .nil) ?_|apply an<;>intro h|(refine bf (r:=.aj [.agg (cr ({aR with kind:=10,bytes:=bx}:bK)),.bool true]) (h':=[]) [] (.inr rfl) rfl rfl trivial trivial .y ?_;exact⟨.inl ⟨_,hY (by simpa using h),rfl⟩,rfl⟩)|(refine bf (r:=.aj [.agg (cr aR),.bool false]) (h':=[]) [] (.inr rfl) rfl rfl trivial trivial .y ?_;exact⟨.inr ⟨hN (by simpa using h),rfl⟩,rfl⟩)|exact bf (r:=.aj [.agg (cr aR),.bool false]) (h':=[]) [] (.inr rfl) rfl rfl trivial trivial .y ⟨.inr ⟨hN,rfl⟩,rfl⟩
 by_cases tC:s=mP
 ·subst tC
  have j6:κ=11:=hκ.symm.trans (by decide)
  subst j6
  have hA:∀a,fE line a->dN mP rest=some (a,[]):=fun a h=>hR a h
  rw[Fm] at hA
  repeat' (conv=>arg 2;whnf);first|refine eT [.str mP] (by decide) rfl ?_|refine okF (mm (mP::rest) 1) ?_|(refine eI (pz iN (eY (mP::rest) 1) (la 1)) rfl (aa.refl _) ?_;rintro r ⟨n1,g1,jr,rfl,lg⟩)
  repeat' (conv=>arg 2;whnf);first|refine okF (mm (mP::rest) 2) ?_|refine okF (mm (mP::rest) 3) ?_|(refine eI (QZ (eY (mP::rest) 2) (eY (mP::rest) 3) (la 2) (la 3)) rfl (aa.refl _) ?_;rintro r ⟨xm,km,Cw,rfl,ot⟩)
  have fN:gh.ok ({aR with kind:=11,bA:=n1,msg:=xm}:bK):=⟨fM (n:=11) (by decide),fM jr,bu,jh,zb,Cw,trivial⟩
  have hV:∀a,fE line a->({aR with kind:=11,bA:=n1,msg:=xm}:bK)=a:=fun a h=>by have Mo:=hK a h;have D4:=h;obtain⟨x,r5,e1,e2⟩:=gB (hA a h);obtain⟨x6,r6,e6,e7⟩:=gB e2;injection e7 with e7;injection e7 with e7 _;subst e7;obtain⟨e4,e5⟩:=sF e1;have q1:=lg x e5 (by unfold eY;rw[e4];rfl);rw[q1,ot x6 (PI D4.1 D4.2.1 rfl Mo)]
  rcases pI iN fN hV with⟨u,hS,hY,hN⟩|⟨hS,hN⟩
  all_goals
   repeat' (conv=>arg 2;whnf);first|refine iU hS (.cons .z .nil) ?_|apply an<;>intro h|(refine bf (r:=.aj [.agg (cr ({aR with kind:=11,bA:=n1,msg:=xm}:bK)),.bool true]) (h':=[]) [] (.inr rfl) rfl rfl trivial trivial .y ?_;exact⟨.inl ⟨_,hY (by simpa using h),rfl⟩,rfl⟩)|(refine bf (r:=.aj [.agg (cr aR),.bool false]) (h':=[]) [] (.inr rfl) rfl rfl trivial trivial .y ?_;exact⟨.inr ⟨hN (by simpa using h),rfl⟩,rfl⟩)|exact bf (r:=.aj [.agg (cr aR),.bool false]) (h':=[]) [] (.inr rfl) rfl rfl trivial trivial .y ⟨.inr ⟨hN,rfl⟩,rfl⟩
 by_cases wm:s=nQ
 ·subst wm
  have j6:κ=0:=hκ.symm.trans (by decide)
  subst j6
  have hA:∀a,fE line a->dN nQ rest=some (a,[]):=fun a h=>hR a h
  rw[Fo] at hA
  repeat' (conv=>arg 2;whnf);first|refine eT [.str nQ] (by decide) rfl ?_|refine okF (mm (nQ::rest) 1) ?_|(refine eI (pz iN (eY (nQ::rest) 1) (la 1)) rfl (aa.refl _) ?_;rintro r ⟨n1,g1,jr,rfl,lg⟩)
  repeat' (conv=>arg 2;whnf);first|refine okF (mm (nQ::rest) 2) ?_|refine okF (mm (nQ::rest) 3) ?_|(refine eI (QZ (eY (nQ::rest) 2) (eY (nQ::rest) 3) (la 2) (la 3)) rfl (aa.refl _) ?_;rintro r ⟨xm,km,Cw,rfl,ot⟩)
  have fN:gh.ok ({aR with kind:=11,bA:=n1,msg:=xm,jN:=true}:bK):=⟨fM (n:=11) (by decide),fM jr,bu,jh,zb,Cw,trivial⟩
  have hV:∀a,fE line a->({aR with kind:=11,bA:=n1,msg:=xm,jN:=true}:bK)=a:=fun a h=>by have Mo:=hK a h;have D4:=h;obtain⟨x,r5,e1,e2⟩:=gB (hA a h);obtain⟨x6,r6,e6,e7⟩:=gB e2;injection e7 with e7;injection e7 with e7 _;subst e7;obtain⟨e4,e5⟩:=sF e1;have q1:=lg x e5 (by unfold eY;rw[e4];rfl);rw[q1,ot x6 (PI D4.1 D4.2.1 rfl Mo)]
  rcases pI iN fN hV with⟨u,hS,hY,hN⟩|⟨hS,hN⟩
  all_goals
   repeat' (conv=>arg 2;whnf);first|refine iU hS (.cons .z .nil) ?_|apply an<;>intro h|(refine bf (r:=.aj [.agg (cr ({aR with kind:=11,bA:=n1,msg:=xm,jN:=true}:bK)),.bool true]) (h':=[]) [] (.inr rfl) rfl rfl trivial trivial .y ?_;exact⟨.inl ⟨_,hY (by simpa using h),rfl⟩,rfl⟩)|(refine bf (r:=.aj [.agg (cr aR),.bool false]) (h':=[]) [] (.inr rfl) rfl rfl trivial trivial .y ?_;exact⟨.inr ⟨hN (by simpa using h),rfl⟩,rfl⟩)|exact bf (r:=.aj [.agg (cr aR),.bool false]) (h':=[]) [] (.inr rfl) rfl rfl trivial trivial .y ⟨.inr ⟨hN,rfl⟩,rfl⟩
 by_cases sU:s=ni
 ·subst sU
  have j6:κ=12:=hκ.symm.trans (by decide)
  subst j6
  have hA:∀a,fE line a->dN ni rest=some (a,[]):=fun a h=>hR a h
  rw[E4] at hA
  by_cases Tp:rest=[]
  ·have e0:eY (ni::rest) 1=[]:=by unfold eY;rw[Tp];rfl
   repeat' (conv=>arg 2;whnf);first|refine eT [.str ni] (by decide) rfl ?_|refine okF (mm (ni::rest) 1) ?_
   conv=>arg 2;whnf
   rw[e0]
   refine eI (WK iN) rfl (aa.refl _) ?_
   rintro r ⟨g1,rfl⟩
   have fN:gh.ok ({aR with kind:=12}:bK):=⟨fM (n:=12) (by decide),bu,bu,jh,zb,jO,trivial⟩
   have hV:∀a,fE line a->({aR with kind:=12}:bK)=a:=fun a h=>by have e:=hA a h;injection e with e;injection e with e _
   rcases pI iN fN hV with⟨u,hS,hY,hN⟩|⟨hS,hN⟩
   all_goals
    repeat' (conv=>arg 2;whnf);first|refine iU hS (.cons .z .nil) ?_|apply an<;>intro h|(refine bf (r:=.aj [.agg (cr ({aR with kind:=12}:bK)),.bool true]) (h':=[]) [] (.inr rfl) rfl rfl trivial trivial .y ?_;exact⟨.inl ⟨_,hY (by simpa using h),rfl⟩,rfl⟩)|(refine bf (r:=.aj [.agg (cr aR),.bool false]) (h':=[]) [] (.inr rfl) rfl rfl trivial trivial .y ?_;exact⟨.inr ⟨hN (by simpa using h),rfl⟩,rfl⟩)|exact bf (r:=.aj [.agg (cr aR),.bool false]) (h':=[]) [] (.inr rfl) rfl rfl trivial trivial .y ⟨.inr ⟨hN,rfl⟩,rfl⟩
  ·repeat'
    (conv=>arg 2;whnf)
    first|refine eT [.str ni] (by decide) rfl ?_|refine okF (mm (ni::rest) 1) ?_|(refine eI (pz iN (eY (ni::rest) 1) (la 1)) rfl (aa.refl _) ?_;rintro r ⟨n1,g1,jr,rfl,lg⟩)
   have fN:gh.ok ({aR with kind:=12,bA:=n1}:bK):=⟨fM (n:=12) (by decide),fM jr,bu,jh,zb,jO,trivial⟩
   have hV:∀a,fE line a->({aR with kind:=12,bA:=n1}:bK)=a:=fun a h=>by have e:=hA a h;injection e with e;injection e with _ e;exact absurd e Tp
   rcases pI iN fN hV with⟨u,hS,hY,hN⟩|⟨hS,hN⟩
   all_goals
    repeat' (conv=>arg 2;whnf);first|refine iU hS (.cons .z .nil) ?_|apply an<;>intro h|(refine bf (r:=.aj [.agg (cr ({aR with kind:=12,bA:=n1}:bK)),.bool true]) (h':=[]) [] (.inr rfl) rfl rfl trivial trivial .y ?_;exact⟨.inl ⟨_,hY (by simpa using h),rfl⟩,rfl⟩)|(refine bf (r:=.aj [.agg (cr aR),.bool false]) (h':=[]) [] (.inr rfl) rfl rfl trivial trivial .y ?_;exact⟨.inr ⟨hN (by simpa using h),rfl⟩,rfl⟩)|exact bf (r:=.aj [.agg (cr aR),.bool false]) (h':=[]) [] (.inr rfl) rfl rfl trivial trivial .y ⟨.inr ⟨hN,rfl⟩,rfl⟩
 have rW:∀a,¬fE line a:=fun a h=>by
  have e:dN s rest=some (a,[]):=hR a h
  unfold dN at e
  rw[if_neg sE,if_neg tr,if_neg sK,if_neg tu,if_neg sQ,if_neg tN,if_neg tv,if_neg sR,if_neg sS,if_neg tw,if_neg tC,if_neg wm,if_neg sU] at e
  cases e
 have j6:κ=0:=hκ.symm.trans (ab0 sE tr sK tu sQ tN tv sR sS tw tC sU)
 subst j6
 repeat' (conv=>arg 2;whnf);first|refine eT [.str s] (by decide) rfl ?_|refine bB (decide_eq_false wm) ?_|refine okF (mm (s::rest) 1) ?_|(refine eI (pz iN (eY (s::rest) 1) (la 1)) rfl (aa.refl _) ?_;rintro r ⟨n1,g1,jr,rfl,lg⟩)
 have fN:gh.ok ({aR with kind:=0,bA:=n1}:bK):=⟨fM (n:=0) (by decide),fM jr,bu,jh,zb,jO,trivial⟩
 have hV:∀a,fE line a->({aR with kind:=0,bA:=n1}:bK)=a:=fun a h=>absurd h (rW a)
 rcases pI iN fN hV with⟨u,hS,hY,hN⟩|⟨hS,hN⟩
 all_goals
  repeat' (conv=>arg 2;whnf);first|refine iU hS (.cons .z .nil) ?_|apply an<;>intro h|(refine bf (r:=.aj [.agg (cr ({aR with kind:=0,bA:=n1}:bK)),.bool true]) (h':=[]) [] (.inr rfl) rfl rfl trivial trivial .y ?_;exact⟨.inl ⟨_,hY (by simpa using h),rfl⟩,rfl⟩)|(refine bf (r:=.aj [.agg (cr aR),.bool false]) (h':=[]) [] (.inr rfl) rfl rfl trivial trivial .y ?_;exact⟨.inr ⟨hN (by simpa using h),rfl⟩,rfl⟩)|exact bf (r:=.aj [.agg (cr aR),.bool false]) (h':=[]) [] (.inr rfl) rfl rfl trivial trivial .y ⟨.inr ⟨hN,rfl⟩,rfl⟩
section
attribute [local instance] uA
theorem aij (x:List UInt8) (hx:x.length<=4194304):aq prog 11 [.str x] (.aj [.agg (aga ((agc x).getD afU)),.bool (agc x).isSome]):=by
 cases h:agc x with
 |none=>exact ah3 iN x hx (fun ⟨s,hs⟩=>ago h s hs)
 |some s=>exact ah2 iN x hx s (agh h)
theorem aic (x:List UInt8) (hx:x.length<=4194304):aq prog 20 [.str x] (.aj [.agg (cr ((agd x).getD aR)),.bool (agd x).isSome]):=by
 refine(PK x hx).yS ?_
 rintro r h' ⟨⟨a',h1,rfl⟩|⟨h1,rfl⟩,rfl⟩<;>cases h:agd x with
 |none=>first|exact absurd h1 (ago h a')|exact⟨rfl,rfl⟩
 |some s=>
  have ha:fE x s:=agh h
  first
  |(have e:=Bn ha
    rw[Bn h1] at e
    injection e with e
    injection e with e _
    subst e
    exact⟨rfl,rfl⟩)
  |exact absurd ha (h1 s)
def aio (t:List UInt8) (a:Nat×Nat×Nat×sW×List bK):S:=match a.2.2.2.2 with
 |[]=>⟨[(0,.str t),(2,.ptr 0 0),(5,.ptr 1 0),(6,.int .i64 (a.2.1:Int)),(7,.int .i64 (a.2.2.1:Int)),(8,.int .i64 (a.1:Int))],[.cells 69 ags,.cells 69 (agt a.2.2.2.1 .nils)]⟩
 |y::k=>⟨[(0,.str t),(2,.ptr 0 0),(5,.ptr 1 0),(6,.int .i64 (a.2.1:Int)),(7,.int .i64 (a.2.2.1:Int)),(8,.int .i64 (a.1:Int))],[.cells 69 ags,.cells 69 (agt a.2.2.2.1 (.row 2)),.row 61 40 ((y::k).map cr)]⟩
theorem aid (t:List UInt8) (ht:t.length<=4194304):aq prog 24 [.str t] (agQ (scan t [] 0 afU [])):=by
 refine ak 80 [] func24 ?_
 repeat' (conv=>arg 2;whnf);first|refine aY ?_|refine aV ?_ ?_
 conv=>arg 2;whnf
 refine bE (α:=Nat×Nat×Nat×sW×List bK) (aio t) (fun a=>scan t [] 0 afU []=scan (t.drop a.1) ((t.drop a.2.1).take (a.1-a.2.1)) a.2.2.1 a.2.2.2.1 a.2.2.2.2/\a.2.1<=a.1/\a.1<=t.length/\a.2.2.2.2.length<=4096/\(a.2.2.1=0->a.2.2.2.2=[])/\a.2.2.1<=a.1) (fun a=>t.length-a.1) (0,0,0,afU,[]) ⟨by simp,Nat.le_refl _,Nat.zero_le _,Nat.zero_le _,fun _=>rfl,Nat.le_refl _⟩ (Sv.aK [0,1]) ?_
 rintro⟨i,f,n,s,l⟩ ⟨hE,hf,hi,hl,hz,hn⟩
 replace hE:scan t [] 0 afU []=scan (t.drop i) ((t.drop f).take (i-f)) n s l:=hE
 replace hf:f<=i:=hf
 replace hi:i<=t.length:=hi
 replace hl:l.length<=4096:=hl
 replace hz:n=0->l=[]:=hz
 replace hn:n<=i:=hn
 rw[hE]
 by_cases hlt:i<t.length
 ·have hd:t.drop i=t[i]::t.drop (i+1):=List.drop_eq_getElem_cons hlt
  have hc:t[((i:Int)).toNat]?=some t[i]:=List.getElem?_eq_getElem hlt
  have Hh:(i:Int)<(t.length:Int):=by omega
  rw[hd]
  have nC:((t.drop f).take (i-f)).length<=4194304:=by simp;omega
  have hp:=aij _ nC
  have hq:=aic _ nC
  obtain⟨x,hx⟩:∃x,x=(t.drop f).take (i-f):=⟨_,rfl⟩
  obtain⟨c,LM⟩:∃c,c=t[i]:=⟨_,rfl⟩
  rw[<-LM] at hc ⊢
  by_cases kN:c=10
  ·subst kN
   rw[<-hx] at hp hq ⊢
   rw[scan,if_pos rfl]
   by_cases Tc:n=0
   ·subst Tc
    obtain rfl:=hz rfl
    rw[if_pos rfl]
    cases ji:agc x with
    |none=>
     rw[ji,hx] at hp
     repeat' (conv=>arg 2;whnf);first|refine bZ (by(try dsimp only);omega) ?_|refine dK 10 (Int.natCast_nonneg _) hc ?_|refine aT ⟨Int.natCast_nonneg _,Int.ofNat_le.2 hf,Int.ofNat_le.2 hi⟩ ?_|refine okF hp ?_|refine eG ?_|exact zY9|(refine bY ?_ ?_;focus (simp[Hh];done))
    |some s'=>
     rw[ji,hx] at hp
     repeat' (conv=>arg 2;whnf);first|refine bZ (by(try dsimp only);omega) ?_|refine dK 10 (Int.natCast_nonneg _) hc ?_|refine aT ⟨Int.natCast_nonneg _,Int.ofNat_le.2 hf,Int.ofNat_le.2 hi⟩ ?_|refine okF hp ?_|exact aZ (i+1,i+1,1,s',[]) (Sv.aK [0,1]) ⟨by show scan _ _ 1 s' []=scan _ (List.take (i+1-(i+1)) _) 1 s' [];rw[Nat.sub_self,List.take_zero],Nat.le_refl _,hlt,Nat.zero_le _,(fun h=>by cases h),by show 1<=i+1;omega⟩ (by show t.length-(i+1)<t.length-i;omega)|(refine bY ?_ ?_;focus (simp[Hh];done))
   ·rw[if_neg Tc]
    have jr:¬((n:Int)+1=1):=by omega
    by_cases h4:4096<=l.length
    ·rw[if_pos h4]
     cases l with
     |nil=>cases h4
     |cons y k=>
      have gR:4096<=(k.length:Int)+1:=by simp at h4;omega
      repeat' (conv=>arg 2;whnf);first|refine bZ (by(try dsimp only);omega) ?_|refine dK 10 (Int.natCast_nonneg _) hc ?_|refine aT ⟨Int.natCast_nonneg _,Int.ofNat_le.2 hf,Int.ofNat_le.2 hi⟩ ?_|refine eG ?_|exact zY9|(refine bY ?_ ?_;focus (simp[Hh,jr,gR];done))|(refine bB ?_ ?_;focus (simp[jr];done))
    ·rw[if_neg h4]
     cases ji:agd x with
     |none=>
      rw[ji,hx] at hq
      cases l with
      |nil=>
       repeat' (conv=>arg 2;whnf);first|refine bZ (by(try dsimp only);omega) ?_|refine dK 10 (Int.natCast_nonneg _) hc ?_|refine aT ⟨Int.natCast_nonneg _,Int.ofNat_le.2 hf,Int.ofNat_le.2 hi⟩ ?_|refine okF hq ?_|refine aT (by constructor<;>(simp only[List.length_cons,List.length_nil,maxLen] at hl ⊢;omega)) ?_|refine eG ?_|exact zY9|(refine bY ?_ ?_;focus (simp[Hh,jr];done))|(refine bB ?_ ?_;focus (simp[jr];done))
      |cons y k=>
       have gR:(k.length:Int)+1<4096:=by simp at h4;omega
       repeat' (conv=>arg 2;whnf);first|refine bZ (by(try dsimp only);omega) ?_|refine dK 10 (Int.natCast_nonneg _) hc ?_|refine aT ⟨Int.natCast_nonneg _,Int.ofNat_le.2 hf,Int.ofNat_le.2 hi⟩ ?_|refine okF hq ?_|refine aT (by constructor<;>(simp only[List.length_cons,List.length_nil,List.length_map,maxLen] at hl ⊢;omega)) ?_|refine eG ?_|exact zY9|(refine bY ?_ ?_;focus (simp[Hh,jr];done))|(refine bB ?_ ?_;focus (simp[jr,gR];done))
     |some a=>
      rw[ji,hx] at hq
      cases l with
      |nil=>
       repeat' (conv=>arg 2;whnf);first|refine bZ (by(try dsimp only);omega) ?_|refine dK 10 (Int.natCast_nonneg _) hc ?_|refine aT ⟨Int.natCast_nonneg _,Int.ofNat_le.2 hf,Int.ofNat_le.2 hi⟩ ?_|refine okF hq ?_|refine aT (by constructor<;>(simp only[List.length_cons,List.length_nil,maxLen] at hl ⊢;omega)) ?_|exact aZ (i+1,i+1,n+1,s,[a]) (Sv.aK [0,1,3]) ⟨by show scan _ _ (n+1) s _=scan _ (List.take (i+1-(i+1)) _) (n+1) s _;rw[Nat.sub_self,List.take_zero];rfl,Nat.le_refl _,hlt,by simp,(fun h=>by cases h),by show n+1<=i+1;omega⟩ (by show t.length-(i+1)<t.length-i;omega)|(refine bY ?_ ?_;focus (simp[Hh,jr];done))|(refine bB ?_ ?_;focus (simp[jr];done))
      |cons y k=>
       have gR:(k.length:Int)+1<4096:=by simp at h4;omega
       repeat' (conv=>arg 2;whnf);first|refine bZ (by(try dsimp only);omega) ?_|refine dK 10 (Int.natCast_nonneg _) hc ?_|refine aT ⟨Int.natCast_nonneg _,Int.ofNat_le.2 hf,Int.ofNat_le.2 hi⟩ ?_|refine okF hq ?_|refine aT (by constructor<;>(simp only[List.length_cons,List.length_nil,List.length_map,maxLen] at hl ⊢;omega)) ?_|exact aZ (i+1,i+1,n+1,s,(y::k)++[a]) (Sv.mk' [0,1,4] rfl ⟨⟨rfl,rfl⟩,⟨rfl,rfl⟩,⟨rfl,by simp;rfl⟩,trivial⟩ ⟨rfl,rfl,rfl,rfl,rfl,rfl,trivial⟩) ⟨by show scan _ _ (n+1) s _=scan _ (List.take (i+1-(i+1)) _) (n+1) s _;rw[Nat.sub_self,List.take_zero],Nat.le_refl _,hlt,by simp at h4 ⊢;omega,(fun h=>by cases h),by show n+1<=i+1;omega⟩ (by show t.length-(i+1)<t.length-i;omega)|(refine bY ?_ ?_;focus (simp[Hh,jr];done))|(refine bB ?_ ?_;focus (simp[jr,gR];done))
  ·have cu:((c.toNat:Int)!=10)=true:=by
    simp only[bne_iff_ne,ne_eq]
    intro h
    exact kN (UInt8.toNat_inj.1 (by have:(10:UInt8).toNat=10:=rfl;omega))
   have hS:scan (c::t.drop (i+1)) ((t.drop f).take (i-f)) n s l=scan (t.drop (i+1)) ((t.drop f).take (i+1-f)) n s l:=by
    rw[scan,if_neg kN]
    congr 1
    rw[show i+1-f=(i-f)+1 by omega,List.take_add_one,List.getElem?_drop,show f+(i-f)=i by omega,List.getElem?_eq_getElem hlt,LM]
    rfl
   rw[hS]
   cases l with
   |nil=>
    repeat' (conv=>arg 2;whnf);first|refine bZ (by(try dsimp only);omega) ?_|refine dK c (Int.natCast_nonneg _) hc ?_|refine bY cu ?_|exact aZ (i+1,f,n,s,[]) (Sv.aK [0,1]) ⟨rfl,by show f<=i+1;omega,hlt,hl,hz,by show n<=i+1;omega⟩ (by show t.length-(i+1)<t.length-i;omega)|(refine bY ?_ ?_;focus (simp[Hh];done))
   |cons y k=>
    repeat' (conv=>arg 2;whnf);first|refine bZ (by(try dsimp only);omega) ?_|refine dK c (Int.natCast_nonneg _) hc ?_|refine bY cu ?_|exact aZ (i+1,f,n,s,y::k) (Sv.aK [0,1,2]) ⟨rfl,by show f<=i+1;omega,hlt,hl,hz,by show n<=i+1;omega⟩ (by show t.length-(i+1)<t.length-i;omega)|(refine bY ?_ ?_;focus (simp[Hh];done))
 ·have xQ:i=t.length:=by omega
  subst xQ
  rw[List.drop_length,scan]
  have Hh:¬((t.length:Int)<(t.length:Int)):=by omega
  by_cases hk:(t.drop f).take (t.length-f)≠[]\/n=0
  ·rw[if_pos hk]
   have dc:(f<t.length)\/((t.length<=f)/\n=0):=by
    by_cases h:f<t.length
    ·exact .inl h
    ·refine .inr ⟨by omega,hk.resolve_left (fun e=>e ?_)⟩
     rw[show t.length-f=0 by omega,List.take_zero]
   cases l with
   |nil=>
    rw[if_neg (by simp)]
    rcases dc with h1|⟨h1,rfl⟩
    ·have fW:(f:Int)<(t.length:Int):=by omega
     repeat' (conv=>arg 2;whnf);first|refine bZ (by(try dsimp only);omega) ?_|refine bq ?_|exact zY9|(refine bB ?_ ?_;focus (simp[Hh,fW];done))
    ·have fW:¬((f:Int)<(t.length:Int)):=by omega
     repeat' (conv=>arg 2;whnf);first|refine bZ (by(try dsimp only);omega) ?_|refine bq ?_|exact zY9|(refine bY ?_ ?_;focus (simp[Hh,fW];done))|(refine bB ?_ ?_;focus (simp[Hh];done))
   |cons y k=>
    have Tc:n≠0:=fun e=>by cases hz e
    have fW:(f:Int)<(t.length:Int):=by rcases dc with h|h<;>omega
    by_cases h4:4096<=(y::k).length
    ·rw[if_pos h4]
     have gR:4096<=(k.length:Int)+1:=by simp at h4;omega
     repeat' (conv=>arg 2;whnf);first|refine bZ (by(try dsimp only);omega) ?_|refine bq ?_|exact zY9|(refine bY ?_ ?_;focus (simp[Hh,fW,gR];done))|(refine bB ?_ ?_;focus (simp[Hh,fW];done))
    ·rw[if_neg h4]
     have gR:(k.length:Int)+1<4096:=by simp at h4;omega
     repeat' (conv=>arg 2;whnf);first|refine bZ (by(try dsimp only);omega) ?_|refine bq ?_|exact zY9|(refine bB ?_ ?_;focus (simp[Hh,fW,gR];done))
  ·rw[if_neg hk]
   have Tc:n≠0:=fun e=>hk (.inr e)
   have hf':f=t.length:=by
    by_cases h:f=t.length
    ·exact h
    ·refine absurd (.inl fun e=>?_) hk
     have:=congrArg List.length e
     simp at this
     omega
   have fW:¬((f:Int)<(t.length:Int)):=by omega
   have jr:¬((n:Int)=0):=by omega
   cases l with
   |nil=>
    repeat' (conv=>arg 2;whnf);first|refine bq ?_|exact zY9|(refine bY ?_ ?_;focus (simp[Hh,fW,Tc];done))|(refine bB ?_ ?_;focus (simp[Hh,Tc];done))
   |cons y k=>
    repeat' (conv=>arg 2;whnf);first|refine bq ?_|exact mE [2] (.inr rfl) rfl (.refl _) rfl|(refine bY ?_ ?_;focus (simp[Hh,fW,Tc];done))|(refine bB ?_ ?_;focus (simp[Hh,Tc];done))
end
section
theorem agM:afW.ok afU:=agk (by decide) (by decide) (by decide) (by decide) (by decide)
theorem agq (n e:Int):(∀x∈(afY n e).1.2,gh.ok x)/\(afY n e).1.2.length<=4096/\afW.ok (afY n e).1.1:=⟨fun x hx=>(List.not_mem_nil hx).elim,Nat.zero_le _,agM⟩
theorem agp:∀(t cur:List UInt8) (n:Nat) (s:sW) (l:List bK),(∀x∈l,gh.ok x)->l.length<=4096->afW.ok s->(∀x∈(scan t cur n s l).1.2,gh.ok x)/\(scan t cur n s l).1.2.length<=4096/\afW.ok (scan t cur n s l).1.1
 |[],cur,n,s,l,h,hl,hs=>by
  rw[scan]
  repeat' split
  all_goals first|exact agq _ _|exact⟨h,hl,hs⟩
 |c::r,cur,n,s,l,h,hl,hs=>by
  rw[scan]
  split
  ·split
   ·split
    ·exact agq _ _
    ·rename_i s1 h1
     exact agp r _ _ _ l h hl (agh h1).1
   ·split
    ·exact agq _ _
    ·split
     ·exact agq _ _
     ·rename_i h4 _ a ha
      refine agp r _ _ _ _ (fun x hx=>?_) (by simp;omega) hs
      rcases List.mem_append.1 hx with hx|hx
      ·exact h x hx
      ·rw[List.mem_singleton.1 hx]
       exact(agh ha).1
  ·exact agp r _ _ _ l h hl hs
attribute [local instance] uA
theorem ah4 (l:List bK) (h:∀x∈l,gh.ok x) (hl:l.length<=4194304):aq prog 56 [.list 40 (l.map cr),.list 40 (l.map cr)] (.bool true):=by
 refine ak 27 [] func56 ?_
 repeat' (conv=>arg 2;whnf);first|(refine bB ?_ ?_;focus (simp;done))
 conv=>arg 2;whnf
 refine bE (α:=Nat) (fun q=>⟨[(0,.list 40 (l.map cr)),(1,.list 40 (l.map cr)),(5,.int .i64 (q:Int))],[]⟩) (fun q=>q<=l.length) (fun q=>l.length-q) 0 (Nat.zero_le _) (Sv.aK []) ?_
 intro q hq
 by_cases hlt:q<l.length
 ·have hx:=List.getElem?_eq_getElem hlt
  have fN:=h _ (List.mem_of_getElem? hx)
  have Lp:=Kq l[q] l[q] fN fN
  rw[show cx l[q] l[q]=true by simp[cx]] at Lp
  have Hh:(q:Int)<(l.length:Int):=by omega
  repeat' (conv=>arg 2;whnf);first|refine bZ (by(try dsimp only);omega) ?_|refine eT (cr l[q]) (Int.natCast_nonneg _) (by show(l.map cr)[((q:Nat):Int).toNat]?=_;rw[List.getElem?_map,show((q:Nat):Int).toNat=q from rfl,hx];rfl) ?_|refine okF Lp ?_|exact aZ (q+1) (Sv.aK []) (by show q+1<=_;omega) (by show l.length-(q+1)<l.length-q;omega)|(refine bY ?_ ?_;focus (simp[Hh];done))
 ·have Hh:¬(q:Int)<(l.length:Int):=by omega
  repeat' (conv=>arg 2;whnf);first|refine bq ?_|exact cg|(refine bB ?_ ?_;focus (simp[Hh];done))
theorem aik (s:qw) (h:∀x∈s.kA,gh.ok x) (hl:s.kA.length<=4194304):aq prog 25 [.agg (agA s),.agg (agA s)] (.bool true):=by
 have hs:=ah4 s.kA h hl
 refine ak 17 [] func25 ?_
 repeat' (conv=>arg 2;whnf);first|refine okF hs ?_|(refine cL ?_;simp;done)|(refine bY ?_ ?_;focus (simp;done))
end
section
attribute [local instance] uA
theorem aie (t:List UInt8) (ht:t.length<=4194304):aq prog 5 [.str t] (.bool true):=by
 have k1:=aii t (by omega) (agy t 0 ht)
 have k2:=aid t ht
 obtain⟨o1,o2,_⟩:=agp t [] 0 afU [] (fun x hx=>(List.not_mem_nil hx).elim) (Nat.zero_le _) agM
 generalize scan t [] 0 afU []=R at k1 k2 o1 o2
 have k3:=aik ⟨R.1.1,R.1.2⟩ o1 (Nat.le_trans o2 (by decide))
 refine ak 36 [] func5 ?_
 repeat' (conv=>arg 2;whnf);first|refine okF acV ?_|refine okF k1 ?_|refine okF k2 ?_|refine okF k3 ?_|(refine cL ?_;simp;done)|(refine bY ?_ ?_;focus (simp;done))
end
end Go.Proofs.YtafomdobfmmleaaGreatDoor
