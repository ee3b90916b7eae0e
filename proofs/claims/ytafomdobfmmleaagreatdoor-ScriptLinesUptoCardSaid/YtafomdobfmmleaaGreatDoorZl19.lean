/- Lemmas and contracts, part 19. -/
import Derived.Test.YtafomdobfmmleaaGreatDoorZl18
import Derived.Lib.SplitLaws
import Derived.Lib.AtoiAll
namespace Go.Proofs.YtafomdobfmmleaaGreatDoor
set_option linter.unusedVariables false
open Go.RowKit
open Go.Proofs.Tryz
set_option maxRecDepth 20000
set_option maxHeartbeats 20000000
theorem Pu:∀s:List UInt8,Lib.splitK [32] 0 (Lib.count s [32]) s=fc s
 |[]=>by
  rw[Lib.count_miss (by simp[Lib.index])]
  rfl
 |b::l=>by
  have ih:=Pu l
  by_cases hb:b=32
  ·subst hb
   rw[Lib.count_cons_eq,Nat.add_comm 1]
   have uh:Lib.index (32::l) [32]=((0:Nat):Int):=by rw[Lib.index];simp[List.isPrefixOf]
   unfold Lib.splitK
   rw[if_neg (by rw[uh];decide),uh]
   simp only[Int.toNat_natCast,Nat.zero_add,List.take_zero,List.length_cons,List.length_nil,List.drop_succ_cons,List.drop_zero,Nat.add_zero]
   rw[ih]
   simp[fc]
  ·rw[Lib.count_cons_ne b 32 l hb]
   have hp:([32]:List UInt8).isPrefixOf (b::l)=false:=by simp[List.isPrefixOf,Ne.symm hb]
   have uh:Lib.index (b::l) [32]=if Lib.index l [32]==-1 then-1 else Lib.index l [32]+1:=by rw[Lib.index,hp];simp
   have hs:fc (b::l)=match fc l with|[]=>[[b]]|w::ws=>(b::w)::ws:=by rw[fc,if_neg hb];rfl
   rw[hs,<-ih]
   have dm:=Lib.index_ge l [32]
   by_cases hm:Lib.index l [32]=-1
   ·rw[Lib.count_miss hm]
    rfl
   ·obtain⟨j,hj⟩:∃j:Nat,Lib.index l [32]=j:=⟨(Lib.index l [32]).toNat,by omega⟩
    have Sz:Lib.index (b::l) [32]=((j+1:Nat):Int):=by rw[uh,if_neg (fun e=>hm (beq_iff_eq.1 e)),hj];omega
    rw[Lib.count_hit (by simp) hj,Nat.add_comm 1]
    unfold Lib.splitK
    rw[if_neg (by rw[Sz];intro e;have:=beq_iff_eq.1 e;omega),if_neg (by rw[hj];intro e;have:=beq_iff_eq.1 e;omega),Sz,hj]
    simp only[Int.toNat_natCast,Nat.add_zero,List.length_cons,List.length_nil,Nat.zero_add]
    rw[show j+1+1=(j+1)+1 from rfl,List.take_succ_cons,List.drop_succ_cons]
theorem Np:∀(l:List UInt8) (acc v:Nat) (c:UInt8),Lib.parseUint10 acc l=.ok v->48<=c.toNat/\c.toNat<=57->v*10+(c.toNat-48)<18446744073709551616->Lib.parseUint10 acc (l++[c])=.ok (v*10+(c.toNat-48))
 |[],acc,v,c,h,hc,hv=>by
  simp only[Lib.parseUint10] at h
  injection h with h
  subst h
  simp only[List.nil_append,Lib.parseUint10]
  rw[if_pos hc,if_neg (by omega),if_neg (by omega)]
 |d::l,acc,v,c,h,hc,hv=>by
  simp only[Lib.parseUint10] at h
  simp only[List.cons_append,Lib.parseUint10]
  split at h
  ·rename_i hd
   rw[if_pos hd]
   split at h
   ·cases h
   ·rename_i h1
    rw[if_neg h1]
    split at h
    ·cases h
    ·rename_i h2
     rw[if_neg h2]
     exact Np l _ v c h hc hv
  ·cases h
theorem Ff {d:Nat} (h:d<10):(UInt8.ofNat (48+d)).toNat=48+d:=by
 rw[UInt8.toNat_ofNat',Nat.mod_eq_of_lt (by omega)]
theorem Nw (u:Nat) (hu:u<18446744073709551616):Lib.parseUint10 0 (Lib.decDigits u)=.ok u:=by
 induction u using Nat.strongRecOn with
 |_ u ih=>
  by_cases h:u<10
  ·rw[Lib.decDigits,dif_pos h]
   simp only[Lib.parseUint10]
   rw[Ff h,if_pos (by omega),if_neg (by omega),if_neg (by omega)]
   congr 1;omega
  ·rw[Lib.decDigits,dif_neg h,Np _ 0 (u/10) _ (ih (u/10) (by omega) (by omega)) (by rw[Ff (by omega)];omega) (by rw[Ff (by omega)];omega),Ff (by omega)]
   congr 1;omega
theorem I8 (u:Nat):Lib.decDigits u≠[]:=by
 rw[Lib.decDigits]
 split<;>simp
theorem OB (n:Int) (h0:-9223372036854775808<=n) (h1:n<=9223372036854775807):Lib.atoiAll (Lib.itoa n)=.ok n:=by
 by_cases hn:n<0
 ·rw[Lib.itoa,if_pos hn]
  simp only[Lib.atoiAll]
  have h45:(45:UInt8).toNat=45:=rfl
  rw[h45,if_pos (.inr rfl),Lib.parseMag,if_neg (I8 _),Nw _ (by omega)]
  have e1:¬(9223372036854775808<n.natAbs):=by omega
  have e2:-(n.natAbs:Int)=n:=by omega
  simp[e1,e2]
 ·rw[Lib.itoa,if_neg hn]
  have hr:=CP n.toNat
  have hp:=Nw n.toNat (by omega)
  have cu:=I8 n.toNat
  revert hr hp cu
  generalize Lib.decDigits n.toNat=l
  intro hr hp cu
  match l,cu with
  |c::r,cu=>
   have hc:=hr c (by simp)
   simp only[Lib.atoiAll]
   rw[if_neg (by omega),Lib.parseMag,if_neg cu,hp]
   simp only
   rw[if_neg (by omega),if_neg (by omega),if_neg (by omega)]
   congr 1;omega
def wk (s:List UInt8):D:=match Lib.atoiAll s with
 |.ok v=>.aj [.int .i64 v,.gj true]
 |.range=>.aj [.int .i64 (Lib.atoiSat s),.gj false]
 |_=>.aj [.int .i64 0,.gj false]
theorem OC (s:List UInt8):fc s≠[]:=by
 cases s with
 |nil=>simp[fc]
 |cons b l=>
  unfold fc
  split
  ·simp
  ·split<;>simp
theorem IL (s:List UInt8):(fc s).length<=s.length+1:=by
 induction s with
 |nil=>simp[fc]
 |cons b l ih=>
  unfold fc
  split
  ·simp;omega
  ·split
   ·simp
   ·rename_i w ws e
    rw[e] at ih
    simpa using Nat.le_succ_of_le ih
theorem VM (s:List UInt8):∀w∈fc s,w.length<=s.length:=by
 induction s with
 |nil=>simp[fc]
 |cons b l ih=>
  unfold fc
  split
  ·intro w hw
   rcases List.mem_cons.1 hw with rfl|hw
   ·simp
   ·have:=ih w hw
    simp;omega
  ·split
   ·intro w hw
    simp only[List.mem_singleton] at hw
    subst hw
    simp
   ·rename_i w ws e
    rw[e] at ih
    intro x hx
    rcases List.mem_cons.1 hx with rfl|hx
    ·have:=ih w (by simp)
     simpa using this
    ·have:=ih x (by simp[hx])
     simp;omega
theorem vV [Wd]:aq prog 155 [] (.agg (bL cq)):=by
 refine ak 2 [] func155 ?_
 repeat' (conv=>arg 2;whnf);first|refine cg
theorem Vv [Wd] (m:aD) (hm:bh.ok {m with sign:=cq}) (hk:(m.kind==7)=false) (hs:bW m.kind=true) (h0:eC {m with sign:=cq}=0) (cm:bP {m with sign:=cq}=0) (hl:(aO {m with sign:=cq}).length+800000000<=aL) (hb:¬262144<(aO {m with sign:=cq}++cG cq).length):aq prog 109 [.agg (aC m)] (.aj [.list 1 ((aO {m with sign:=cq}).map af),.int .i64 0]):=by
 refine ak 51 [] func109 ?_
 repeat' (conv=>arg 2;whnf);first|apply an<;>intro h|refine okF vV ?_|refine okF (iZ _) ?_|refine okF (YV {m with sign:=cq} hm hk hs h0 cm hl hb) ?_|refine cV [1] (xj {m with sign:=cq} hm cm (by omega)) ?_|refine cg|(exfalso;simp_all;done)
theorem U4 [Wd] (m:aD) (hm:bh.ok {m with sign:=cq}) (hk:(m.kind==7)=false) (hs:bW m.kind=true) (h0:eC {m with sign:=cq}=0) (cm:bP {m with sign:=cq}=0) (hl:(aO {m with sign:=cq}).length+800000000<=aL) (hb:262144<(aO {m with sign:=cq}++cG cq).length):aq prog 109 [.agg (aC m)] (.aj [.nils,.int .i64 3]):=by
 refine ak 51 [] func109 ?_
 repeat' (conv=>arg 2;whnf);first|apply an<;>intro h|refine okF vV ?_|refine okF (iZ _) ?_|refine okF (Xi {m with sign:=cq} hm hk hs h0 cm hl hb) ?_|refine cg|(exfalso;simp_all;done)
theorem UO [Wd] (m:aD) (hm:bh.ok {m with sign:=cq}) (hk:(m.kind==7)=false) (hs:bW m.kind=true) (h0:¬eC {m with sign:=cq}=0):aq prog 109 [.agg (aC m)] (.aj [.nils,.int .i64 (eC {m with sign:=cq})]):=by
 refine ak 51 [] func109 ?_
 repeat' (conv=>arg 2;whnf);first|apply an<;>intro h|refine okF vV ?_|refine okF (iZ _) ?_|refine okF (E9 {m with sign:=cq} hm h0) ?_|refine cg|(exfalso;simp_all;done)
theorem Vw [Wd] (m:aD) (hm:bh.ok m) (hk:(m.kind==7)=false) (hs:bW m.kind=false) (h0:eC m=0) (cm:bP m=0) (hl:(aO m).length+800000000<=aL) (hb:¬262144<(aO m).length):aq prog 109 [.agg (aC m)] (.aj [.list 1 ((aO m).map af),.int .i64 0]):=by
 refine ak 51 [] func109 ?_
 repeat' (conv=>arg 2;whnf);first|apply an<;>intro h|refine okF vV ?_|refine okF (iZ _) ?_|refine okF (YW m hm hk hs h0 cm hl hb) ?_|refine cV [1] (xj m hm cm (by omega)) ?_|refine cg|(exfalso;simp_all;done)
theorem U5 [Wd] (m:aD) (hm:bh.ok m) (hk:(m.kind==7)=false) (hs:bW m.kind=false) (h0:eC m=0) (cm:bP m=0) (hl:(aO m).length+800000000<=aL) (hb:262144<(aO m).length):aq prog 109 [.agg (aC m)] (.aj [.nils,.int .i64 3]):=by
 refine ak 51 [] func109 ?_
 repeat' (conv=>arg 2;whnf);first|apply an<;>intro h|refine okF vV ?_|refine okF (iZ _) ?_|refine okF (Xj m hm hk hs h0 cm hl hb) ?_|refine cg|(exfalso;simp_all;done)
theorem UP [Wd] (m:aD) (hm:bh.ok m) (hk:(m.kind==7)=false) (hs:bW m.kind=false) (h0:¬eC m=0):aq prog 109 [.agg (aC m)] (.aj [.nils,.int .i64 (eC m)]):=by
 refine ak 51 [] func109 ?_
 repeat' (conv=>arg 2;whnf);first|apply an<;>intro h|refine okF vV ?_|refine okF (iZ _) ?_|refine okF (E9 m hm h0) ?_|refine cg|(exfalso;simp_all;done)
theorem Vx [Wd] (m:aD) (c:cX) (hm:bh.ok {m with changes:=[{c with sign:=cq}]}) (hk:(m.kind==7)=true) (hc:m.changes=[c]) (h0:eC {m with changes:=[{c with sign:=cq}]}=0) (cm:bP {m with changes:=[{c with sign:=cq}]}=0) (hl:(aO {m with changes:=[{c with sign:=cq}]}).length+800000000<=aL) (hb:¬262144<(aO {m with changes:=[{c with sign:=cq}]}++cG cq).length):aq prog 109 [.agg (aC m)] (.aj [.list 1 ((aO {m with changes:=[{c with sign:=cq}]}).map af),.int .i64 0]):=by
 refine ak 51 [] func109 ?_
 repeat' (conv=>arg 2;whnf);first|apply an<;>intro h|refine eT (bU c) (by decide) (by simp[hc]) ?_|refine okF vV ?_|refine okF (iZ _) ?_|refine okF (YU {m with changes:=[{c with sign:=cq}]} hm (c:={c with sign:=cq}) rfl hk h0 cm hl hb) ?_|refine cV [2] (xj {m with changes:=[{c with sign:=cq}]} hm cm (by omega)) ?_|refine cg|(exfalso;simp_all;done)
theorem U6 [Wd] (m:aD) (c:cX) (hm:bh.ok {m with changes:=[{c with sign:=cq}]}) (hk:(m.kind==7)=true) (hc:m.changes=[c]) (h0:eC {m with changes:=[{c with sign:=cq}]}=0) (cm:bP {m with changes:=[{c with sign:=cq}]}=0) (hl:(aO {m with changes:=[{c with sign:=cq}]}).length+800000000<=aL) (hb:262144<(aO {m with changes:=[{c with sign:=cq}]}++cG cq).length):aq prog 109 [.agg (aC m)] (.aj [.nils,.int .i64 3]):=by
 refine ak 51 [] func109 ?_
 repeat' (conv=>arg 2;whnf);first|apply an<;>intro h|refine eT (bU c) (by decide) (by simp[hc]) ?_|refine okF vV ?_|refine okF (iZ _) ?_|refine okF (Xh {m with changes:=[{c with sign:=cq}]} hm (c:={c with sign:=cq}) rfl hk h0 cm hl hb) ?_|refine cg|(exfalso;simp_all;done)
theorem UQ [Wd] (m:aD) (c:cX) (hm:bh.ok {m with changes:=[{c with sign:=cq}]}) (hk:(m.kind==7)=true) (hc:m.changes=[c]) (h0:¬eC {m with changes:=[{c with sign:=cq}]}=0):aq prog 109 [.agg (aC m)] (.aj [.nils,.int .i64 (eC {m with changes:=[{c with sign:=cq}]})]):=by
 refine ak 51 [] func109 ?_
 repeat' (conv=>arg 2;whnf);first|apply an<;>intro h|refine eT (bU c) (by decide) (by simp[hc]) ?_|refine okF vV ?_|refine okF (iZ _) ?_|refine okF (E9 {m with changes:=[{c with sign:=cq}]} hm h0) ?_|refine cg|(exfalso;simp_all;done)
theorem O9:iO.ok cq:=by
 simp[iO,dM,dP,dI,cq]
theorem ym (m:aD):bh.ok m=(dI.ok m.kind/\dI.ok m.src/\dI.ok m.view/\dI.ok m.seq/\dI.ok m.ah/\dI.ok m.bD/\dI.ok m.time/\mZ.ok m.result/\(dL fX).ok m.batch/\je.ok m.cert/\(dL fP).ok m.changes/\(dL jx).ok m.entries/\dY.ok m.state/\dS.ok m.av/\dI.ok m.offset/\jY.ok m.proof/\iO.ok m.sign):=rfl
theorem Ba (c:cX):fP.ok c=(dI.ok c.view/\dI.ok c.src/\je.ok c.cert/\(dL oC).ok c.cD/\iO.ok c.sign):=rfl
theorem JW {m:aD} (hm:bh.ok m):bh.ok {m with sign:=cq}:=by
 rw[ym] at hm ⊢
 obtain⟨h1,h2,h3,h4,h5,h6,h7,h8,h9,kN,iG,rR,rS,tT,tU,nW,tV⟩:=hm
 exact⟨h1,h2,h3,h4,h5,h6,h7,h8,h9,kN,iG,rR,rS,tT,tU,nW,O9⟩
theorem Kp {m:aD} (hm:bh.ok m) {c:cX} (hc:m.changes=[c]):bh.ok {m with changes:=[{c with sign:=cq}]}:=by
 rw[ym] at hm ⊢
 obtain⟨h1,h2,h3,h4,h5,h6,h7,h8,h9,kN,iG,rR,rS,tT,tU,nW,tV⟩:=hm
 have h:=iG.2 c (by rw[hc];simp)
 rw[Ba] at h
 obtain⟨c1,c2,c3,c4,c5⟩:=h
 refine⟨h1,h2,h3,h4,h5,h6,h7,h8,h9,kN,⟨by simp,fun x hx=>?_⟩,rR,rS,tT,tU,nW,tV⟩
 simp only[List.mem_singleton] at hx
 subst hx
 rw[Ba]
 exact⟨c1,c2,c3,c4,O9⟩
theorem U7 [Wd] (m:aD) (hm:bh.ok m) (hk:(m.kind==7)=true) (hc:((m.changes.length:Int)==1)=false) (hs:bW m.kind=false) (h0:¬eC m=0):aq prog 109 [.agg (aC m)] (.aj [.nils,.int .i64 (eC m)]):=by
 refine ak 51 [] func109 ?_
 repeat' (conv=>arg 2;whnf);first|apply an<;>intro h|refine okF vV ?_|refine okF (iZ _) ?_|refine okF (E9 m hm h0) ?_|refine cg|(exfalso;simp_all;done)
noncomputable def uR (m:aD):D:=if ig (eu m)=0 then .aj [.list 1 ((aO m).map af),.int .i64 0] else .aj [.nils,.int .i64 (ig (eu m))]
theorem IA [Wd] (m:aD) (hm:bh.ok m):aq prog 109 [.agg (aC m)] (uR m):=by
 have hL:eC (eu m)=0->bP (eu m)=0/\(aO m).length+800000000<=aL:=fun h=>by
  have hk:=nG (oA h)
  refine⟨hk,?_⟩
  have:=so hk
  rw[wM] at this
  unfold aL;omega
 have hU:=wM m
 unfold uR ig
 cases h7:m.kind==7 with
 |false=>
  have k7:¬m.kind=7:=by simpa using h7
  cases hs:bW m.kind with
  |true=>
   have ew:eu m={m with sign:=cq}:=by unfold eu;rw[if_neg (fun h=>k7 h.1),if_pos hs]
   have ef:kg {m with sign:=cq}=aO {m with sign:=cq}++cG cq:=by
    unfold kg
    simp only
    rw[if_neg k7,if_pos hs]
   have hw:=JW hm
   rw[ew] at hL hU
   rw[ew,ef]
   by_cases h0:eC {m with sign:=cq}=0
   ·obtain⟨cm,hl⟩:=hL h0
    rw[<-hU] at hl
    by_cases hb:262144<(aO {m with sign:=cq}++cG cq).length
    ·rw[if_pos h0,if_pos hb,if_neg (by decide)]
     exact U4 m hw h7 hs h0 cm hl hb
    ·rw[if_pos h0,if_neg hb,if_pos rfl,<-hU]
     exact Vv m hw h7 hs h0 cm hl hb
   ·rw[if_neg h0,if_neg h0]
    exact UO m hw h7 hs h0
  |false=>
   have ew:eu m=m:=by unfold eu;rw[if_neg (fun h=>k7 h.1),if_neg (by rw[hs];simp)]
   have ef:kg m=aO m:=by
    unfold kg
    rw[if_neg k7,if_neg (by rw[hs];simp),List.append_nil]
   rw[ew] at hL
   rw[ew,ef]
   by_cases h0:eC m=0
   ·obtain⟨cm,hl⟩:=hL h0
    by_cases hb:262144<(aO m).length
    ·rw[if_pos h0,if_pos hb,if_neg (by decide)]
     exact U5 m hm h7 hs h0 cm hl hb
    ·rw[if_pos h0,if_neg hb,if_pos rfl]
     exact Vw m hm h7 hs h0 cm hl hb
   ·rw[if_neg h0,if_neg h0]
    exact UP m hm h7 hs h0
 |true=>
  have k7:m.kind=7:=by simpa using h7
  have hs:bW m.kind=false:=by rw[k7];rfl
  by_cases hc:m.changes.length=1
  ·obtain⟨c,hc⟩:=sM hc
   have ew:eu m={m with changes:=[{c with sign:=cq}]}:=by unfold eu;rw[if_pos ⟨k7,by rw[hc];rfl⟩,hc];rfl
   have ef:kg {m with changes:=[{c with sign:=cq}]}=aO {m with changes:=[{c with sign:=cq}]}++cG cq:=by
    unfold kg
    simp only
    rw[if_pos k7]
   have hw:=Kp hm hc
   rw[ew] at hL hU
   rw[ew,ef]
   by_cases h0:eC {m with changes:=[{c with sign:=cq}]}=0
   ·obtain⟨cm,hl⟩:=hL h0
    rw[<-hU] at hl
    by_cases hb:262144<(aO {m with changes:=[{c with sign:=cq}]}++cG cq).length
    ·rw[if_pos h0,if_pos hb,if_neg (by decide)]
     exact U6 m c hw h7 hc h0 cm hl hb
    ·rw[if_pos h0,if_neg hb,if_pos rfl,<-hU]
     exact Vx m c hw h7 hc h0 cm hl hb
   ·rw[if_neg h0,if_neg h0]
    exact UQ m c hw h7 hc h0
  ·have ew:eu m=m:=by unfold eu;rw[if_neg (fun h=>hc h.2),if_neg (by rw[hs];simp)]
   have h0:¬eC m=0:=fun h=>by
    have hk:=nG (oA h)
    unfold bP at hk
    simp only[k7] at hk
    have:=uy (bQ.1 hk).1
    omega
   rw[ew,if_neg h0,if_neg h0]
   exact U7 m hm h7 (by
    rw[beq_eq_false_iff_ne]
    omega) hs h0
end Go.Proofs.YtafomdobfmmleaaGreatDoor
