/- Lemmas and contracts, part 23. -/
import Derived.Test.YtafomdobfmmleaaGreatDoorZk22
/- Lemmas and contracts. -/
namespace Go.Proofs.YtafomdobfmmleaaGreatDoor
open Go.RowKit
set_option linter.unusedVariables false
set_option maxRecDepth 20000
set_option maxHeartbeats 2000000 in
theorem Vh [Wd] (b:List UInt8) (e:Int) (hs:b.length<=8388609) {b0:List UInt8} {e0:Int} (q0:nR MX (b,e)=(1,(b0,e0))) (h0:b0.length<=8388609):bf Tryz.prog 177 [.agg [.ptr 0 0]] (dz (b,e)) (fun r h=>r=.agg (aU (bN (b,e)).1)/\h=dz (bN (b,e)).2):=by
 obtain⟨l,b1,e1,q1,l1⟩:=Rd1.get tU (b0,e0)
 replace l1:b1.length<=b0.length:=l1
 have h1:b1.length<=8388609:=by omega
 obtain⟨em,BJ⟩:∃em:Int,jX ((((l.map cZ).length:Nat):Int)==1) (b1,e1)=(b1,em):=⟨(jX ((((l.map cZ).length:Nat):Int)==1) (b1,e1)).2,Prod.ext (zA _ _) rfl⟩
 have Hl:eX (if l.length=1 then 0 else 100) (b1,e1)=(b1,em):=by
  rw[<-BJ,Cv,List.length_map]
  congr 1
  by_cases h:l.length=1
  ·simp[h]
  ·rw[if_neg h,if_neg (by simp;omega)]
 have eB:fQ 1 (b0,e0)=({aO with kind:=1,batch:=l},(b1,em)):=by
  show bg (fun l=>{aO with kind:=1,batch:=l}) (gd jW fun l=>if l.length=1 then 0 else 100) (b0,e0)=_
  unfold bg gd
  simp only[q1,Hl]
 have eS:kf 1 (b1,em)=(dD,(b1,em)):=rfl
 have eR:bN (b,e)=({aO with kind:=1,batch:=l,sign:=dD},(b1,em)):=by
  unfold bN bg bZ aT bZ
  simp only[q0,eB,eS]
 have qs:aJ Tryz.prog 156 [.int .i64 1] (.bool false):=gu 1
 refine aF 140 [] Tryz.func177 rfl (by kernel_rfl) ?_
 repeat' (conv=>arg 2;whnf);first|refine af (by kernel_rfl) ?_|refine aA ?_ ?_|refine ah ?_|refine aj ?_|refine dJ (by decide) ?_|refine bI (by decide) ?_|refine aP (aZ (by decide) (by decide)) ?_|refine aC 0 (b,e) (b0,e0) (.int .u64 1) (fD MX) hs (congrArg Prod.snd q0).symm (congrArg (fun r:Int×RS=>D.int .u64 r.1) q0).symm ⟨⟨rfl,rfl⟩,trivial⟩ (aa.refl _) rfl ?_|refine aC 0 (b0,e0) (b1,e1) (.list 9 (l.map cZ)) Cc h0 (congrArg Prod.snd q1).symm (congrArg (fun r:List cq×RS=>D.list 9 (r.1.map cZ)) q1).symm ⟨⟨rfl,rfl⟩,trivial⟩ (aa.refl _) rfl ?_|refine aC 0 (b1,e1) (b1,em) (.aD []) (Cj ((((l.map cZ).length:Nat):Int)==1)) h1 BJ.symm rfl ⟨⟨rfl,rfl⟩,trivial⟩ (aa.refl _) rfl ?_|refine ak qs rfl (aa.refl _) ?_|refine bE (d:=.agg (aU ({aO with kind:=1,batch:=l,sign:=dD}))) (.inr rfl) rfl ⟨⟨rfl,rfl⟩,trivial⟩ rfl (aa.bA (by repeat' first|exact aa.nil|refine aa.cons (.refl _) ?_|refine aa.cons (.nil _) ?_)) (congrArg Prod.snd eR).symm (congrArg (fun r:aN×RS=>D.agg (aU r.1)) eR).symm|fail
set_option maxHeartbeats 2000000 in
theorem Vi [Wd] (b:List UInt8) (e:Int) (hs:b.length<=8388609) {b0:List UInt8} {e0:Int} (q0:nR MX (b,e)=(2,(b0,e0))) (h0:b0.length<=8388609):bf Tryz.prog 177 [.agg [.ptr 0 0]] (dz (b,e)) (fun r h=>r=.agg (aU (bN (b,e)).1)/\h=dz (bN (b,e)).2):=by
 obtain⟨⟨r,v,n,d⟩,b1,e1,q1,l1⟩:=Rd1.get xk (b0,e0)
 replace l1:b1.length<=b0.length:=l1
 have h1:b1.length<=8388609:=by omega
 obtain⟨l,b2,e2,q2,l2⟩:=Rd1.get tU (b1,e1)
 replace l2:b2.length<=b1.length:=l2
 have h2:b2.length<=8388609:=by omega
 have eB:fQ 2 (b0,e0)=({aO with kind:=2,src:=r,view:=v,seq:=n,an:=d,batch:=l},(b2,e2)):=by
  show bg (fun z=>{aO with kind:=2,src:=z.1.1,view:=z.1.2.1,seq:=z.1.2.2.1,an:=z.1.2.2.2,batch:=z.2}) (aT rH jW) (b0,e0)=_
  unfold bg aT bZ
  simp only[q1,q2]
 obtain⟨g,b3,e3,q3,l3⟩:=Rd1.get j7 (b2,e2)
 replace l3:b3.length<=b2.length:=l3
 have h3:b3.length<=8388609:=by omega
 have eS:kf 2 (b2,e2)=(g,(b3,e3)):=q3
 have eR:bN (b,e)=({aO with kind:=2,src:=r,view:=v,seq:=n,an:=d,batch:=l,sign:=g},(b3,e3)):=by
  unfold bN bg bZ aT bZ
  simp only[q0,eB,eS]
 have qs:aJ Tryz.prog 156 [.int .i64 2] (.bool true):=gu 2
 refine aF 140 [] Tryz.func177 rfl (by kernel_rfl) ?_
 repeat' (conv=>arg 2;whnf);first|refine af (by kernel_rfl) ?_|refine aA ?_ ?_|refine ah ?_|refine aj ?_|refine dJ (by decide) ?_|refine bI (by decide) ?_|refine aP (aZ (by decide) (by decide)) ?_|refine aC 0 (b,e) (b0,e0) (.int .u64 2) (fD MX) hs (congrArg Prod.snd q0).symm (congrArg (fun r:Int×RS=>D.int .u64 r.1) q0).symm ⟨⟨rfl,rfl⟩,trivial⟩ (aa.refl _) rfl ?_|refine dx [0,4] (FE 2 b0 e0 h0 q1) (.mk' rfl ⟨⟨rfl,rfl⟩,⟨rfl,rfl⟩,trivial⟩) (aa.refl _) rfl ?_|refine aC 0 (b1,e1) (b2,e2) (.list 9 (l.map cZ)) Cc h1 (congrArg Prod.snd q2).symm (congrArg (fun r:List cq×RS=>D.list 9 (r.1.map cZ)) q2).symm ⟨⟨rfl,rfl⟩,trivial⟩ (aa.refl _) rfl ?_|refine aC 0 (b2,e2) (b3,e3) (.agg (bu g)) oY h2 (congrArg Prod.snd q3).symm (congrArg (fun r:bH×RS=>D.agg (bu r.1)) q3).symm ⟨⟨rfl,rfl⟩,trivial⟩ (aa.refl _) rfl ?_|refine ak qs rfl (aa.refl _) ?_|refine bE (d:=.agg (aU ({aO with kind:=2,src:=r,view:=v,seq:=n,an:=d,batch:=l,sign:=g}))) (.inr rfl) rfl ⟨⟨rfl,rfl⟩,trivial⟩ rfl (aa.bA (by repeat' first|exact aa.nil|refine aa.cons (.refl _) ?_|refine aa.cons (.nil _) ?_)) (congrArg Prod.snd eR).symm (congrArg (fun r:aN×RS=>D.agg (aU r.1)) eR).symm|fail
set_option maxHeartbeats 2000000 in
theorem Vj [Wd] (b:List UInt8) (e:Int) (hs:b.length<=8388609) {b0:List UInt8} {e0:Int} (q0:nR MX (b,e)=(3,(b0,e0))) (h0:b0.length<=8388609):bf Tryz.prog 177 [.agg [.ptr 0 0]] (dz (b,e)) (fun r h=>r=.agg (aU (bN (b,e)).1)/\h=dz (bN (b,e)).2):=by
 obtain⟨⟨r,v,n,d⟩,b1,e1,q1,l1⟩:=Rd1.get xk (b0,e0)
 replace l1:b1.length<=b0.length:=l1
 have h1:b1.length<=8388609:=by omega
 have eB:fQ 3 (b0,e0)=({aO with kind:=3,src:=r,view:=v,seq:=n,an:=d},(b1,e1)):=by
  show bg (fun z=>{aO with kind:=3,src:=z.1,view:=z.2.1,seq:=z.2.2.1,an:=z.2.2.2}) rH (b0,e0)=_
  unfold bg
  simp only[q1]
 obtain⟨g,b2,e2,q2,l2⟩:=Rd1.get j7 (b1,e1)
 replace l2:b2.length<=b1.length:=l2
 have h2:b2.length<=8388609:=by omega
 have eS:kf 3 (b1,e1)=(g,(b2,e2)):=q2
 have eR:bN (b,e)=({aO with kind:=3,src:=r,view:=v,seq:=n,an:=d,sign:=g},(b2,e2)):=by
  unfold bN bg bZ aT bZ
  simp only[q0,eB,eS]
 have qs:aJ Tryz.prog 156 [.int .i64 3] (.bool true):=gu 3
 refine aF 140 [] Tryz.func177 rfl (by kernel_rfl) ?_
 repeat' (conv=>arg 2;whnf);first|refine af (by kernel_rfl) ?_|refine aA ?_ ?_|refine ah ?_|refine aj ?_|refine dJ (by decide) ?_|refine bI (by decide) ?_|refine aP (aZ (by decide) (by decide)) ?_|refine aC 0 (b,e) (b0,e0) (.int .u64 3) (fD MX) hs (congrArg Prod.snd q0).symm (congrArg (fun r:Int×RS=>D.int .u64 r.1) q0).symm ⟨⟨rfl,rfl⟩,trivial⟩ (aa.refl _) rfl ?_|refine dx [0,4] (FE 3 b0 e0 h0 q1) (.mk' rfl ⟨⟨rfl,rfl⟩,⟨rfl,rfl⟩,trivial⟩) (aa.refl _) rfl ?_|refine aC 0 (b1,e1) (b2,e2) (.agg (bu g)) oY h1 (congrArg Prod.snd q2).symm (congrArg (fun r:bH×RS=>D.agg (bu r.1)) q2).symm ⟨⟨rfl,rfl⟩,trivial⟩ (aa.refl _) rfl ?_|refine ak qs rfl (aa.refl _) ?_|refine bE (d:=.agg (aU ({aO with kind:=3,src:=r,view:=v,seq:=n,an:=d,sign:=g}))) (.inr rfl) rfl ⟨⟨rfl,rfl⟩,trivial⟩ rfl (aa.bA (by repeat' first|exact aa.nil|refine aa.cons (.refl _) ?_|refine aa.cons (.nil _) ?_)) (congrArg Prod.snd eR).symm (congrArg (fun r:aN×RS=>D.agg (aU r.1)) eR).symm|fail
set_option maxHeartbeats 2000000 in
theorem Vk [Wd] (b:List UInt8) (e:Int) (hs:b.length<=8388609) {b0:List UInt8} {e0:Int} (q0:nR MX (b,e)=(4,(b0,e0))) (h0:b0.length<=8388609):bf Tryz.prog 177 [.agg [.ptr 0 0]] (dz (b,e)) (fun r h=>r=.agg (aU (bN (b,e)).1)/\h=dz (bN (b,e)).2):=by
 obtain⟨⟨r,v,n,d⟩,b1,e1,q1,l1⟩:=Rd1.get xk (b0,e0)
 replace l1:b1.length<=b0.length:=l1
 have h1:b1.length<=8388609:=by omega
 have eB:fQ 4 (b0,e0)=({aO with kind:=4,src:=r,view:=v,seq:=n,an:=d},(b1,e1)):=by
  show bg (fun z=>{aO with kind:=4,src:=z.1,view:=z.2.1,seq:=z.2.2.1,an:=z.2.2.2}) rH (b0,e0)=_
  unfold bg
  simp only[q1]
 obtain⟨g,b2,e2,q2,l2⟩:=Rd1.get j7 (b1,e1)
 replace l2:b2.length<=b1.length:=l2
 have h2:b2.length<=8388609:=by omega
 have eS:kf 4 (b1,e1)=(g,(b2,e2)):=q2
 have eR:bN (b,e)=({aO with kind:=4,src:=r,view:=v,seq:=n,an:=d,sign:=g},(b2,e2)):=by
  unfold bN bg bZ aT bZ
  simp only[q0,eB,eS]
 have qs:aJ Tryz.prog 156 [.int .i64 4] (.bool true):=gu 4
 refine aF 140 [] Tryz.func177 rfl (by kernel_rfl) ?_
 repeat' (conv=>arg 2;whnf);first|refine af (by kernel_rfl) ?_|refine aA ?_ ?_|refine ah ?_|refine aj ?_|refine dJ (by decide) ?_|refine bI (by decide) ?_|refine aP (aZ (by decide) (by decide)) ?_|refine aC 0 (b,e) (b0,e0) (.int .u64 4) (fD MX) hs (congrArg Prod.snd q0).symm (congrArg (fun r:Int×RS=>D.int .u64 r.1) q0).symm ⟨⟨rfl,rfl⟩,trivial⟩ (aa.refl _) rfl ?_|refine dx [0,4] (FE 4 b0 e0 h0 q1) (.mk' rfl ⟨⟨rfl,rfl⟩,⟨rfl,rfl⟩,trivial⟩) (aa.refl _) rfl ?_|refine aC 0 (b1,e1) (b2,e2) (.agg (bu g)) oY h1 (congrArg Prod.snd q2).symm (congrArg (fun r:bH×RS=>D.agg (bu r.1)) q2).symm ⟨⟨rfl,rfl⟩,trivial⟩ (aa.refl _) rfl ?_|refine ak qs rfl (aa.refl _) ?_|refine bE (d:=.agg (aU ({aO with kind:=4,src:=r,view:=v,seq:=n,an:=d,sign:=g}))) (.inr rfl) rfl ⟨⟨rfl,rfl⟩,trivial⟩ rfl (aa.bA (by repeat' first|exact aa.nil|refine aa.cons (.refl _) ?_|refine aa.cons (.nil _) ?_)) (congrArg Prod.snd eR).symm (congrArg (fun r:aN×RS=>D.agg (aU r.1)) eR).symm|fail
set_option maxHeartbeats 2000000 in
theorem Vl [Wd] (b:List UInt8) (e:Int) (hs:b.length<=8388609) {b0:List UInt8} {e0:Int} (q0:nR MX (b,e)=(5,(b0,e0))) (h0:b0.length<=8388609):bf Tryz.prog 177 [.agg [.ptr 0 0]] (dz (b,e)) (fun r h=>r=.agg (aU (bN (b,e)).1)/\h=dz (bN (b,e)).2):=by
 obtain⟨r,b1,e1,q1,l1⟩:=Rd1.get (dK 12) (b0,e0)
 replace l1:b1.length<=b0.length:=l1
 have h1:b1.length<=8388609:=by omega
 obtain⟨v,b2,e2,q2,l2⟩:=Rd1.get (cY 0) (b1,e1)
 replace l2:b2.length<=b1.length:=l2
 have h2:b2.length<=8388609:=by omega
 obtain⟨y,b3,e3,q3,l3⟩:=Rd1.get (dK 7) (b2,e2)
 replace l3:b3.length<=b2.length:=l3
 have h3:b3.length<=8388609:=by omega
 obtain⟨u,b4,e4,q4,l4⟩:=Rd1.get (cY 0) (b3,e3)
 replace l4:b4.length<=b3.length:=l4
 have h4:b4.length<=8388609:=by omega
 obtain⟨rs,b5,e5,q5,l5⟩:=Rd1.get J9 (b4,e4)
 replace l5:b5.length<=b4.length:=l5
 have h5:b5.length<=8388609:=by omega
 have eB:fQ 5 (b0,e0)=({aO with kind:=5,src:=r,view:=v,aQ:=y,time:=u,result:=rs},(b5,e5)):=by
  show bg (fun z=>{aO with kind:=5,src:=z.1,view:=z.2.1,aQ:=z.2.2.1,time:=z.2.2.2.1,result:=z.2.2.2.2}) (aT (nR 12) (aT (bP 0) (aT (nR 7) (aT (bP 0) rA)))) (b0,e0)=_
  unfold bg aT bZ
  simp only[q1,q2,q3,q4,q5]
 obtain⟨g,b6,e6,q6,l6⟩:=Rd1.get j7 (b5,e5)
 replace l6:b6.length<=b5.length:=l6
 have h6:b6.length<=8388609:=by omega
 have eS:kf 5 (b5,e5)=(g,(b6,e6)):=q6
 have eR:bN (b,e)=({aO with kind:=5,src:=r,view:=v,aQ:=y,time:=u,result:=rs,sign:=g},(b6,e6)):=by
  unfold bN bg bZ aT bZ
  simp only[q0,eB,eS]
 have qs:aJ Tryz.prog 156 [.int .i64 5] (.bool true):=gu 5
 refine aF 140 [] Tryz.func177 rfl (by kernel_rfl) ?_
 repeat' (conv=>arg 2;whnf);first|refine af (by kernel_rfl) ?_|refine aA ?_ ?_|refine ah ?_|refine aj ?_|refine dJ (by decide) ?_|refine bI (by decide) ?_|refine aP (aZ (by decide) (by decide)) ?_|refine aC 0 (b,e) (b0,e0) (.int .u64 5) (fD MX) hs (congrArg Prod.snd q0).symm (congrArg (fun r:Int×RS=>D.int .u64 r.1) q0).symm ⟨⟨rfl,rfl⟩,trivial⟩ (aa.refl _) rfl ?_|refine aC 0 (b0,e0) (b1,e1) (.int .i64 r) tO h0 (congrArg Prod.snd q1).symm (congrArg (fun r:Int×RS=>D.int .i64 r.1) q1).symm ⟨⟨rfl,rfl⟩,trivial⟩ (aa.refl _) rfl ?_|refine aC 0 (b1,e1) (b2,e2) (.int .i64 v) (kA 0) h1 (congrArg Prod.snd q2).symm (congrArg (fun r:Int×RS=>D.int .i64 r.1) q2).symm ⟨⟨rfl,rfl⟩,trivial⟩ (aa.refl _) rfl ?_|refine aC 0 (b2,e2) (b3,e3) (.int .i64 y) Kc h2 (congrArg Prod.snd q3).symm (congrArg (fun r:Int×RS=>D.int .i64 r.1) q3).symm ⟨⟨rfl,rfl⟩,trivial⟩ (aa.refl _) rfl ?_|refine aC 0 (b3,e3) (b4,e4) (.int .i64 u) (kA 0) h3 (congrArg Prod.snd q4).symm (congrArg (fun r:Int×RS=>D.int .i64 r.1) q4).symm ⟨⟨rfl,rfl⟩,trivial⟩ (aa.refl _) rfl ?_|refine aC 0 (b4,e4) (b5,e5) (.agg (uc rs)) Qp h4 (congrArg Prod.snd q5).symm (congrArg (fun r:lT×RS=>D.agg (uc r.1)) q5).symm ⟨⟨rfl,rfl⟩,trivial⟩ (aa.refl _) rfl ?_|refine aC 0 (b5,e5) (b6,e6) (.agg (bu g)) oY h5 (congrArg Prod.snd q6).symm (congrArg (fun r:bH×RS=>D.agg (bu r.1)) q6).symm ⟨⟨rfl,rfl⟩,trivial⟩ (aa.refl _) rfl ?_|refine ak qs rfl (aa.refl _) ?_|refine bE (d:=.agg (aU ({aO with kind:=5,src:=r,view:=v,aQ:=y,time:=u,result:=rs,sign:=g}))) (.inr rfl) rfl ⟨⟨rfl,rfl⟩,trivial⟩ rfl (aa.bA (by repeat' first|exact aa.nil|refine aa.cons (.refl _) ?_|refine aa.cons (.nil _) ?_)) (congrArg Prod.snd eR).symm (congrArg (fun r:aN×RS=>D.agg (aU r.1)) eR).symm|fail
set_option maxHeartbeats 2000000 in
theorem Vm [Wd] (b:List UInt8) (e:Int) (hs:b.length<=8388609) {b0:List UInt8} {e0:Int} (q0:nR MX (b,e)=(6,(b0,e0))) (h0:b0.length<=8388609):bf Tryz.prog 177 [.agg [.ptr 0 0]] (dz (b,e)) (fun r h=>r=.agg (aU (bN (b,e)).1)/\h=dz (bN (b,e)).2):=by
 obtain⟨r,b1,e1,q1,l1⟩:=Rd1.get (dK 12) (b0,e0)
 replace l1:b1.length<=b0.length:=l1
 have h1:b1.length<=8388609:=by omega
 obtain⟨n,b2,e2,q2,l2⟩:=Rd1.get (cY 1) (b1,e1)
 replace l2:b2.length<=b1.length:=l2
 have h2:b2.length<=8388609:=by omega
 obtain⟨d,b3,e3,q3,l3⟩:=Rd1.get (cY 1) (b2,e2)
 replace l3:b3.length<=b2.length:=l3
 have h3:b3.length<=8388609:=by omega
 have eB:fQ 6 (b0,e0)=({aO with kind:=6,src:=r,seq:=n,an:=d},(b3,e3)):=by
  show bg (fun z=>{aO with kind:=6,src:=z.1,seq:=z.2.1,an:=z.2.2}) (aT (nR 12) (aT (bP 1) (bP 1))) (b0,e0)=_
  unfold bg aT bZ
  simp only[q1,q2,q3]
 obtain⟨g,b4,e4,q4,l4⟩:=Rd1.get j7 (b3,e3)
 replace l4:b4.length<=b3.length:=l4
 have h4:b4.length<=8388609:=by omega
 have eS:kf 6 (b3,e3)=(g,(b4,e4)):=q4
 have eR:bN (b,e)=({aO with kind:=6,src:=r,seq:=n,an:=d,sign:=g},(b4,e4)):=by
  unfold bN bg bZ aT bZ
  simp only[q0,eB,eS]
 have qs:aJ Tryz.prog 156 [.int .i64 6] (.bool true):=gu 6
 refine aF 140 [] Tryz.func177 rfl (by kernel_rfl) ?_
 repeat' (conv=>arg 2;whnf);first|refine af (by kernel_rfl) ?_|refine aA ?_ ?_|refine ah ?_|refine aj ?_|refine dJ (by decide) ?_|refine bI (by decide) ?_|refine aP (aZ (by decide) (by decide)) ?_|refine aC 0 (b,e) (b0,e0) (.int .u64 6) (fD MX) hs (congrArg Prod.snd q0).symm (congrArg (fun r:Int×RS=>D.int .u64 r.1) q0).symm ⟨⟨rfl,rfl⟩,trivial⟩ (aa.refl _) rfl ?_|refine aC 0 (b0,e0) (b1,e1) (.int .i64 r) tO h0 (congrArg Prod.snd q1).symm (congrArg (fun r:Int×RS=>D.int .i64 r.1) q1).symm ⟨⟨rfl,rfl⟩,trivial⟩ (aa.refl _) rfl ?_|refine aC 0 (b1,e1) (b2,e2) (.int .i64 n) (kA 1) h1 (congrArg Prod.snd q2).symm (congrArg (fun r:Int×RS=>D.int .i64 r.1) q2).symm ⟨⟨rfl,rfl⟩,trivial⟩ (aa.refl _) rfl ?_|refine aC 0 (b2,e2) (b3,e3) (.int .i64 d) (so 1) h2 (congrArg Prod.snd q3).symm (congrArg (fun r:Int×RS=>D.int .i64 r.1) q3).symm ⟨⟨rfl,rfl⟩,trivial⟩ (aa.refl _) rfl ?_|refine aC 0 (b3,e3) (b4,e4) (.agg (bu g)) oY h3 (congrArg Prod.snd q4).symm (congrArg (fun r:bH×RS=>D.agg (bu r.1)) q4).symm ⟨⟨rfl,rfl⟩,trivial⟩ (aa.refl _) rfl ?_|refine ak qs rfl (aa.refl _) ?_|refine bE (d:=.agg (aU ({aO with kind:=6,src:=r,seq:=n,an:=d,sign:=g}))) (.inr rfl) rfl ⟨⟨rfl,rfl⟩,trivial⟩ rfl (aa.bA (by repeat' first|exact aa.nil|refine aa.cons (.refl _) ?_|refine aa.cons (.nil _) ?_)) (congrArg Prod.snd eR).symm (congrArg (fun r:aN×RS=>D.agg (aU r.1)) eR).symm|fail
set_option maxHeartbeats 2000000 in
theorem Vn [Wd] (b:List UInt8) (e:Int) (hs:b.length<=8388609) {b0:List UInt8} {e0:Int} (q0:nR MX (b,e)=(7,(b0,e0))) (h0:b0.length<=8388609):bf Tryz.prog 177 [.agg [.ptr 0 0]] (dz (b,e)) (fun r h=>r=.agg (aU (bN (b,e)).1)/\h=dz (bN (b,e)).2):=by
 obtain⟨c,b1,e1,q1,l1⟩:=Rd1.get Ah (b0,e0)
 replace l1:b1.length<=b0.length:=l1
 have h1:b1.length<=8388609:=by omega
 have eB:fQ 7 (b0,e0)=({aO with kind:=7,src:=c.src,view:=c.view,changes:=[c]},(b1,e1)):=by
  show bg (fun c=>{aO with kind:=7,src:=c.src,view:=c.view,changes:=[c]}) iY (b0,e0)=_
  unfold bg
  simp only[q1]
 have eS:kf 7 (b1,e1)=(dD,(b1,e1)):=rfl
 have eR:bN (b,e)=({aO with kind:=7,src:=c.src,view:=c.view,changes:=[c],sign:=dD},(b1,e1)):=by
  unfold bN bg bZ aT bZ
  simp only[q0,eB,eS]
 have qs:aJ Tryz.prog 156 [.int .i64 7] (.bool false):=gu 7
 refine jZ 140 [(25,⟨(.one 0 false (.one 1 false (.one 2 false (.one 3 false (.one 4 false (.one 6 false (.alt 5 (.one 7 true (.one 8 false (.one 9 true (.one 10 false (.one 11 true .done))))) (.one 7 true (.one 8 false (.alt 5 (.one 9 true (.one 10 false (.one 11 true .done))) (.one 9 true (.one 5 true (.one 10 false (.one 11 true .done)))))))))))))),[4]⟩)] Tryz.func177 rfl (by kernel_rfl) ?_
 repeat' (conv=>arg 2;whnf);first|refine af (by kernel_rfl) ?_|refine aA ?_ ?_|refine ah ?_|refine aj ?_|refine dJ (by decide) ?_|refine bI (by decide) ?_|refine aP (aZ (by decide) (by decide)) ?_|refine aC 0 (b,e) (b0,e0) (.int .u64 7) (fD MX) hs (congrArg Prod.snd q0).symm (congrArg (fun r:Int×RS=>D.int .u64 r.1) q0).symm ⟨⟨rfl,rfl⟩,trivial⟩ (aa.refl _) rfl ?_|refine aC 0 (b0,e0) (b1,e1) (.agg (bW c)) ED h0 (congrArg Prod.snd q1).symm (congrArg (fun r:cX×RS=>D.agg (bW r.1)) q1).symm ⟨⟨rfl,rfl⟩,trivial⟩ (aa.refl _) rfl ?_|refine ak qs rfl (aa.refl _) ?_|refine bE (d:=.agg (aU ({aO with kind:=7,src:=c.src,view:=c.view,changes:=[c],sign:=dD}))) (.inr rfl) rfl ⟨⟨rfl,rfl⟩,trivial⟩ rfl (aa.bA (by repeat' first|exact aa.nil|refine aa.cons (.refl _) ?_|refine aa.cons (.nil _) ?_)) (congrArg Prod.snd eR).symm (congrArg (fun r:aN×RS=>D.agg (aU r.1)) eR).symm|fail
set_option maxHeartbeats 2000000 in
theorem Vo [Wd] (b:List UInt8) (e:Int) (hs:b.length<=8388609) {b0:List UInt8} {e0:Int} (q0:nR MX (b,e)=(8,(b0,e0))) (h0:b0.length<=8388609):bf Tryz.prog 177 [.agg [.ptr 0 0]] (dz (b,e)) (fun r h=>r=.agg (aU (bN (b,e)).1)/\h=dz (bN (b,e)).2):=by
 obtain⟨r,b1,e1,q1,l1⟩:=Rd1.get (dK 12) (b0,e0)
 replace l1:b1.length<=b0.length:=l1
 have h1:b1.length<=8388609:=by omega
 obtain⟨v,b2,e2,q2,l2⟩:=Rd1.get (cY 1) (b1,e1)
 replace l2:b2.length<=b1.length:=l2
 have h2:b2.length<=8388609:=by omega
 obtain⟨ch,b3,e3,q3,l3⟩:=Rd1.get (nD Ah 13) (b2,e2)
 replace l3:b3.length<=b2.length:=l3
 have h3:b3.length<=8388609:=by omega
 obtain⟨en,b4,e4,q4,l4⟩:=Rd1.get (nD E9 8) (b3,e3)
 replace l4:b4.length<=b3.length:=l4
 have h4:b4.length<=8388609:=by omega
 have eB:fQ 8 (b0,e0)=({aO with kind:=8,src:=r,view:=v,changes:=ch,entries:=en},(b4,e4)):=by
  show bg (fun z=>{aO with kind:=8,src:=z.1,view:=z.2.1,changes:=z.2.2.1,entries:=z.2.2.2}) (aT (nR 12) (aT (bP 1) (aT (dR iY 13) (dR jB 8)))) (b0,e0)=_
  unfold bg aT bZ
  simp only[q1,q2,q3,q4]
 obtain⟨g,b5,e5,q5,l5⟩:=Rd1.get j7 (b4,e4)
 replace l5:b5.length<=b4.length:=l5
 have h5:b5.length<=8388609:=by omega
 have eS:kf 8 (b4,e4)=(g,(b5,e5)):=q5
 have eR:bN (b,e)=({aO with kind:=8,src:=r,view:=v,changes:=ch,entries:=en,sign:=g},(b5,e5)):=by
  unfold bN bg bZ aT bZ
  simp only[q0,eB,eS]
 have qs:aJ Tryz.prog 156 [.int .i64 8] (.bool true):=gu 8
 refine aF 140 [] Tryz.func177 rfl (by kernel_rfl) ?_
 repeat' (conv=>arg 2;whnf);first|refine af (by kernel_rfl) ?_|refine aA ?_ ?_|refine ah ?_|refine aj ?_|refine dJ (by decide) ?_|refine bI (by decide) ?_|refine aP (aZ (by decide) (by decide)) ?_|refine aC 0 (b,e) (b0,e0) (.int .u64 8) (fD MX) hs (congrArg Prod.snd q0).symm (congrArg (fun r:Int×RS=>D.int .u64 r.1) q0).symm ⟨⟨rfl,rfl⟩,trivial⟩ (aa.refl _) rfl ?_|refine aC 0 (b0,e0) (b1,e1) (.int .i64 r) tO h0 (congrArg Prod.snd q1).symm (congrArg (fun r:Int×RS=>D.int .i64 r.1) q1).symm ⟨⟨rfl,rfl⟩,trivial⟩ (aa.refl _) rfl ?_|refine aC 0 (b1,e1) (b2,e2) (.int .i64 v) (kA 1) h1 (congrArg Prod.snd q2).symm (congrArg (fun r:Int×RS=>D.int .i64 r.1) q2).symm ⟨⟨rfl,rfl⟩,trivial⟩ (aa.refl _) rfl ?_|refine aC 0 (b2,e2) (b3,e3) (.list 8 (ch.map bW)) (Qq 13 (by decide) (by decide)) h2 (congrArg Prod.snd q3).symm (congrArg (fun r:List cX×RS=>D.list 8 (r.1.map bW)) q3).symm ⟨⟨rfl,rfl⟩,trivial⟩ (aa.refl _) rfl ?_|refine aC 0 (b3,e3) (b4,e4) (.list 5 (en.map dH)) (QK 8 (by decide) (by decide)) h3 (congrArg Prod.snd q4).symm (congrArg (fun r:List gH×RS=>D.list 5 (r.1.map dH)) q4).symm ⟨⟨rfl,rfl⟩,trivial⟩ (aa.refl _) rfl ?_|refine aC 0 (b4,e4) (b5,e5) (.agg (bu g)) oY h4 (congrArg Prod.snd q5).symm (congrArg (fun r:bH×RS=>D.agg (bu r.1)) q5).symm ⟨⟨rfl,rfl⟩,trivial⟩ (aa.refl _) rfl ?_|refine ak qs rfl (aa.refl _) ?_|refine bE (d:=.agg (aU ({aO with kind:=8,src:=r,view:=v,changes:=ch,entries:=en,sign:=g}))) (.inr rfl) rfl ⟨⟨rfl,rfl⟩,trivial⟩ rfl (aa.bA (by repeat' first|exact aa.nil|refine aa.cons (.refl _) ?_|refine aa.cons (.nil _) ?_)) (congrArg Prod.snd eR).symm (congrArg (fun r:aN×RS=>D.agg (aU r.1)) eR).symm|fail
set_option maxHeartbeats 2000000 in
theorem Vp [Wd] (b:List UInt8) (e:Int) (hs:b.length<=8388609) {b0:List UInt8} {e0:Int} (q0:nR MX (b,e)=(9,(b0,e0))) (h0:b0.length<=8388609):bf Tryz.prog 177 [.agg [.ptr 0 0]] (dz (b,e)) (fun r h=>r=.agg (aU (bN (b,e)).1)/\h=dz (bN (b,e)).2):=by
 obtain⟨r,b1,e1,q1,l1⟩:=Rd1.get (dK 12) (b0,e0)
 replace l1:b1.length<=b0.length:=l1
 have h1:b1.length<=8388609:=by omega
 obtain⟨n,b2,e2,q2,l2⟩:=Rd1.get (cY 0) (b1,e1)
 replace l2:b2.length<=b1.length:=l2
 have h2:b2.length<=8388609:=by omega
 have eB:fQ 9 (b0,e0)=({aO with kind:=9,src:=r,seq:=n},(b2,e2)):=by
  show bg (fun z=>{aO with kind:=9,src:=z.1,seq:=z.2}) (aT (nR 12) (bP 0)) (b0,e0)=_
  unfold bg aT bZ
  simp only[q1,q2]
 obtain⟨g,b3,e3,q3,l3⟩:=Rd1.get j7 (b2,e2)
 replace l3:b3.length<=b2.length:=l3
 have h3:b3.length<=8388609:=by omega
 have eS:kf 9 (b2,e2)=(g,(b3,e3)):=q3
 have eR:bN (b,e)=({aO with kind:=9,src:=r,seq:=n,sign:=g},(b3,e3)):=by
  unfold bN bg bZ aT bZ
  simp only[q0,eB,eS]
 have qs:aJ Tryz.prog 156 [.int .i64 9] (.bool true):=gu 9
 refine aF 140 [] Tryz.func177 rfl (by kernel_rfl) ?_
 repeat' (conv=>arg 2;whnf);first|refine af (by kernel_rfl) ?_|refine aA ?_ ?_|refine ah ?_|refine aj ?_|refine dJ (by decide) ?_|refine bI (by decide) ?_|refine aP (aZ (by decide) (by decide)) ?_|refine aC 0 (b,e) (b0,e0) (.int .u64 9) (fD MX) hs (congrArg Prod.snd q0).symm (congrArg (fun r:Int×RS=>D.int .u64 r.1) q0).symm ⟨⟨rfl,rfl⟩,trivial⟩ (aa.refl _) rfl ?_|refine aC 0 (b0,e0) (b1,e1) (.int .i64 r) tO h0 (congrArg Prod.snd q1).symm (congrArg (fun r:Int×RS=>D.int .i64 r.1) q1).symm ⟨⟨rfl,rfl⟩,trivial⟩ (aa.refl _) rfl ?_|refine aC 0 (b1,e1) (b2,e2) (.int .i64 n) (kA 0) h1 (congrArg Prod.snd q2).symm (congrArg (fun r:Int×RS=>D.int .i64 r.1) q2).symm ⟨⟨rfl,rfl⟩,trivial⟩ (aa.refl _) rfl ?_|refine aC 0 (b2,e2) (b3,e3) (.agg (bu g)) oY h2 (congrArg Prod.snd q3).symm (congrArg (fun r:bH×RS=>D.agg (bu r.1)) q3).symm ⟨⟨rfl,rfl⟩,trivial⟩ (aa.refl _) rfl ?_|refine ak qs rfl (aa.refl _) ?_|refine bE (d:=.agg (aU ({aO with kind:=9,src:=r,seq:=n,sign:=g}))) (.inr rfl) rfl ⟨⟨rfl,rfl⟩,trivial⟩ rfl (aa.bA (by repeat' first|exact aa.nil|refine aa.cons (.refl _) ?_|refine aa.cons (.nil _) ?_)) (congrArg Prod.snd eR).symm (congrArg (fun r:aN×RS=>D.agg (aU r.1)) eR).symm|fail
set_option maxHeartbeats 2000000 in
theorem TA [Wd] (b:List UInt8) (e:Int) (hs:b.length<=8388609) {b0:List UInt8} {e0:Int} (q0:nR MX (b,e)=(10,(b0,e0))) (h0:b0.length<=8388609):bf Tryz.prog 177 [.agg [.ptr 0 0]] (dz (b,e)) (fun r h=>r=.agg (aU (bN (b,e)).1)/\h=dz (bN (b,e)).2):=by
 obtain⟨r,b1,e1,q1,l1⟩:=Rd1.get (dK 12) (b0,e0)
 replace l1:b1.length<=b0.length:=l1
 have h1:b1.length<=8388609:=by omega
 obtain⟨k,b2,e2,q2,l2⟩:=Rd1.get xz (b1,e1)
 replace l2:b2.length<=b1.length:=l2
 have h2:b2.length<=8388609:=by omega
 obtain⟨c,b3,e3,q3,l3⟩:=Rd1.get (ju 262144) (b2,e2)
 replace l3:b3.length<=b2.length:=l3
 have h3:b3.length<=8388609:=by omega
 have eB:fQ 10 (b0,e0)=({aO with kind:=10,src:=r,cert:=k,state:=c},(b3,e3)):=by
  show bg (fun z=>{aO with kind:=10,src:=z.1,cert:=z.2.1,state:=z.2.2}) (aT (nR 12) (aT pO (fU 262144))) (b0,e0)=_
  unfold bg aT bZ
  simp only[q1,q2,q3]
 have eS:kf 10 (b3,e3)=(dD,(b3,e3)):=rfl
 have eR:bN (b,e)=({aO with kind:=10,src:=r,cert:=k,state:=c,sign:=dD},(b3,e3)):=by
  unfold bN bg bZ aT bZ
  simp only[q0,eB,eS]
 have qs:aJ Tryz.prog 156 [.int .i64 10] (.bool false):=gu 10
 refine aF 140 [] Tryz.func177 rfl (by kernel_rfl) ?_
 repeat' (conv=>arg 2;whnf);first|refine af (by kernel_rfl) ?_|refine aA ?_ ?_|refine ah ?_|refine aj ?_|refine dJ (by decide) ?_|refine bI (by decide) ?_|refine aP (aZ (by decide) (by decide)) ?_|refine aC 0 (b,e) (b0,e0) (.int .u64 10) (fD MX) hs (congrArg Prod.snd q0).symm (congrArg (fun r:Int×RS=>D.int .u64 r.1) q0).symm ⟨⟨rfl,rfl⟩,trivial⟩ (aa.refl _) rfl ?_|refine aC 0 (b0,e0) (b1,e1) (.int .i64 r) tO h0 (congrArg Prod.snd q1).symm (congrArg (fun r:Int×RS=>D.int .i64 r.1) q1).symm ⟨⟨rfl,rfl⟩,trivial⟩ (aa.refl _) rfl ?_|refine aC 0 (b1,e1) (b2,e2) (.agg (mh k)) Ff h1 (congrArg Prod.snd q2).symm (congrArg (fun r:gU×RS=>D.agg (mh r.1)) q2).symm ⟨⟨rfl,rfl⟩,trivial⟩ (aa.refl _) rfl ?_|refine aC 0 (b2,e2) (b3,e3) (.list 1 (c.map aE)) (BX 262144 (by decide)) h2 (congrArg Prod.snd q3).symm (congrArg (fun r:List UInt8×RS=>D.list 1 (r.1.map aE)) q3).symm ⟨⟨rfl,rfl⟩,trivial⟩ (aa.refl _) rfl ?_|refine ak qs rfl (aa.refl _) ?_|refine bE (d:=.agg (aU ({aO with kind:=10,src:=r,cert:=k,state:=c,sign:=dD}))) (.inr rfl) rfl ⟨⟨rfl,rfl⟩,trivial⟩ rfl (aa.bA (by repeat' first|exact aa.nil|refine aa.cons (.refl _) ?_|refine aa.cons (.nil _) ?_)) (congrArg Prod.snd eR).symm (congrArg (fun r:aN×RS=>D.agg (aU r.1)) eR).symm|fail
set_option maxHeartbeats 2000000 in
theorem TB [Wd] (b:List UInt8) (e:Int) (hs:b.length<=8388609) {b0:List UInt8} {e0:Int} (q0:nR MX (b,e)=(11,(b0,e0))) (h0:b0.length<=8388609):bf Tryz.prog 177 [.agg [.ptr 0 0]] (dz (b,e)) (fun r h=>r=.agg (aU (bN (b,e)).1)/\h=dz (bN (b,e)).2):=by
 obtain⟨y,b1,e1,q1,l1⟩:=Rd1.get (dK 7) (b0,e0)
 replace l1:b1.length<=b0.length:=l1
 have h1:b1.length<=8388609:=by omega
 obtain⟨t,b2,e2,q2,l2⟩:=Rd1.get Cy (b1,e1)
 replace l2:b2.length<=b1.length:=l2
 have h2:b2.length<=8388609:=by omega
 obtain⟨f,b3,e3,q3,l3⟩:=Rd1.get (cY 0) (b2,e2)
 replace l3:b3.length<=b2.length:=l3
 have h3:b3.length<=8388609:=by omega
 have eB:fQ 11 (b0,e0)=({aO with kind:=11,aQ:=y,av:=t,offset:=f},(b3,e3)):=by
  show bg (fun z=>{aO with kind:=11,aQ:=z.1,av:=z.2.1,offset:=z.2.2}) (aT (nR 7) (aT pS (bP 0))) (b0,e0)=_
  unfold bg aT bZ
  simp only[q1,q2,q3]
 have eS:kf 11 (b3,e3)=(dD,(b3,e3)):=rfl
 have eR:bN (b,e)=({aO with kind:=11,aQ:=y,av:=t,offset:=f,sign:=dD},(b3,e3)):=by
  unfold bN bg bZ aT bZ
  simp only[q0,eB,eS]
 have qs:aJ Tryz.prog 156 [.int .i64 11] (.bool false):=gu 11
 refine aF 140 [] Tryz.func177 rfl (by kernel_rfl) ?_
 repeat' (conv=>arg 2;whnf);first|refine af (by kernel_rfl) ?_|refine aA ?_ ?_|refine ah ?_|refine aj ?_|refine dJ (by decide) ?_|refine bI (by decide) ?_|refine aP (aZ (by decide) (by decide)) ?_|refine aC 0 (b,e) (b0,e0) (.int .u64 11) (fD MX) hs (congrArg Prod.snd q0).symm (congrArg (fun r:Int×RS=>D.int .u64 r.1) q0).symm ⟨⟨rfl,rfl⟩,trivial⟩ (aa.refl _) rfl ?_|refine aC 0 (b0,e0) (b1,e1) (.int .i64 y) Kc h0 (congrArg Prod.snd q1).symm (congrArg (fun r:Int×RS=>D.int .i64 r.1) q1).symm ⟨⟨rfl,rfl⟩,trivial⟩ (aa.refl _) rfl ?_|refine aC 0 (b1,e1) (b2,e2) (.str t) LY h1 (congrArg Prod.snd q2).symm (congrArg (fun r:List UInt8×RS=>D.str r.1) q2).symm ⟨⟨rfl,rfl⟩,trivial⟩ (aa.refl _) rfl ?_|refine aC 0 (b2,e2) (b3,e3) (.int .i64 f) (kA 0) h2 (congrArg Prod.snd q3).symm (congrArg (fun r:Int×RS=>D.int .i64 r.1) q3).symm ⟨⟨rfl,rfl⟩,trivial⟩ (aa.refl _) rfl ?_|refine ak qs rfl (aa.refl _) ?_|refine bE (d:=.agg (aU ({aO with kind:=11,aQ:=y,av:=t,offset:=f,sign:=dD}))) (.inr rfl) rfl ⟨⟨rfl,rfl⟩,trivial⟩ rfl (aa.bA (by repeat' first|exact aa.nil|refine aa.cons (.refl _) ?_|refine aa.cons (.nil _) ?_)) (congrArg Prod.snd eR).symm (congrArg (fun r:aN×RS=>D.agg (aU r.1)) eR).symm|fail
set_option maxHeartbeats 2000000 in
theorem TC [Wd] (b:List UInt8) (e:Int) (hs:b.length<=8388609) {b0:List UInt8} {e0:Int} (q0:nR MX (b,e)=(12,(b0,e0))) (h0:b0.length<=8388609):bf Tryz.prog 177 [.agg [.ptr 0 0]] (dz (b,e)) (fun r h=>r=.agg (aU (bN (b,e)).1)/\h=dz (bN (b,e)).2):=by
 obtain⟨r,b1,e1,q1,l1⟩:=Rd1.get (dK 12) (b0,e0)
 replace l1:b1.length<=b0.length:=l1
 have h1:b1.length<=8388609:=by omega
 obtain⟨p,b2,e2,q2,l2⟩:=Rd1.get KU (b1,e1)
 replace l2:b2.length<=b1.length:=l2
 have h2:b2.length<=8388609:=by omega
 have eB:fQ 12 (b0,e0)=({aO with kind:=12,src:=r,proof:=p},(b2,e2)):=by
  show bg (fun z=>{aO with kind:=12,src:=z.1,proof:=z.2}) (aT (nR 12) uE) (b0,e0)=_
  unfold bg aT bZ
  simp only[q1,q2]
 have eS:kf 12 (b2,e2)=(dD,(b2,e2)):=rfl
 have eR:bN (b,e)=({aO with kind:=12,src:=r,proof:=p,sign:=dD},(b2,e2)):=by
  unfold bN bg bZ aT bZ
  simp only[q0,eB,eS]
 have qs:aJ Tryz.prog 156 [.int .i64 12] (.bool false):=gu 12
 refine aF 140 [] Tryz.func177 rfl (by kernel_rfl) ?_
 repeat' (conv=>arg 2;whnf);first|refine af (by kernel_rfl) ?_|refine aA ?_ ?_|refine ah ?_|refine aj ?_|refine dJ (by decide) ?_|refine bI (by decide) ?_|refine aP (aZ (by decide) (by decide)) ?_|refine aC 0 (b,e) (b0,e0) (.int .u64 12) (fD MX) hs (congrArg Prod.snd q0).symm (congrArg (fun r:Int×RS=>D.int .u64 r.1) q0).symm ⟨⟨rfl,rfl⟩,trivial⟩ (aa.refl _) rfl ?_|refine aC 0 (b0,e0) (b1,e1) (.int .i64 r) tO h0 (congrArg Prod.snd q1).symm (congrArg (fun r:Int×RS=>D.int .i64 r.1) q1).symm ⟨⟨rfl,rfl⟩,trivial⟩ (aa.refl _) rfl ?_|refine aC 0 (b1,e1) (b2,e2) (.agg (j8 p)) Tz h1 (congrArg Prod.snd q2).symm (congrArg (fun r:jL×RS=>D.agg (j8 r.1)) q2).symm ⟨⟨rfl,rfl⟩,trivial⟩ (aa.refl _) rfl ?_|refine ak qs rfl (aa.refl _) ?_|refine bE (d:=.agg (aU ({aO with kind:=12,src:=r,proof:=p,sign:=dD}))) (.inr rfl) rfl ⟨⟨rfl,rfl⟩,trivial⟩ rfl (aa.bA (by repeat' first|exact aa.nil|refine aa.cons (.refl _) ?_|refine aa.cons (.nil _) ?_)) (congrArg Prod.snd eR).symm (congrArg (fun r:aN×RS=>D.agg (aU r.1)) eR).symm|fail
end Go.Proofs.YtafomdobfmmleaaGreatDoor

/- Lemmas and contracts. -/
namespace Go.Proofs.YtafomdobfmmleaaGreatDoor
open Go.RowKit
set_option linter.unusedVariables false
set_option maxRecDepth 20000
set_option maxHeartbeats 2000000 in
theorem Vq [Wd] (k:Int) (hk:¬(1<=k/\k<=12)) (b:List UInt8) (e:Int) (hs:b.length<=8388609) {b0:List UInt8} {e0:Int} (q0:nR MX (b,e)=(k,(b0,e0))) (h0:b0.length<=8388609):bf Tryz.prog 177 [.agg [.ptr 0 0]] (dz (b,e)) (fun r h=>r=.agg (aU (bN (b,e)).1)/\h=dz (bN (b,e)).2):=by
 have hr:=nO q0
 rw[uF] at hr
 obtain⟨ef,iC⟩:∃ef:Int,eX 100 (b0,e0)=(b0,ef):=⟨(eX 100 (b0,e0)).2,Prod.ext (sy _ _) rfl⟩
 have eB:fQ k (b0,e0)=({aO with kind:=k},(b0,ef)):=by
  unfold fQ
  rw[if_neg (by omega),if_neg (by omega),if_neg (by omega),if_neg (by omega),if_neg (by omega),if_neg (by omega),if_neg (by omega),if_neg (by omega),if_neg (by omega),if_neg (by omega),if_neg (by omega),if_neg (by omega)]
  unfold gd pR
  simp only[iC]
 have Pe:dc k=false:=by
  unfold dc
  simp only[Bool.or_eq_false_iff,decide_eq_false_iff_not]
  omega
 have eS:kf k (b0,ef)=(dD,(b0,ef)):=by
  unfold kf
  rw[Pe]
  rfl
 have eR:bN (b,e)=({aO with kind:=k,sign:=dD},(b0,ef)):=by
  unfold bN bg bZ aT bZ
  simp only[q0,eB,eS]
 have qs:aJ Tryz.prog 156 [.int .i64 k] (.bool false):=by
  have:=gu k
  rwa [Pe] at this
 have hw:IntKind.i64.wrap k=k:=aZ (by omega) (by omega)
 have n1:(k==1)=false:=by simp;omega
 have n2:(k==2)=false:=by simp;omega
 have n3:(k==3)=false:=by simp;omega
 have n4:(k==4)=false:=by simp;omega
 have n5:(k==5)=false:=by simp;omega
 have n6:(k==6)=false:=by simp;omega
 have n7:(k==7)=false:=by simp;omega
 have n8:(k==8)=false:=by simp;omega
 have n9:(k==9)=false:=by simp;omega
 have Pf:(k==10)=false:=by simp;omega
 have Ph:(k==11)=false:=by simp;omega
 have Pj:(k==12)=false:=by simp;omega
 refine aF 140 [] Tryz.func177 rfl (by kernel_rfl) ?_
 repeat' (conv=>arg 2;whnf);first|refine af (by kernel_rfl) ?_|refine aA ?_ ?_|refine ah ?_|refine aj ?_|refine bI n1 ?_|refine bI (by rw[hw];exact n1) ?_|refine bI n2 ?_|refine bI (by rw[hw];exact n2) ?_|refine bI n3 ?_|refine bI (by rw[hw];exact n3) ?_|refine bI n4 ?_|refine bI (by rw[hw];exact n4) ?_|refine bI n5 ?_|refine bI (by rw[hw];exact n5) ?_|refine bI n6 ?_|refine bI (by rw[hw];exact n6) ?_|refine bI n7 ?_|refine bI (by rw[hw];exact n7) ?_|refine bI n8 ?_|refine bI (by rw[hw];exact n8) ?_|refine bI n9 ?_|refine bI (by rw[hw];exact n9) ?_|refine bI Pf ?_|refine bI (by rw[hw];exact Pf) ?_|refine bI Ph ?_|refine bI (by rw[hw];exact Ph) ?_|refine bI Pj ?_|refine bI (by rw[hw];exact Pj) ?_|refine aP hw ?_|refine aC 0 (b,e) (b0,e0) (.int .u64 k) (fD MX) hs (congrArg Prod.snd q0).symm (congrArg (fun r:Int×RS=>D.int .u64 r.1) q0).symm ⟨⟨rfl,rfl⟩,trivial⟩ (aa.refl _) rfl ?_|refine aC 0 (b0,e0) (b0,ef) (.aD []) (j6 100) h0 iC.symm rfl ⟨⟨rfl,rfl⟩,trivial⟩ (aa.refl _) rfl ?_|refine ak qs rfl (aa.refl _) ?_|refine ak qs rfl (GP (by rw[hw])) ?_|refine bE (d:=.agg (aU {aO with kind:=k,sign:=dD})) (.inr rfl) rfl ⟨⟨rfl,rfl⟩,trivial⟩ rfl (aa.bA (by refine aa.cons (Co.of_eq (show D.int .i64 (IntKind.i64.wrap k)=D.int .i64 k by rw[hw])) ?_;repeat' first|exact aa.nil|refine aa.cons (.refl _) ?_|refine aa.cons (.nil _) ?_)) (congrArg Prod.snd eR).symm (congrArg (fun r:aN×RS=>D.agg (aU r.1)) eR).symm|fail
theorem Rn [Wd]:fP 177 (.agg [.ptr 0 0]) [] (fun s=>.agg (aU (bN s).1)) (fun s=>(bN s).2):=by
 rintro⟨b,e⟩ hs
 replace hs:b.length<=8388609:=hs
 obtain⟨k,b0,e0,q,l⟩:=Rd1.get (dK MX) (b,e)
 replace l:b0.length<=b.length:=l
 have h0:b0.length<=8388609:=by omega
 by_cases hk:1<=k/\k<=12
 ·have:k=1\/k=2\/k=3\/k=4\/k=5\/k=6\/k=7\/k=8\/k=9\/k=10\/k=11\/k=12:=by omega
  rcases this with rfl|rfl|rfl|rfl|rfl|rfl|rfl|rfl|rfl|rfl|rfl|rfl
  ·exact Vh b e hs q h0
  ·exact Vi b e hs q h0
  ·exact Vj b e hs q h0
  ·exact Vk b e hs q h0
  ·exact Vl b e hs q h0
  ·exact Vm b e hs q h0
  ·exact Vn b e hs q h0
  ·exact Vo b e hs q h0
  ·exact Vp b e hs q h0
  ·exact TA b e hs q h0
  ·exact TB b e hs q h0
  ·exact TC b e hs q h0
 ·exact Vq k hk b e hs q h0
theorem Rp [Wd] (bs:List UInt8) (hl:bs.length<=4194304):aJ Tryz.prog 176 [.list 1 (bs.map aE),.fn 177 0 []] (.aD [.agg (aU (ga bN aO bs).1),.int .i64 (ga bN aO bs).2]):=by
 obtain⟨x,b,e,ec,hb⟩:=Rd1.get WK (bs,0)
 replace hb:b.length<=bs.length:=hb
 obtain⟨d,hd⟩:∃d,d=gy (b,e):=⟨_,rfl⟩
 have gL:262144<bs.length->ga bN aO bs=(aO,3):=Sy
 have gN:¬262144<bs.length->¬d=0->ga bN aO bs=(aO,d):=fun h k=>by rw[hd] at k ⊢;exact Sz h ec k
 have gY:¬262144<bs.length->d=0->ga bN aO bs=(x,0):=fun h k=>by rw[hd] at k;exact K6 h ec k
 have hlen:((bs.map aE).length:Int)=bs.length:=by rw[List.length_map]
 by_cases pW:262144<bs.length
 ·have hz:decide (((bs.map aE).length:Int)>262144)=true:=by rw[hlen];simp;omega
  rw[gL pW]
  refine aF 28 [] Tryz.func176 rfl (by kernel_rfl) ?_
  repeat' (conv=>arg 2;whnf);first|refine af (by kernel_rfl) ?_|refine aA ?_ ?_|refine ah ?_|refine aj ?_|refine dJ hz ?_|refine bq (.inr rfl) rfl (aa.fG (aa.cons (aa.bA (by repeat' first|exact aa.nil|refine aa.cons (.refl _) ?_|refine aa.cons (.nil _) ?_)) (aa.cons (.refl _) .nil))) rfl|fail
 ·have hz:decide (((bs.map aE).length:Int)>262144)=false:=by rw[hlen];simp;omega
  refine aF 28 [] Tryz.func176 rfl (by kernel_rfl) ?_
  repeat' (conv=>arg 2;whnf);first|refine af (by kernel_rfl) ?_|refine aA ?_ ?_|refine ah ?_|refine aj ?_|refine bI hz ?_|refine oF (fun h=>?_) (fun h=>?_)|refine dx [] (vr bs (by omega)) (.mk' rfl trivial) (aa.refl _) rfl ?_|refine aC 2 (bs,0) (b,e) (.agg (aU x)) Rn (by show bs.length<=_;omega) (congrArg Prod.snd ec).symm (congrArg (fun r:aN×RS=>D.agg (aU r.1)) ec).symm ⟨⟨rfl,rfl⟩,trivial⟩ (aa.refl _) rfl ?_|refine aC 2 (b,e) (b,e) (.int .i64 d) xp (by show b.length<=_;omega) rfl (by rw[hd]) ⟨⟨rfl,rfl⟩,trivial⟩ (aa.refl _) rfl ?_|(rw[gY pW h];refine bq (.inr rfl) rfl (.refl _) rfl)|(rw[gN pW h];refine bq (.inr rfl) rfl (aa.fG (aa.cons (aa.bA (by repeat' first|exact aa.nil|refine aa.cons (.refl _) ?_|refine aa.cons (.nil _) ?_)) (aa.cons (.refl _) .nil))) rfl)|fail
theorem Cm [Wd] (bs:List UInt8) (hl:bs.length<=4194304):aJ Tryz.prog 122 [.list 1 (bs.map aE)] (.aD [.agg (aU (ga bN aO bs).1),.int .i64 (ga bN aO bs).2]):=by
 refine aF 8 [] Tryz.func122 rfl (by kernel_rfl) ?_
 repeat' (conv=>arg 2;whnf);first|refine af (by kernel_rfl) ?_|refine aA ?_ ?_|refine ah ?_|refine aj ?_|refine ak (Rp bs hl) rfl (aa.refl _) ?_|refine bq (.inr rfl) rfl (.refl _) rfl
end Go.Proofs.YtafomdobfmmleaaGreatDoor

/- Lemmas and contracts. -/
namespace Go.Proofs.YtafomdobfmmleaaGreatDoor
open Go.RowKit
set_option linter.unusedVariables false
set_option maxRecDepth 20000
end Go.Proofs.YtafomdobfmmleaaGreatDoor

/- Lemmas and contracts. -/
namespace Go.Proofs.YtafomdobfmmleaaGreatDoor
open Go.RowKit
set_option linter.unusedVariables false
set_option maxRecDepth 20000
theorem Mi [Wd] {P:Program} {tb:TT} {rs:List ResultVar} {e:Exit} {s:S} {h:List AO} {r:D} {h':List AO} {ds:List D} {cQ:D->List AO->Prop} (fz σ:List Nat) (he:e=.normal\/e=.ret) (hr:jG tb (s.cM fz) rs=some ds) (hn:nodupB σ=true) (hv:kK (s.cM fz).h σ σ h') (hk:rJ 0 h σ h') (iZ:Co (lJ ds) (r.bG σ)) (hp:cQ r h'):(T.leaf e s).ok P (Lf tb rs h cQ):=
 ⟨he,fz,ds,hr,σ,r,_,h',.mk' hn hv,iZ,rfl,fun o t cs ho=>xu hk o t cs ho |>.imp (fun k=>by simpa using k) (fun k=>by simpa using k),hp⟩
end Go.Proofs.YtafomdobfmmleaaGreatDoor

/- Lemmas and contracts. -/
namespace Go.Proofs.YtafomdobfmmleaaGreatDoor
open Go.RowKit
set_option linter.unusedVariables false
set_option maxRecDepth 20000
set_option maxHeartbeats 1000000
abbrev fS (x y:Int) (c:cX):aN:={aO with kind:=7,src:=x,view:=y,changes:=[c]}
theorem CZ {b:List UInt8} (h:(ga bN aO b).2=0) (h7:(ga bN aO b).1.kind=7):∃x y c,(ga bN aO b).1=fS x y c:=by
 have hb:dV (ga bN aO b).1=0:=by
  unfold ga at h ⊢
  split at h
  ·cases h
  ·rename_i h1
   rw[if_neg h1]
   split at h
   ·rename_i h2
    rw[if_pos h2]
    refine(FM.back b ?_).1
    unfold gy at h2
    split at h2
    ·assumption
    ·assumption
   ·rename_i h2
    exact absurd h h2
 generalize (ga bN aO b).1=m at hb h7
 have h2:=(EV hb).2
 have hk:=tQ (tN hb)
 have hc:m.changes.length=1:=by
  unfold cG at hk
  rw[h7] at hk
  simp only[show ¬((7:Int)=1) by decide,show ¬((7:Int)=2) by decide,show ¬((7:Int)=3) by decide,show ¬((7:Int)=4) by decide,show ¬((7:Int)=5) by decide,show ¬((7:Int)=6) by decide,if_false,if_true,bC] at hk
  have h1:=hk.1
  unfold dO at h1
  split at h1
  ·cases h1
  ·omega
 obtain⟨c,hc⟩:=vO hc
 refine⟨m.src,m.view,c,?_⟩
 unfold aH at h2
 simp only[h7,show ¬((7:Int)=1) by decide,show ¬((7:Int)=2) by decide,show ¬((7:Int)=3) by decide,show ¬((7:Int)=4) by decide,show ¬((7:Int)=5) by decide,show ¬((7:Int)=6) by decide,show ¬((7:Int)=3\/(7:Int)=4) by decide,if_false,if_true,show dc 7=false from rfl,Bool.false_eq_true] at h2
 rw[hc] at h2
 exact h2
def Bh (x y:Int) (c:cX):List D:=[.int .i64 7,.int .i64 x,.int .i64 y,.int .i64 0,.int .i64 0,.int .i64 0,.int .i64 0,.int .i64 0,.int .i64 0,.own 9 [],.int .i64 0,.int .i64 0,.own 2 [],.row 0,.own 5 [],.own 1 [],.str [],.int .i64 0,.str [],.int .i64 0,.own 1 [],.own 5 [],.int .i64 0,.int .i64 0,.own 1 [],.int .i64 0,.int .i64 0,.own 2 [],.int .i64 0,.int .i64 0]
theorem We [Wd] (x y:Int) (c:cX) (hc:gG.ok c):bf Tryz.prog 178 [.agg (aU (fS x y c))] [] (fun r h=>r=.agg (Bh x y c)/\h=[.row 145 8 [kN c]]):=by
 refine jZ 86 [(1,⟨PT.of [(0,false),(1,false),(3,false),(4,false),(6,false),(7,false),(2,true),(9,false),(5,true),(8,true),(10,true),(11,false),(12,true),(13,false),(14,true)],[0,1,2,3,1010,1012,1014]⟩),(2,⟨PT.of [(0,false),(1,false),(3,false),(4,false),(2,true),(6,false),(5,true),(7,true),(8,false),(9,true)],[0,1,2,3,1007,1009]⟩),(6,⟨PT.of [(0,false),(1,false),(2,false),(3,false),(4,false),(5,false),(6,false),(7,false),(8,true),(9,false),(10,true)],[0,1,2,3,1010]⟩),(11,⟨PT.of [(0,false),(1,false),(2,false),(3,false),(4,false),(5,false),(6,false),(7,false),(8,false),(9,true),(10,false),(11,false),(12,true)],[0,1,2,3,1012]⟩),(13,⟨PT.of [(0,false),(1,false),(2,false),(4,false),(5,false),(6,false),(8,false),(9,false),(10,false),(3,true),(12,false),(13,false),(7,true),(11,true),(14,true),(15,false),(16,false),(17,true),(18,false),(19,false),(20,true)],[0,1,2,3,1014,1017,1020]⟩)] Tryz.func178 rfl (by kernel_rfl) ?_
 repeat' (conv=>arg 2;whnf);first|refine af (by kernel_rfl) ?_|refine aA ?_ ?_|refine ak (zR (fS x y c).batch eJ) rfl (aa.refl _) ?_|refine ak (sj (fS x y c).cert ⟨bt,bt,eJ⟩) rfl (aa.refl _) ?_|refine ak (q9 (fS x y c).state (Nat.zero_le _)) rfl (aa.refl _) ?_|refine o8 [] (JT (fS x y c).changes (show 1<=4194304 by decide)) (.mk' rfl trivial) (aa.refl _) rfl (fun r jR hp=>?_)
 rcases hp with⟨yZ,rfl,rfl⟩|⟨rfl,rfl⟩
 ·exact absurd yZ (List.cons_ne_nil _ _)
 ·skip
  repeat' (conv=>arg 2;whnf);first|refine af (by kernel_rfl) ?_|refine o8 [] (EW (fS x y c).entries (Nat.zero_le _)) (.mk' rfl trivial) (aa.refl _) rfl (fun r jR hp=>?_)
  rcases hp with⟨DR,rfl,rfl⟩|⟨rfl,rfl⟩
  ·skip
   repeat' (conv=>arg 2;whnf);first|refine af (by kernel_rfl) ?_|refine aA ?_ ?_
   conv=>arg 2;whnf
   refine cD (α:=Nat) (fun i=>⟨[(28,.int .i64 i),(27,.int .i64 ((fS x y c).changes.map bW).length),(2,.ptr 1 0),(1,.ptr 0 0)],[.cells 59 (pV (fS x y c) (.row 2) (.nils)),.cells 59 pQ,.row 145 8 (((fS x y c).changes.take i).map kN++((fS x y c).changes.drop i).map bW)]⟩) (fun i=>i<=(fS x y c).changes.length) (fun i=>(fS x y c).changes.length-i) 0 (Nat.zero_le _) (Sv.mk' [0,1,2] rfl ⟨⟨rfl,rfl⟩,⟨rfl,rfl⟩,⟨rfl,rfl⟩,trivial⟩ ⟨rfl,rfl,rfl,rfl,trivial⟩) ?_
   intro i (hi:i<=(fS x y c).changes.length)
   conv=>arg 2;whnf
   refine aG (fun h=>?_) (fun h=>?_)
   ·have u0:i=0:=by
     have:(i:Int)<1:=by simpa using h
     omega
    subst u0
    repeat' (conv=>arg 2;whnf);first|refine af (by kernel_rfl) ?_|refine aA ?_ ?_|refine ah ?_|refine aj ?_|refine af (by simp) ?_|refine kS (bW c) (by decide) rfl ?_|refine kS (kN c) (by decide) rfl ?_|refine ak (BL c hc) rfl (aa.refl _) ?_|refine aP (by rfl) ?_|refine bV 1 (Sv.mk' [0,1,2] rfl ⟨⟨rfl,rfl⟩,⟨rfl,rfl⟩,⟨rfl,rfl⟩,trivial⟩ ⟨rfl,rfl,rfl,rfl,trivial⟩) (Nat.le_refl _) (show(0:Nat)<1 by decide)|fail
   ·rw[vM hi (by have:¬(i:Int)<1:=by simpa using h
                 show ¬i<1;omega)]
    repeat' (conv=>arg 2;whnf);first|refine af (by kernel_rfl) ?_|refine aA ?_ ?_|refine ah ?_|refine aj ?_|refine bD ?_
    conv=>arg 2;whnf
    refine cD (α:=Unit) (fun a=>⟨[(45,.int .i64 0),(44,.int .i64 0),(2,.ptr 1 0),(1,.ptr 0 0)],[.cells 59 (pV (fS x y c) (.row 2) (.nils)),.cells 59 pQ,.row 145 8 [kN c]]⟩) (fun a=>True) (fun a=>0) () trivial (Sv.mk' [0,1,2] rfl ⟨⟨rfl,rfl⟩,⟨rfl,rfl⟩,⟨rfl,rfl⟩,trivial⟩ ⟨rfl,rfl,rfl,rfl,trivial⟩) ?_
    rintro a-
    repeat' (conv=>arg 2;whnf);first|refine af (by kernel_rfl) ?_|refine aA ?_ ?_|refine ah ?_|refine aj ?_|refine bD ?_|refine ak (q9 (fS x y c).proof.record (Nat.zero_le _)) rfl (aa.refl _) ?_|refine ak (w8 (fS x y c).proof.headers (Nat.zero_le _)) rfl (aa.refl _) ?_|refine ak (w9 (fS x y c).proof.path (Nat.zero_le _)) rfl (aa.refl _) ?_|refine ak (sj (fS x y c).proof.cert ⟨bt,bt,eJ⟩) rfl (aa.refl _) ?_|(refine Mi (r:=.agg (Bh x y c)) (h':=[.row 145 8 [kN c]]) [] [2] (.inr rfl) rfl rfl ⟨⟨rfl,rfl⟩,trivial⟩ trivial (aa.bA (by unfold Bh;repeat' first|exact aa.nil|refine aa.cons (.refl _) ?_|refine aa.cons (.nT _) ?_)) ⟨rfl,rfl⟩;done)|fail
  ·skip
   repeat' (conv=>arg 2;whnf);first|refine af (by kernel_rfl) ?_|refine aA ?_ ?_
   conv=>arg 2;whnf
   refine cD (α:=Nat) (fun i=>⟨[(28,.int .i64 i),(27,.int .i64 ((fS x y c).changes.map bW).length),(2,.ptr 1 0),(1,.ptr 0 0)],[.cells 59 (pV (fS x y c) (.row 2) (.row 3)),.cells 59 pQ,.row 145 8 (((fS x y c).changes.take i).map kN++((fS x y c).changes.drop i).map bW),.row 159 5 []]⟩) (fun i=>i<=(fS x y c).changes.length) (fun i=>(fS x y c).changes.length-i) 0 (Nat.zero_le _) (Sv.mk' [0,1,2,3] rfl ⟨⟨rfl,rfl⟩,⟨rfl,rfl⟩,⟨rfl,rfl⟩,⟨rfl,rfl⟩,trivial⟩ ⟨rfl,rfl,rfl,rfl,trivial⟩) ?_
   intro i (hi:i<=(fS x y c).changes.length)
   conv=>arg 2;whnf
   refine aG (fun h=>?_) (fun h=>?_)
   ·have u0:i=0:=by
     have:(i:Int)<1:=by simpa using h
     omega
    subst u0
    repeat' (conv=>arg 2;whnf);first|refine af (by kernel_rfl) ?_|refine aA ?_ ?_|refine ah ?_|refine aj ?_|refine af (by simp) ?_|refine kS (bW c) (by decide) rfl ?_|refine kS (kN c) (by decide) rfl ?_|refine ak (BL c hc) rfl (aa.refl _) ?_|refine aP (by rfl) ?_|refine bV 1 (Sv.mk' [0,1,2,3] rfl ⟨⟨rfl,rfl⟩,⟨rfl,rfl⟩,⟨rfl,rfl⟩,⟨rfl,rfl⟩,trivial⟩ ⟨rfl,rfl,rfl,rfl,trivial⟩) (Nat.le_refl _) (show(0:Nat)<1 by decide)|fail
   ·rw[vM hi (by have:¬(i:Int)<1:=by simpa using h
                 show ¬i<1;omega)]
    repeat' (conv=>arg 2;whnf);first|refine af (by kernel_rfl) ?_|refine aA ?_ ?_|refine ah ?_|refine aj ?_|refine bD ?_
    conv=>arg 2;whnf
    refine cD (α:=Unit) (fun a=>⟨[(45,.int .i64 0),(44,.int .i64 0),(2,.ptr 1 0),(1,.ptr 0 0)],[.cells 59 (pV (fS x y c) (.row 2) (.row 3)),.cells 59 pQ,.row 145 8 [kN c],.row 159 5 []]⟩) (fun a=>True) (fun a=>0) () trivial (Sv.mk' [0,1,2,3] rfl ⟨⟨rfl,rfl⟩,⟨rfl,rfl⟩,⟨rfl,rfl⟩,⟨rfl,rfl⟩,trivial⟩ ⟨rfl,rfl,rfl,rfl,trivial⟩) ?_
    rintro a-
    repeat' (conv=>arg 2;whnf);first|refine af (by kernel_rfl) ?_|refine aA ?_ ?_|refine ah ?_|refine aj ?_|refine bD ?_|refine ak (q9 (fS x y c).proof.record (Nat.zero_le _)) rfl (aa.refl _) ?_|refine ak (w8 (fS x y c).proof.headers (Nat.zero_le _)) rfl (aa.refl _) ?_|refine ak (w9 (fS x y c).proof.path (Nat.zero_le _)) rfl (aa.refl _) ?_|refine ak (sj (fS x y c).proof.cert ⟨bt,bt,eJ⟩) rfl (aa.refl _) ?_|(refine Mi (r:=.agg (Bh x y c)) (h':=[.row 145 8 [kN c]]) [3,1003] [2] (.inr rfl) rfl rfl ⟨⟨rfl,rfl⟩,trivial⟩ trivial (aa.bA (by unfold Bh;repeat' first|exact aa.nil|refine aa.cons (.refl _) ?_|refine aa.cons (.nT _) ?_)) ⟨rfl,rfl⟩;done)|fail
theorem nF {α:Type} {f g:α->List D} (h:∀x,D.cE.cl (f x)=g x) (l:List α):D.cE.ll (l.map f)=l.map g:=by
 rw[C0,List.map_map];exact List.map_congr_left (fun x _=>h x)
theorem Mj (x:UInt8):D.cE.cl (aE x)=aE x:=rfl
theorem W8 (x:Int):D.cE.cl (eY x)=eY x:=rfl
theorem EX (s:bH):D.cE.cl (bu s)=bu s:=by simp only[bu,bu,D.cE.cl,D.cE]
theorem Q3 (s:iS):D.cE.cl (eM s)=eM s:=by simp only[eM,eM,D.cE.cl,D.cE]
theorem Ui (s:List UInt8):D.cE.cl (AR s)=kU s:=by simp only[AR,kU,D.cE.cl,D.cE,nF Mj]
theorem Ek (s:cq):D.cE.cl (uk s)=cZ s:=by simp only[uk,cZ,D.cE.cl,D.cE,nF Ui]
theorem Qa (s:gq):D.cE.cl (B1 s)=eK s:=by simp only[B1,eK,D.cE.cl,D.cE,nF EX,nF Ek]
theorem Q4 (s:cX):D.cE.cl (kN s)=bW s:=by simp only[kN,bW,D.cE.cl,D.cE,nF EX,nF Qa]
theorem RI (s:gH):D.cE.cl (Ap s)=dH s:=by simp only[Ap,dH,D.cE.cl,D.cE,nF Ek]
theorem Uj (s:aN):D.cE.cl (qG s)=aU s:=by simp only[qG,aU,D.cE.cl,D.cE,nF Ek,nF EX,nF Q4,nF RI,nF Mj,nF Q3,nF W8]
theorem Mk (m:aN):Co (.agg (qG m)) (.agg (aU m)):=by
 have h:=Co.cE (.agg (qG m))
 rw[show(D.agg (qG m)).cE=.agg (D.cE.cl (qG m)) from rfl,Uj] at h
 exact h
theorem W9 [Wd] (x y:Int) (c:cX) (s:bH) (hc:gG.ok c):aJ Tryz.prog 123 [.agg (aU (fS x y c)),.agg (bu s)] (.agg (aU (lH (fS x y c) s))):=by
 refine aF 24 [] Tryz.func123 rfl (by kernel_rfl) ?_
 repeat' (conv=>arg 2;whnf);first|refine af (by kernel_rfl) ?_|refine aA ?_ ?_|refine ah ?_|refine aj ?_|refine af (by simp) ?_|(refine o8 [] (We x y c hc) (.mk' rfl trivial) (aa.refl _) rfl ?_;rintro r h' ⟨rfl,rfl⟩)|refine kS (kN c) (by decide) rfl ?_|refine jo [3,1003] (.inr rfl) rfl (Mk (fS x y {c with sign:=s})) rfl
theorem CD [Wd] (m:aN) (s:bH) (hm:cr.ok m) (h7:m.kind=7->∃x y c,m=fS x y c):aJ Tryz.prog 123 [.agg (aU m),.agg (bu s)] (.agg (aU (lH m s))):=by
 by_cases hk:m.kind=7
 ·obtain⟨x,y,c,rfl⟩:=h7 hk
  exact W9 x y c s (hm.2.2.2.2.2.2.2.2.2.2.1.2 c (List.mem_singleton.2 rfl))
 ·rw[show lH m s={m with sign:=s} from if_neg hk]
  refine aF 24 [] Tryz.func123 rfl (by kernel_rfl) ?_
  repeat' (conv=>arg 2;whnf);first|refine af (by kernel_rfl) ?_|refine aA ?_ ?_|refine ak (Uk m hm) rfl (aa.refl _) ?_|refine bI (by first|(simp;done)|simpa using hk) ?_|refine jo [] (.inr rfl) rfl (Mk {m with sign:=s}) rfl
theorem okW [Wd] {α:Type} {Q:Exit->S->Prop} {f:FuncId} {cu:List D} {p:j3 α} {R:α->D} {hb:List AO} {c:D->List AO->T} (o:Nat) (hF:yI f p R) (ws:List (List UInt8)) (hw:jI ws) (hp:p ws=none->Wd.jq ou) (hv:kK hb [o] [o] (ez ws)) (hc:aa cu [.ptr o 0]) (hM:([o].all fun o=>(kg hb cu).elem o)=true) (k:∀x rest,p ws=some (x,rest)->(c ((R x).bG (mY hb [o] (ez ws) (ez rest))) (mW hb [o] (ez ws) (ez rest))).ok Tryz.prog Q):(T.call f cu hb c).ok Tryz.prog Q:=
 Dg [o] (hF ws hw hp) (.mk' rfl hv) hc hM fun r h' ⟨x,rest,e,e1,e2⟩=>by subst e1 e2;exact k x rest e
theorem Kw {α:Type} {p:List UInt8->Option α} {ws:List (List UInt8)} (h:pU some ws=none):pU p ws=none:=by cases ws with
 |nil=>rfl
 |cons s r=>cases h
theorem Kx {α:Type} {p:List UInt8->Option α} {ws rest:List (List UInt8)} {s:List UInt8} (h:pU some ws=some (s,rest)):pU p ws=(p s).map fun x=>(x,rest):=by cases ws with
 |nil=>cases h
 |cons s' r=>injection h with h;injection h with h1 h2;subst h1 h2;rfl
theorem CE {ws rest:List (List UInt8)} {s:List UInt8} (hw:jI ws) (h:pU some ws=some (s,rest)):s.length<=4194304/\jI rest:=by cases ws with
 |nil=>cases h
 |cons s' r=>injection h with h;injection h with h1 h2;subst h1 h2;exact⟨hw.head,hw.tail⟩
theorem CF [Wd]:yI 75 kI (fun b=>.list 1 (b.map aE)):=by
 intro ws hw hp
 refine aF 14 [] Tryz.func75 rfl (by kernel_rfl) ?_
 repeat' (conv=>arg 2;whnf);first|refine af (by kernel_rfl) ?_|refine aA ?_ ?_
 conv=>arg 2;whnf
 refine okW 0 Ge ws hw (fun h=>hp (Kw h)) ⟨⟨rfl,rfl⟩,trivial⟩ (aa.refl _) rfl fun s rest hs=>?_
 have e1:kI ws=_:=Kx (p:=ff) hs
 have l1:=CE hw hs
 have hx:=Q0 s l1.1
 cases hq:ff s with
 |none=>
  rw[hq] at e1
  rw[zB hq] at hx
  repeat' (conv=>arg 2;whnf);first|refine af (by kernel_rfl) ?_|refine aA ?_ ?_|refine ak hx rfl (aa.refl _) ?_|(refine gW (jy _ (fun _=>hp e1)) rfl (aa.refl _) ?_;rintro r ⟨hr,rfl⟩;cases hr;done)
 |some b=>
  rw[hq] at e1
  have Bd:aJ Tryz.prog 12 [.str s] (.aD [.list 1 (b.map aE),.bool true]):=by rw[show D.aD [.list 1 (b.map aE),.bool true]=uT s by unfold uT;rw[hq]];exact hx
  repeat' (conv=>arg 2;whnf);first|refine af (by kernel_rfl) ?_|refine aA ?_ ?_|refine ak Bd rfl (aa.refl _) ?_|(refine gW (jy _ (fun h=>by cases h)) rfl (aa.refl _) ?_;rintro r ⟨hr,rfl⟩)|exact iT (r:=.list 1 (b.map aE)) (h':=ez rest) [0] (.inr rfl) rfl rfl ⟨⟨rfl,rfl⟩,trivial⟩ ⟨⟨rfl,rfl⟩,trivial⟩ (.refl _) ⟨_,_,e1,rfl,rfl⟩
theorem Le [Wd] (ws:List (List UInt8)) (hw:jI ws) (hp:kI ws=none->Wd.jq ou):bf Tryz.prog 75 [.ptr 0 0] (ez ws) (fun r h=>∃x rest,kI ws=some (x,rest)/\((x=[]/\r=.nils/\h=ez rest)\/(x≠[]/\r=.row 1/\h=ez rest++[.row 5 1 (x.map aE)]))):=by
 refine aF 14 [] Tryz.func75 rfl (by kernel_rfl) ?_
 repeat' (conv=>arg 2;whnf);first|refine af (by kernel_rfl) ?_|refine aA ?_ ?_
 conv=>arg 2;whnf
 refine okW 0 Ge ws hw (fun h=>hp (Kw h)) ⟨⟨rfl,rfl⟩,trivial⟩ (aa.refl _) rfl fun s rest hs=>?_
 have e1:kI ws=_:=Kx (p:=ff) hs
 have l1:=CE hw hs
 have hx:=QB s l1.1
 cases hq:ff s with
 |none=>
  rw[hq] at e1
  rw[zE hq] at hx
  repeat' (conv=>arg 2;whnf);first|refine af (by kernel_rfl) ?_|refine aA ?_ ?_|(refine o8 [] hx (.mk' rfl trivial) (aa.refl _) rfl ?_;rintro r h' ⟨rfl,rfl⟩)|(refine gW (jy _ (fun _=>hp e1)) rfl (aa.refl _) ?_;rintro r ⟨hr,rfl⟩;cases hr;done)
 |some b=>
  rw[hq] at e1
  cases b with
  |nil=>
   rw[Ld hq] at hx
   repeat' (conv=>arg 2;whnf);first|refine af (by kernel_rfl) ?_|refine aA ?_ ?_|(refine o8 [] hx (.mk' rfl trivial) (aa.refl _) rfl ?_;rintro r h' ⟨rfl,rfl⟩)|(refine gW (jy _ (fun h=>by cases h)) rfl (aa.refl _) ?_;rintro r ⟨hr,rfl⟩)|exact iT (r:=.nils) (h':=ez rest) [0] (.inr rfl) rfl rfl ⟨⟨rfl,rfl⟩,trivial⟩ ⟨⟨rfl,rfl⟩,trivial⟩ (.refl _) ⟨_,_,e1,.inl ⟨rfl,rfl,rfl⟩⟩
  |cons z k=>
   rw[Kv hq] at hx
   repeat' (conv=>arg 2;whnf);first|refine af (by kernel_rfl) ?_|refine aA ?_ ?_|(refine o8 [] hx (.mk' rfl trivial) (aa.refl _) rfl ?_;rintro r h' ⟨rfl,rfl⟩)|(refine gW (jy _ (fun h=>by cases h)) rfl (aa.refl _) ?_;rintro r ⟨hr,rfl⟩)|exact iT (r:=.row 1) (h':=[.cells 83 [.list 1 (cW rest)],.row 5 1 ((z::k).map aE)]) [0,2] (.inr rfl) rfl rfl ⟨⟨rfl,rfl⟩,⟨rfl,rfl⟩,trivial⟩ ⟨⟨rfl,rfl⟩,trivial⟩ (.refl _) ⟨_,_,e1,.inr ⟨List.cons_ne_nil _ _,rfl,rfl⟩⟩
end Go.Proofs.YtafomdobfmmleaaGreatDoor

/- Lemmas and contracts. -/
namespace Go.Proofs.YtafomdobfmmleaaGreatDoor
open Go.RowKit
set_option linter.unusedVariables false
set_option maxRecDepth 20000
theorem Lg {I I':Nat->Prop} [Old] {w w':World} {v:Value} {d:D} (hb:uL d=true) (h:Dr I w v d):Dr I' w' v d:=by
 cases d<;>first|(cases hb;done)|skip
 all_goals cases h;first|exact .bool _|exact .int _ _|exact .str _
theorem abt [Wd] {P:Program} {Q:Exit->S->Prop} {f:FuncId} {ar cu:List D} {h:List AO} {c:D->List AO->T} {t:TypeId} {n:Nat} {xs:List (List D)} (fz:List Nat) (hF:bf P f ar [] (fun r h'=>r=.row 0/\h'=[.row t n xs])) (hp:gh.pl ar=true) (hc:aa (D.cM.fl h fz cu) ar) (hb:∀d∈xs.flatten,uL d=true) (k:(c (.row h.length) (h++[.row t n xs])).ok P Q):(T.call f cu h c).ok P Q:=by
 refine⟨fun r' h'=>r'=.row h.length/\h'=h++[.row t n xs],⟨hF.1,fun w I g vs hW hd ha=>?_⟩,fun r' h' ⟨e1,e2⟩=>by subst e1 e2;exact k⟩
 have hv:bR (fun b=>I b\/fI fz g h b) g w vs (D.cM.fl h fz cu):=by
  rw[oB]
  refine⟨by rw[List.length_map];exact ha.1,fun i v d h1 h2=>?_⟩
  rw[List.getElem?_map] at h2
  cases hq:cu[i]? with
  |none=>rw[hq] at h2;cases h2
  |some d0=>
   rw[hq] at h2
   injection h2 with h2
   subst h2
   exact(ha.2 i v d0 h1 hq).cM hd (Wd.aI hW) (fun _ h=>.inl h) (fun _ h=>.inr h)
 have mA:=lS (hc.ok hv) hp
 have mz:Den (fun b=>I b\/fI fz g h b) [] w []:=⟨rfl,fun b hb=>hb.elim (hd.ay b) (fun ho=>hd.lt ho.owned),fun o ao p h1=>by simp at h1,fun o ao p b h1=>by simp at h1,fun o o' ao bJ p p' b h1=>by simp at h1⟩
 refine(hF.2 w _ [] vs (Wd.cl hW (fun _ _=>rfl) (fun _ h=>.inl h)) mz mA.wH).mono ?_
 have fu:∀b,¬cK [] [] b:=by rintro b ⟨o,ao,p,q1,_⟩;simp at q1
 rintro e w' (⟨v,I',kL,r0,h0,rfl,⟨rfl,rfl⟩,lN,oT,hx,i1,i2,ow,ck⟩|⟨ch,rfl,hp,hx⟩)
 case inr=>exact .inr ⟨ch,rfl,hp,hx.mono (fun x _ ho=>absurd ho (fu x))⟩
 have jr:Ext (fun _=>False) w w':=hx.mono (fun b _ hb=>fu b hb)
 obtain⟨bo,a,l,c0,hg,rfl⟩:=oT.sF
 have hr:=lN.obj 0 (.row t n xs) _ rfl hg
 have u5:∀b,AO.owns (bo,.slice a l c0) (.row t n xs) b->w.heap.size<=b:=fun b hb=>(ow b ⟨0,_,_,rfl,hg,hb⟩).elim (fun k=>absurd k (fu b)) id
 have Oo:Ro I (g++[(bo,.slice a l c0)]) w' (bo,.slice a l c0) (.row t n xs):=by
  obtain⟨a',c',us,e1,e2,e3,e4,e5,e6⟩:=hr
  exact⟨a',c',us,e1,e2,e3,⟨e4.1,fun i v d h1 h2=>Lg (hb d (List.mem_of_getElem? h2)) (e4.2 i v d h1 h2)⟩,e5,e6⟩
 refine .inl ⟨.slice a l c0,I,g++[(bo,.slice a l c0)],.row h.length,h++[.row t n xs],rfl,⟨rfl,rfl⟩,⟨(hd.ext jr (fun _ _=>id) (fun _ _=>id)).AB Oo (fun b hb=>⟨fun hI=>by have:=u5 b hb;have:=hd.ay b hI;omega,fun ho=>by have:=u5 b hb;have:=hd.lt ho;omega⟩),jr.mono (fun _ _ h=>h.elim),fun _ h=>h,fun _ h=>.inl h,fun _ _ h=>o9 h,fun q hq _=>List.getElem?_append_left hq,fun q bJ p' b hq h1 h2 h3=>⟨bJ,by rw[<-h1];exact(List.getElem?_append_left hq).symm,h3⟩,fun q bJ p' b hq h1 h2 h3=>?_⟩,.row h.length bo a l c0 (by rw[<-hd.len];simp)⟩
 rcases jK h1 with⟨e1,_⟩|⟨e1,k1⟩
 ·omega
 ·rcases jK h2 with⟨e2,_⟩|⟨e2,k2⟩
  ·have:=hd.len;omega
  ·subst k1 k2;exact .inr (u5 b h3)
theorem Ul [Wd] {P:Program} {Q:Exit->S->Prop} {f:FuncId} {ar cu:List D} {h:List AO} {c:D->List AO->T} {t t2:TypeId} {n:Nat} {xs:List (List D)} {ds:List D} (fz:List Nat) (hF:bf P f ar [] (fun r h'=>r=.ptr 1 0/\h'=[.row t n xs,.cells t2 (.row 0::ds)])) (hp:gh.pl ar=true) (hc:aa (D.cM.fl h fz cu) ar) (hb:∀d∈xs.flatten,uL d=true) (fO:∀d∈ds,uL d=true) (k:(c (.ptr (h.length+1) 0) (h++[.row t n xs]++[.cells t2 (.row h.length::ds)])).ok P Q):(T.call f cu h c).ok P Q:=by
 refine⟨fun r' h'=>r'=.ptr (h.length+1) 0/\h'=h++[.row t n xs]++[.cells t2 (.row h.length::ds)],⟨hF.1,fun w I g vs hW hd ha=>?_⟩,fun r' h' ⟨e1,e2⟩=>by subst e1 e2;exact k⟩
 have hv:bR (fun b=>I b\/fI fz g h b) g w vs (D.cM.fl h fz cu):=by
  rw[oB]
  refine⟨by rw[List.length_map];exact ha.1,fun i v d h1 h2=>?_⟩
  rw[List.getElem?_map] at h2
  cases hq:cu[i]? with
  |none=>rw[hq] at h2;cases h2
  |some d0=>
   rw[hq] at h2
   injection h2 with h2
   subst h2
   exact(ha.2 i v d0 h1 hq).cM hd (Wd.aI hW) (fun _ h=>.inl h) (fun _ h=>.inr h)
 have mA:=lS (hc.ok hv) hp
 have mz:Den (fun b=>I b\/fI fz g h b) [] w []:=⟨rfl,fun b hb=>hb.elim (hd.ay b) (fun ho=>hd.lt ho.owned),fun o ao p h1=>by simp at h1,fun o ao p b h1=>by simp at h1,fun o o' ao bJ p p' b h1=>by simp at h1⟩
 refine(hF.2 w _ [] vs (Wd.cl hW (fun _ _=>rfl) (fun _ h=>.inl h)) mz mA.wH).mono ?_
 have fu:∀b,¬cK [] [] b:=by rintro b ⟨o,ao,p,q1,_⟩;simp at q1
 rintro e w' (⟨v,I',kL,r0,h0,rfl,⟨rfl,rfl⟩,lN,oT,hx,i1,i2,ow,ck⟩|⟨ch,rfl,hp,hx⟩)
 case inr=>exact .inr ⟨ch,rfl,hp,hx.mono (fun x _ ho=>absurd ho (fu x))⟩
 have jr:Ext (fun _=>False) w w':=hx.mono (fun b _ hb=>fu b hb)
 obtain⟨p0,p1,rfl⟩:∃p0 p1,kL=[p0,p1]:=by
  have hl:=lN.len
  match kL,hl with
  |[p0,p1],_=>exact⟨p0,p1,rfl⟩
 have u5:∀b,cK [p0,p1] [.row t n xs,.cells t2 (.row 0::ds)] b->w.heap.size<=b:=fun b hb=>(ow b hb).elim (fun k=>absurd k (fu b)) id
 obtain⟨a',c',us,e1,e2,e3,e4,e5,e6⟩:=lN.obj 0 (.row t n xs) p0 rfl rfl
 obtain⟨b1,Oq,g1,g2,g3,g4⟩:=lN.obj 1 (.cells t2 (.row 0::ds)) p1 rfl rfl
 have hlen:=hd.len
 have Z1:Ro I (g++[p0]) w' p0 (.row t n xs):=⟨a',c',us,e1,e2,e3,⟨e4.1,fun i v d h1 h2=>Lg (hb d (List.mem_of_getElem? h2)) (e4.2 i v d h1 h2)⟩,e5,e6⟩
 have Z2:=(hd.ext jr (fun _ _=>id) (fun _ _=>id)).AB Z1 (fun b hb=>by
  have:=u5 b ⟨0,_,_,rfl,rfl,hb⟩
  exact⟨fun hI=>by have:=hd.ay b hI;omega,fun ho=>by have:=hd.lt ho;omega⟩)
 have Hz:Ro I (g++[p0]++[p1]) w' p1 (.cells t2 (.row h.length::ds)):=by
  refine⟨b1,Oq,g1,g2,⟨g3.1,fun i v d h1 h2=>?_⟩,g4⟩
  cases i with
  |zero=>
   injection h2 with h2
   subst h2
   obtain⟨bo,a,l,c0,q1,rfl⟩:=(g3.2 0 v (.row 0) h1 rfl).sF
   injection q1 with q1
   exact .row h.length bo a l c0 (by rw[<-hlen,q1];simp)
  |succ i=>exact Fk (fO d (List.mem_of_getElem? h2)) (g3.2 (i+1) v d h1 h2)
 have Ot:=Z2.AB Hz (fun b hb=>by
  have h9:=u5 b ⟨1,_,_,rfl,rfl,hb⟩
  refine⟨fun hI=>by have:=hd.ay b hI;omega,fun ho=>?_⟩
  rcases cK.push hlen ho with k|k
  ·have:=hd.lt k
   omega
  ·have:=lN.sep 0 1 _ _ _ _ b rfl rfl rfl rfl k hb
   omega)
 obtain⟨bb,bo,HH,rfl⟩:=oT.sG
 injection HH with HH
 refine .inl ⟨_,I,g++[p0]++[p1],_,_,rfl,⟨rfl,rfl⟩,⟨Ot,jr.mono (fun _ _ h=>h.elim),fun _ h=>h,fun _ h=>.inl h,fun _ _ h=>o9 (o9 h),fun q hq _=>by rw[List.append_assoc];exact List.getElem?_append_left hq,fun q bJ p' b hq h1 h2 h3=>⟨bJ,by rw[<-h1,List.append_assoc];exact(List.getElem?_append_left hq).symm,h3⟩,fun q bJ p' b hq h1 h2 h3=>?_⟩,.ptr (h.length+1) 0 bb bo (by rw[<-hlen,HH];simp)⟩
 have hO:cK (g++[p0]++[p1]) (h++[.row t n xs]++[.cells t2 (.row h.length::ds)]) b:=⟨q,bJ,p',h1,h2,h3⟩
 rcases cK.push (by simp[hlen]) hO with k1|k1
 ·rcases cK.push hlen k1 with k2|k2
  ·obtain⟨o2,a2,r2,s1,s2,s3⟩:=k2
   have Z3:=(List.getElem?_eq_some_iff.1 s1).1
   have:=Ot.sep q o2 bJ a2 p' r2 b h1 (by rw[List.append_assoc,List.getElem?_append_left Z3];exact s1) h2 (o9 (o9 s2)) h3 s3
   omega
  ·exact .inr (u5 b ⟨0,_,_,rfl,rfl,k2⟩)
 ·exact .inr (u5 b ⟨1,_,_,rfl,rfl,k1⟩)
theorem yl [Wd] {P:Program} {Q:Exit->S->Prop} {f:FuncId} {ar cu:List D} {h:List AO} {c:D->List AO->T} {r:D} (q:Nat) (hF:aJ P f ar r) (hp:gh.pl ar=true) (hc:aa (D.cM.fl h [q] cu) ar) (hM:(kg h cu).elem q=true) (k:(c r (h.set q .gone)).ok P Q):(T.call f cu h c).ok P Q:=by
 have Bg:q∈kg h cu:=by simpa using hM
 refine⟨fun r' h'=>r'=r/\h'=h.set q .gone,⟨hF.1,fun w I g vs hW hd ha=>?_⟩,fun r' h' ⟨e1,e2⟩=>by subst e1 e2;exact k⟩
 have hv:bR (fun b=>I b\/fI [q] g h b) g w vs (D.cM.fl h [q] cu):=by
  rw[oB]
  refine⟨by rw[List.length_map];exact ha.1,fun i v d h1 h2=>?_⟩
  rw[List.getElem?_map] at h2
  cases hq:cu[i]? with
  |none=>rw[hq] at h2;cases h2
  |some d0=>
   rw[hq] at h2
   injection h2 with h2
   subst h2
   exact(ha.2 i v d0 h1 hq).cM hd (Wd.aI hW) (fun _ h=>.inl h) (fun _ h=>.inr h)
 have mA:=lS (hc.ok hv) hp
 have mz:Den (fun b=>I b\/fI [q] g h b) [] w []:=⟨rfl,fun b hb=>hb.elim (hd.ay b) (fun ho=>hd.lt ho.owned),fun o ao p h1=>by simp at h1,fun o ao p b h1=>by simp at h1,fun o o' ao bJ p p' b h1=>by simp at h1⟩
 refine(hF.2 w _ [] vs (Wd.cl hW (fun _ _=>rfl) (fun _ h=>.inl h)) mz mA.wH).mono ?_
 have fu:∀b,¬cK [] [] b:=by rintro b ⟨o,ao,p,q1,_⟩;simp at q1
 rintro e w' (⟨v,I',kL,r0,h0,rfl,⟨rfl,rfl⟩,lN,oT,hx,i1,i2,ow,ck⟩|⟨ch,rfl,hp,hx⟩)
 case inr=>exact .inr ⟨ch,rfl,hp,hx.mono (fun x _ ho=>absurd ho (fu x))⟩
 have HM:kL=[]:=List.eq_nil_of_length_eq_zero lN.len
 subst HM
 have jr:Ext (fun _=>False) w w':=hx.mono (fun b _ hb=>fu b hb)
 have key:∀{i:Nat} {ao:AO},(h.set q .gone)[i]?=some ao->(h[i]?=some ao/\i≠q)\/ao=.gone:=by
  intro i ao hi
  rw[List.getElem?_set] at hi
  split at hi
  ·split at hi
   ·injection hi with e
    exact .inr e.symm
   ·cases hi
  ·rename_i bS
   exact .inl ⟨hi,fun e=>bS e.symm⟩
 have tv:∀b,fI [q] g h b->fI (kg h cu) g h b:=by
  rintro b ⟨o,ao,p,hm,r1⟩
  exact⟨o,ao,p,by rw[List.mem_singleton.1 hm];exact Bg,r1⟩
 have Bi:∀b,I' b->I b\/fI [q] g h b\/w.heap.size<=b:=fun b hb=>(i2 b hb).elim (fun k=>k.elim .inl (fun k=>.inr (.inl k))) (fun k=>k.elim (fun k=>absurd k (fu b)) (fun k=>.inr (.inr k)))
 have wI:∀b,I' b->¬cK g (h.set q .gone) b:=by
  rintro b hb ⟨o,ao,p,e1,e2,e3⟩
  rcases key e1 with⟨k1,k2⟩|rfl
  ·rcases Bi b hb with k|⟨o',bJ,p',hm,r1,r2,r3⟩|k
   ·exact hd.own o ao p b k1 e2 e3 k
   ·exact k2 ((hd.sep o o' ao bJ p p' b k1 r1 e2 r2 e3 r3).trans (List.mem_singleton.1 hm))
   ·have:=hd.lt ⟨o,ao,p,k1,e2,e3⟩
    omega
  ·exact e3.elim
 refine .inl ⟨v,I',g,r0,h.set q .gone,rfl,⟨rfl,rfl⟩,⟨((hd.drop q).ext jr (fun _ _=>id) (fun _ _=>id)).wk (fun b hb=>i1 b (.inl hb)) lN.ay wI,jr.mono (fun x _ h=>h.elim),fun b hb=>i1 b (.inl hb),fun b hb=>(Bi b hb).elim .inl (fun k=>k.elim (fun k=>.inr (.inl (tv b k))) (fun k=>.inr (.inr k))),fun _ _ h=>h,fun o _ hn=>?_,fun o ao q' x _ e1 e2 e3=>?_,fun o ao q' x hl e1 _ _=>?_⟩,oT.mono (fun _ h=>h) (fun o p e=>by simp at e)⟩
 ·rw[List.getElem?_set,if_neg (fun (e:q=o)=>hn (by rw[<-e];exact Bg))]
 ·rcases key e1 with⟨k1,_⟩|rfl
  ·exact⟨ao,k1,e3⟩
  ·exact e3.elim
 ·have:=(List.getElem?_eq_some_iff.1 e1).1
  rw[List.length_set] at this
  omega
theorem bf.fst [Wd] {P:Program} {f:FuncId} {ar:List D} {h:List AO} {R:D->Prop} {cQ:D->List AO->Prop} (hF:bf P f ar h cQ) (k:∀r h',cQ r h'->R r):bf P f ar h (fun r _=>R r):=by
 refine⟨hF.1,fun w I g vs hW hd ha=>(hF.2 w I g vs hW hd ha).mono ?_⟩
 rintro e w' (⟨v,I',g',r,h',e1,e2,k2⟩|k2)
 ·exact .inl ⟨v,I',g',r,h',e1,k r h' e2,k2⟩
 ·exact .inr k2
theorem Wf [Wd] (z:UInt8) (k:List UInt8) (hl:(z::k).length<=4194304):bf Tryz.prog 171 [.list 1 ((z::k).map aE)] [] (fun r h=>r=.row 0/\h=[.row 5 1 ((z::k).map aE)]):=by
 refine mq false 8 [] Tryz.func171 rfl (by kernel_rfl) ?_
 repeat' (conv=>arg 2;whnf);first|refine af (by kernel_rfl) ?_|refine aA ?_ ?_|refine ah ?_|refine aj ?_|refine af (by constructor<;>(simp only[List.length_cons,List.length_nil,List.length_map,maxLen] at hl ⊢;omega)) ?_|exact mL [1] (.inr rfl) rfl rfl ⟨⟨rfl,rfl⟩,trivial⟩ trivial (.refl _)
theorem RJ (l:List UInt8):∀d∈(l.map aE).flatten,uL d=true:=by
 intro d hd
 obtain⟨x,hx,hd⟩:=List.mem_flatten.1 hd
 obtain⟨y,_,rfl⟩:=List.mem_map.1 hx
 rw[List.mem_singleton.1 hd]
 rfl
theorem Wg [Wd] (z:UInt8) (k:List UInt8) (hl:(z::k).length<=4194304):bf Tryz.prog 118 [.list 1 ((z::k).map aE)] [] (fun r h=>r=.ptr 1 0/\h=[.row 5 1 ((z::k).map aE),.cells 235 [.row 0,.int .i64 0,.bool true]]):=by
 refine mq false 7 [] Tryz.func118 rfl (by kernel_rfl) ?_
 repeat' (conv=>arg 2;whnf);first|refine af (by kernel_rfl) ?_|refine aA ?_ ?_|refine dx [] (Wf z k hl) (.mk' rfl trivial) (aa.refl _) rfl ?_|exact mL [0,1] (.inr rfl) rfl rfl ⟨⟨rfl,rfl⟩,⟨rfl,rfl⟩,trivial⟩ trivial (.refl _)
theorem SQ [Wd] (bs:List UInt8) (hl:bs.length<=8388609) (h:gy (dw (bs,0)).2=0):aJ Tryz.prog 74 [.list 1 (bs.map aE)] (.aD [.agg (cI (dw (bs,0)).1),.int .i64 0]):=by
 obtain⟨o,b2,e2,q2,l2⟩:=Rd1.get Gf (bs,0)
 have h2:b2.length<=8388609:=Nat.le_trans l2 hl
 rw[q2] at h ⊢
 replace h:gy (b2,e2)=0:=h
 refine aF 18 [] Tryz.func74 rfl (by kernel_rfl) ?_
 repeat' (conv=>arg 2;whnf);first|refine af (by kernel_rfl) ?_|refine aA ?_ ?_|refine ah ?_|refine aj ?_|refine dx [] (vr bs hl) (.mk' rfl trivial) (aa.refl _) rfl ?_|refine aC 1 (bs,0) (b2,e2) (.agg (cI o)) FO hl (congrArg Prod.snd q2).symm (congrArg (fun r:bF×RS=>D.agg (cI r.1)) q2).symm ⟨⟨rfl,rfl⟩,trivial⟩ (aa.refl _) rfl ?_|refine aC 1 (b2,e2) (b2,e2) (.int .i64 0) xp h2 rfl (by rw[h]) ⟨⟨rfl,rfl⟩,trivial⟩ (aa.refl _) rfl ?_|refine bq (.inr rfl) rfl (.refl _) rfl
theorem SR [Wd] (bs:List UInt8) (hl:bs.length<=8388609) (h:¬gy (dw (bs,0)).2=0):aJ Tryz.prog 74 [.list 1 (bs.map aE)] (.aD [.agg (cI bU),.int .i64 (gy (dw (bs,0)).2)]):=by
 obtain⟨o,b2,e2,q2,l2⟩:=Rd1.get Gf (bs,0)
 have h2:b2.length<=8388609:=Nat.le_trans l2 hl
 rw[q2] at h ⊢
 obtain⟨d,hd⟩:∃d,d=gy (b2,e2):=⟨_,rfl⟩
 replace h:¬d=0:=by rw[hd];exact h
 rw[show gy (o,b2,e2).2=d from hd.symm]
 refine aF 18 [] Tryz.func74 rfl (by kernel_rfl) ?_
 repeat' (conv=>arg 2;whnf);first|refine af (by kernel_rfl) ?_|refine aA ?_ ?_|refine ah ?_|refine aj ?_|refine dJ (by simpa using h) ?_|refine dx [] (vr bs hl) (.mk' rfl trivial) (aa.refl _) rfl ?_|refine aC 1 (bs,0) (b2,e2) (.agg (cI o)) FO hl (congrArg Prod.snd q2).symm (congrArg (fun r:bF×RS=>D.agg (cI r.1)) q2).symm ⟨⟨rfl,rfl⟩,trivial⟩ (aa.refl _) rfl ?_|refine aC 1 (b2,e2) (b2,e2) (.int .i64 d) xp h2 rfl (by rw[hd]) ⟨⟨rfl,rfl⟩,trivial⟩ (aa.refl _) rfl ?_|refine bq (.inr rfl) rfl (aa.fG (aa.cons (aa.bA (by repeat' (first|exact aa.nil|exact Co.refl _|exact Co.nil _|refine aa.cons ?_ ?_))) (.refl _))) rfl
end Go.Proofs.YtafomdobfmmleaaGreatDoor

/- Lemmas and contracts. -/
namespace Go.Proofs.YtafomdobfmmleaaGreatDoor
open Go.RowKit
set_option linter.unusedVariables false
set_option maxRecDepth 20000
set_option maxHeartbeats 1000000
theorem M0 {c c1 c2:List UInt8} {n1 n2 e1 e2:Int} (q1:nR MB (c,0)=(n1,(c1,e1))) (q2:nR MB (c1,e1)=(n2,(c2,e2))):qE c=if gy (c2,e2)=0 then some ⟨n1,n2⟩ else none:=by
 unfold qE
 rw[q1]
 simp only
 rw[q2]
def mw (b:List UInt8):j3 aN:=dU kI fun c=>dU (sY (qE c)) fun s=>sY (qF b s)
theorem Ky {b:List UInt8} {ws:List (List UInt8)} (h:kI ws=none):mw b ws=none:=jJ h
theorem Lh {b c:List UInt8} {ws r:List (List UInt8)} (h:kI ws=some (c,r)) (hs:qE c=none):mw b ws=none:=by
 unfold mw
 rw[eE h]
 exact jJ (by rw[hs];rfl)
theorem Kz {b c:List UInt8} {ws r:List (List UInt8)} {s:bH} (h:kI ws=some (c,r)) (hs:qE c=some s):mw b ws=(qF b s).map fun m=>(m,r):=by
 unfold mw
 rw[eE h,eE (x:=s) (r:=r) (by rw[hs];rfl)]
 rfl
theorem C1 {b:List UInt8} {s:bH} (h:(ga bN aO (mQ b)).2=0):qF b s=some (lH (ga bN aO (mQ b)).1 s):=if_pos h
theorem C2 {b:List UInt8} {s:bH} (h:¬(ga bN aO (mQ b)).2=0):qF b s=none:=if_neg h
theorem JU:∀(n:Nat) (r bs:List UInt8),r.length<=n->mN r=some bs->2*bs.length<=r.length
 |0,r,bs,hn,h=>by
  cases r with
  |nil=>injection h with h;subst h;simp
  |cons x r=>simp at hn
 |n+1,[],bs,hn,h=>by injection h with h;subst h;simp
 |n+1,[x],bs,hn,h=>by cases h
 |n+1,x::y::r,bs,hn,h=>by
  unfold mN at h
  split at h
  ·rw[Option.map_eq_some_iff] at h
   obtain⟨c,hc,rfl⟩:=h
   have:=JU n r c (by simp at hn;omega) hc
   simp;omega
  ·cases h
theorem Um {s bs:List UInt8} (h:ff s=some bs):2*bs.length<=s.length:=by
 cases s with
 |nil=>cases h
 |cons x r=>
  simp only[ff] at h
  split at h
  ·have:=JU _ r bs (Nat.le_refl _) h
   simp;omega
  ·cases h
theorem zS {ws r:List (List UInt8)} {b:List UInt8} (hw:jI ws) (h:kI ws=some (b,r)):b.length<=2097152:=by
 cases ws with
 |nil=>cases h
 |cons s r'=>
  have h2:(ff s).map (fun x=>(x,r'))=some (b,r):=h
  cases hq:ff s with
  |none=>rw[hq] at h2;cases h2
  |some x=>
   rw[hq] at h2
   injection h2 with h2
   injection h2 with h2 _
   subst h2
   have:=hw.head
   have:=Um hq
   omega
theorem Ml {z:UInt8} {k:List UInt8}:(z::k).map aE++[[.int .u8 0],[.int .u8 1]]=((z::k)++[0,1]).map aE:=by rw[List.map_append];rfl
theorem Mm {b b3:List UInt8} {n e3:Int} (q:nR 65536 (b,0)=(n,(b3,e3))) (h:mj n=true):mQ b=b:=by unfold mQ;rw[q];exact if_pos h
theorem Mn {b b3:List UInt8} {n e3:Int} (q:nR 65536 (b,0)=(n,(b3,e3))) (h:mj n=false):mQ b=b++[0,1]:=by unfold mQ;rw[q];exact if_neg (by rw[h];decide)
theorem Un [Wd] (b:List UInt8) (hb:b.length<=2097152) (r1:List (List UInt8)) (Bj:jI r1) (hp:mw b r1=none->Wd.jq ou) (ws:List (List UInt8)) (hw:jI ws) (eb:kI ws=some (b,r1)):bf Tryz.prog 76 [.ptr 0 0] (ez ws) (fun r h=>∃x rest,mw b r1=some (x,rest)/\r=.agg (aU x)/\h=ez rest):=by
 refine mq false 45 [] Tryz.func76 rfl (by kernel_rfl) ?_
 repeat' (conv=>arg 2;whnf);first|refine af (by kernel_rfl) ?_|refine aA ?_ ?_|refine ah ?_|refine aj ?_
 conv=>arg 2;whnf
 refine o8 [0] (Le ws hw (fun h=>by rw[eb] at h;cases h)) (.mk' rfl ⟨⟨rfl,rfl⟩,trivial⟩) (aa.refl _) rfl ?_
 rintro r h' ⟨b',Z4,wJ,Gy⟩
 rw[eb] at wJ
 injection wJ with wJ
 injection wJ with e1 e2
 subst e1 e2
 rcases Gy with⟨rfl,rfl,rfl⟩|⟨bS,rfl,rfl⟩
 ·repeat'
   (conv=>arg 2;whnf)
   first|refine af (by kernel_rfl) ?_|refine aA ?_ ?_|refine ah ?_|refine aj ?_
  conv=>arg 2;whnf
  refine okW 0 CF r1 Bj (fun h=>hp (Ky h)) ⟨⟨rfl,rfl⟩,trivial⟩ (aa.refl _) rfl fun c r2 ec=>?_
  have hc:c.length<=2097152:=zS Bj ec
  obtain⟨n1,c1,e1,q1,l1⟩:=Rd1.get (dK MB) (c,0)
  replace l1:c1.length<=c.length:=l1
  have h1:c1.length<=8388609:=by omega
  obtain⟨n2,c2,e2,q2,l2⟩:=Rd1.get (dK MB) (c1,e1)
  replace l2:c2.length<=c1.length:=l2
  have h2:c2.length<=8388609:=by omega
  have i1:=nO q1
  have i2:=nO q2
  have HU:((MB:Nat):Int)=9223372036854775807:=rfl
  rw[HU] at i1 i2
  have oN:=M0 q1 q2
  obtain⟨d,hd⟩:∃d,d=gy (c2,e2):=⟨_,rfl⟩
  rw[<-hd] at oN
  obtain⟨n,b3,e3,q3,l3⟩:=Rd1.get (dK 65536) ([],0)
  have i3:=nO q3
  replace i3:0<=n/\n<=65536:=i3
  repeat' (conv=>arg 2;whnf);first|refine af (by kernel_rfl) ?_|refine aA ?_ ?_|refine ah ?_|refine aj ?_|refine aP (aZ (by omega) (by omega)) ?_|refine dx [] (vr c (Nat.le_trans hc (by decide))) (.mk' rfl trivial) (aa.refl _) rfl ?_|refine aC 4 (c,0) (c1,e1) (.int .u64 n1) (fD MB) (Nat.le_trans hc (by decide)) (congrArg Prod.snd q1).symm (congrArg (fun r:Int×RS=>D.int .u64 r.1) q1).symm ⟨⟨rfl,rfl⟩,trivial⟩ (aa.refl _) rfl ?_|refine aC 4 (c1,e1) (c2,e2) (.int .u64 n2) (fD MB) h1 (congrArg Prod.snd q2).symm (congrArg (fun r:Int×RS=>D.int .u64 r.1) q2).symm ⟨⟨rfl,rfl⟩,trivial⟩ (aa.refl _) rfl ?_|refine aC 4 (c2,e2) (c2,e2) (.int .i64 d) xp h2 rfl (by rw[hd]) ⟨⟨rfl,rfl⟩,trivial⟩ (aa.refl _) rfl ?_
  by_cases hz:d=0
  case neg=>
   rw[if_neg hz] at oN
   repeat' (conv=>arg 2;whnf);first|refine af (by kernel_rfl) ?_|refine aA ?_ ?_|refine ah ?_|refine aj ?_|(refine gW (jy _ (fun _=>hp (Lh ec oN))) rfl (aa.refl _) ?_;rintro r ⟨hr,rfl⟩;exact absurd (by simpa using hr) hz)
  rw[if_pos hz] at oN
  have hM:=Kz (b:=[]) ec oN
  have HV:((d==0)=false->Wd.jq ou):=fun h=>absurd hz (by simpa using h)
  repeat' (conv=>arg 2;whnf);first|refine af (by kernel_rfl) ?_|refine aA ?_ ?_|refine ah ?_|refine aj ?_|(refine gW (jy _ HV) rfl (aa.refl _) ?_;rintro r ⟨hr,rfl⟩)|refine dx [] (vr [] (Nat.zero_le _)) (.mk' rfl trivial) (.cons (.nil _) .nil) rfl ?_|refine aC 9 ([],0) (b3,e3) (.int .u64 n) (fD 65536) (Nat.zero_le _) (congrArg Prod.snd q3).symm (congrArg (fun r:Int×RS=>D.int .u64 r.1) q3).symm ⟨⟨rfl,rfl⟩,trivial⟩ (aa.refl _) rfl ?_
  repeat' (conv=>arg 2;whnf);first|refine af (by kernel_rfl) ?_|refine aA ?_ ?_|refine ah ?_|refine aj ?_|refine aP (aZ (by omega) (by omega)) ?_|refine ak (zC n) rfl (aa.refl _) ?_
  cases hf:mj n
  ·have hB:mQ []=[]++[0,1]:=Mn q3 hf
   obtain⟨X,hX⟩:∃X,X=ga bN aO ([]++[0,1]):=⟨_,rfl⟩
   have HP:=Cm ([]++[0,1]) (by decide)
   rw[<-hX] at HP
   by_cases fT:X.2=0
   ·have kV:mw [] r1=some (lH X.1 ⟨n1,n2⟩,r2):=by rw[hM,C1 (by rw[hB,<-hX];exact fT),hB,<-hX];rfl
    have wK:=CD X.1 ⟨n1,n2⟩ (by rw[hX] at fT ⊢;exact Ad fT) (by rw[hX] at fT ⊢;exact CZ fT)
    repeat' (conv=>arg 2;whnf);first|refine af (by kernel_rfl) ?_|refine aA ?_ ?_|refine ah ?_|refine aj ?_|refine dJ (by rw[hf];rfl) ?_|refine af (by constructor<;>(simp only[List.length_cons,List.length_nil,maxLen] at hb ⊢;omega)) ?_|refine yl 12 HP rfl (aa.refl _) rfl ?_|(refine gW (jy _ (fun h=>absurd fT (by simpa using h))) rfl (aa.refl _) ?_;rintro r ⟨hr,rfl⟩)|refine ak wK rfl (aa.refl _) ?_|exact iT (r:=.agg (aU (lH X.1 ⟨n1,n2⟩))) (h':=ez r2) [0] (.inr rfl) rfl rfl ⟨⟨rfl,rfl⟩,trivial⟩ ⟨⟨rfl,rfl⟩,trivial⟩ (.refl _) ⟨_,_,kV,rfl,rfl⟩
   ·have kV:mw [] r1=none:=by rw[hM,C2 (by rw[hB,<-hX];exact fT)];rfl
    repeat' (conv=>arg 2;whnf);first|refine af (by kernel_rfl) ?_|refine aA ?_ ?_|refine ah ?_|refine aj ?_|refine dJ (by rw[hf];rfl) ?_|refine af (by constructor<;>(simp only[List.length_cons,List.length_nil,maxLen] at hb ⊢;omega)) ?_|refine yl 12 HP rfl (aa.refl _) rfl ?_|(refine gW (jy _ (fun _=>hp kV)) rfl (aa.refl _) ?_;rintro r ⟨hr,rfl⟩;exact absurd (by simpa using hr) fT)
  ·have hB:mQ []=[]:=Mm q3 hf
   obtain⟨X,hX⟩:∃X,X=ga bN aO ([]):=⟨_,rfl⟩
   have HP:=Cm ([]) (by decide)
   rw[<-hX] at HP
   by_cases fT:X.2=0
   ·have kV:mw [] r1=some (lH X.1 ⟨n1,n2⟩,r2):=by rw[hM,C1 (by rw[hB,<-hX];exact fT),hB,<-hX];rfl
    have wK:=CD X.1 ⟨n1,n2⟩ (by rw[hX] at fT ⊢;exact Ad fT) (by rw[hX] at fT ⊢;exact CZ fT)
    repeat' (conv=>arg 2;whnf);first|refine af (by kernel_rfl) ?_|refine aA ?_ ?_|refine ah ?_|refine aj ?_|refine bI (by rw[hf];rfl) ?_|refine ak HP rfl (.cons (.nil _) .nil) ?_|(refine gW (jy _ (fun h=>absurd fT (by simpa using h))) rfl (aa.refl _) ?_;rintro r ⟨hr,rfl⟩)|refine ak wK rfl (aa.refl _) ?_|exact iT (r:=.agg (aU (lH X.1 ⟨n1,n2⟩))) (h':=ez r2) [0] (.inr rfl) rfl rfl ⟨⟨rfl,rfl⟩,trivial⟩ ⟨⟨rfl,rfl⟩,trivial⟩ (.refl _) ⟨_,_,kV,rfl,rfl⟩
   ·have kV:mw [] r1=none:=by rw[hM,C2 (by rw[hB,<-hX];exact fT)];rfl
    repeat' (conv=>arg 2;whnf);first|refine af (by kernel_rfl) ?_|refine aA ?_ ?_|refine ah ?_|refine aj ?_|refine bI (by rw[hf];rfl) ?_|refine ak HP rfl (.cons (.nil _) .nil) ?_|(refine gW (jy _ (fun _=>hp kV)) rfl (aa.refl _) ?_;rintro r ⟨hr,rfl⟩;exact absurd (by simpa using hr) fT)
 ·obtain⟨z,k,rfl⟩:∃z k,b=z::k:=by cases b with
   |nil=>exact absurd rfl bS
   |cons z k=>exact⟨z,k,rfl⟩
  repeat' (conv=>arg 2;whnf);first|refine af (by kernel_rfl) ?_|refine aA ?_ ?_|refine ah ?_|refine aj ?_
  conv=>arg 2;whnf
  refine okW 0 CF r1 Bj (fun h=>hp (Ky h)) ⟨⟨rfl,rfl⟩,trivial⟩ (aa.refl _) rfl fun c r2 ec=>?_
  have hc:c.length<=2097152:=zS Bj ec
  obtain⟨n1,c1,e1,q1,l1⟩:=Rd1.get (dK MB) (c,0)
  replace l1:c1.length<=c.length:=l1
  have h1:c1.length<=8388609:=by omega
  obtain⟨n2,c2,e2,q2,l2⟩:=Rd1.get (dK MB) (c1,e1)
  replace l2:c2.length<=c1.length:=l2
  have h2:c2.length<=8388609:=by omega
  have i1:=nO q1
  have i2:=nO q2
  have HU:((MB:Nat):Int)=9223372036854775807:=rfl
  rw[HU] at i1 i2
  have oN:=M0 q1 q2
  obtain⟨d,hd⟩:∃d,d=gy (c2,e2):=⟨_,rfl⟩
  rw[<-hd] at oN
  obtain⟨n,b3,e3,q3,l3⟩:=Rd1.get (dK 65536) (z::k,0)
  have i3:=nO q3
  replace i3:0<=n/\n<=65536:=i3
  repeat' (conv=>arg 2;whnf);first|refine af (by kernel_rfl) ?_|refine aA ?_ ?_|refine ah ?_|refine aj ?_|refine aP (aZ (by omega) (by omega)) ?_|refine dx [] (vr c (Nat.le_trans hc (by decide))) (.mk' rfl trivial) (aa.refl _) rfl ?_|refine aC 5 (c,0) (c1,e1) (.int .u64 n1) (fD MB) (Nat.le_trans hc (by decide)) (congrArg Prod.snd q1).symm (congrArg (fun r:Int×RS=>D.int .u64 r.1) q1).symm ⟨⟨rfl,rfl⟩,trivial⟩ (aa.refl _) rfl ?_|refine aC 5 (c1,e1) (c2,e2) (.int .u64 n2) (fD MB) h1 (congrArg Prod.snd q2).symm (congrArg (fun r:Int×RS=>D.int .u64 r.1) q2).symm ⟨⟨rfl,rfl⟩,trivial⟩ (aa.refl _) rfl ?_|refine aC 5 (c2,e2) (c2,e2) (.int .i64 d) xp h2 rfl (by rw[hd]) ⟨⟨rfl,rfl⟩,trivial⟩ (aa.refl _) rfl ?_
  by_cases hz:d=0
  case neg=>
   rw[if_neg hz] at oN
   repeat' (conv=>arg 2;whnf);first|refine af (by kernel_rfl) ?_|refine aA ?_ ?_|refine ah ?_|refine aj ?_|(refine gW (jy _ (fun _=>hp (Lh ec oN))) rfl (aa.refl _) ?_;rintro r ⟨hr,rfl⟩;exact absurd (by simpa using hr) hz)
  rw[if_pos hz] at oN
  have hM:=Kz (b:=(z::k)) ec oN
  have HV:((d==0)=false->Wd.jq ou):=fun h=>absurd hz (by simpa using h)
  have Z5:bf Tryz.prog 121 [.ptr 0 0,.int .u64 65536] [.cells 235 [.list 1 ((z::k).map aE),.int .i64 0,.bool true]] (fun r _=>r=.int .u64 n):=((fD 65536) (z::k,0) (Nat.le_trans hb (by decide))).fst (fun r h' h=>by rw[h.1];exact congrArg (fun r:Int×RS=>D.int .u64 r.1) q3)
  repeat' (conv=>arg 2;whnf);first|refine af (by kernel_rfl) ?_|refine aA ?_ ?_|refine ah ?_|refine aj ?_|(refine gW (jy _ HV) rfl (aa.refl _) ?_;rintro r ⟨hr,rfl⟩)|refine Ul [3] (Wg z k (Nat.le_trans hb (by decide))) rfl (aa.refl _) (RJ _) (by intro d hd;simp at hd;rcases hd with rfl|rfl<;>rfl) ?_
  conv=>arg 2;whnf
  refine W7 (R:=fun r=>r=.int .u64 n) [10] 11 rfl rfl (aa.refl _) rfl Z5 (aa.refl _) rfl (fun r h=>by rw[h];rfl) (fun r er=>?_)
  subst er
  repeat' (conv=>arg 2;whnf);first|refine af (by kernel_rfl) ?_|refine aA ?_ ?_|refine ah ?_|refine aj ?_|refine aP (aZ (by omega) (by omega)) ?_|refine ak (zC n) rfl (aa.refl _) ?_
  cases hf:mj n
  ·have hB:mQ (z::k)=(z::k)++[0,1]:=Mn q3 hf
   obtain⟨X,hX⟩:∃X,X=ga bN aO ((z::k)++[0,1]):=⟨_,rfl⟩
   have HP:=Cm ((z::k)++[0,1]) (by simp at hb ⊢;omega)
   rw[<-hX] at HP
   by_cases fT:X.2=0
   ·have kV:mw (z::k) r1=some (lH X.1 ⟨n1,n2⟩,r2):=by rw[hM,C1 (by rw[hB,<-hX];exact fT),hB,<-hX];rfl
    have wK:=CD X.1 ⟨n1,n2⟩ (by rw[hX] at fT ⊢;exact Ad fT) (by rw[hX] at fT ⊢;exact CZ fT)
    repeat' (conv=>arg 2;whnf);first|refine af (by kernel_rfl) ?_|refine aA ?_ ?_|refine ah ?_|refine aj ?_|refine dJ (by rw[hf];rfl) ?_|refine af (by constructor<;>(simp only[List.length_cons,List.length_nil,List.length_map,maxLen] at hb ⊢;omega)) ?_|refine yl 13 HP rfl (.cons (Co.of_eq (congrArg (D.list 1) Ml)) .nil) rfl ?_|(refine gW (jy _ (fun h=>absurd fT (by simpa using h))) rfl (aa.refl _) ?_;rintro r ⟨hr,rfl⟩)|refine ak wK rfl (aa.refl _) ?_|exact iT (r:=.agg (aU (lH X.1 ⟨n1,n2⟩))) (h':=ez r2) [0] (.inr rfl) rfl rfl ⟨⟨rfl,rfl⟩,trivial⟩ ⟨⟨rfl,rfl⟩,trivial⟩ (.refl _) ⟨_,_,kV,rfl,rfl⟩
   ·have kV:mw (z::k) r1=none:=by rw[hM,C2 (by rw[hB,<-hX];exact fT)];rfl
    repeat' (conv=>arg 2;whnf);first|refine af (by kernel_rfl) ?_|refine aA ?_ ?_|refine ah ?_|refine aj ?_|refine dJ (by rw[hf];rfl) ?_|refine af (by constructor<;>(simp only[List.length_cons,List.length_nil,List.length_map,maxLen] at hb ⊢;omega)) ?_|refine yl 13 HP rfl (.cons (Co.of_eq (congrArg (D.list 1) Ml)) .nil) rfl ?_|(refine gW (jy _ (fun _=>hp kV)) rfl (aa.refl _) ?_;rintro r ⟨hr,rfl⟩;exact absurd (by simpa using hr) fT)
  ·have hB:mQ (z::k)=(z::k):=Mm q3 hf
   obtain⟨X,hX⟩:∃X,X=ga bN aO ((z::k)):=⟨_,rfl⟩
   have HP:=Cm ((z::k)) (by simp at hb ⊢;omega)
   rw[<-hX] at HP
   by_cases fT:X.2=0
   ·have kV:mw (z::k) r1=some (lH X.1 ⟨n1,n2⟩,r2):=by rw[hM,C1 (by rw[hB,<-hX];exact fT),hB,<-hX];rfl
    have wK:=CD X.1 ⟨n1,n2⟩ (by rw[hX] at fT ⊢;exact Ad fT) (by rw[hX] at fT ⊢;exact CZ fT)
    repeat' (conv=>arg 2;whnf);first|refine af (by kernel_rfl) ?_|refine aA ?_ ?_|refine ah ?_|refine aj ?_|refine bI (by rw[hf];rfl) ?_|refine yl 3 HP rfl (aa.refl _) rfl ?_|(refine gW (jy _ (fun h=>absurd fT (by simpa using h))) rfl (aa.refl _) ?_;rintro r ⟨hr,rfl⟩)|refine ak wK rfl (aa.refl _) ?_|exact iT (r:=.agg (aU (lH X.1 ⟨n1,n2⟩))) (h':=ez r2) [0] (.inr rfl) rfl rfl ⟨⟨rfl,rfl⟩,trivial⟩ ⟨⟨rfl,rfl⟩,trivial⟩ (.refl _) ⟨_,_,kV,rfl,rfl⟩
   ·have kV:mw (z::k) r1=none:=by rw[hM,C2 (by rw[hB,<-hX];exact fT)];rfl
    repeat' (conv=>arg 2;whnf);first|refine af (by kernel_rfl) ?_|refine aA ?_ ?_|refine ah ?_|refine aj ?_|refine bI (by rw[hf];rfl) ?_|refine yl 3 HP rfl (aa.refl _) rfl ?_|(refine gW (jy _ (fun _=>hp kV)) rfl (aa.refl _) ?_;rintro r ⟨hr,rfl⟩;exact absurd (by simpa using hr) fT)
end Go.Proofs.YtafomdobfmmleaaGreatDoor

/- Lemmas and contracts. -/
namespace Go.Proofs.YtafomdobfmmleaaGreatDoor
open Go.RowKit
set_option linter.unusedVariables false
set_option maxRecDepth 20000
set_option maxHeartbeats 1000000
theorem Mo [Wd]:yI 76 sZ (fun m=>.agg (aU m)):=by
 intro ws hw hp
 cases eb:kI ws with
 |none=>
  refine mq false 45 [] Tryz.func76 rfl (by kernel_rfl) ?_
  repeat' (conv=>arg 2;whnf);first|refine af (by kernel_rfl) ?_|refine aA ?_ ?_|refine ah ?_|refine aj ?_|(refine o8 [0] (Le ws hw (fun _=>hp (jJ eb))) (.mk' rfl ⟨⟨rfl,rfl⟩,trivial⟩) (aa.refl _) rfl ?_;rintro r h' ⟨b',Z4,wJ,_⟩;rw[eb] at wJ;cases wJ;done)
 |some p=>
  obtain⟨b,r1⟩:=p
  have e:sZ ws=mw b r1:=eE eb
  have h:=Un b (zS hw eb) r1 (hw.one eb) (fun h=>hp (e.trans h)) ws hw eb
  rw[<-e] at h
  exact h
theorem bf.NQ [Wd] {P:Program} {f:FuncId} {ar:List D} {h:List AO} {cQ Nt:D->List AO->Prop} (hF:bf P f ar h cQ) (k:∀r h',cQ r h'->Nt r h'):bf P f ar h Nt:=by
 refine⟨hF.1,fun w I g vs hW hd ha=>(hF.2 w I g vs hW hd ha).mono ?_⟩
 rintro e w' (⟨v,I',g',r,h',e1,e2,k2⟩|k2)
 ·exact .inl ⟨v,I',g',r,h',e1,k r h' e2,k2⟩
 ·exact .inr k2
theorem pH [Wd] [kq]:yI 37 iB (D.int .i64):=by
 intro ws hw hp
 cases e:iB ws with
 |none=>
  refine(L9 (hp e) uh vK ws hw.1 hw.2).NQ ?_
  rintro r h' ⟨n,rest,hn,rfl,_⟩
  rw[ox hn] at e
  cases e
 |some p=>
  obtain⟨n,rest⟩:=p
  cases ws with
  |nil=>cases e
  |cons s r=>
   have e2:(rS s).map (fun x=>(x,r))=some (n,rest):=e
   cases hq:rS s with
   |none=>rw[hq] at e2;cases e2
   |some x=>
    rw[hq] at e2
    injection e2 with e2
    injection e2 with e3 e4
    subst e3 e4
    obtain⟨rfl,hr⟩:=Me hq
    exact(Ac uh vK x hr r (by have:=hw.1;simp at this;omega)).NQ (fun r' h' ⟨e5,e6⟩=>⟨x,r,rfl,e5,e6⟩)
theorem Wh [Wd] [kq]:yI 47 iX (fun a=>.agg (cg a)):=by
 intro ws hw hp
 refine aF 91 [] Tryz.func47 rfl (by kernel_rfl) ?_
 repeat' (conv=>arg 2;whnf);first|refine af (by kernel_rfl) ?_|refine aA ?_ ?_|refine ah ?_|refine aj ?_
 conv=>arg 2;whnf
 refine okW 0 Ge ws hw (fun h=>hp (jJ h)) ⟨⟨rfl,rfl⟩,trivial⟩ (aa.refl _) rfl fun s rest hs=>?_
 have eA:iX ws=eg s rest:=eE hs
 have iR:=(CE hw hs).2
 by_cases xw:s=tV
 ·subst xw
  rw[Eg] at eA
  repeat' (conv=>arg 2;whnf);first|refine af (by kernel_rfl) ?_|refine aA ?_ ?_|refine ah ?_|refine aj ?_
  conv=>arg 2;whnf
  refine okW 0 pH rest iR (fun h=>hp (eA.trans (jJ h))) ⟨⟨rfl,rfl⟩,trivial⟩ (aa.refl _) rfl fun n3 r3 gj=>?_
  have e3:iX ws=_:=eA.trans (eE gj)
  have mB:=iR.one gj
  repeat' (conv=>arg 2;whnf);first|refine af (by kernel_rfl) ?_|refine aA ?_ ?_|refine ah ?_|refine aj ?_|exact iT (r:=.agg (cg {bO with kind:=1,num:=n3})) (h':=ez r3) [0] (.inr rfl) rfl rfl ⟨⟨rfl,rfl⟩,trivial⟩ ⟨⟨rfl,rfl⟩,trivial⟩ (aa.bA (by repeat' (first|exact aa.nil|exact Co.refl _|exact Co.nil _|refine aa.cons ?_ ?_))) ⟨_,_,e3,rfl,rfl⟩
 by_cases ym:s=uH
 ·subst ym
  rw[EN] at eA
  repeat' (conv=>arg 2;whnf);first|refine af (by kernel_rfl) ?_|refine aA ?_ ?_|refine ah ?_|refine aj ?_
  conv=>arg 2;whnf
  refine okW 0 pH rest iR (fun h=>hp (eA.trans (jJ h))) ⟨⟨rfl,rfl⟩,trivial⟩ (aa.refl _) rfl fun n3 r3 gj=>?_
  have e3:iX ws=_:=eA.trans (eE gj)
  have mB:=iR.one gj
  repeat' (conv=>arg 2;whnf);first|refine af (by kernel_rfl) ?_|refine aA ?_ ?_|refine ah ?_|refine aj ?_|exact iT (r:=.agg (cg {bO with kind:=2,num:=n3})) (h':=ez r3) [0] (.inr rfl) rfl rfl ⟨⟨rfl,rfl⟩,trivial⟩ ⟨⟨rfl,rfl⟩,trivial⟩ (aa.bA (by repeat' (first|exact aa.nil|exact Co.refl _|exact Co.nil _|refine aa.cons ?_ ?_))) ⟨_,_,e3,rfl,rfl⟩
 by_cases xG:s=uj
 ·subst xG
  rw[Ej] at eA
  repeat' (conv=>arg 2;whnf);first|refine af (by kernel_rfl) ?_|refine aA ?_ ?_|refine ah ?_|refine aj ?_
  conv=>arg 2;whnf
  refine okW 0 pH rest iR (fun h=>hp (eA.trans (jJ h))) ⟨⟨rfl,rfl⟩,trivial⟩ (aa.refl _) rfl fun n3 r3 gj=>?_
  have e3:iX ws=_:=eA.trans (eE gj)
  have mB:=iR.one gj
  repeat' (conv=>arg 2;whnf);first|refine af (by kernel_rfl) ?_|refine aA ?_ ?_|refine ah ?_|refine aj ?_|exact iT (r:=.agg (cg {bO with kind:=3,num:=n3})) (h':=ez r3) [0] (.inr rfl) rfl rfl ⟨⟨rfl,rfl⟩,trivial⟩ ⟨⟨rfl,rfl⟩,trivial⟩ (aa.bA (by repeat' (first|exact aa.nil|exact Co.refl _|exact Co.nil _|refine aa.cons ?_ ?_))) ⟨_,_,e3,rfl,rfl⟩
 by_cases yp:s=uI
 ·subst yp
  rw[EP] at eA
  repeat' (conv=>arg 2;whnf);first|refine af (by kernel_rfl) ?_|refine aA ?_ ?_|refine ah ?_|refine aj ?_
  conv=>arg 2;whnf
  refine okW 0 pH rest iR (fun h=>hp (eA.trans (jJ h))) ⟨⟨rfl,rfl⟩,trivial⟩ (aa.refl _) rfl fun n3 r3 gj=>?_
  have e3:iX ws=_:=eA.trans (eE gj)
  have mB:=iR.one gj
  repeat' (conv=>arg 2;whnf);first|refine af (by kernel_rfl) ?_|refine aA ?_ ?_|refine ah ?_|refine aj ?_|exact iT (r:=.agg (cg {bO with kind:=4,aL:=n3})) (h':=ez r3) [0] (.inr rfl) rfl rfl ⟨⟨rfl,rfl⟩,trivial⟩ ⟨⟨rfl,rfl⟩,trivial⟩ (aa.bA (by repeat' (first|exact aa.nil|exact Co.refl _|exact Co.nil _|refine aa.cons ?_ ?_))) ⟨_,_,e3,rfl,rfl⟩
 by_cases xO:s=uv
 ·subst xO
  rw[Ew] at eA
  repeat' (conv=>arg 2;whnf);first|refine af (by kernel_rfl) ?_|refine aA ?_ ?_|refine ah ?_|refine aj ?_
  conv=>arg 2;whnf
  refine okW 0 pH rest iR (fun h=>hp (eA.trans (jJ h))) ⟨⟨rfl,rfl⟩,trivial⟩ (aa.refl _) rfl fun n3 r3 gj=>?_
  have e3:iX ws=_:=eA.trans (eE gj)
  have mB:=iR.one gj
  repeat' (conv=>arg 2;whnf);first|refine af (by kernel_rfl) ?_|refine aA ?_ ?_|refine ah ?_|refine aj ?_|exact iT (r:=.agg (cg {bO with kind:=5,aL:=n3})) (h':=ez r3) [0] (.inr rfl) rfl rfl ⟨⟨rfl,rfl⟩,trivial⟩ ⟨⟨rfl,rfl⟩,trivial⟩ (aa.bA (by repeat' (first|exact aa.nil|exact Co.refl _|exact Co.nil _|refine aa.cons ?_ ?_))) ⟨_,_,e3,rfl,rfl⟩
 by_cases yJ:s=s6
 ·subst yJ
  rw[Fj] at eA
  repeat' (conv=>arg 2;whnf);first|refine af (by kernel_rfl) ?_|refine aA ?_ ?_|refine ah ?_|refine aj ?_
  conv=>arg 2;whnf
  refine okW 0 pH rest iR (fun h=>hp (eA.trans (jJ h))) ⟨⟨rfl,rfl⟩,trivial⟩ (aa.refl _) rfl fun n3 r3 gj=>?_
  have e3:iX ws=_:=eA.trans (eE gj)
  have mB:=iR.one gj
  repeat' (conv=>arg 2;whnf);first|refine af (by kernel_rfl) ?_|refine aA ?_ ?_|refine ah ?_|refine aj ?_
  conv=>arg 2;whnf
  refine okW 0 CF r3 mB (fun h=>hp (e3.trans (jJ (jJ h)))) ⟨⟨rfl,rfl⟩,trivial⟩ (aa.refl _) rfl fun b r4 hb=>?_
  have tj:=zS mB hb
  have e4:yY r3=sY (tu b) r4:=eE hb
  by_cases hD:gy (dw (b,0)).2=0
  ·have hP:=SQ b (Nat.le_trans tj (by decide)) hD
   have e5:tu b=some (dw (b,0)).1:=if_pos hD
   generalize (dw (b,0)).1=x at hP e5
   have e6:iX ws=some ({bO with kind:=6,aL:=n3,op:=x},r4):=e3.trans (eE (by rw[e4,e5];rfl))
   repeat' (conv=>arg 2;whnf);first|refine af (by kernel_rfl) ?_|refine aA ?_ ?_|refine ah ?_|refine aj ?_|refine ak hP rfl (aa.refl _) ?_|(refine gW (jy _ (fun h=>by cases h)) rfl (aa.refl _) ?_;rintro r ⟨hr,rfl⟩)|exact iT (r:=.agg (cg {bO with kind:=6,aL:=n3,op:=x})) (h':=ez r4) [0] (.inr rfl) rfl rfl ⟨⟨rfl,rfl⟩,trivial⟩ ⟨⟨rfl,rfl⟩,trivial⟩ (aa.bA (by repeat' (first|exact aa.nil|exact Co.refl _|exact Co.nil _|refine aa.cons ?_ ?_))) ⟨_,_,e6,rfl,rfl⟩
  ·have hP:=SR b (Nat.le_trans tj (by decide)) hD
   have e5:tu b=none:=if_neg hD
   generalize gy (dw (b,0)).2=d at hP hD
   have e6:iX ws=none:=e3.trans (jJ (by rw[e4,e5];rfl))
   repeat' (conv=>arg 2;whnf);first|refine af (by kernel_rfl) ?_|refine aA ?_ ?_|refine ah ?_|refine aj ?_|refine ak hP rfl (aa.refl _) ?_|(refine gW (jy _ (fun _=>hp e6)) rfl (aa.refl _) ?_;rintro r ⟨hr,rfl⟩;exact absurd (by simpa using hr) hD)
 by_cases yq:s=uJ
 ·subst yq
  rw[ER] at eA
  repeat' (conv=>arg 2;whnf);first|refine af (by kernel_rfl) ?_|refine aA ?_ ?_|refine ah ?_|refine aj ?_
  conv=>arg 2;whnf
  refine okW 0 pH rest iR (fun h=>hp (eA.trans (jJ h))) ⟨⟨rfl,rfl⟩,trivial⟩ (aa.refl _) rfl fun n3 r3 gj=>?_
  have e3:iX ws=_:=eA.trans (eE gj)
  have mB:=iR.one gj
  repeat' (conv=>arg 2;whnf);first|refine af (by kernel_rfl) ?_|refine aA ?_ ?_|refine ah ?_|refine aj ?_|exact iT (r:=.agg (cg {bO with kind:=7,aL:=n3})) (h':=ez r3) [0] (.inr rfl) rfl rfl ⟨⟨rfl,rfl⟩,trivial⟩ ⟨⟨rfl,rfl⟩,trivial⟩ (aa.bA (by repeat' (first|exact aa.nil|exact Co.refl _|exact Co.nil _|refine aa.cons ?_ ?_))) ⟨_,_,e3,rfl,rfl⟩
 by_cases xP:s=uw
 ·subst xP
  rw[Ex] at eA
  repeat' (conv=>arg 2;whnf);first|refine af (by kernel_rfl) ?_|refine aA ?_ ?_|refine ah ?_|refine aj ?_
  conv=>arg 2;whnf
  refine okW 0 pH rest iR (fun h=>hp (eA.trans (jJ h))) ⟨⟨rfl,rfl⟩,trivial⟩ (aa.refl _) rfl fun n3 r3 gj=>?_
  have e3:iX ws=_:=eA.trans (eE gj)
  have mB:=iR.one gj
  repeat' (conv=>arg 2;whnf);first|refine af (by kernel_rfl) ?_|refine aA ?_ ?_|refine ah ?_|refine aj ?_
  conv=>arg 2;whnf
  refine okW 0 pH r3 mB (fun h=>hp (e3.trans (jJ h))) ⟨⟨rfl,rfl⟩,trivial⟩ (aa.refl _) rfl fun n4 r4 Ou=>?_
  have e4:iX ws=_:=e3.trans (eE Ou)
  have hw4:=mB.one Ou
  repeat' (conv=>arg 2;whnf);first|refine af (by kernel_rfl) ?_|refine aA ?_ ?_|refine ah ?_|refine aj ?_|exact iT (r:=.agg (cg {bO with kind:=8,aL:=n3,num:=n4})) (h':=ez r4) [0] (.inr rfl) rfl rfl ⟨⟨rfl,rfl⟩,trivial⟩ ⟨⟨rfl,rfl⟩,trivial⟩ (aa.bA (by repeat' (first|exact aa.nil|exact Co.refl _|exact Co.nil _|refine aa.cons ?_ ?_))) ⟨_,_,e4,rfl,rfl⟩
 by_cases xQ:s=ux
 ·subst xQ
  rw[Ey] at eA
  repeat' (conv=>arg 2;whnf);first|refine af (by kernel_rfl) ?_|refine aA ?_ ?_|refine ah ?_|refine aj ?_
  conv=>arg 2;whnf
  refine okW 0 pH rest iR (fun h=>hp (eA.trans (jJ h))) ⟨⟨rfl,rfl⟩,trivial⟩ (aa.refl _) rfl fun n3 r3 gj=>?_
  have e3:iX ws=_:=eA.trans (eE gj)
  have mB:=iR.one gj
  repeat' (conv=>arg 2;whnf);first|refine af (by kernel_rfl) ?_|refine aA ?_ ?_|refine ah ?_|refine aj ?_|exact iT (r:=.agg (cg {bO with kind:=9,aL:=n3})) (h':=ez r3) [0] (.inr rfl) rfl rfl ⟨⟨rfl,rfl⟩,trivial⟩ ⟨⟨rfl,rfl⟩,trivial⟩ (aa.bA (by repeat' (first|exact aa.nil|exact Co.refl _|exact Co.nil _|refine aa.cons ?_ ?_))) ⟨_,_,e3,rfl,rfl⟩
 by_cases yu:s=uK
 ·subst yu
  rw[ES] at eA
  repeat' (conv=>arg 2;whnf);first|refine af (by kernel_rfl) ?_|refine aA ?_ ?_|refine ah ?_|refine aj ?_
  conv=>arg 2;whnf
  refine okW 0 CF rest iR (fun h=>hp (eA.trans (jJ h))) ⟨⟨rfl,rfl⟩,trivial⟩ (aa.refl _) rfl fun b r3 hb=>?_
  have e3:iX ws=_:=eA.trans (eE hb)
  repeat' (conv=>arg 2;whnf);first|refine af (by kernel_rfl) ?_|refine aA ?_ ?_|refine ah ?_|refine aj ?_|exact iT (r:=.agg (cg {bO with kind:=10,bytes:=b})) (h':=ez r3) [0] (.inr rfl) rfl rfl ⟨⟨rfl,rfl⟩,trivial⟩ ⟨⟨rfl,rfl⟩,trivial⟩ (aa.bA (by repeat' (first|exact aa.nil|exact Co.refl _|exact Co.nil _|refine aa.cons ?_ ?_))) ⟨_,_,e3,rfl,rfl⟩
 by_cases yw:s=sS
 ·subst yw
  rw[ET] at eA
  repeat' (conv=>arg 2;whnf);first|refine af (by kernel_rfl) ?_|refine aA ?_ ?_|refine ah ?_|refine aj ?_
  conv=>arg 2;whnf
  refine okW 0 pH rest iR (fun h=>hp (eA.trans (jJ h))) ⟨⟨rfl,rfl⟩,trivial⟩ (aa.refl _) rfl fun n3 r3 gj=>?_
  have e3:iX ws=_:=eA.trans (eE gj)
  have mB:=iR.one gj
  repeat' (conv=>arg 2;whnf);first|refine af (by kernel_rfl) ?_|refine aA ?_ ?_|refine ah ?_|refine aj ?_
  conv=>arg 2;whnf
  refine okW 0 Mo r3 mB (fun h=>hp (e3.trans (jJ h))) ⟨⟨rfl,rfl⟩,trivial⟩ (aa.refl _) rfl fun m r4 hm=>?_
  have e4:iX ws=_:=e3.trans (eE hm)
  repeat' (conv=>arg 2;whnf);first|refine af (by kernel_rfl) ?_|refine aA ?_ ?_|refine ah ?_|refine aj ?_|exact iT (r:=.agg (cg {bO with kind:=11,aL:=n3,msg:=m})) (h':=ez r4) [0] (.inr rfl) rfl rfl ⟨⟨rfl,rfl⟩,trivial⟩ ⟨⟨rfl,rfl⟩,trivial⟩ (aa.bA (by repeat' (first|exact aa.nil|exact Co.refl _|exact Co.nil _|refine aa.cons ?_ ?_))) ⟨_,_,e4,rfl,rfl⟩
 by_cases yx:s=sU
 ·subst yx
  rw[EU] at eA
  repeat' (conv=>arg 2;whnf);first|refine af (by kernel_rfl) ?_|refine aA ?_ ?_|refine ah ?_|refine aj ?_
  conv=>arg 2;whnf
  refine okW 0 pH rest iR (fun h=>hp (eA.trans (jJ h))) ⟨⟨rfl,rfl⟩,trivial⟩ (aa.refl _) rfl fun n3 r3 gj=>?_
  have e3:iX ws=_:=eA.trans (eE gj)
  have mB:=iR.one gj
  repeat' (conv=>arg 2;whnf);first|refine af (by kernel_rfl) ?_|refine aA ?_ ?_|refine ah ?_|refine aj ?_
  conv=>arg 2;whnf
  refine okW 0 Mo r3 mB (fun h=>hp (e3.trans (jJ h))) ⟨⟨rfl,rfl⟩,trivial⟩ (aa.refl _) rfl fun m r4 hm=>?_
  have e4:iX ws=_:=e3.trans (eE hm)
  repeat' (conv=>arg 2;whnf);first|refine af (by kernel_rfl) ?_|refine aA ?_ ?_|refine ah ?_|refine aj ?_|exact iT (r:=.agg (cg {bO with kind:=11,aL:=n3,msg:=m,fL:=true})) (h':=ez r4) [0] (.inr rfl) rfl rfl ⟨⟨rfl,rfl⟩,trivial⟩ ⟨⟨rfl,rfl⟩,trivial⟩ (aa.bA (by repeat' (first|exact aa.nil|exact Co.refl _|exact Co.nil _|refine aa.cons ?_ ?_))) ⟨_,_,e4,rfl,rfl⟩
 by_cases xS:s=uy
 ·subst xS
  rw[Ez] at eA
  repeat' (conv=>arg 2;whnf);first|refine af (by kernel_rfl) ?_|refine aA ?_ ?_|refine ah ?_|refine aj ?_
  repeat' (conv=>arg 2;whnf);first|refine af (by kernel_rfl) ?_|refine aA ?_ ?_|refine ah ?_|refine aj ?_|exact iT (r:=.agg (cg {bO with kind:=12})) (h':=ez rest) [0] (.inr rfl) rfl rfl ⟨⟨rfl,rfl⟩,trivial⟩ ⟨⟨rfl,rfl⟩,trivial⟩ (aa.bA (by repeat' (first|exact aa.nil|exact Co.refl _|exact Co.nil _|refine aa.cons ?_ ?_))) ⟨_,_,eA,rfl,rfl⟩
 have eN:iX ws=none:=by rw[eA];unfold eg;rw[if_neg xw,if_neg ym,if_neg xG,if_neg yp,if_neg xO,if_neg yJ,if_neg yq,if_neg xP,if_neg xQ,if_neg yu,if_neg yw,if_neg yx,if_neg xS]
 repeat' (conv=>arg 2;whnf);first|refine af (by kernel_rfl) ?_|refine aA ?_ ?_|refine ah ?_|refine aj ?_|refine bI (decide_eq_false xw) ?_|refine bI (decide_eq_false ym) ?_|refine bI (decide_eq_false xG) ?_|refine bI (decide_eq_false yp) ?_|refine bI (decide_eq_false xO) ?_|refine bI (decide_eq_false yJ) ?_|refine bI (decide_eq_false yq) ?_|refine bI (decide_eq_false xP) ?_|refine bI (decide_eq_false xQ) ?_|refine bI (decide_eq_false yu) ?_|refine bI (decide_eq_false yw) ?_|refine bI (decide_eq_false yx) ?_|refine bI (decide_eq_false xS) ?_|exact Nq (hp eN)
end Go.Proofs.YtafomdobfmmleaaGreatDoor

/- Lemmas and contracts. -/
namespace Go.Proofs.YtafomdobfmmleaaGreatDoor
open Go.RowKit
set_option linter.unusedVariables false
set_option maxRecDepth 20000
set_option maxHeartbeats 1000000
theorem jU {α β:Type} {p:j3 α} {q:α->j3 β} {ws:List (List UInt8)} {z:β×List (List UInt8)} (h:dU p q ws=some z):∃x r,p ws=some (x,r)/\q x r=some z:=by
 unfold dU at h
 split at h
 ·rename_i y hy
  exact⟨y.1,y.2,hy,h⟩
 ·cases h
theorem pI {ws r:List (List UInt8)} {n:Int} (h:iB ws=some (n,r)):dI.ok n:=by
 cases ws with
 |nil=>cases h
 |cons s r'=>
  have e2:(rS s).map (fun x=>(x,r'))=some (n,r):=h
  cases hq:rS s with
  |none=>rw[hq] at e2;cases e2
  |some x=>
   rw[hq] at e2
   injection e2 with e2
   injection e2 with e3 e4
   subst e3
   exact nY (Me hq).2
theorem XX {ws r:List (List UInt8)} {x:bF} (h:yY ws=some (x,r)):jc.ok x:=by
 obtain⟨b,r1,_,h2⟩:=jU h
 unfold sY at h2
 cases hq:tu b with
 |none=>rw[hq] at h2;cases h2
 |some y=>
  rw[hq] at h2
  injection h2 with h2
  injection h2 with h2 _
  subst h2
  exact XW hq
theorem M1 {ws r:List (List UInt8)} {x:aN} (h:sZ ws=some (x,r)):cr.ok x:=by
 obtain⟨b,r1,_,h2⟩:=jU h
 obtain⟨c,r2,_,h3⟩:=jU h2
 obtain⟨s,r3,h4,h5⟩:=jU h3
 unfold sY at h4 h5
 cases hs:qE c with
 |none=>rw[hs] at h4;cases h4
 |some s'=>
  rw[hs] at h4
  injection h4 with h4
  injection h4 with h4 _
  subst h4
  cases hq:qF b s' with
  |none=>rw[hq] at h5;cases h5
  |some y=>
   rw[hq] at h5
   injection h5 with h5
   injection h5 with h5 _
   subst h5
   exact W5 (W4 hs) hq
theorem Xa {ws r:List (List UInt8)} {a:aS} (hw:jI ws) (h:iX ws=some (a,r)):ey.ok a:=by
 obtain⟨s,rest,hs,h⟩:=jU h
 have iR:=(CE hw hs).2
 have zb:dY.ok []:=Nat.zero_le _
 by_cases xw:s=tV
 ·subst xw;rw[Eg] at h
  obtain⟨n,r3,e3,h⟩:=jU h;injection h with h;injection h with h _;subst h
  exact⟨nY (n:=1) (by decide),bt,pI e3,pP,zb,qq,trivial⟩
 by_cases ym:s=uH
 ·subst ym;rw[EN] at h
  obtain⟨n,r3,e3,h⟩:=jU h;injection h with h;injection h with h _;subst h
  exact⟨nY (n:=2) (by decide),bt,pI e3,pP,zb,qq,trivial⟩
 by_cases xG:s=uj
 ·subst xG;rw[Ej] at h
  obtain⟨n,r3,e3,h⟩:=jU h;injection h with h;injection h with h _;subst h
  exact⟨nY (n:=3) (by decide),bt,pI e3,pP,zb,qq,trivial⟩
 by_cases yp:s=uI
 ·subst yp;rw[EP] at h
  obtain⟨n,r3,e3,h⟩:=jU h;injection h with h;injection h with h _;subst h
  exact⟨nY (n:=4) (by decide),pI e3,bt,pP,zb,qq,trivial⟩
 by_cases xO:s=uv
 ·subst xO;rw[Ew] at h
  obtain⟨n,r3,e3,h⟩:=jU h;injection h with h;injection h with h _;subst h
  exact⟨nY (n:=5) (by decide),pI e3,bt,pP,zb,qq,trivial⟩
 by_cases yJ:s=s6
 ·subst yJ;rw[Fj] at h
  obtain⟨n,r3,e3,h⟩:=jU h;obtain⟨x,r4,e4,h⟩:=jU h;injection h with h;injection h with h _;subst h
  exact⟨nY (n:=6) (by decide),pI e3,bt,XX e4,zb,qq,trivial⟩
 by_cases yq:s=uJ
 ·subst yq;rw[ER] at h
  obtain⟨n,r3,e3,h⟩:=jU h;injection h with h;injection h with h _;subst h
  exact⟨nY (n:=7) (by decide),pI e3,bt,pP,zb,qq,trivial⟩
 by_cases xP:s=uw
 ·subst xP;rw[Ex] at h
  obtain⟨n,r3,e3,h⟩:=jU h;obtain⟨n4,r4,e4,h⟩:=jU h;injection h with h;injection h with h _;subst h
  exact⟨nY (n:=8) (by decide),pI e3,pI e4,pP,zb,qq,trivial⟩
 by_cases xQ:s=ux
 ·subst xQ;rw[Ey] at h
  obtain⟨n,r3,e3,h⟩:=jU h;injection h with h;injection h with h _;subst h
  exact⟨nY (n:=9) (by decide),pI e3,bt,pP,zb,qq,trivial⟩
 by_cases yu:s=uK
 ·subst yu;rw[ES] at h
  obtain⟨b,r3,e3,h⟩:=jU h;injection h with h;injection h with h _;subst h
  exact⟨nY (n:=10) (by decide),bt,bt,pP,Nat.le_trans (zS iR e3) (by decide),qq,trivial⟩
 by_cases yw:s=sS
 ·subst yw;rw[ET] at h
  obtain⟨n,r3,e3,h⟩:=jU h;obtain⟨x,r4,e4,h⟩:=jU h;injection h with h;injection h with h _;subst h
  exact⟨nY (n:=11) (by decide),pI e3,bt,pP,zb,M1 e4,trivial⟩
 by_cases yx:s=sU
 ·subst yx;rw[EU] at h
  obtain⟨n,r3,e3,h⟩:=jU h;obtain⟨x,r4,e4,h⟩:=jU h;injection h with h;injection h with h _;subst h
  exact⟨nY (n:=11) (by decide),pI e3,bt,pP,zb,M1 e4,trivial⟩
 by_cases xS:s=uy
 ·subst xS;rw[Ez] at h
  injection h with h;injection h with h _;subst h
  exact⟨nY (n:=12) (by decide),bt,bt,pP,zb,qq,trivial⟩
 unfold eg at h
 rw[if_neg xw,if_neg ym,if_neg xG,if_neg yp,if_neg xO,if_neg yJ,if_neg yq,if_neg xP,if_neg xQ,if_neg yu,if_neg yw,if_neg yx,if_neg xS] at h
 cases h
theorem zF {line:List UInt8} {a:aS} (h:sP line a):iX (eV line)=some (a,[]):=by
 obtain⟨h1,h2,rfl⟩:=h
 rw[RG h2]
 exact V8 h1 h2
def H6 (line:List UInt8) (cs:List D):List AO:=[.cells 9 [.str line],.cells 61 cs]
def XY:List D:=[.int .i64 0,.int .i64 0,.int .i64 0,.int .i64 0,.str [],.str [],.int .i64 0,.nils,.nils,.int .i64 0,.int .i64 0,.int .i64 0,.int .i64 0,.int .i64 0,.int .i64 0,.int .i64 0,.int .i64 0,.int .i64 0,.nils,.int .i64 0,.int .i64 0,.nils,.nils,.nils,.nils,.str [],.int .i64 0,.str [],.int .i64 0,.nils,.nils,.int .i64 0,.int .i64 0,.nils,.int .i64 0,.int .i64 0,.nils,.int .i64 0,.int .i64 0,.bool false]
theorem Li [Wd] [kq] (line:List UInt8) (hl:line.length<=4194304) (hp:(∀a,¬sP line a)->Wd.jq ou):bf Tryz.prog 46 [.ptr 0 0,.ptr 1 0] (H6 line XY) (fun r h=>∃a,sP line a/\r=.aD []/\h=H6 line (cg a)):=by
 obtain⟨ws,uW⟩:∃ws,ws=eV line:=⟨_,rfl⟩
 have hb:jI ws:=uW▸jI.split hl
 have HS:aJ Tryz.prog 34 [.str line,.str [32]] (.list 1 (cW ws)):=uW▸Fh line hl
 have hR:∀a,sP line a->iX ws=some (a,[]):=fun a h=>by rw[uW];exact zF h
 clear uW
 refine aF 32 [] Tryz.func46 rfl (by kernel_rfl) ?_
 repeat' (conv=>arg 2;whnf);first|refine af (by kernel_rfl) ?_|refine aA ?_ ?_|refine ah ?_|refine aj ?_|refine ak HS rfl (aa.refl _) ?_
 conv=>arg 2;whnf
 refine okW 2 Wh ws hb (fun h=>hp (fun a ha=>by rw[hR a ha] at h;cases h)) ⟨⟨rfl,rfl⟩,trivial⟩ (aa.refl _) rfl fun a rest ha=>?_
 have iP:=Xa hb ha
 have hS:=Mh uh a iP
 by_cases hG:rest=[]/\gR a/\eP a=line
 ·obtain⟨rfl,h2,h3⟩:=hG
  rw[CB h2] at hS
  repeat' (conv=>arg 2;whnf);first|refine af (by kernel_rfl) ?_|refine aA ?_ ?_|refine ah ?_|refine aj ?_|refine ak hS rfl (aa.refl _) ?_|refine dJ (by simp[cW]) ?_|refine dJ (by simpa using h3) ?_|(refine gW (jy _ (fun h=>by simp[h3] at h)) rfl (aa.refl _) ?_;rintro r ⟨hr,rfl⟩)|exact iT (r:=.aD []) (h':=H6 line (cg a)) [0,1] (.inl rfl) rfl rfl ⟨⟨rfl,rfl⟩,⟨rfl,rfl⟩,trivial⟩ ⟨⟨rfl,rfl⟩,⟨rfl,rfl⟩,trivial⟩ (.refl _) ⟨a,⟨iP,h2,h3.symm⟩,rfl,rfl⟩
 ·have hN:∀a',¬sP line a':=fun a' h'=>hG (by
   have:=hR a' h'
   rw[ha] at this
   injection this with this
   injection this with e1 e2
   subst e1
   exact⟨e2,h'.2.1,h'.2.2.symm⟩)
  by_cases h2:gR a
  ·rw[CB h2] at hS
   by_cases h1:rest=[]
   ·subst h1
    have h3:¬eP a=line:=fun h=>hG ⟨rfl,h2,h⟩
    repeat' (conv=>arg 2;whnf);first|refine af (by kernel_rfl) ?_|refine aA ?_ ?_|refine ah ?_|refine aj ?_|refine ak hS rfl (aa.refl _) ?_|refine dJ (by simp[cW]) ?_|(refine gW (jy _ (fun _=>hp hN)) rfl (aa.refl _) ?_;rintro r ⟨hr,rfl⟩;exfalso;simp[h3] at hr;done)
   ·have h4:¬((cW rest).length:Int)=0:=by simpa[cW] using h1
    repeat' (conv=>arg 2;whnf);first|refine af (by kernel_rfl) ?_|refine aA ?_ ?_|refine ah ?_|refine aj ?_|refine ak hS rfl (aa.refl _) ?_|refine bI (by simpa using h4) ?_|(refine gW (jy _ (fun _=>hp hN)) rfl (aa.refl _) ?_;rintro r ⟨hr,rfl⟩;exfalso;simp[] at hr;done)
  ·rw[FJ h2] at hS
   repeat' (conv=>arg 2;whnf);first|refine af (by kernel_rfl) ?_|refine aA ?_ ?_|refine ah ?_|refine aj ?_|refine ak hS rfl (aa.refl _) ?_|refine aG (fun h=>?_) (fun h=>?_)|(refine gW (jy _ (fun _=>hp hN)) rfl (aa.refl _) ?_;rintro r ⟨hr,rfl⟩;exfalso;simp at hr;done)
attribute [local instance] oA
theorem Uo (line:List UInt8) (hl:line.length<=4194304) (a:aS) (ha:sP line a):aJ Tryz.prog 19 [.str line] (.aD [.agg (cg a),.bool true]):=by
 refine aF 12 [] Tryz.func19 rfl (by kernel_rfl) ?_
 repeat' (conv=>arg 2;whnf);first|refine af (by kernel_rfl) ?_|refine aA ?_ ?_|refine ah ?_|refine aj ?_|(refine Cl [0,2] (@Li (sM False) _ line hl (fun h=>absurd ha (h a))) (.mk' rfl ⟨⟨rfl,rfl⟩,⟨rfl,rfl⟩,trivial⟩) (aa.refl _) rfl ?_ (fun h=>h.elim);rintro r0 h0 ⟨a',Hs,rfl,rfl⟩;obtain rfl:a'=a:=by(have e:=zF ha;rw[zF Hs] at e;injection e with e;injection e with e _))|exact bq (.inr rfl) rfl (.refl _) rfl
theorem Up (line:List UInt8) (hl:line.length<=4194304) (hs:∀a,¬sP line a):aJ Tryz.prog 19 [.str line] (.aD [.agg (cg bO),.bool false]):=by
 refine aF 12 [] Tryz.func19 rfl (by kernel_rfl) ?_
 repeat' (conv=>arg 2;whnf);first|refine af (by kernel_rfl) ?_|refine aA ?_ ?_|refine ah ?_|refine aj ?_|refine Cl [0,2] (@Li (sM True) _ line hl (fun _=>⟨trivial,rfl⟩)) (.mk' rfl ⟨⟨rfl,rfl⟩,⟨rfl,rfl⟩,trivial⟩) (aa.refl _) rfl (fun r0 h0 hp=>by obtain⟨a,q1,_⟩:=hp;exact absurd q1 (hs a)) (fun _=>?_)|exact bq (.inr rfl) rfl (aa.fG (.cons (aa.bA (by repeat' (first|exact aa.nil|exact Co.refl _|exact Co.nil _|refine aa.cons ?_ ?_))) (.refl _))) rfl
end Go.Proofs.YtafomdobfmmleaaGreatDoor

/- Lemmas and contracts. -/
namespace Go.Proofs.YtafomdobfmmleaaGreatDoor
open Go.RowKit Go.Deep
set_option linter.unusedVariables false
open Classical in
noncomputable def fk (s:jj):List UInt8×Int:=
 if dQ s.cx.av=false then([],1)
 else if 4096<s.fo.length then([],3)
 else if ∀a∈s.fo,gR a then(eW s.cx++10::s.fo.flatMap (fun a=>eP a++[10]),0)
 else([],1)
def jt:aS:={bO with kind:=6,aL:=2,op:={bU with kind:=1,av:=[116]}}
def ny:aS:={bO with kind:=8,aL:=3,num:=-1}
def nA:aS:={bO with kind:=12}
def qY:dX:=⟨1,0,0,65536,[116]⟩
def lQ:jj:=⟨qY,[jt,ny,nA]⟩
def Ea:List UInt8:= "world 1 0 0 65536 t\nask 2 x010174\ncrash 3 -1\nround\n".toUTF8.data.toList
theorem F0:dQ [116]=true:=by decide+kernel
theorem Yy:cw jt.op=0:=by
 have:=F0
 simp[cw,jt,bO,bU,kindOk,vP,kF,F0]
theorem WH:enc 1=[1]:=by rw[enc,dif_pos (by omega)];rfl
theorem XB:gR jt:=by
 refine⟨⟨by simp[jt],fun _=>Yy,fun h=>by simp[jt] at h⟩,?_⟩
 simp[fM,jt]
theorem XC:gR ny:=by
 refine⟨⟨by simp[ny],fun h=>by simp[ny] at h,fun h=>by simp[ny] at h⟩,?_⟩
 simp[fM,ny]
theorem XD:gR nA:=by
 refine⟨⟨by simp[nA],fun h=>by simp[nA] at h,fun h=>by simp[nA] at h⟩,?_⟩
 simp[fM,nA]
theorem Yz:Lib.itoa 0=[48]:=by simp[Lib.itoa,Lib.decDigits]
theorem YA:Lib.itoa 1=[49]:=by simp[Lib.itoa,Lib.decDigits]
theorem YB:Lib.itoa 2=[50]:=by simp[Lib.itoa,Lib.decDigits]
theorem YC:Lib.itoa 3=[51]:=by simp[Lib.itoa,Lib.decDigits]
theorem YD:Lib.itoa (-1)=[45,49]:=by simp[Lib.itoa,Lib.decDigits]
theorem YE:Lib.itoa 65536=[54,53,53,51,54]:=by simp[Lib.itoa,Lib.decDigits]
theorem XE:cy jt.op=[1,1,116]:=by
 simp[cy,jt,bO,bU,bB,WH]
theorem YF:eP jt=[97,115,107,32,50,32,120,48,49,48,49,55,52]:=by
 have h:eG jt=[iQ 6 false,[50],fN [1,1,116]]:=by
  unfold eG iH
  rw[XE]
  simp[jt,bO,YB]
 unfold eP
 rw[h]
 decide+kernel
theorem YG:eP ny=[99,114,97,115,104,32,51,32,45,49]:=by
 have h:eG ny=[iQ 8 false,[51],[45,49]]:=by
  unfold eG iH
  simp[ny,bO,YC,YD]
 unfold eP
 rw[h]
 decide+kernel
theorem YH:eP nA=[114,111,117,110,100]:=by
 have h:eG nA=[iQ 12 false]:=by
  unfold eG iH
  simp[nA,bO]
 unfold eP
 rw[h]
 decide+kernel
theorem U2:eW qY=[119,111,114,108,100,32,49,32,48,32,48,32,54,53,53,51,54,32,116]:=by
 have h:lA qY=[xN,[49],[48],[48],[54,53,53,51,54],[116]]:=by
  unfold lA
  simp[qY,Yz,YA,YE]
 unfold eW
 rw[h]
 decide+kernel
theorem U3:fk lQ=(Ea,0):=by
 have hl:Ea=eW qY++10::[jt,ny,nA].flatMap (fun a=>eP a++[10]):=by
  simp only[List.flatMap_cons,List.flatMap_nil]
  rw[U2,YF,YG,YH]
  decide+kernel
 rw[hl]
 unfold fk
 rw[if_neg (by simp[lQ,qY,F0]),if_neg (by simp[lQ]),if_pos (by
  intro a ha
  simp only[lQ,List.mem_cons,List.not_mem_nil,or_false] at ha
  rcases ha with rfl|rfl|rfl
  ·exact XB
  ·exact XC
  ·exact XD)]
 rfl
end Go.Proofs.YtafomdobfmmleaaGreatDoor

/- Lemmas and contracts. -/
namespace Go.Proofs.YtafomdobfmmleaaGreatDoor
open Go.RowKit Go.Deep
set_option linter.unusedVariables false
theorem Ji {T e:TypeId} {K b:Nat} {p:Value} {bs:List Value} {w w':World} (h:Lib.BuilderAt T e K b p bs w) (hb:B w w'):Lib.BuilderAt T e K b p bs w':=by
 have hlt:=h.lt
 obtain⟨h1,v,h2,h3,h4⟩:=h
 exact⟨h1,v,by rw[hb.block b hlt];exact h2,SJ h3 hb,h4⟩
theorem PA {T e:TypeId} {K b:Nat} {bs:List Value} {w w':World} (h:Lib.IsBuilder T e K b bs w) (hb:B w w'):Lib.IsBuilder T e K b bs w':=
 h.elim (fun h=>.inl (Ji h hb)) (fun h=>.inr (Ji h hb))
def ko (s:jj) (k:Nat):List UInt8:=eW s.cx++10::(s.fo.take k).flatMap (fun a=>eP a++[10])
theorem Nz (l:List UInt8):Lib.strCells (au l++⟨#[10]⟩)=Lib.byteCells (l++[10]):=by
 rw[Lib.strCells_eq,ByteArray.data_append]
 simp[au]
theorem Td {s:jj} {k:Nat} {x:aS} (hx:s.fo[k]?=some x):Lib.byteCells (ko s k)++Lib.strCells (au (eP x)++⟨#[10]⟩)=Lib.byteCells (ko s (k+1)):=by
 rw[Nz,<-Lib.byteCells_append]
 congr 1
 unfold ko
 rw[List.take_add_one,hx]
 simp
theorem Te (s:jj):Lib.strCells (au (eW s.cx)++⟨#[10]⟩)=Lib.byteCells (ko s 0):=by
 rw[Nz]
 simp[ko]
theorem LK {s:jj} (K:Nat) (h0:(eW s.cx).length<=30000000):∀k,(∀j a,j<k->s.fo[j]?=some a->(eP a).length<=K)->(ko s k).length<=30000001+k*(K+1)
 |0,_=>by simp[ko];omega
 |k+1,h=>by
  have h1:=LK K h0 k (fun j a hj=>h j a (by omega))
  cases hx:s.fo[k]? with
  |none=>
   have:ko s (k+1)=ko s k:=by unfold ko;rw[List.take_add_one,hx];simp
   rw[this,Nat.succ_mul]
   omega
  |some x=>
   have h2:=h k x (by omega) hx
   have:ko s (k+1)=ko s k++(eP x++[10]):=by unfold ko;rw[List.take_add_one,hx];simp
   rw[this,Nat.succ_mul]
   simp
   omega
set_option maxRecDepth 20000 in
set_option maxHeartbeats 8000000 in
theorem LL {ay:Nat->Prop} {w:World} {cs:List Value} {s:jj} (hT:nS w) (h:pg.rd ay w cs s) (hk:dQ s.cx.av=false\/4096<s.fo.length):
 Calls Tryz.prog 26 #[.agg cs.toArray] w fun r w'=>r=.returned (.tuple #[.string (au (fk s).1),.int .i64 (fk s).2])/\B w w':=by
 obtain⟨c0,c1,rfl,h0,h1⟩:=h
 have HC:=Lib.hid (fun w' (hb:B w w')=>FK (hT.later hb) (jz.later h0 hb))
 obtain⟨rfl,b1,b2,b3,b4,b5⟩:=jz.parts h0
 obtain⟨A,c,rfl,hs⟩:=tL.slice h1
 have HS:=Lib.hid (aR.new (St.nil w) 69 #[.int .i64 s.cx.f,.int .u16 s.cx.eU,.int .u16 s.cx.eO,.int .i64 s.cx.room,.string (au s.cx.av),.slice A s.fo.length c])
 have HP:=Lib.hid (show fk s=if dQ s.cx.av=false then([],1) else([],3) from by
  unfold fk
  split
  ·rfl
  ·rename_i hn
   rw[if_pos (by rcases hk with h|h;exact absurd h hn;exact h)])
 rw[HP.out]
 obtain⟨n,hn⟩:∃n,dQ s.cx.av=n:=⟨_,rfl⟩
 rw[hn] at hk ⊢
 rw[hn] at HC
 clear hn HP h0 h1
 cases n with
 |false=>
  clear hk
  go_enter Tryz.func26,Tryz.ntmps26
  go_wp2_with (first|(go_at_call 8;(with_reducible refine cA (HC.out _ HS.out.b) ?_);rintro r w1 ⟨hr,hb⟩;replace HS:=Lib.hid (HS.out.on.later hb);clear hb;simp only[Bool.false_eq_true,if_false] at hr;subst hr)|fail)
  go_ret2
  exact⟨rfl,HS.out.b⟩
 |true=>
  have hl:4096<s.fo.length:=by simpa using hk
  clear hk
  have KG:=(aR.get HS.out).cell
  go_enter Tryz.func26,Tryz.ntmps26
  go_wp2_with (first|(go_at_call 8;(with_reducible refine cA (HC.out _ HS.out.b) ?_);rintro r w1 ⟨hr,hb⟩;replace HS:=Lib.hid (HS.out.on.later hb);clear hb;simp only[if_true] at hr;subst hr;replace KG:=(aR.get HS.out).cell)|fail)
  go_ret2
  exact⟨rfl,HS.out.b⟩
end Go.Proofs.YtafomdobfmmleaaGreatDoor

/- Lemmas and contracts. -/
namespace Go.Proofs.YtafomdobfmmleaaGreatDoor
open Go.RowKit
set_option linter.unusedVariables false
def AU (x:List UInt8):Prop:=∀c∈x,c≠10
theorem He {c:UInt8} (h:c.toNat≠10):c≠10:=fun e=>h (by rw[e];rfl)
theorem FQ (b:List UInt8):AU (fN b):=by
 intro c hc
 unfold fN at hc
 simp only[List.mem_cons,List.mem_flatMap,List.not_mem_nil,or_false] at hc
 rcases hc with rfl|⟨x,_,h⟩
 ·decide
 ·have hx:=x.toNat_lt
  apply He
  rcases h with rfl|rfl
  ·rw[zy (by omega)];split<;>omega
  ·rw[zy (by omega)];split<;>omega
theorem vN (n:Int):AU (Lib.itoa n):=by
 intro c hc
 unfold Lib.itoa at hc
 split at hc
 ·rcases List.mem_cons.1 hc with rfl|hc
  ·decide
  ·have:=wZ _ c hc;exact He (by omega)
 ·have:=wZ _ c hc;exact He (by omega)
theorem Xm (s:ByteArray) (pos j:Nat) (hj:j<(Utf8.decode s pos).2) (h:(s.get! (pos+j)).toNat=10):j=0/\(Utf8.decode s pos).1=10:=by
 rcases j with _|j
 ·refine⟨rfl,?_⟩
  simp only[Nat.add_zero] at h
  simp[Utf8.decode,Nat.add_zero,h]
 ·exfalso
  have h1:=Fi s pos
  have e:j=0\/j=1\/j=2:=by omega
  clear h1
  simp only[Utf8.decode] at hj
  repeat' split at hj
  all_goals (try omega)
  all_goals rename_i hc _;simp only[Bool.and_eq_true,beq_iff_eq,decide_eq_true_eq] at hc;rcases e with rfl|rfl|rfl<;>simp at h hj hc<;>omega
theorem Lo (s:ByteArray):∀(k pos n m:Nat),s.size<=pos+k->kC s k pos n=some m->∀i,pos<=i->i<s.size->(s.get! i).toNat≠10
 |0,pos,n,m,hk,h,i,h1,h2=>by omega
 |k+1,pos,n,m,hk,h,i,h1,h2=>by
  simp only[kC] at h
  rw[if_pos (by omega)] at h
  split at h
  ·cases h
  ·rename_i hb
   have hw:=BZ s pos (by omega)
   intro Be
   by_cases hi:i<pos+(Utf8.decode s pos).2
   ·obtain⟨j,rfl⟩:∃j,i=pos+j:=⟨i-pos,by omega⟩
    obtain⟨_,e⟩:=Xm s pos j (by omega) Be
    rw[e] at hb
    exact hb (by decide)
   ·exact Lo s k _ _ m (by omega) h i (by omega) h2 Be
theorem Wo {s:List UInt8} (h:dQ s=true):AU s:=by
 intro c hc e
 subst e
 unfold dQ sO at h
 obtain⟨i,hi,hs⟩:=List.getElem_of_mem hc
 simp only[decide_eq_true_eq] at h
 split at h
 ·omega
 ·rename_i m hm
  refine Lo (au s) _ 0 0 m (by rw[sx];omega) hm i (Nat.zero_le _) (by rw[sx];exact hi) ?_
  have:(au s).get! i=s[i]:=by
   simp[au,ByteArray.get!,hi]
  rw[this,hs]
  rfl
theorem FR:∀(l:List (List UInt8)),(∀x∈l,AU x)->AU (iy l)
 |[],_=>fun c hc=>(List.not_mem_nil hc).elim
 |[x],h=>h x (by simp)
 |x::y::r,h=>by
  have ih:=FR (y::r) (fun z hz=>h z (by simp[hz]))
  intro c hc
  unfold iy at hc
  rcases List.mem_append.1 hc with hc|hc
  ·exact h x (by simp) c hc
  ·rcases List.mem_cons.1 hc with rfl|hc
   ·decide
   ·exact ih c hc
theorem Yi:∀(i:Fin 12) (s:Bool),(iQ (i.val+1) s).all (fun c=>c !=10)=true:=by decide+kernel
theorem Mu {a:aS} (h:gR a):(10:UInt8)∉eP a:=by
 refine fun hm=>FR (eG a) (fun x hx=>?_) 10 hm rfl
 have hk:=h.1.1
 unfold eG at hx
 rcases List.mem_cons.1 hx with rfl|hx
 ·intro c hc
  have:=Yi ⟨a.kind.toNat-1,by omega⟩ a.fL
  simp only at this
  rw[show a.kind.toNat-1+1=a.kind.toNat by omega] at this
  have:=List.all_eq_true.1 this c hc
  simpa using this
 ·unfold iH kJ oH at hx
  repeat' split at hx
  all_goals simp only[List.mem_cons,List.not_mem_nil,or_false] at hx
  all_goals first|(rw[hx];exact vN _)|(rw[hx];exact FQ _)|(rcases hx with rfl|rfl|rfl<;>first|exact vN _|exact FQ _)|(rcases hx with rfl|rfl<;>first|exact vN _|exact FQ _)
theorem Lp {s:dX} (h:dQ s.av=true):(10:UInt8)∉eW s:=by
 refine fun hm=>FR (lA s) (fun x hx=>?_) 10 hm rfl
 simp only[lA,List.mem_cons,List.not_mem_nil,or_false] at hx
 rcases hx with rfl|rfl|rfl|rfl|rfl|rfl
 ·intro c hc e
  subst e
  revert hc
  decide
 ·exact vN _
 ·exact vN _
 ·exact vN _
 ·exact vN _
 ·exact Wo h
theorem S1 {s t:dX} (h:dQ s.av=true) (k:dQ t.av=true) (e:eW s=eW t):s=t:=by
 have:=congrArg eV e
 rw[Ei h,Ei k] at this
 simp only[lA,List.cons.injEq,and_true,true_and] at this
 obtain⟨e1,e2,e3,e4,e5⟩:=this
 have i1:=Cn e1
 have i2:=Cn e2
 have i3:=Cn e3
 have i4:=Cn e4
 cases s;cases t
 simp_all
theorem RV {a:aS} (ha:ey.ok a) (hk:gR a):uO (eP a)=some a:=by
 cases h:uO (eP a) with
 |none=>exact absurd ⟨ha,hk,rfl⟩ (B2 h a)
 |some b=>
  have e:=zF (tT h)
  rw[zF (⟨ha,hk,rfl⟩:sP (eP a) a)] at e
  injection e with e
  injection e with e _
  rw[e]
theorem QD {s:dX} (hs:mM.ok s) (hk:dQ s.av=true):uo (eW s)=some s:=by
 cases h:uo (eW s) with
 |none=>exact absurd ⟨hs,hk,rfl⟩ (B2 h s)
 |some b=>
  obtain⟨_,k2,k3⟩:=tT h
  rw[S1 hk k2 k3]
theorem KI:∀(k l:List aS) (n:Nat) (s:dX),n≠0->(∀a∈k,ey.ok a/\gR a)->l.length+k.length<=4096->scan (k.flatMap (fun a=>eP a++[10])) [] n s l=((s,l++k),0,0)
 |[],l,n,s,hn,_,_=>by rw[List.flatMap_nil,scan,if_neg (by simp;exact hn),List.append_nil]
 |a::k,l,n,s,hn,h,hl=>by
  obtain⟨h1,h2⟩:=h a (by simp)
  simp at hl
  have e:(a::k).flatMap (fun a=>eP a++[10])=eP a++10::k.flatMap (fun a=>eP a++[10]):=by simp
  rw[e,B3 n s l (Mu h2),if_neg hn,if_neg (by omega),RV h1 h2]
  show scan _ [] (n+1) s (l++[a])=_
  rw[KI k (l++[a]) (n+1) s (by omega) (fun b hb=>h b (by simp[hb])) (by simp;omega)]
  simp
open Classical in
theorem RW {s:jj} (hs:Ae.ok s) (h:(fk s).2=0):scan (fk s).1 [] 0 me []=((s.cx,s.fo),0,0):=by
 unfold fk at h ⊢
 split at h
 ·cases h
 ·rename_i h0
  split at h
  ·cases h
  ·rename_i h1
   split at h
   ·rename_i h2
    rw[if_neg h0,if_neg h1,if_pos h2]
    have hn:dQ s.cx.av=true:=by simpa using h0
    rw[B3 0 me [] (Lp hn),if_pos rfl,QD hs.1 hn]
    show scan _ [] 1 s.cx []=_
    rw[KI s.fo [] 1 s.cx (by decide) (fun a ha=>⟨hs.2.2 a ha,h2 a ha⟩) (by simp;omega)]
    rfl
   ·cases h
theorem E1:∀(t cur:List UInt8) (n:Nat) (s:dX) (l:List aS) (s':dX) (l':List aS),n≠0->l.length<=4096->scan t cur n s l=((s',l'),0,0)->s'=s/\∃k,l'=l++k/\cur++t=k.flatMap (fun a=>eP a++[10])/\(∀a∈k,gR a)/\l'.length<=4096
 |[],cur,n,s,l,s',l',hn,hl,h=>by
  rw[scan] at h
  split at h
  ·split at h<;>simp[jH] at h
  ·rename_i hc
   simp only[Prod.mk.injEq,and_true] at h
   obtain⟨rfl,rfl⟩:=h
   have Zm:cur=[]:=by
    by_cases e:cur=[]
    ·exact e
    ·exact absurd (.inl e) hc
   exact⟨rfl,[],by simp,by simp[Zm],fun a ha=>(List.not_mem_nil ha).elim,hl⟩
 |c::r,cur,n,s,l,s',l',hn,hl,h=>by
  rw[scan] at h
  split at h
  ·rename_i hc
   try rw[if_neg hn] at h
   split at h
   ·simp[jH] at h
   ·rename_i h4
    split at h
    ·simp[jH] at h
    ·rename_i a ha
     obtain⟨e1,k,e2,e3,e4,e5⟩:=E1 r [] (n+1) s (l++[a]) s' l' (by omega) (by simp;omega) h
     obtain⟨_,q2,q3⟩:=tT ha
     refine⟨e1,a::k,by rw[e2];simp,?_,fun b hb=>?_,e5⟩
     ·rw[hc,List.flatMap_cons,<-e3,q3]
      simp
     ·rcases List.mem_cons.1 hb with rfl|hb
      ·exact q2
      ·exact e4 b hb
  ·obtain⟨e1,k,e2,e3,e4,e5⟩:=E1 r (cur++[c]) n s l s' l' hn hl h
   exact⟨e1,k,e2,by rw[<-e3];simp,e4,e5⟩
open Classical in
theorem JY:∀(t cur:List UInt8) (s:dX) (l:List aS),scan t cur 0 me []=((s,l),0,0)->fk ⟨s,l⟩=(cur++t,0)
 |[],cur,s,l,h=>by
  rw[scan,if_pos (.inr rfl)] at h
  split at h<;>simp[jH] at h
 |c::r,cur,s,l,h=>by
  rw[scan] at h
  split at h
  ·rename_i hc
   rw[if_pos rfl] at h
   split at h
   ·simp[jH] at h
   ·rename_i s1 IA
    obtain⟨rfl,k,e2,e3,e4,e5⟩:=E1 r [] 1 s1 [] s l (by decide) (Nat.zero_le _) h
    obtain⟨_,q2,q3⟩:=tT IA
    rw[List.nil_append] at e2 e3
    subst e2
    unfold fk
    rw[if_neg (by show ¬dQ _=false;rw[q2];decide),if_neg (by show ¬4096<l.length;omega),if_pos e4,hc,q3,e3]
  ·have:=JY r (cur++[c]) s l h
   rw[this]
   simp
end Go.Proofs.YtafomdobfmmleaaGreatDoor

/- Lemmas and contracts. -/
namespace Go.Proofs.YtafomdobfmmleaaGreatDoor
open Go.RowKit
set_option linter.unusedVariables false
theorem BO (l:List cq):(iJ l).length<=4210:=by
 unfold iJ
 split
 ·rename_i h
  have h':=CG h
  unfold qt
  have e:=gQ l.length (by omega)
  have f:=mF (f:=mJ) (K:=1050) l (fun s hs=>by
   obtain⟨h1,h2⟩:=h'.2 s hs
   have a1:=EA h1
   have a2:=E0 h2
   have a3:=gQ (kn s.request).length (by omega)
   unfold mJ bB
   simp only[List.length_append];omega)
  rw[List.length_append]
  have:l.length*1050<=4*1050:=Nat.mul_le_mul_right _ h'.1
  omega
 ·simp
theorem RY {p:gq} (h:kD p=0):(gi p).length<=4530:=by
 unfold kD at h
 simp only[bC] at h
 have e:=oV [p.view,p.seq,p.an]
 have f:=EB h.2.2.2.2.1
 have g:=vo p.lz
 have b:=BO p.batch
 simp at e
 unfold gi
 simp only[List.length_append];omega
theorem J0 {c:cX} (h:iM c=0):(ir c).length<=36570:=by
 unfold iM at h
 simp only[bC] at h
 obtain⟨_,_,h3,h4,h5,_⟩:=h
 have n:=pK h4
 have e:=oV [c.view,c.src]
 have f:=zI h3
 have g:=mG (c.cR.length:Int)
 have b:=mF (f:=gi) (K:=4530) c.cR (fun p hp=>RY (fH.1 h5 p hp))
 have:c.cR.length*4530<=8*4530:=Nat.mul_le_mul_right _ (by omega)
 simp at e
 unfold ir
 simp only[List.length_append];omega
theorem S2 {c:cX} (h:iM c=0):(eH c).length<=36590:=by
 have a:=J0 h
 have b:=vo c.sign
 unfold eH
 simp only[List.length_append];omega
theorem Rh (x:gH):(fK x).length<=4250:=by
 have e:=oV [x.view,x.seq]
 have a:=BO x.batch
 have b:=vo x.sign
 simp at e
 unfold fK
 simp only[List.length_append];omega
theorem S3 {m:aN} (h:cG m=0):(bh m).length<=511000:=by
 have hk:=mG m.kind
 unfold bh
 rw[List.length_append]
 suffices (cP m).length<=510900 by omega
 have ns:∀l:List Int,l.length<=4->(bw l).length<=40:=fun l hl=>by have:=oV l;omega
 unfold cG at h
 unfold cP
 by_cases k1:m.kind=1
 ·rw[if_pos k1];have:=BO m.batch;omega
 rw[if_neg k1] at h ⊢
 by_cases k2:m.kind=2
 ·rw[if_pos k2];have:=BO m.batch;have:=ns [m.src,m.view,m.seq,m.an] (by simp);rw[List.length_append];omega
 rw[if_neg k2] at h ⊢
 by_cases k3:m.kind=3\/m.kind=4
 ·rw[if_pos k3];have:=ns [m.src,m.view,m.seq,m.an] (by simp);omega
 rw[if_neg k3]
 rw[if_neg (fun e=>k3 (.inl e)),if_neg (fun e=>k3 (.inr e))] at h
 by_cases k5:m.kind=5
 ·rw[if_pos k5] at h ⊢
  simp only[bC] at h
  have r1:=xE h.2.2.2.2.1
  have r2:=xE h.2.2.2.2.2
  have a1:=gQ (max m.result.err 0).toNat (by omega)
  have a2:=gQ (max m.result.offset 0).toNat (by omega)
  have:=ns [m.src,m.view,m.aQ,m.time] (by simp)
  unfold sE
  simp only[List.length_append];omega
 rw[if_neg k5] at h ⊢
 by_cases k6:m.kind=6
 ·rw[if_pos k6];have:=ns [m.src,m.seq,m.an] (by simp);omega
 rw[if_neg k6] at h ⊢
 by_cases k7:m.kind=7
 ·rw[if_pos k7] at h ⊢
  split
  ·rename_i c r hc
   have:=fH.1 (bC.1 h).2 c (by rw[hc];simp)
   unfold qw at this
   have:=J0 (bC.1 this).1
   omega
  ·simp
 rw[if_neg k7] at h ⊢
 by_cases k8:m.kind=8
 ·rw[if_pos k8] at h ⊢
  unfold iN at h
  simp only[bC] at h
  obtain⟨_,_,h3,h4,h5,_⟩:=h
  have n3:=pK h3
  have n5:=pK h5
  have f1:=mG (m.changes.length:Int)
  have f2:=mG (m.entries.length:Int)
  have b1:=mF (f:=eH) (K:=36590) m.changes (fun c hc=>S2 (fH.1 h4 c hc))
  have b2:=mF (f:=fK) (K:=4250) m.entries (fun c hc=>Rh c)
  have:m.changes.length*36590<=13*36590:=Nat.mul_le_mul_right _ (by omega)
  have:m.entries.length*4250<=8*4250:=Nat.mul_le_mul_right _ (by omega)
  have:=ns [m.src,m.view] (by simp)
  simp only[List.length_append];omega
 rw[if_neg k8] at h ⊢
 by_cases k9:m.kind=9
 ·rw[if_pos k9];have:=ns [m.src,m.seq] (by simp);omega
 rw[if_neg k9] at h ⊢
 by_cases qQ:m.kind=10
 ·rw[if_pos qQ] at h ⊢
  simp only[bC] at h
  have c:=zI h.2.1
  have s:=pK h.2.2
  have a:=gQ m.state.length (by omega)
  have:=ns [m.src] (by simp)
  unfold bB
  simp only[List.length_append];omega
 rw[if_neg qQ] at h ⊢
 by_cases j4:m.kind=11
 ·rw[if_pos j4] at h ⊢
  simp only[bC] at h
  have s:=xX h.2.1
  have a:=gQ m.av.length (by omega)
  have:=ns [m.aQ] (by simp)
  have:=ns [m.offset] (by simp)
  unfold bB
  simp only[List.length_append];omega
 rw[if_neg j4] at h ⊢
 by_cases qR:m.kind=12
 ·rw[if_pos qR] at h ⊢
  have:=JX (bC.1 h).2
  have:=ns [m.src] (by simp)
  simp only[List.length_append];omega
 rw[if_neg qR]
 simp
def ke:List UInt8->Nat->Prop
 |[],n=>n<=4194304
 |c::r,n=>if c=10 then n<=4194304/\ke r 0 else ke r (n+1)
theorem E2:∀(t:List UInt8) (n:Nat),t.length+n<=4194304->ke t n
 |[],n,h=>by simpa[ke] using h
 |c::r,n,h=>by
  simp at h
  unfold ke
  split
  ·exact⟨by omega,E2 r 0 (by omega)⟩
  ·exact E2 r (n+1) (by omega)
theorem EC:∀(x t:List UInt8) (n:Nat),(10:UInt8)∉x->(ke (x++t) n<->ke t (n+x.length))
 |[],t,n,_=>by simp
 |c::x,t,n,h=>by
  have hc:¬c=10:=fun e=>h (by rw[e];exact List.mem_cons_self)
  rw[List.cons_append,ke,if_neg hc,EC x t (n+1) (fun k=>h (List.mem_cons_of_mem _ k))]
  rw[show n+1+x.length=n+(c::x).length by simp;omega]
theorem Em {x r:List UInt8} (h:(10:UInt8)∉x):ke (x++10::r) 0<->x.length<=4194304/\ke r 0:=by
 rw[EC x _ 0 h,ke,if_pos rfl,Nat.zero_add]
theorem Rf {x:List UInt8} (h:(10:UInt8)∉x):ke x 0<->x.length<=4194304:=by
 have:=EC x [] 0 h
 rw[List.append_nil] at this
 rw[this,ke,Nat.zero_add]
theorem B4 (b:List UInt8):(fN b).length=2*b.length+1:=by
 unfold fN
 induction b with
 |nil=>rfl
 |cons c r ih=>simp at ih ⊢;omega
theorem J1 {a:aS} (ha:ey.ok a) (hk:gR a):(eP a).length<=2*a.bytes.length+1022300:=by
 obtain⟨hr,h6,gP⟩:=hk.1
 have b2:-9223372036854775808<=a.aL/\a.aL<=9223372036854775807:=ha.2.1
 have b3:-9223372036854775808<=a.num/\a.num<=9223372036854775807:=ha.2.2.1
 have i1:=Lib.itoa_length_le a.aL b2.1 b2.2
 have i2:=Lib.itoa_length_le a.num b3.1 b3.2
 have hw:=Mx a.kind.toNat a.fL
 unfold eP eG iH
 repeat' split
 all_goals (try simp only[iy,List.length_append,List.length_cons])
 ·omega
 ·omega
 ·rename_i k6
  have:=xj (h6 k6)
  have:=B4 (cy a.op)
  omega
 ·omega
 ·have:=B4 a.bytes
  omega
 ·rename_i j4
  have IB:=gP j4
  have hu:=S3 (tQ (tN IB.1.1))
  rw[vh] at hu
  simp only[kJ,oH,iy,List.length_append,List.length_cons]
  have ob:(cH a.msg).key<=9223372036854775807/\(cH a.msg).an<=9223372036854775807:=Kt ha.2.2.2.2.2.1
  have h0:=IB.2.1
  have h1:=IB.2.2.1
  have e1:=gQ (cH a.msg).key.toNat (by omega)
  have e2:=gQ (cH a.msg).an.toNat (by omega)
  have q1:=B4 (bh a.msg)
  have q2:=B4 (enc (cH a.msg).key.toNat++enc (cH a.msg).an.toNat)
  rw[List.length_append] at q2
  omega
 ·omega
theorem JZ:∀(l:List aS),(∀a∈l,ey.ok a/\gR a/\a.bytes.length<=1048576)->ke (l.flatMap (fun a=>eP a++[10])) 0
 |[],_=>by simp[ke]
 |a::l,h=>by
  obtain⟨h1,h2,h3⟩:=h a (by simp)
  have e:(a::l).flatMap (fun a=>eP a++[10])=eP a++10::l.flatMap (fun a=>eP a++[10]):=by simp
  rw[e,Em (Mu h2)]
  exact⟨by have:=J1 h1 h2;omega,JZ l (fun b hb=>h b (by simp[hb]))⟩
theorem Ls:∀(l:List aS),(∀a∈l,ey.ok a/\gR a)->(l.flatMap (fun a=>eP a++[10])).length<=2*(l.map (·.bytes.length)).sum+l.length*1022301
 |[],_=>by simp
 |a::l,h=>by
  obtain⟨h1,h2⟩:=h a (by simp)
  have:=J1 h1 h2
  have:=Ls l (fun b hb=>h b (by simp[hb]))
  simp only[List.flatMap_cons,List.length_append,List.map_cons,List.sum_cons,List.length_cons,List.length_nil,Nat.succ_mul]
  omega
end Go.Proofs.YtafomdobfmmleaaGreatDoor

/- Lemmas and contracts. -/
namespace Go.Proofs.YtafomdobfmmleaaGreatDoor
open Go.RowKit
set_option linter.unusedVariables false
set_option maxRecDepth 20000
theorem Xk [Wd] [kq] (s:List UInt8) (hs:s.length<=4294967280):aJ Tryz.prog 55 [.str s,.str [10]] (.aD [.str (Lib.cut s [10]).1,.str (Lib.cut s [10]).2.1,.bool (Lib.cut s [10]).2.2]):=by
 refine⟨by kernel_rfl,fun w I g vs hW hd ha=>?_⟩
 obtain⟨v,rY,rfl,h1,h2⟩:=ha.sN
 obtain⟨v2,YV,rfl,h3,h4⟩:=h2.sN
 obtain rfl:=h4.xF
 rw[h1.kB,h3.kB]
 have hg:g=[]:=List.eq_nil_of_length_eq_zero hd.len
 subst hg
 obtain⟨m,hm⟩:=(kq.DM hW).AN
 have hz:(au s).size=s.length:=by simp[au,ByteArray.size]
 have qd:(au s).data.toList=s:=by simp[au]
 have Zl:(au [10]).data.toList=[10]:=by simp[au]
 refine(Tryz.strings_Cut (au s) (au [10]) m w (by omega) hm).mono ?_
 rintro e w' ⟨rfl,N,rfl⟩
 rw[qd,Zl]
 have hb:B w (w.drewN N):=⟨rfl,rfl,rfl,Nat.le_refl _,fun _ _=>rfl⟩
 exact .inl ⟨_,I,[],.aD [.str (Lib.cut s [10]).1,.str (Lib.cut s [10]).2.1,.bool (Lib.cut s [10]).2.2],[],rfl,⟨rfl,rfl⟩,hd.later hb,Vr.fG (vs:=[.string (au (Lib.cut s [10]).1),.string (au (Lib.cut s [10]).2.1),.bool (Lib.cut s [10]).2.2]) (.cons (.rd (.str _)) (.cons (.rd (.str _)) (.cons (.rd (.bool _)) .nil))),Ext.of_B hb,fun _ h=>h,fun _ h=>.inl h,fun b h=>.inl h,fun o p t cs _ h=>by simp at h⟩
def Yg (x:Iy):D:=.aD [.agg (xI ⟨x.1.1,x.1.2⟩),.int .i64 x.2.1,.int .i64 x.2.2]
attribute [local instance] oA
theorem M5 (x:List UInt8) (hx:x.length<=4194304):aJ Tryz.prog 10 [.str x] (.aD [.agg (vR ((uo x).getD me)),.bool (uo x).isSome]):=by
 cases h:uo x with
 |none=>exact SG x hx (fun ⟨s,hs⟩=>B2 h s hs)
 |some s=>exact SF x hx s (tT h)
theorem Ms (x:List UInt8) (hx:x.length<=4194304):aJ Tryz.prog 19 [.str x] (.aD [.agg (cg ((uO x).getD bO)),.bool (uO x).isSome]):=by
 cases h:uO x with
 |none=>exact Up x hx (fun s hs=>B2 h s hs)
 |some s=>exact Uo x hx s (tT h)
def N3:List D:=[.int .i64 0,.int .u16 0,.int .u16 0,.int .i64 0,.str [],.nils]
def N4 (s:dX) (d:D):List D:=[.int .i64 s.f,.int .u16 s.eU,.int .u16 s.eO,.int .i64 s.room,.str s.av,d]
def Yh (a:List UInt8×Nat×dX×List aS):S:=match a.2.2.2 with
 |[]=>⟨[(0,.str a.1),(2,.ptr 0 0),(5,.ptr 1 0),(6,.int .i64 ((a.2.1:Int)+1))],[.cells 69 N3,.cells 69 (N4 a.2.2.1 .nils)]⟩
 |y::k=>⟨[(0,.str a.1),(2,.ptr 0 0),(5,.ptr 1 0),(6,.int .i64 ((a.2.1:Int)+1))],[.cells 69 N3,.cells 69 (N4 a.2.2.1 (.row 2)),.row 61 40 ((y::k).map cg)]⟩
theorem Mt (t:List UInt8) (ht:t.length<=4294967280) (hL:ke t 0):aJ Tryz.prog 23 [.str t] (Yg (scan t [] 0 me [])):=by
 refine aF 61 [] Tryz.func23 rfl (by kernel_rfl) ?_
 repeat' (conv=>arg 2;whnf);first|refine af (by kernel_rfl) ?_|refine aA ?_ ?_|refine ah ?_|refine aj ?_
 conv=>arg 2;whnf
 refine cD (α:=List UInt8×Nat×dX×List aS) Yh (fun a=>scan t [] 0 me []=scan a.1 [] a.2.1 a.2.2.1 a.2.2.2/\a.1.length<=t.length/\a.2.1<=a.2.2.2.length+1/\a.2.2.2.length<=4096/\(a.2.1=0->a.2.2.2=[])/\ke a.1 0) (fun a=>a.1.length+(if a.2.1=0 then 1 else 0)) (t,0,me,[]) ⟨rfl,Nat.le_refl _,Nat.zero_le _,Nat.zero_le _,fun _=>rfl,hL⟩ (Sv.mk' [0,1] rfl ⟨⟨rfl,rfl⟩,⟨rfl,rfl⟩,trivial⟩ ⟨rfl,rfl,rfl,rfl,trivial⟩) ?_
 rintro⟨u,n,s,l⟩ ⟨hE,hu,hn,hl,hz,DV⟩
 replace hE:scan t [] 0 me []=scan u [] n s l:=hE
 replace hu:u.length<=t.length:=hu
 replace hn:n<=l.length+1:=hn
 replace hl:l.length<=4096:=hl
 replace hz:n=0->l=[]:=hz
 replace DV:ke u 0:=DV
 rw[hE]
 have hc:=Xk u (by omega)
 have hlt:=hl
 by_cases hA:n≠0/\u=[]
 ·obtain⟨oP,rfl⟩:=hA
  have hx:scan [] [] n s l=((s,l),0,0):=by rw[scan,if_neg (by simp;exact oP)]
  rw[hx]
  have h1:(((n:Int)+1)==1)=false:=by simp;omega
  have h2:((((n:Int)+1)==1)==false)=true:=by rw[h1];rfl
  clear hE hx hc
  cases l with
  |nil=>
   repeat' (conv=>arg 2;whnf);first|refine af (by kernel_rfl) ?_|refine aA ?_ ?_|refine ah ?_|refine aj ?_|refine dJ h2 ?_|(refine bI ?_ ?_;focus (simp[h1];done))|refine bD ?_|exact bq (.inr rfl) rfl (aa.fG (.cons (aa.bA (.cons (.refl _) (.cons (.refl _) (.cons (.refl _) (.cons (.refl _) (.cons (.refl _) (.cons (.nil _) .nil))))))) (.refl _))) rfl
  |cons y k=>
   repeat' (conv=>arg 2;whnf);first|refine af (by kernel_rfl) ?_|refine aA ?_ ?_|refine ah ?_|refine aj ?_|refine dJ h2 ?_|(refine bI ?_ ?_;focus (simp[h1];done))|refine bD ?_|exact jo [2] (.inr rfl) rfl (.refl _) rfl
 by_cases hB:l.length=4096
 ·have oP:n≠0:=fun e=>by rw[hz e] at hB;cases hB
  have j5:¬u=[]:=fun e=>hA ⟨oP,e⟩
  have hx:scan u [] n s l=jH ((n:Int)+1) 3:=by
   rcases KH u with⟨x,r,e1,e2,_⟩|⟨e2,_⟩
   ·rw[e1,B3 n s l e2,if_neg oP,if_pos (by omega)]
   ·rw[KF n s l e2 (.inl j5),if_pos (by omega)]
  rw[hx]
  have h1:(((n:Int)+1)==1)=false:=by simp;omega
  clear hE hx hc
  cases l with
  |nil=>cases hB
  |cons y k=>
   have qS:(k.length:Int)+1=4096:=by simp at hB;omega
   repeat' (conv=>arg 2;whnf);first|refine af (by kernel_rfl) ?_|refine aA ?_ ?_|refine ah ?_|refine aj ?_|(refine dJ ?_ ?_;focus (simp[h1,j5,qS];done))|(refine bI ?_ ?_;focus (simp[h1,j5,qS];done))|refine fF ?_|exact bq (.inr rfl) rfl (aa.fG (.cons (aa.bA (.cons (.refl _) (.cons (.refl _) (.cons (.refl _) (.cons (.refl _) (.cons (.refl _) (.cons (.nil _) .nil))))))) (.refl _))) rfl
 have DW:l.length<4096:=by omega
 rcases KH u with⟨x,r,e1,e2,e3⟩|⟨e2,e3⟩
 ·have qM:x.length+r.length+1=u.length:=by rw[e1];simp;omega
  obtain⟨ON,Iz⟩:x.length<=4194304/\ke r 0:=(Em e2).1 (e1▸DV)
  have hp:=M5 x ON
  have hq:=Ms x ON
  rw[e3] at hc
  have hS:=B3 (r:=r) n s l e2
  rw[<-e1] at hS
  rw[hS]
  have j5:¬u=[]:=by rw[e1];simp
  clear hS
  by_cases oP:n=0
  ·subst oP
   obtain rfl:=hz rfl
   rw[if_pos rfl]
   cases Bq:uo x with
   |none=>
    rw[Bq] at hp
    repeat' (conv=>arg 2;whnf);first|refine af (by kernel_rfl) ?_|refine aA ?_ ?_|refine ah ?_|refine aj ?_|refine ak hc rfl (aa.refl _) ?_|refine ak hp rfl (aa.refl _) ?_|refine fF ?_|exact bq (.inr rfl) rfl (aa.fG (.cons (aa.bA (.cons (.refl _) (.cons (.refl _) (.cons (.refl _) (.cons (.refl _) (.cons (.refl _) (.cons (.nil _) .nil))))))) (.refl _))) rfl|(refine dJ ?_ ?_;focus (simp[j5];done))|(refine bI ?_ ?_;focus (simp[j5];done))
   |some s'=>
    rw[Bq] at hp
    repeat' (conv=>arg 2;whnf);first|refine af (by kernel_rfl) ?_|refine aA ?_ ?_|refine ah ?_|refine aj ?_|refine ak hc rfl (aa.refl _) ?_|refine ak hp rfl (aa.refl _) ?_|refine aP (aZ (by(try dsimp only);omega) (by(try dsimp only);omega)) ?_|exact bV (r,1,s',[]) (Sv.mk' [0,1] rfl ⟨⟨rfl,rfl⟩,⟨rfl,rfl⟩,trivial⟩ ⟨rfl,rfl,rfl,rfl,trivial⟩) ⟨rfl,by show r.length<=_;omega,Nat.le_refl _,Nat.zero_le _,(fun h=>by cases h),Iz⟩ (by show r.length+0<u.length+1;omega)|(refine dJ ?_ ?_;focus (simp[j5];done))|(refine bI ?_ ?_;focus (simp[j5];done))
  ·rw[if_neg oP,if_neg (by omega)]
   have h1:(((n:Int)+1)==1)=false:=by simp;omega
   cases Bq:uO x with
   |none=>
    rw[Bq] at hq
    cases l with
    |nil=>
     repeat' (conv=>arg 2;whnf);first|refine af (by kernel_rfl) ?_|refine aA ?_ ?_|refine ah ?_|refine aj ?_|refine ak hc rfl (aa.refl _) ?_|refine ak hq rfl (aa.refl _) ?_|refine af (by constructor<;>(simp only[List.length_cons,List.length_nil,maxLen] at hl ⊢;omega)) ?_|refine fF ?_|exact bq (.inr rfl) rfl (aa.fG (.cons (aa.bA (.cons (.refl _) (.cons (.refl _) (.cons (.refl _) (.cons (.refl _) (.cons (.refl _) (.cons (.nil _) .nil))))))) (.refl _))) rfl|(refine dJ ?_ ?_;focus (simp[h1,j5];done))|(refine bI ?_ ?_;focus (simp[h1];done))
    |cons y k=>
     have qS:¬(k.length:Int)+1=4096:=by simp at DW;omega
     repeat' (conv=>arg 2;whnf);first|refine af (by kernel_rfl) ?_|refine aA ?_ ?_|refine ah ?_|refine aj ?_|refine ak hc rfl (aa.refl _) ?_|refine ak hq rfl (aa.refl _) ?_|refine af (by constructor<;>(simp only[List.length_cons,List.length_nil,List.length_map,maxLen] at hl ⊢;omega)) ?_|refine fF ?_|exact bq (.inr rfl) rfl (aa.fG (.cons (aa.bA (.cons (.refl _) (.cons (.refl _) (.cons (.refl _) (.cons (.refl _) (.cons (.refl _) (.cons (.nil _) .nil))))))) (.refl _))) rfl|(refine dJ ?_ ?_;focus (simp[h1,j5,qS];done))|(refine bI ?_ ?_;focus (simp[h1,qS];done))
   |some a=>
    rw[Bq] at hq
    cases l with
    |nil=>
     repeat' (conv=>arg 2;whnf);first|refine af (by kernel_rfl) ?_|refine aA ?_ ?_|refine ah ?_|refine aj ?_|refine ak hc rfl (aa.refl _) ?_|refine ak hq rfl (aa.refl _) ?_|refine af (by constructor<;>(simp only[List.length_cons,List.length_nil,maxLen] at hl ⊢;omega)) ?_|refine aP (aZ (by(try dsimp only);omega) (by(try dsimp only);omega)) ?_|exact bV (r,n+1,s,[a]) (Sv.mk' [0,1,3] rfl ⟨⟨rfl,rfl⟩,⟨rfl,rfl⟩,⟨rfl,rfl⟩,trivial⟩ ⟨rfl,rfl,rfl,rfl,trivial⟩) ⟨rfl,by show r.length<=_;omega,by simp at hn ⊢;omega,by simp,(fun h=>by cases h),Iz⟩ (by show r.length+0<u.length+_;omega)|(refine dJ ?_ ?_;focus (simp[h1,j5];done))|(refine bI ?_ ?_;focus (simp[h1];done))
    |cons y k=>
     have qS:¬(k.length:Int)+1=4096:=by simp at DW;omega
     repeat' (conv=>arg 2;whnf);first|refine af (by kernel_rfl) ?_|refine aA ?_ ?_|refine ah ?_|refine aj ?_|refine ak hc rfl (aa.refl _) ?_|refine ak hq rfl (aa.refl _) ?_|refine af (by constructor<;>(simp only[List.length_cons,List.length_nil,List.length_map,maxLen] at hl ⊢;omega)) ?_|refine aP (aZ (by(try dsimp only);omega) (by(try dsimp only);omega)) ?_|exact bV (r,n+1,s,(y::k)++[a]) (Sv.mk' [0,1,4] rfl ⟨⟨rfl,rfl⟩,⟨rfl,rfl⟩,⟨rfl,by simp;rfl⟩,trivial⟩ ⟨rfl,rfl,rfl,rfl,trivial⟩) ⟨rfl,by show r.length<=_;omega,by simp at hn ⊢;omega,by simp at DW ⊢;omega,(fun h=>by cases h),Iz⟩ (by show r.length+0<u.length+_;omega)|(refine dJ ?_ ?_;focus (simp[h1,j5,qS];done))|(refine bI ?_ ?_;focus (simp[h1,qS];done))
 ·have Hq:u.length<=4194304:=(Rf e2).1 DV
  have hp:=M5 u Hq
  have hq:=Ms u Hq
  rw[e3] at hc
  have hu1:u≠[]\/n=0:=by
   by_cases h:n=0
   ·exact .inr h
   ·exact .inl fun e=>hA ⟨h,e⟩
  have hS:=KF n s l e2 hu1
  rw[if_neg (by omega)] at hS
  rw[hS]
  clear hS
  by_cases oP:n=0
  ·subst oP
   obtain rfl:=hz rfl
   repeat' (conv=>arg 2;whnf);first|refine af (by kernel_rfl) ?_|refine aA ?_ ?_|refine ah ?_|refine aj ?_|refine ak hc rfl (aa.refl _) ?_|refine ak hp rfl (aa.refl _) ?_|refine fF ?_|exact bq (.inr rfl) rfl (aa.fG (.cons (aa.bA (.cons (.refl _) (.cons (.refl _) (.cons (.refl _) (.cons (.refl _) (.cons (.refl _) (.cons (.nil _) .nil))))))) (.refl _))) rfl
  ·have h1:(((n:Int)+1)==1)=false:=by simp;omega
   have j5:¬u=[]:=fun e=>hA ⟨oP,e⟩
   cases l with
   |nil=>
    repeat' (conv=>arg 2;whnf);first|refine af (by kernel_rfl) ?_|refine aA ?_ ?_|refine ah ?_|refine aj ?_|refine ak hc rfl (aa.refl _) ?_|refine ak hq rfl (aa.refl _) ?_|refine af (by constructor<;>(simp only[List.length_cons,List.length_nil,maxLen] at hl ⊢;omega)) ?_|refine fF ?_|exact bq (.inr rfl) rfl (aa.fG (.cons (aa.bA (.cons (.refl _) (.cons (.refl _) (.cons (.refl _) (.cons (.refl _) (.cons (.refl _) (.cons (.nil _) .nil))))))) (.refl _))) rfl|(refine dJ ?_ ?_;focus (simp[h1,j5];done))|(refine bI ?_ ?_;focus (simp[h1];done))
   |cons y k=>
    have qS:¬(k.length:Int)+1=4096:=by simp at DW;omega
    repeat' (conv=>arg 2;whnf);first|refine af (by kernel_rfl) ?_|refine aA ?_ ?_|refine ah ?_|refine aj ?_|refine ak hc rfl (aa.refl _) ?_|refine ak hq rfl (aa.refl _) ?_|refine af (by constructor<;>(simp only[List.length_cons,List.length_nil,List.length_map,maxLen] at hl ⊢;omega)) ?_|refine fF ?_|exact bq (.inr rfl) rfl (aa.fG (.cons (aa.bA (.cons (.refl _) (.cons (.refl _) (.cons (.refl _) (.cons (.refl _) (.cons (.refl _) (.cons (.nil _) .nil))))))) (.refl _))) rfl|(refine dJ ?_ ?_;focus (simp[h1,j5,qS];done))|(refine bI ?_ ?_;focus (simp[h1,qS];done))
end Go.Proofs.YtafomdobfmmleaaGreatDoor

/- Lemmas and contracts. -/
namespace Go.Proofs.YtafomdobfmmleaaGreatDoor
open Go.RowKit
set_option linter.unusedVariables false
set_option maxRecDepth 20000
theorem Lt:mM.ok me:=Ck (by decide) (by decide) (by decide) (by decide) (by decide)
theorem CK (n e:Int):(∀x∈(jH n e).1.2,ey.ok x)/\(jH n e).1.2.length<=4096/\mM.ok (jH n e).1.1:=⟨fun x hx=>(List.not_mem_nil hx).elim,Nat.zero_le _,Lt⟩
theorem CJ:∀(t cur:List UInt8) (n:Nat) (s:dX) (l:List aS),(∀x∈l,ey.ok x)->l.length<=4096->mM.ok s->(∀x∈(scan t cur n s l).1.2,ey.ok x)/\(scan t cur n s l).1.2.length<=4096/\mM.ok (scan t cur n s l).1.1
 |[],cur,n,s,l,h,hl,hs=>by
  rw[scan]
  repeat' split
  all_goals first|exact CK _ _|exact⟨h,hl,hs⟩
 |c::r,cur,n,s,l,h,hl,hs=>by
  rw[scan]
  split
  ·split
   ·split
    ·exact CK _ _
    ·rename_i s1 h1
     exact CJ r _ _ _ l h hl (tT h1).1
   ·split
    ·exact CK _ _
    ·split
     ·exact CK _ _
     ·rename_i h4 _ a ha
      refine CJ r _ _ _ _ (fun x hx=>?_) (by simp;omega) hs
      rcases List.mem_append.1 hx with hx|hx
      ·exact h x hx
      ·rw[List.mem_singleton.1 hx]
       exact(tT ha).1
  ·exact CJ r _ _ _ l h hl hs
attribute [local instance] oA
theorem RX (l:List aS) (h:∀x∈l,ey.ok x) (hl:l.length<=4194304):aJ Tryz.prog 56 [.list 40 (l.map cg),.list 40 (l.map cg)] (.bool true):=by
 refine aF 27 [] Tryz.func56 rfl (by kernel_rfl) ?_
 repeat' (conv=>arg 2;whnf);first|refine af (by kernel_rfl) ?_|refine aA ?_ ?_|refine ah ?_|refine aj ?_|(refine bI ?_ ?_;focus (simp;done))
 conv=>arg 2;whnf
 refine cD (α:=Nat) (fun q=>⟨[(0,.list 40 (l.map cg)),(1,.list 40 (l.map cg)),(5,.int .i64 (q:Int))],[]⟩) (fun q=>q<=l.length) (fun q=>l.length-q) 0 (Nat.zero_le _) (Sv.mk' [] rfl trivial ⟨rfl,rfl,rfl,trivial⟩) ?_
 intro q hq
 by_cases hlt:q<l.length
 ·have hx:=List.getElem?_eq_getElem hlt
  have mC:=h _ (List.mem_of_getElem? hx)
  have OO:=WW l[q] l[q] mC mC
  rw[show bK l[q] l[q]=true by simp[bK]] at OO
  have AV:(q:Int)<(l.length:Int):=by omega
  repeat' (conv=>arg 2;whnf);first|refine aP (aZ (by(try dsimp only);omega) (by(try dsimp only);omega)) ?_|refine af (by kernel_rfl) ?_|refine aA ?_ ?_|refine ah ?_|refine aj ?_|refine kS (cg l[q]) (Int.natCast_nonneg _) (by show(l.map cg)[((q:Nat):Int).toNat]?=_;rw[List.getElem?_map,show((q:Nat):Int).toNat=q from rfl,hx];rfl) ?_|refine ak OO rfl (aa.refl _) ?_|exact bV (q+1) (Sv.mk' [] rfl trivial ⟨rfl,rfl,rfl,trivial⟩) (by show q+1<=_;omega) (by show l.length-(q+1)<l.length-q;omega)|(refine dJ ?_ ?_;focus (simp[AV];done))|(refine bI ?_ ?_;focus (simp[AV];done))
 ·have AV:¬(q:Int)<(l.length:Int):=by omega
  repeat' (conv=>arg 2;whnf);first|refine af (by kernel_rfl) ?_|refine aA ?_ ?_|refine ah ?_|refine aj ?_|refine bD ?_|exact bq (.inr rfl) rfl (.refl _) rfl|(refine dJ ?_ ?_;focus (simp[AV];done))|(refine bI ?_ ?_;focus (simp[AV];done))
theorem Wp (s:jj) (h:∀x∈s.fo,ey.ok x) (hl:s.fo.length<=4194304):aJ Tryz.prog 25 [.agg (xI s),.agg (xI s)] (.bool true):=by
 have hs:=RX s.fo h hl
 refine aF 17 [] Tryz.func25 rfl (by kernel_rfl) ?_
 repeat' (conv=>arg 2;whnf);first|refine af (by kernel_rfl) ?_|refine aA ?_ ?_|refine ah ?_|refine aj ?_|refine ak hs rfl (aa.refl _) ?_|(refine bT (.inr rfl) rfl ?_;simp;done)|(refine dJ ?_ ?_;focus (simp;done))|(refine bI ?_ ?_;focus (simp;done))
end Go.Proofs.YtafomdobfmmleaaGreatDoor

/- Lemmas and contracts. -/
namespace Go.Proofs.YtafomdobfmmleaaGreatDoor
open Go.RowKit
set_option linter.unusedVariables false
theorem Wn {w:World} (h:Lib.TabIs Tryz.prog w "internal/strconv.uint64pow10" .u64 Lib.pow10Tab):yF<w.heap.size:=by
 unfold Lib.TabIs World.var? at h
 rw[NL] at h
 simp only[Option.bind_some] at h
 rcases Nat.lt_or_ge yF w.heap.size with h'|h'
 ·exact h'
 ·rw[Array.getElem?_eq_none h'] at h;simp at h
theorem Ln [Old] {I:Nat->Prop} {g:aX} {w:World} {v:Value} {s:List UInt8} {n:Int} (h:Vr I g w v (.aD [.str s,.int .i64 n])):v=.tuple #[.string (au s),.int .i64 n]:=by
 obtain⟨vs,rfl,hl,h2⟩:=h.CH
 match vs,hl with
 |[a,b],_=>
  have ha:=(h2 0 a _ rfl rfl).kB
  have hb:=(h2 1 b _ rfl rfl).lX
  rw[ha,hb]
theorem RU:@jx yg:=by
 intro n hn
 refine⟨by kernel_rfl,fun w I g vs hW hd ha=>?_⟩
 obtain⟨u,rY,rfl,h1,h2⟩:=ha.sN
 obtain rfl:=h2.xF
 rw[h1.lX]
 have hg:g=[]:=List.eq_nil_of_length_eq_zero hd.len
 subst hg
 have hT:nS w:=fun w' hb=>(@Wd.cl yg _ _ _ _ hW (fun b k=>hb.block b (hd.ay b k)) (fun _ k=>k)).2
 refine(yj hT hn).mono ?_
 rintro e w' ⟨rfl,hb⟩
 exact .inl ⟨_,I,[],_,[],rfl,⟨rfl,rfl⟩,hd.later hb,.rd (.str _),Ext.of_B hb,fun _ h=>h,fun _ h=>.inl h,fun b h=>.inl h,fun o p t cs _ h=>by simp at h⟩
theorem Xl {ay:Nat->Prop} {w:World} {cs:List Value} {x:aS} (hT:nS w) (hx:gB.rd ay w cs x):Calls Tryz.prog 17 #[.agg cs.toArray] w (Cq w x):=by
 have hI:gB.rd (fun b=>ay b\/b=yF) w cs x:=gB.mono hx (fun _=>.inl)
 have ht:=hT w (Below.refl _ _)
 have k:=@Nw yg.toOld
 refine(@aJ.calls yg (@vW.mk yg (fun _ h=>h)) _ _ _ _ (@Mh yg RU x (k.to hI).2.1) _ w [.agg cs.toArray] (k.arg hI) ⟨⟨.inr rfl,Wn ht⟩,ht⟩).mono ?_
 rintro e w' ⟨v,I',rfl,hb,hv,_⟩
 unfold Cq
 by_cases h:gR x
 ·rw[CB h] at hv
  exact⟨by rw[Ln hv,if_pos h],hb⟩
 ·rw[FJ h] at hv
  exact⟨by rw[Ln hv,if_neg h];rfl,hb⟩
end Go.Proofs.YtafomdobfmmleaaGreatDoor

/- Lemmas and contracts. -/
namespace Go.Proofs.YtafomdobfmmleaaGreatDoor
open Go.RowKit Go.Deep
set_option linter.unusedVariables false
theorem WI {w:World} {x:aS} {r:Ending} {w':World} (hk:gR x) (h:Cq w x r w'):r=.returned (.tuple #[.string (au (eP x)),.int .i64 0])/\B w w':=by
 obtain⟨h1,h2⟩:=h
 exact⟨by rw[h1,if_pos hk],h2⟩
theorem lineNo {w:World} {x:aS} {r:Ending} {w':World} (hk:¬gR x) (h:Cq w x r w'):r=.returned (.tuple #[.string ⟨#[]⟩,.int .i64 1])/\B w w':=by
 obtain⟨h1,h2⟩:=h
 exact⟨by rw[h1,if_neg hk],h2⟩
theorem JD (l:List UInt8):(au l++⟨#[10]⟩).size=l.length+1:=by
 rw[ByteArray.size_append]
 simp[au,ByteArray.size]
theorem MM {K b:Nat} {bs:List Value} {s:ByteArray} {w:World} (h:Lib.IsBuilder 114 5 K b bs w) (hlen:bs.length+s.size<=140737488355328) (hK:K<=w.heap.size):
 Calls Tryz.prog 57 #[.pointer (some ⟨b,0,none⟩),.string s] w fun e w'=>e=.returned (.tuple #[.int .i64 s.size,.nilIface])/\(Lib.BuilderAt 114 5 K b (.pointer (some ⟨b,0,none⟩)) (bs++Lib.strCells s) w'/\Below K w w'):=
 Any.Builder_WriteString {Tryz.FU with} Tryz.Ed K b bs s w h hlen hK
theorem U4 {K b:Nat} {l:List UInt8} {w:World} (h:Lib.IsBuilder 114 5 K b (Lib.byteCells l) w) (h0:l≠[]):
 Calls Tryz.prog 58 #[.pointer (some ⟨b,0,none⟩)] w fun e w'=>e=.returned (.string ⟨l.toArray⟩)/\Below K w w':=
 Tryz.Builder_String K b l w h h0
open Classical in
theorem Tf {s:jj} {x:aS} {q:Nat} (hk:dQ s.cx.av=true) (hl:s.fo.length<=4096) (hx:s.fo[q]?=some x) (hy:¬gR x):fk s=([],1):=by
 unfold fk
 rw[if_neg (by simp[hk]),if_neg (by omega),if_neg (fun h=>hy (h x (List.mem_of_getElem? hx)))]
open Classical in
theorem R8 {s:jj} (hk:dQ s.cx.av=true) (hl:s.fo.length<=4096) (h:∀j a,j<s.fo.length->s.fo[j]?=some a->gR a):fk s=(ko s s.fo.length,0):=by
 unfold fk
 rw[if_neg (by simp[hk]),if_neg (by omega),if_pos (by
  intro a ha
  obtain⟨j,hj⟩:=List.getElem?_of_mem ha
  exact h j a (List.getElem?_eq_some_iff.1 hj).1 hj)]
 unfold ko
 rw[List.take_length]
theorem LM {ops:Array Oper} {Q:Exit->Act->World->Prop} {rest:List Oper} {op:Oper} {a:Act} {wr:World} {Z C:Array Value} {tx ty:Tmp} (tq:op.guard=none) (ho:op.op=.store 61 (.tmp tx) (.tmp ty)) (hz:Z.size=40) (hC:C.size=40) (h1:C.all (·.oneCell')=true)
 (hx:a.eval (.tmp tx)=.pointer (some ⟨wr.heap.size,0,none⟩)) (hy:a.eval (.tmp ty)=.agg C) (h:∀w3,St wr w3 [aR wr.heap.size 61 C]->wpList Tryz.prog ops Q rest (a.put op.dst undef) w3):wpList Tryz.prog ops Q (op::rest) a (wr.alloc (.cells Z 61)):=by
 have hS:=aR.new (St.nil wr) 61 Z
 exact wpList_store_mid tq 61 (.tmp tx) (.tmp ty) ho wr.heap.size 0 C hx hy (UC hS 0 _ (by omega)) (by rw[hC];exact Gz) h1 (h _ (aR.Xj hS (by omega)))
set_option maxRecDepth 20000 in
set_option maxHeartbeats 16000000 in
theorem U5 {ay:Nat->Prop} {w:World} {cs:List Value} {s:jj} (hT:nS w) (h:pg.rd ay w cs s) (hk:dQ s.cx.av=true) (hl:s.fo.length<=4096):
 Calls Tryz.prog 26 #[.agg cs.toArray] w fun r w'=>r=.returned (.tuple #[.string (au (fk s).1),.int .i64 (fk s).2])/\B w w':=by
 obtain⟨c0,c1,rfl,h0,h1⟩:=h
 have HC:=Lib.hid (fun w' (hb:B w w')=>FK (hT.later hb) (jz.later h0 hb))
 have kZ:=Lib.hid (J6 h0)
 obtain⟨rfl,b1,b2,b3,b4,b5⟩:=jz.parts h0
 obtain⟨A,c,rfl,hs⟩:=tL.slice h1
 have HS:=Lib.hid (aR.new (St.nil w) 69 #[.int .i64 s.cx.f,.int .u16 s.cx.eU,.int .u16 s.cx.eO,.int .i64 s.cx.room,.string (au s.cx.av),.slice A s.fo.length c])
 have HK:=Lib.hid hk
 have HT:=Lib.hid hT
 have HR:=Lib.hid h1
 obtain⟨n,hn⟩:∃n,s.fo.length=n:=⟨_,rfl⟩
 have HN:=Lib.hid hn
 obtain⟨T0,I9⟩:∃z,eW s.cx=z:=⟨_,rfl⟩
 have Ja:=Lib.hid I9
 rw[hn] at hl HS ⊢
 rw[hk,I9] at HC
 clear hk hT h0 h1 hs hn I9
 have O7:=Lib.hid (show([]:List Value).length+(au T0++⟨#[10]⟩).size<=140737488355328 from by have:=kZ.out;rw[Ja.out] at this;rw[JD];simp;omega)
 have yH:¬9223372036854775807<(au T0).size+1:=by have:=kZ.out;rw[Ja.out] at this;simp[au,ByteArray.size];omega
 have Oc:=Lib.hid (show ∀j a,s.fo[j]?=some a->gR a->(eP a).length<=33554448 from fun j a hj ho=>by
  obtain⟨_,ba,oa,ca,rfl,r1,k1⟩:=tL.at HR.out hj
  exact Tc r1 ho.1)
 have Om:(n:Int)<=4096:=by omega
 have KG:=(aR.get HS.out).cell
 go_enter Tryz.func26,Tryz.ntmps26
 go_wp2_with (first
  |(go_at_call 8;(with_reducible refine cA (HC.out _ HS.out.b) ?_);rintro r w1 ⟨hr,hb⟩;replace HS:=Lib.hid (HS.out.on.later hb);clear hb;simp only[if_true] at hr;subst hr;replace KG:=(aR.get HS.out).cell;have HBW:=Lib.hid HS.out.b;have HF:=Lib.hid (Lib.fresh_isBuilder 114 5 w1);have O8:=Lib.hid (show w1.heap.size<=(w1.alloc (.cells #[.pointer none,.slice none 0 0] 114)).heap.size from by simp))
  |(go_at_call 57;((with_reducible refine cA (MM HF.out O7.out O8.out) ?_);rintro r w2 ⟨rfl,hB,hb⟩;replace HS:=Lib.hid (HS.out.later (show B w1 w2 from Below.trans ((Below.refl w1.heap.size w1).alloc (Nat.le_refl _) _) hb));replace KG:=(aR.get HS.out).cell;replace HF:=Lib.hid hB;clear hb hB O7))
  |fail)
 have HF2:=Lib.hid (show Lib.IsBuilder 114 5 w1.heap.size w1.heap.size (Lib.byteCells (ko s 0)) w2 from by
  have h:=HF.out
  rw[List.nil_append,<-Ja.out,Te] at h
  exact .inr h)
 have I7:=Lib.hid HS.out.b
 have D9:=Lib.hid (show w.heap.size<=w1.heap.size from HBW.out.size)
 have I8:=Lib.hid (show w1.heap.size<=w2.heap.size from Nat.le_of_lt HF.out.lt)
 clear HF KG HS O8 HC
 go_loopw [30] (fun i wr=>∃q:Nat,q<=n/\i=.int .i64 q/\Hid (∀j a,j<q->s.fo[j]?=some a->gR a)/\Hid (B w wr/\w1.heap.size<=wr.heap.size/\Lib.IsBuilder 114 5 w1.heap.size w1.heap.size (Lib.byteCells (ko s q)) wr)) (fun i _=>n-(intOf i).toNat)
 case atStart=>exact⟨0,Nat.zero_le _,rfl,fun j a h=>by omega,I7.out,I8.out,HF2.out⟩
 case round=>
  obtain⟨q,hq,rfl,HP,HW⟩:=hrel
  by_cases hlt:q<n
  ·obtain⟨x,hx⟩:∃x,s.fo[q]?=some x:=⟨_,List.getElem?_eq_getElem (by have:=HN.out;omega)⟩
   obtain⟨_,ba,oa,ca,rfl,r1,k1⟩:=tL.at HR.out hx
   have IU:ca.length=40:=gB.len r1
   simp only[show gB.n=40 from rfl] at k1
   have O9:=Lib.hid (show wr.rangeAt ba (oa+q*40) ca from fun j v hv=>B.cell HW.out.1 (k1 j v hv))
   have HI:=Lib.hid (show(Tryz.prog.info? 61).map (·.size)=some ca.length from by rw[IU];exact Gz)
   have Jb:=Lib.hid (fun w' (hb:B w w')=>Xl (HT.out.later hb) (gB.later r1 hb))
   obtain⟨C,hC⟩:∃C,ca.toArray=C:=⟨_,rfl⟩
   have BH:=Lib.hid (show C.size=40/\C.all (·.oneCell')=true from by rw[<-hC];exact gB.one r1)
   have Pa:=Lib.hid (show(Tryz.prog.info? 61).map (·.size)=some C.size from by rw[BH.out.1];exact Gz)
   have HX:=Lib.hid hx
   have abK:=Lib.hid (fun Z:Array Value=>aR.new (St.nil wr) 61 Z)
   rw[hC] at Jb
   have Pb:=Lib.hid hC
   clear k1 r1 hx hC IU
   by_cases hy:gR x
   ·have HY:=Lib.hid hy
    have qM:=Oc.out q x HX.out hy
    have abE:¬9223372036854775807<(au (eP x)).size+1:=by simp[au,ByteArray.size];omega
    have HLQ:=Lib.hid (show(Lib.byteCells (ko s q)).length+(au (eP x)++⟨#[10]⟩).size<=140737488355328 from by
     have h:=LK 33554448 kZ.out q (fun j a hj ha=>Oc.out j a ha (HP.out j a hj ha))
     rw[Lib.byteCells_length,JD]
     omega)
    clear hy qM
    go_wp2_with (first
     |(refine wpList_load_mid rfl 61 (.tmp 32) rfl ba (oa+q*40) rfl ca _ O9.out Tryz.underlying61 rfl HI.out ?_;rw[Pb.out])
     |(refine LM (C:=C) rfl rfl rfl BH.out.1 BH.out.2 rfl rfl (fun w3 BI=>?_);have wW:=Lib.hid BI;clear BI;have Jc:=Lib.hid (aR.get wW.out))
     |(refine wpList_load_row rfl 61 (.tmp 8) rfl wr.heap.size rfl 61 C (0,0) _ Jc.out Tryz.underlying61 rfl Pa.out ?_)
     |(go_at_call 17;(with_reducible refine cA (Jb.out _ (HW.out.1.trans wW.out.b)) ?_);rintro r w4 hr;obtain⟨rfl,hb⟩:=WI HY.out hr;clear hr;have vg:=Lib.hid (show B wr w4 from wW.out.b.trans hb);clear hb)
     |(go_at_call 57;(with_reducible refine cA (MM (PA HW.out.2.2 vg.out) HLQ.out (Nat.le_trans HW.out.2.1 vg.out.size)) ?_);rintro r w5 ⟨rfl,hB,hb⟩)
     |fail)
    have HE:=Lib.hid (Below.trans (HW.out.1.trans vg.out) (Below.mono hb D9.out))
    have hP:=HP.out
    refine⟨⟨q+1,by omega,by push_cast;rfl,fun j a hj ha=>?_,HE.out,Nat.le_trans (Nat.le_trans HW.out.2.1 vg.out.size) hb.size,.inr (by rw[<-Td HX.out];exact hB)⟩,by simp[intOf];omega⟩
    by_cases hjq:j=q
    ·subst hjq
     have:=HX.out
     rw[ha] at this
     injection this with this
     rw[this]
     exact HY.out
    ·exact hP j a (by omega) ha
   ·have HY:=Lib.hid hy
    have HQ:=Lib.hid (Tf HK.out (by have:=HN.out;omega) HX.out hy)
    clear hy
    go_wp2_with (first
     |(refine wpList_load_mid rfl 61 (.tmp 32) rfl ba (oa+q*40) rfl ca _ O9.out Tryz.underlying61 rfl HI.out ?_;rw[Pb.out])
     |(refine LM (C:=C) rfl rfl rfl BH.out.1 BH.out.2 rfl rfl (fun w3 BI=>?_);have wW:=Lib.hid BI;clear BI;have Jc:=Lib.hid (aR.get wW.out))
     |(refine wpList_load_row rfl 61 (.tmp 8) rfl wr.heap.size rfl 61 C (0,0) _ Jc.out Tryz.underlying61 rfl Pa.out ?_)
     |(go_at_call 17;(with_reducible refine cA (Jb.out _ (HW.out.1.trans wW.out.b)) ?_);rintro r w4 hr;obtain⟨rfl,hb⟩:=lineNo HY.out hr;clear hr;have vg:=Lib.hid (show B wr w4 from wW.out.b.trans hb);clear hb)
     |fail)
    go_ret2
    rw[HQ.out]
    exact⟨rfl,HW.out.1.trans vg.out⟩
  ·have hqn:q=n:=by omega
   subst hqn
   have HQ:=Lib.hid (R8 HK.out (by have:=HN.out;omega) (fun j a hj ha=>HP.out j a (by have:=HN.out;omega) ha))
   have HO:=Lib.hid (show ko s q≠[] from by simp[ko])
   go_wp2_with (first
    |(go_at_call 58;(with_reducible refine cA (U4 HW.out.2.2 HO.out) ?_);rintro r w4 ⟨rfl,hb⟩)
    |fail)
   go_ret2
   rw[HQ.out,HN.out]
   exact⟨rfl,Below.trans HW.out.1 (Below.mono hb D9.out)⟩
theorem Mv {ay:Nat->Prop} {w:World} {cs:List Value} {s:jj} (hT:nS w) (h:pg.rd ay w cs s):
 Calls Tryz.prog 26 #[.agg cs.toArray] w fun r w'=>r=.returned (.tuple #[.string (au (fk s).1),.int .i64 (fk s).2])/\B w w':=by
 cases hk:dQ s.cx.av with
 |false=>exact LL hT h (.inl hk)
 |true=>
  by_cases hl:s.fo.length<=4096
  ·exact U5 hT h hk hl
  ·exact LL hT h (.inr (by omega))
end Go.Proofs.YtafomdobfmmleaaGreatDoor

/- Lemmas and contracts. -/
namespace Go.Proofs.YtafomdobfmmleaaGreatDoor
open Go.RowKit Go.Deep
set_option linter.unusedVariables false
def Pd:List Value:=[.int .i64 1,.string (au [116]),.string ⟨#[]⟩,.int .i64 0,.slice none 0 0]
def yS:List Value:=s7 6 2 0 Pd (.slice none 0 0) Di false
def yT:List Value:=s7 8 3 (-1) G9 (.slice none 0 0) Di false
def yU:List Value:=s7 12 0 0 G9 (.slice none 0 0) Di false
theorem XF (ay:Nat->Prop) (w:World):cL.rd ay w Pd jt.op:=
 cL.mk (s:=jt.op) (by simp[jt,bU,bO]) (by simp[jt,bU,bO]) (by simp[jt,bU,bO]) (by simp[jt,bU,bO]) (tL.nil _ _ _)
theorem XG (ay:Nat->Prop) (w:World):gB.rd ay w yS jt:=
 gB.mk' (s:=jt) (by simp[jt]) (by simp[jt]) (by simp[jt,bO]) (XF _ _) (tY.nil _ _) (FP _ _)
theorem XH (ay:Nat->Prop) (w:World):gB.rd ay w yT ny:=
 gB.mk' (s:=ny) (by simp[ny]) (by simp[ny]) (by simp[ny]) (M4 _ _) (tY.nil _ _) (FP _ _)
theorem XI (ay:Nat->Prop) (w:World):gB.rd ay w yU nA:=
 gB.mk' (s:=nA) (by simp[nA]) (by simp[nA,bO]) (by simp[nA,bO]) (M4 _ _) (tY.nil _ _) (FP _ _)
theorem GL {w:World} {g o:Nat} {Z:Array Value} {t:TypeId} {a c d:List Value} (hb:cm w g t Z) (hz:Z.toList=a++c++d) (ho:a.length=o):∀j v,c[j]?=some v->w.cell? ⟨g,o+j,none⟩=some v:=by
 intro j v hv
 have hl:j<c.length:=(List.getElem?_eq_some_iff.1 hv).1
 rw[hb.cell,<-Array.getElem?_toList,hz,List.append_assoc,List.getElem?_append_right (by omega),List.getElem?_append_left (by omega)]
 rw[show o+j-a.length=j by omega]
 exact hv
theorem YI {w:World} (hT:nS w) {Z:Array Value} (hz:Z.toList=yS++yT++yU):
 Calls Tryz.prog 26 #[.agg #[.int .i64 1,.int .u16 0,.int .u16 0,.int .i64 65536,.string ⟨#[116]⟩,.slice (some ⟨w.heap.size,0,none⟩) 3 3]] (w.alloc (.cells Z 61)) fun r w'=>r=.returned (.tuple #[.string (au Ea),.int .i64 0])/\B w w':=by
 have hb:cm (w.alloc (.cells Z 61)) w.heap.size 61 Z:=aR.get (aR.new (St.nil w) 61 Z)
 have hB:B w (w.alloc (.cells Z 61)):=B.jV _ _
 have l1:yS.length=40:=rfl
 have l2:yT.length=40:=rfl
 have l3:yU.length=40:=rfl
 have h:(tL gB).rd (fun _=>True) (w.alloc (.cells Z 61)) [.slice (some ⟨w.heap.size,0,none⟩) 3 3] lQ.fo:=by
  refine⟨some ⟨w.heap.size,0,none⟩,3,rfl,by simp[lQ],by unfold maxLen;omega,by simp,by simp[lQ],fun _=>⟨w.heap.size,0,rfl,by simp,trivial,?_⟩⟩
  intro i x hx
  rcases i with _|_|_|i
  ·simp only[lQ,List.getElem?_cons_zero,Option.some.injEq] at hx
   subst hx
   exact⟨yS,XG _ _,GL (o:=0) (a:=[]) (d:=yT++yU) hb (by rw[hz];simp) rfl⟩
  ·simp only[lQ,List.getElem?_cons_zero,List.getElem?_cons_succ,Option.some.injEq] at hx
   subst hx
   exact⟨yT,XH _ _,GL (o:=40) (a:=yS) (d:=yU) hb hz l1⟩
  ·simp only[lQ,List.getElem?_cons_zero,List.getElem?_cons_succ,Option.some.injEq] at hx
   subst hx
   exact⟨yU,XI _ _,GL (o:=80) (a:=yS++yT) (d:=[]) hb (by rw[hz];simp) (by rw[List.length_append,l1,l2])⟩
  ·simp[lQ] at hx
 have hS:=pg.mk (s:=lQ) (by simp[lQ,qY]) (by simp[lQ,qY]) (by simp[lQ,qY]) (by simp[lQ,qY]) (by simp[lQ,qY]) h
 refine(Mv (hT.later hB) hS).mono fun r w' hr=>?_
 obtain⟨rfl,bQ⟩:=hr
 rw[U3]
 exact⟨rfl,hB.trans bQ⟩
set_option maxRecDepth 20000 in
set_option maxHeartbeats 8000000 in
theorem Xn {w:World} (hT:nS w):Calls Tryz.prog 7 #[] w fun r w'=>r=.returned (.bool true)/\B w w':=by
 have HP:=Lib.hid (fun (Z:Array Value) hz=>YI hT (Z:=Z) hz)
 have hlv:au Ea=⟨#[119,111,114,108,100,32,49,32,48,32,48,32,54,53,53,51,54,32,116,10,97,115,107,32,50,32,120,48,49,48,49,55,52,10,99,114,97,115,104,32,51,32,45,49,10,114,111,117,110,100,10]⟩:=by decide+kernel
 rw[hlv] at HP
 clear hT
 go_enter Tryz.func7,Tryz.ntmps7
 go_wp2_with (first|(go_at_call 26;(refine cA (HP.out _ rfl) ?_);rintro r w1 ⟨rfl,hb⟩)|fail)
 go_ret
 exact⟨rfl,hb⟩
end Go.Proofs.YtafomdobfmmleaaGreatDoor

/- Lemmas and contracts. -/
namespace Go.Proofs.YtafomdobfmmleaaGreatDoor
open Go.RowKit
set_option linter.unusedVariables false
set_option maxRecDepth 20000
theorem prV (s:jj) (I:Nat->Prop) (w:World) [Old]:Dr I w (.tuple #[.string (au (fk s).1),.int .i64 (fk s).2]) (.aD [.str (fk s).1,.int .i64 (fk s).2]):=
 .aD [.string (au (fk s).1),.int .i64 (fk s).2] [.str (fk s).1,.int .i64 (fk s).2] rfl (fun i v d k1 k2=>by
  match i with
  |0=>simp at k1 k2;subst k1 k2;exact .str _
  |1=>simp at k1 k2;subst k1 k2;exact .int _ _
  |i+2=>simp at k1)
theorem Lq [Wd] [kq] (s:jj) (hs:Ae.ok s):aJ Tryz.prog 26 [.agg (xI s)] (.aD [.str (fk s).1,.int .i64 (fk s).2]):=
 bf.Dx (fun I w=>prV s I w) (by kernel_rfl) (fun w I vs hW hi hd=>by
  obtain⟨u,rfl,h1⟩:=hd.nE
  obtain⟨us,rfl,k1,k2⟩:=(Vr.rd (g:=[]) h1).ot
  exact Mv (hW.DN hi) (Lr.of (lS k1 rfl) hs)) rfl
theorem Cr:∀(t cur:List UInt8) (n:Nat) (s:dX) (l:List aS),(scan t cur n s l).2.2=0->(scan t cur n s l).2.1=0
 |[],cur,n,s,l=>by
  rw[scan]
  repeat' split
  all_goals simp[jH]
 |c::r,cur,n,s,l=>by
  rw[scan]
  split
  ·split
   ·split
    ·simp[jH]
    ·exact Cr r _ _ _ _
   ·split
    ·simp[jH]
    ·split
     ·simp[jH]
     ·exact Cr r _ _ _ _
  ·exact Cr r _ _ _ _
theorem Mw {α:Type} (f:α->Nat):∀{l:List α} {a:α},a∈l->f a<=(l.map f).sum
 |x::l,a,h=>by
  rw[List.map_cons,List.sum_cons]
  rcases List.mem_cons.1 h with rfl|h
  ·omega
  ·have:=Mw f h
   omega
open Classical in
theorem Rg {s:jj} (hs:Ae.ok s) (hb:(s.fo.map (·.bytes.length)).sum<=1048576) (h1:(eW s.cx).length<=4194304) (h:(fk s).2=0):(fk s).1.length<=4294967280/\ke (fk s).1 0:=by
 unfold fk at h ⊢
 split at h
 ·cases h
 ·rename_i h0
  split at h
  ·cases h
  ·rename_i h4
   split at h
   ·rename_i h2
    rw[if_neg h0,if_neg h4,if_pos h2]
    have hn:dQ s.cx.av=true:=by simpa using h0
    have hl:=Ls s.fo (fun a ha=>⟨hs.2.2 a ha,h2 a ha⟩)
    have hm:s.fo.length*1022301<=4096*1022301:=Nat.mul_le_mul_right _ (by omega)
    refine⟨?_,(Em (Lp hn)).2 ⟨h1,JZ s.fo (fun a ha=>⟨hs.2.2 a ha,h2 a ha,Nat.le_trans (Mw (fun a:aS=>a.bytes.length) ha) hb⟩)⟩⟩
    simp only[List.length_append,List.length_cons]
    omega
   ·cases h
attribute [local instance] oA
theorem CI:aJ Tryz.prog 7 [] (.bool true):=bf.Dx (v:=.bool true) (fun _ _=>.bool true) (by kernel_rfl) (fun w I vs hW hi hd=>by
 have:vs=[]:=List.eq_nil_of_length_eq_zero hd.1
 subst this
 exact Xn (hW.DN hi)) rfl
theorem Xo (s:jj) (hs:Ae.ok s) (hb:(s.fo.map (·.bytes.length)).sum<=1048576) (h1:(eW s.cx).length<=4194304) (t:List UInt8) (ht:t.length<=4194304):aJ Tryz.prog 6 [.agg (xI s),.str t] (.bool true):=by
 have k1:=Lq s hs
 have k3:=Mt t (by omega) (E2 t 0 ht)
 have k4:=Wp s hs.2.2 hs.2.1
 obtain⟨o1,o2,o3⟩:=CJ t [] 0 me [] (fun x hx=>(List.not_mem_nil hx).elim) (Nat.zero_le _) Lt
 have p0:=fun u l=>JY t [] u l
 obtain⟨R,hR⟩:∃R,scan t [] 0 me []=R:=⟨_,rfl⟩
 rw[hR] at k3 o1 o2 o3
 simp only[hR] at p0
 obtain⟨⟨u,l⟩,n,e⟩:=R
 have k5:=Lq ⟨u,l⟩ ⟨o3,Nat.le_trans o2 (by decide),o1⟩
 have kP:(fk s).2=0->aJ Tryz.prog 23 [.str (fk s).1] (.aD [.agg (xI s),.int .i64 0,.int .i64 0]):=fun h0=>by
  obtain⟨q1,q2⟩:=Rg hs hb h1 h0
  have:=Mt (fk s).1 q1 q2
  rw[RW hs h0] at this
  exact this
 have kE:e=0->n=0/\fk ⟨u,l⟩=(t,0):=fun h=>by
  have h1:=Cr t [] 0 me []
  rw[hR] at h1
  obtain rfl:n=0:=h1 h
  subst h
  exact⟨rfl,p0 u l rfl⟩
 clear p0 hR
 generalize fk s=p at k1 kP
 obtain⟨p,pe⟩:=p
 generalize fk ⟨u,l⟩=v at k5 kE
 refine aF 62 [] Tryz.func6 rfl (by kernel_rfl) ?_
 by_cases h0:pe=0
 ·subst h0
  have k2:=kP rfl
  by_cases he:e=0
  ·obtain⟨rfl,rfl⟩:=kE he
   subst he
   repeat' (conv=>arg 2;whnf);first|refine af (by kernel_rfl) ?_|refine aA ?_ ?_|refine ah ?_|refine aj ?_|refine ak CI rfl (aa.refl _) ?_|refine ak k1 rfl (aa.refl _) ?_|refine ak k2 rfl (aa.refl _) ?_|refine ak k4 rfl (aa.refl _) ?_|refine ak k5 rfl (aa.refl _) ?_|refine ak k3 rfl (aa.refl _) ?_|exact bq (.inr rfl) rfl (.refl _) rfl|(refine dJ ?_ ?_;focus (simp[];done))|(refine bI ?_ ?_;focus (simp[];done))
  ·skip
   repeat' (conv=>arg 2;whnf);first|refine af (by kernel_rfl) ?_|refine aA ?_ ?_|refine ah ?_|refine aj ?_|refine ak CI rfl (aa.refl _) ?_|refine ak k1 rfl (aa.refl _) ?_|refine ak k2 rfl (aa.refl _) ?_|refine ak k4 rfl (aa.refl _) ?_|refine ak k3 rfl (aa.refl _) ?_|exact bq (.inr rfl) rfl (.refl _) rfl|(refine dJ ?_ ?_;focus (simp[he];done))|(refine bI ?_ ?_;focus (simp[he];done))
 ·by_cases he:e=0
  ·obtain⟨rfl,rfl⟩:=kE he
   subst he
   repeat' (conv=>arg 2;whnf);first|refine af (by kernel_rfl) ?_|refine aA ?_ ?_|refine ah ?_|refine aj ?_|refine ak CI rfl (aa.refl _) ?_|refine ak k1 rfl (aa.refl _) ?_|refine ak k5 rfl (aa.refl _) ?_|refine ak k3 rfl (aa.refl _) ?_|exact bq (.inr rfl) rfl (.refl _) rfl|(refine dJ ?_ ?_;focus (simp[h0];done))|(refine bI ?_ ?_;focus (simp[h0];done))
  ·skip
   repeat' (conv=>arg 2;whnf);first|refine af (by kernel_rfl) ?_|refine aA ?_ ?_|refine ah ?_|refine aj ?_|refine ak CI rfl (aa.refl _) ?_|refine ak k1 rfl (aa.refl _) ?_|refine ak k3 rfl (aa.refl _) ?_|exact bq (.inr rfl) rfl (.refl _) rfl|(refine dJ ?_ ?_;focus (simp[h0,he];done))|(refine bI ?_ ?_;focus (simp[h0,he];done))
end Go.Proofs.YtafomdobfmmleaaGreatDoor

/- Lemmas and contracts. -/
namespace Go.Proofs.YtafomdobfmmleaaGreatDoor
open Go.RowKit
set_option linter.unusedVariables false
set_option maxRecDepth 20000
end Go.Proofs.YtafomdobfmmleaaGreatDoor

/- Lemmas and contracts. -/
namespace Go.Proofs.YtafomdobfmmleaaGreatDoor
open Go.RowKit
set_option linter.unusedVariables false
set_option maxRecDepth 20000
end Go.Proofs.YtafomdobfmmleaaGreatDoor

/- Lemmas and contracts. -/
namespace Go.Proofs.YtafomdobfmmleaaGreatDoor
open Go.RowKit
set_option linter.unusedVariables false
set_option maxRecDepth 20000
attribute [local instance] oA
end Go.Proofs.YtafomdobfmmleaaGreatDoor
