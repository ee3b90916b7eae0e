/- Lemmas and contracts, part 16. -/
import Derived.Test.YtafomdobfmmleaaGreatDoorZl15
import Derived.Deep.Light
import Derived.Lib.ConvBytes
import Derived.Deep.RegionHeld3
namespace Go.Proofs.YtafomdobfmmleaaGreatDoor
set_option linter.unusedVariables false
open Go.RowKit
open Go.Proofs.Tryz
set_option maxRecDepth 20000
set_option maxHeartbeats 20000000
section
open Go.RowKit Go.Deep
theorem Nx (w:World) (e:TypeId) (s:ByteArray):B w (Lib.bytesWorld w e s):=
 ⟨rfl,rfl,rfl,by rw[Lib.bytesWorld_size];omega,fun j hj=>Lib.bytesWorld_at_old w e s j hj⟩
instance BB.ahK (w w':World) (e:TypeId) (s:ByteArray) [h:BB w w']:BB w (Lib.bytesWorld w' e s):=⟨h.out.trans (Nx _ _ _)⟩
theorem adw {w:World} {v:Value} {bs:List UInt8} (h:Bs w v bs) (k:Int) (hk:0<=k/\k<18446744073709551616) (hl:bs.length+10<=aL):Calls prog 112 #[v,.int .u64 k] w (qL w (bs++enc k.toNat)):=by
 have:=Pp h k.toNat (by omega) hl
 rwa [Int.toNat_of_nonneg hk.1] at this
theorem Rq (bs x:List UInt8):B8 bs x=bs++cB x:=by simp[B8,cB]
theorem xB {o:bt} (h:bS o=0):(0<=o.kind/\o.kind<=4)/\o=jz o/\(0<=o.offset/\o.offset<=9007199254740992):=by
 unfold bS at h
 split at h
 ·cases h
 rename_i h1
 simp only[not_or,Bool.not_eq_false] at h1
 split at h
 ·cases h
 split at h
 ·cases h
 split at h
 ·cases h
 split at h
 ·cases h
 rename_i h5
 exact⟨by have:=h1.1;unfold kindOk at this;simpa using this,E6.1 h1.2,by omega⟩
section
end
end
section
open Go.RowKit Go.Deep
theorem Ge {s:bJ} (h:dw s=0):(0<=s.key/\s.key<21)/\1<=s.ah/\s.ah<=9007199254740992:=by
 unfold dw at h
 split at h
 ·cases h
 ·omega
theorem aeD {x:ju} (h:iR x=0):(0<=x.bD/\x.bD<8)/\(1<=x.time/\x.time<=9007199254740992)/\bS x.op=0:=by
 unfold iR at h
 split at h
 ·cases h
 ·exact⟨by omega,by omega,h⟩
theorem J1 {l:List bX} (h:fA l=0):l.length<=4/\∀x∈l,iR x.request=0/\dw x.sign=0:=by
 unfold fA at h
 split at h
 ·cases h
 have hp:=(bQ.1 h).1
 refine⟨by omega,?_⟩
 clear h
 rename_i h4
 clear h4
 induction l with
 |nil=>intro x hx;cases hx
 |cons y r ih=>
  simp only[lA,bQ] at hp
  intro x hx
  cases hx with
  |head=>exact⟨hp.1,hp.2.1⟩
  |tail _ hm=>exact ih hp.2.2 x hm
end
section
open Go.RowKit Go.Deep
theorem afC {w:World} {g:Nat} {t:TypeId} (ns:List Int) (h:dR w g t (ns.map (Value.int .i64)).toArray) (hb:∀n∈ns,-9223372036854775808<=n/\n<=9223372036854775807) (hl:ns.length<=4194304):
 (tL tI).rd (fun _=>True) w [.slice (some ⟨g,0,none⟩) ns.length ns.length] ns:=by
 refine⟨_,_,rfl,Nat.le_refl _,by unfold maxLen;omega,fun e=>(by cases e),hl,fun _=>⟨g,0,rfl,h.lt,trivial,fun i x hx=>⟨_,⟨rfl,hb x (List.mem_of_getElem? hx)⟩,fun j v hj=>?_⟩⟩⟩
 cases j with
 |zero=>
  simp only[List.getElem?_cons_zero,Option.some.injEq] at hj
  subst hj
  rw[h.cell]
  simp[tI,hx]
 |succ j=>simp at hj
set_option maxRecDepth 20000 in
set_option maxHeartbeats 20000000 in
theorem Z0 {aG:Nat->Prop} {w:World} {v:Value} {s:List Int} {x:Int} (h:(tL tI).rd aG w [v] s):
 Calls prog 260 #[v,.int .i64 x] w fun e w'=>∃k:Int,e=.returned (.int .i64 k)/\(0<=k<->x∈s)/\w=w':=by
 obtain⟨A,c,e1,hs⟩:=tL.slice h
 injection e1 with e1 _
 subst e1
 have HR:=Lib.hid h
 obtain⟨l,dH⟩:∃l,s.length=l:=⟨_,rfl⟩
 have CB:=Lib.hid dH
 rw[dH] at hs ⊢
 clear h dH
 go_enter func260,ntmps260
 go_wp2_with fail
 go_loop [5,8] (fun _ i=>∃q:Nat,q<=l/\i=.int .i64 q/\Hid (∀j y,j<q->s[j]?=some y->¬x=y)) (fun _ i=>l-(intOf i).toNat)
 case atStart=>exact⟨0,Nat.zero_le _,rfl,fun j x h=>by omega⟩
 case round=>
  obtain⟨q,hq,rfl,HP⟩:=hrel
  by_cases hlt:q<l
  ·obtain⟨y,hy⟩:∃y,s[q]?=some y:=⟨_,List.getElem?_eq_getElem (by have:=CB.out;omega)⟩
   obtain⟨_,b,off,cs,rfl,⟨rfl,_⟩,k1⟩:=tL.at HR.out hy
   have c1:=k1 0 _ rfl
   simp only[show tI.n=1 from rfl,Nat.mul_one,Nat.add_zero] at c1
   have HS:=Lib.hid hy
   have LN:(q:Int)<l:=by omega
   clear k1 hy
   by_cases e1:x=y
   ·have g:(x==y)=true:=by simpa using e1
    have g':(y==x)=true:=by simpa using e1.symm
    have E:=Lib.hid (show((0:Int)<=q<->x∈s) from⟨fun _=>by rw[e1];exact List.mem_of_getElem? HS.out,fun _=>by omega⟩)
    clear e1
    go_wp2_with fail
    go_ret
    exact⟨_,rfl,E.out,rfl⟩
   ·have g:(x==y)=false:=by simpa using e1
    have g':(y==x)=false:=by simpa using fun e=>e1 e.symm
    have E:=Lib.hid e1
    clear e1
    go_wp2_with fail
    go_round
    case rel=>exact⟨q+1,by omega,by go_num,fun j z hj hz=>by
     by_cases e:j=q
     ·rw[e,HS.out] at hz;injection hz with hz;rw[<-hz];exact E.out
     ·exact HP.out j z (by omega) hz⟩
    case measure=>simp[intOf];omega
  ·have LN:¬(q:Int)<l:=by omega
   have E:=Lib.hid (show((0:Int)<=-1<->x∈s) from by
    refine⟨fun hx=>by omega,fun hx=>?_⟩
    exfalso
    obtain⟨j,hj⟩:=List.getElem?_of_mem hx
    have HU:j<s.length:=by
     rcases Nat.lt_or_ge j s.length with h'|h'
     ·exact h'
     ·rw[List.getElem?_eq_none h'] at hj;cases hj
    exact HP.out j x (by have:=CB.out;omega) hj rfl)
   go_wp2_with fail
   go_ret
   exact⟨_,rfl,E.out,rfl⟩
theorem Z1 {aG:Nat->Prop} {w:World} {v:Value} {s:List Int} {x:Int} (h:(tL tI).rd aG w [v] s):
 Calls prog 204 #[v,.int .i64 x] w fun e w'=>e=.returned (.bool (decide (x∈s)))/\w=w':=by
 have HI:=Lib.hid (Z0 (x:=x) h)
 clear h
 go_enter func204,ntmps204
 go_wp2_with (first|(go_at_call 260;(with_reducible refine HI.out.mono ?_);rintro e w1 ⟨k,rfl,hk,rfl⟩;rcases(show(decide (x∈s)=true/\0<=k)\/(decide (x∈s)=false/\¬0<=k) from by by_cases hx:x∈s<;>simp[hx]<;>simp[hx] at hk<;>omega) with⟨hz,iH⟩|⟨hz,iH⟩;all_goals (have HZ:=Lib.hid hz;clear hz hk)))
 all_goals go_ret;exact⟨by rw[HZ.out];simp<;>omega,rfl⟩
theorem VY (k:Int):decide (k∈([2,3,4,5,6,8,9]:List Int))=bW k:=by
 rw[Bool.eq_iff_iff]
 simp[bW,or_assoc]
theorem Xd {w:World} {k:Int}:Calls prog 156 #[.int .i64 k] w fun e w'=>e=.returned (.bool (bW k))/\B w w':=by
 have HI:=Lib.hid (Z1 (x:=k) (afC (w:=w.alloc (.cells #[.int .i64 2,.int .i64 3,.int .i64 4,.int .i64 5,.int .i64 6,.int .i64 8,.int .i64 9] 3)) (g:=w.heap.size) (t:=3) [2,3,4,5,6,8,9] (dR.new w 3 _) (by simp) (by simp)))
 rw[VY] at HI
 go_enter func156,ntmps156
 go_wp2_with (first|(go_at_call 204;(with_reducible refine qC (HI.out) ?_);rintro e w1 ⟨rfl,rfl⟩))
 go_ret
 exact⟨rfl,BB.out⟩
end
section
open Go.RowKit Go.Deep
section
variable {W w:World} {p:Nat} {v:Value} {bs:List UInt8} {X:List gi}
end
end
section
open Go.RowKit Go.Deep
theorem uy {n a b:Int} (h:cQ n a b=0):a<=n/\n<=b:=by
 unfold cQ at h
 split at h
 ·cases h
 ·omega
theorem oA {x:aD} (h:eC x=0):eX x=0:=by
 unfold eC at h
 split at h
 ·cases h
 ·exact h
theorem nG {x:aD} (h:eX x=0):bP x=0:=by
 exact(bQ.1 h).1
theorem jE.len {aG:Nat->Prop} {w:World} {cs:List Value} {x:aD} (hx:jE.rd aG w cs x):cs.toArray.size=30:=by
 obtain⟨Ms,Mt,Mu,Mv,Mw,Mx,My,Mz,MA,rfl,MC⟩:=jE.parts hx
 rfl
noncomputable def ig (x:aD):Int:=if eC x=0 then(if 262144<(kg x).length then 3 else 0) else eC x
theorem wY {x:aD}:ig x=0<->eC x=0/\(kg x).length<=262144:=by
 unfold ig
 split
 ·rename_i h
  split
  ·rename_i h2;constructor
   ·intro h3;cases h3
   ·intro h3;omega
  ·rename_i h2;exact⟨fun _=>⟨h,by omega⟩,fun _=>rfl⟩
 ·rename_i h;exact⟨fun h2=>absurd h2 h,fun h2=>absurd h2.1 h⟩
theorem abm {x:aD}:KY x<->ig (eu x)=0:=wY.symm
theorem jE.chg {aG:Nat->Prop} {w:World} {cs:List Value} {x:aD} (hx:jE.rd aG w cs x):∃a c,cs.toArray[13]?=some (.slice a x.changes.length c)/\(tL vU).rd aG w [.slice a x.changes.length c] x.changes:=by
 obtain⟨Ms,Mt,Mu,Mv,Mw,Mx,My,Mz,MA,rfl,MC,Tt,Tu,Tv,Tw,Tx,Tz,TA,TB,MD,SF,SG,Lt,D6,Lu,G8,SH,SI,SJ,SK,G9,Lv,SL,SM,Lw,SN,SO,Lx,Ly,Lz⟩:=jE.parts hx
 obtain⟨a,c,he,hl⟩:=tL.slice D6
 injection he with he _
 subst he
 exact⟨a,c,rfl,D6⟩
end
section
open Go.RowKit Go.Deep
theorem Z2 (s:ByteArray) (pos:Nat):(Utf8.decode s pos).2<=4:=by
 simp only[Utf8.decode]
 repeat' split
 all_goals simp_all
 all_goals omega
theorem NQ (s:ByteArray):∀k pos n m,s.size<=pos+k->jk s k pos n=some m->n<=m/\s.size<=pos+4*(m-n)
 |0,pos,n,m,hk,h=>by
  simp only[jk] at h
  injection h with h
  omega
 |k+1,pos,n,m,hk,h=>by
  simp only[jk] at h
  split at h
  ·rename_i hp
   split at h
   ·cases h
   ·have h1:=OU s pos hp
    have h4:=Z2 s pos
    have:=NQ s k _ _ m (by omega) h
    omega
  ·injection h with h
   omega
theorem C2 {s:List UInt8} (h:jg s=true):s.length<=64:=by
 unfold jg uF at h
 simp only[decide_eq_true_eq] at h
 split at h
 ·omega
 ·rename_i n hn
  split at h
  ·omega
  ·have:=NQ (aA s) _ 0 0 n (by rw[Bo];omega) hn
   rw[Bo] at this
   omega
theorem zV {s:List UInt8} (h:mh s=0):s.length<=64:=by
 unfold mh at h
 split at h
 ·rename_i hn;exact C2 hn
 ·cases h
theorem zo {o:bt} (h:bS o=0):(iy o).length<=1000:=by
 have h0:=xB h
 unfold bS at h
 repeat' split at h
 all_goals try cases h
 rename_i g1 g2 g3 g4 g5
 have ek:=kV o.kind.toNat (by omega)
 have eo:=kV o.offset.toNat (by omega)
 have bl:∀b:List UInt8,b.length<=64->(cB b).length<=74:=fun b hb=>by
  unfold cB
  have:=kV b.length (by omega)
  rw[List.length_append];omega
 unfold iy
 rw[List.length_append,List.length_append]
 have p1:(if o.kind=0 then[] else cB o.av).length<=74:=by
  split
  ·simp
  ·rename_i hk
   exact bl _ (C2 (by simpa[hk] using g2))
 have p2:(if o.kind=2 then enc o.records.length++o.records.flatMap cB else if o.kind=3 then cB o.group++enc o.offset.toNat else if o.kind=4 then enc o.offset.toNat else[]).length<=800:=by
  split
  ·rename_i k2
   have hr:o.records.length<=4/\th o=false:=by
    simp only[not_and,not_or] at g4
    have:=g4 k2
    exact⟨by omega,by simpa using this.2.2⟩
   have e5:=kV o.records.length (by omega)
   have e6:=lz (f:=cB) (K:=74) o.records (fun x hx=>bl x (by
    have:=hr.2
    unfold th at this
    rw[List.any_eq_false] at this
    have:=this x hx
    simp at this
    omega))
   rw[List.length_append]
   have:o.records.length*74<=4*74:=Nat.mul_le_mul_right _ hr.1
   omega
  ·split
   ·rename_i k3
    have:=bl o.group (C2 (by simpa[k3] using g3))
    rw[List.length_append];omega
   ·split
    ·omega
    ·simp
 omega
theorem fG (n:Int):(aJ n).length<=10:=by
 unfold aJ
 exact kV _ (by omega)
theorem yj (l:List Int):(aN l).length<=10*l.length:=by
 unfold aN
 have:=lz (f:=aJ) (K:=10) l (fun x _=>fG x)
 omega
theorem OW {s:bJ} (h:dw s=0):(rL s).length<=20:=by
 have h':=Ge h
 have e1:=kV s.key.toNat (by omega)
 have e2:=kV s.ah.toNat (by omega)
 unfold rL
 rw[List.length_append];omega
theorem vE (s:bJ):(cG s).length<=20:=by
 unfold cG
 split
 ·rename_i h;exact OW h
 ·simp
theorem vC {x:ju} (h:iR x=0):(iS x).length<=1020:=by
 obtain⟨c,t,o⟩:=aeD h
 have e1:=kV x.bD.toNat (by omega)
 have e2:=kV x.time.toNat (by omega)
 have e3:=zo o
 unfold iS
 simp only[List.length_append];omega
theorem Bb (l:List bX):(jM l).length<=4300:=by
 unfold jM
 split
 ·rename_i h
  have h':=J1 h
  unfold BI
  have e:=kV l.length (by omega)
  have f:=lz (f:=zO) (K:=1050) l (fun s hs=>by
   obtain⟨h1,h2⟩:=h'.2 s hs
   have a1:=vC h1
   have a2:=OW h2
   have a3:=kV (iS s.request).length (by omega)
   unfold zO cB
   simp only[List.length_append];omega)
  rw[List.length_append]
  have:l.length*1050<=4*1050:=Nat.mul_le_mul_right _ h'.1
  omega
 ·simp
theorem pL {n:Nat} {m:Int} (h:jd n m=0):(n:Int)<=m:=(uy h).2
theorem CS {l:List bJ} (h:lQ l=0):(rB l).length<=270:=by
 have h1:=pL (bQ.1 h).1
 unfold rB
 have e:=fG (l.length:Int)
 have f:=lz (f:=cG) (K:=20) l (fun s _=>vE s)
 rw[List.length_append]
 have:l.length*20<=13*20:=Nat.mul_le_mul_right _ (by omega)
 omega
theorem CV {c:gX} (h:jl c=0):(lR c).length<=300:=by
 unfold jl at h
 have h1:=(bQ.1 (bQ.1 (bQ.1 h).2).2).2
 have e:=yj [c.seq,c.ah]
 have f:=CS h1
 simp at e
 unfold lR
 rw[List.length_append];omega
theorem Ov {p:jt} (h:jQ p=0):(iJ p).length<=5000:=by
 unfold jQ at h
 simp only[bQ] at h
 have e:=yj [p.view,p.seq,p.ah]
 have f:=CS h.2.2.2.2.1
 have g:=vE p.kG
 have b:=Bb p.batch
 simp at e
 unfold iJ
 simp only[List.length_append];omega
theorem IW {c:cX} (h:ir c=0):(jy c).length<=41000:=by
 unfold ir at h
 simp only[bQ] at h
 obtain⟨_,_,h3,h4,h5,_⟩:=h
 have n:=pL h4
 have e:=yj [c.view,c.src]
 have f:=CV h3
 have g:=fG (c.cD.length:Int)
 have b:=lz (f:=iJ) (K:=5000) c.cD (fun p hp=>Ov (gV.1 h5 p hp))
 have:c.cD.length*5000<=8*5000:=Nat.mul_le_mul_right _ (by omega)
 simp at e
 unfold jy
 simp only[List.length_append];omega
theorem Pm {c:cX} (h:ir c=0):(fq c).length<=41100:=by
 have a:=IW h
 have b:=vE c.sign
 unfold fq
 simp only[List.length_append];omega
theorem NZ (x:gq):(gG x).length<=4400:=by
 have e:=yj [x.view,x.seq]
 have a:=Bb x.batch
 have b:=vE x.sign
 simp at e
 unfold gG
 simp only[List.length_append];omega
theorem WQ {p:jX} (h:mB p=0):(jw p).length<=5000:=by
 unfold mB at h
 simp only[bQ] at h
 obtain⟨h1,_,h3,h4,_,_,_,_,h9,_,iG⟩:=h
 have n1:=zV h1
 have n3:=pL h3
 have n4:=pL h4
 have n9:=pL h9
 have a1:=kV p.av.length (by omega)
 have a2:=kV p.record.length (by omega)
 have e1:=yj [p.offset]
 have e2:=yj [p.index,p.count]
 have f1:=fG (p.headers.length:Int)
 have f2:=fG (p.path.length:Int)
 have c:=CV iG
 have b1:=lz (f:=gZ) (K:=50) p.headers (fun x _=>by have:=yj [x.seq,x.prev,x.batch,x.root,x.state];simp at this;unfold gZ;omega)
 have b2:=lz (f:=aJ) (K:=10) p.path (fun x _=>fG x)
 have:p.headers.length*50<=64*50:=Nat.mul_le_mul_right _ (by omega)
 have:p.path.length*10<=8*10:=Nat.mul_le_mul_right _ (by omega)
 simp at e1 e2
 unfold jw cB
 simp only[List.length_append];omega
theorem so {m:aD} (h:bP m=0):(aO m).length<=1000000:=by
 have hk:=fG m.kind
 unfold aO
 rw[List.length_append]
 suffices (cT m).length<=900000 by omega
 have ns:∀l:List Int,l.length<=4->(aN l).length<=40:=fun l hl=>by have:=yj l;omega
 unfold bP at h
 unfold cT
 by_cases k1:m.kind=1
 ·rw[if_pos k1];have:=Bb m.batch;omega
 rw[if_neg k1] at h ⊢
 by_cases k2:m.kind=2
 ·rw[if_pos k2];have:=Bb m.batch;have:=ns [m.src,m.view,m.seq,m.ah] (by simp);rw[List.length_append];omega
 rw[if_neg k2] at h ⊢
 by_cases k3:m.kind=3\/m.kind=4
 ·rw[if_pos k3];have:=ns [m.src,m.view,m.seq,m.ah] (by simp);omega
 rw[if_neg k3]
 rw[if_neg (fun e=>k3 (.inl e)),if_neg (fun e=>k3 (.inr e))] at h
 by_cases k5:m.kind=5
 ·rw[if_pos k5] at h ⊢
  simp only[bQ] at h
  have r1:=uy h.2.2.2.2.1
  have r2:=uy h.2.2.2.2.2
  have a1:=kV (max m.result.err 0).toNat (by omega)
  have a2:=kV (max m.result.offset 0).toNat (by omega)
  have:=ns [m.src,m.view,m.bD,m.time] (by simp)
  unfold wW
  simp only[List.length_append];omega
 rw[if_neg k5] at h ⊢
 by_cases k6:m.kind=6
 ·rw[if_pos k6];have:=ns [m.src,m.seq,m.ah] (by simp);omega
 rw[if_neg k6] at h ⊢
 by_cases k7:m.kind=7
 ·rw[if_pos k7] at h ⊢
  split
  ·rename_i c r hc
   have:=gV.1 (bQ.1 h).2 c (by rw[hc];simp)
   unfold rK at this
   have:=IW (bQ.1 this).1
   omega
  ·simp
 rw[if_neg k7] at h ⊢
 by_cases k8:m.kind=8
 ·rw[if_pos k8] at h ⊢
  unfold iP at h
  simp only[bQ] at h
  obtain⟨_,_,h3,h4,h5,_⟩:=h
  have n3:=pL h3
  have n5:=pL h5
  have f1:=fG (m.changes.length:Int)
  have f2:=fG (m.entries.length:Int)
  have b1:=lz (f:=fq) (K:=41100) m.changes (fun c hc=>Pm (gV.1 h4 c hc))
  have b2:=lz (f:=gG) (K:=4400) m.entries (fun c hc=>NZ c)
  have:m.changes.length*41100<=13*41100:=Nat.mul_le_mul_right _ (by omega)
  have:m.entries.length*4400<=8*4400:=Nat.mul_le_mul_right _ (by omega)
  have:=ns [m.src,m.view] (by simp)
  simp only[List.length_append];omega
 rw[if_neg k8] at h ⊢
 by_cases k9:m.kind=9
 ·rw[if_pos k9];have:=ns [m.src,m.seq] (by simp);omega
 rw[if_neg k9] at h ⊢
 by_cases ud:m.kind=10
 ·rw[if_pos ud] at h ⊢
  simp only[bQ] at h
  have c:=CV h.2.1
  have s:=pL h.2.2
  have a:=kV m.state.length (by omega)
  have:=ns [m.src] (by simp)
  unfold cB
  simp only[List.length_append];omega
 rw[if_neg ud] at h ⊢
 by_cases oU:m.kind=11
 ·rw[if_pos oU] at h ⊢
  simp only[bQ] at h
  have s:=zV h.2.1
  have a:=kV m.av.length (by omega)
  have:=ns [m.bD] (by simp)
  have:=ns [m.offset] (by simp)
  unfold cB
  simp only[List.length_append];omega
 rw[if_neg oU] at h ⊢
 by_cases ue:m.kind=12
 ·rw[if_pos ue] at h ⊢
  have:=WQ (bQ.1 h).2
  have:=ns [m.src] (by simp)
  simp only[List.length_append];omega
 rw[if_neg ue]
 simp
end
section
section
variable {P:Program} {Q:Exit->S->Prop} {I:Nat->Prop} {g:bH} {w:World} {h:List AO} {o:Nat} {t:TypeId} {cs ds:List D}
theorem FL (ho:h[o]?=some (.cells t cs)) {o':Nat} {ao:AO} (e:(h.set o (.cells t ds))[o']?=some ao):∃a,h[o']?=some a/\∀p b,ao.owns p b<->a.owns p b:=by
 rw[List.getElem?_set] at e
 split at e
 ·rename_i Cs
  subst Cs
  split at e
  ·injection e with e
   subst e
   exact⟨_,ho,fun p b=>Iff.rfl⟩
  ·cases e
 ·exact⟨ao,e,fun p b=>Iff.rfl⟩
theorem Den.yS [Wd] (hd:Den I g w h) (ho:h[o]?=some (.cells t cs)) (hc:aa cs ds):Den I g w (h.set o (.cells t ds)) where
 len:=by rw[List.length_set];exact hd.len
 aG:=hd.aG
 obj o' ao p e hp:=by
  rw[List.getElem?_set] at e
  split at e
  ·rename_i Cs
   subst Cs
   split at e
   ·injection e with e
    subst e
    obtain⟨b,vs,h1,h2,h3,h4⟩:=hd.obj o _ p ho hp
    exact⟨b,vs,h1,h2,hc.ok h3,h4⟩
   ·cases e
  ·exact hd.obj o' ao p e hp
 own o' ao p b e hp hb:=by
  obtain⟨a,k1,k2⟩:=FL ho e
  exact hd.own o' a p b k1 hp ((k2 p b).1 hb)
 sep o1 o2 a1 a2 p1 p2 b e1 e2 q1 q2 b1 b2:=by
  obtain⟨a,k1,k2⟩:=FL ho e1
  obtain⟨a',k3,k4⟩:=FL ho e2
  exact hd.sep o1 o2 a a' p1 p2 b k1 k3 q1 q2 ((k2 p1 b).1 b1) ((k4 p2 b).1 b2)
end
end
theorem Dw [Wd] (s:List UInt8) (hs:s.length<=4194304):aq prog 27 [.str s] (.bool (jg s)):=
 bC.old (v:=.bool (jg s)) (fun _ _=>.bool _) (by kernel_rfl) (fun w I vs hv=>by
  obtain⟨v,rfl,h⟩:=hv.vR
  cases h
  exact KE w s hs) rfl
theorem Rs {α:Type} {f:α->Bool} {l:List α} {q:Nat} {x:α} (hx:l[q]?=some x) (h:f x=false) (he:(l.take q).any f=false):(l.take (q+1)).any f=false:=by
 rw[List.take_add_one,List.any_append,he,hx]
 simp[h]
theorem acy [Wd] (o:bt):aq prog 150 [.agg (cC o)] (.aj [.agg (cC (jz o)),.bool (kindOk o)]):=by
 obtain⟨k,t,g,f,rs⟩:=o
 have hk:k=0\/k=1\/k=2\/k=3\/k=4\/(k<0\/4<k):=by omega
 rcases hk with rfl|rfl|rfl|rfl|rfl|hk
 case inr.inr.inr.inr.inr=>
  rw[show jz ⟨k,t,g,f,rs⟩=⟨k,[],[],0,[]⟩ by unfold jz;simp only;rw[if_neg (by omega),if_neg (by omega),if_neg (by omega),if_neg (by omega)],show kindOk ⟨k,t,g,f,rs⟩=false by simp only[kindOk];simp;omega]
  refine ak 46 [] func150 ?_
  repeat' (conv=>arg 2;whnf);first|apply an<;>intro h|exact G5|(exfalso;simp at h;omega)
 all_goals
  refine ak 46 [] func150 ?_
  repeat' (conv=>arg 2;whnf);first|exact G5
theorem Yi [Wd] (r:List UInt8):aq prog 151 [.list 1 (r.map af)] (.bool (decide (64<r.length))):=by
 refine ak 6 [] func151 ?_
 repeat' (conv=>arg 2;whnf);first|(refine cL ?_;simp;omega)
def tD (r:List UInt8):Bool:=decide (64<r.length)
def q8:List (List UInt8)->Int
 |[]=>-1
 |r::l=>if tD r then 0 else if q8 l<0 then-1 else q8 l+1
theorem Sg:∀{l:List (List UInt8)} {q:Nat} {x:List UInt8},l[q]?=some x->tD x=true->(l.take q).any tD=false->q8 l=q
 |[],_,_,h,_,_=>by simp at h
 |r::l,0,x,h,hx,_=>by
  simp only[List.getElem?_cons_zero,Option.some.injEq] at h
  subst h
  simp[q8,hx]
 |r::l,q+1,x,h,hx,he=>by
  simp only[List.take_succ_cons,List.any_cons,Bool.or_eq_false_iff] at he
  have:=Sg (by simpa using h) hx he.2
  simp only[q8,he.1,this]
  rw[if_neg (by simp),if_neg (by omega)]
  omega
theorem Sh:∀{l:List (List UInt8)},l.any tD=false->q8 l=-1
 |[],_=>rfl
 |r::l,he=>by
  simp only[List.any_cons,Bool.or_eq_false_iff] at he
  simp[q8,he.1,Sh he.2]
theorem RQ:∀l:List (List UInt8),decide (0<=q8 l)=l.any tD
 |[]=>rfl
 |r::l=>by
  have:=RQ l
  rw[List.any_cons,<-this]
  simp only[q8]
  by_cases hr:tD r=true
  ·simp[hr]
  ·by_cases h:q8 l<0
   ·have h2:¬0<=q8 l:=by omega
    simp[h,h2,hr]
   ·have h2:0<=q8 l:=by omega
    have h3:0<=q8 l+1:=by omega
    simp[h,h2,h3,hr]
theorem W3 [Wd] (l:List (List UInt8)) (hl:l.length<=4194304):aq prog 203 [.list 1 (l.map gS),.fn 151 0 []] (.int .i64 (q8 l)):=by
 refine ak 19 [] func203 ?_
 conv=>arg 2;whnf
 refine bE (α:=Nat) (fun q=>⟨[(8,.int .i64 q),(7,.int .i64 (l.map gS).length),(1,.fn 151 0 []),(0,.list 1 (l.map gS))],[]⟩) (fun q=>q<=l.length/\(l.take q).any tD=false) (fun q=>l.length-q) 0 ⟨Nat.zero_le _,rfl⟩ (Sv.aK []) ?_
 rintro q ⟨hq,he⟩
 repeat' (conv=>arg 2;whnf);first|apply an<;>intro h|refine cK (l:=l) (by simp at h;omega) (fun x hx=>?_)|refine okF (Yi x) ?_|refine bZ (by simp at h hq;omega) ?_|refine aZ (q+1) (Sv.aK []) ⟨by have:=(List.getElem?_eq_some_iff.1 hx).1;omega,Rs hx (by simpa[tD] using h) he⟩ (by have:=(List.getElem?_eq_some_iff.1 hx).1;omega)|refine bq ?_|refine eG ?_|(refine cF ?_;exact(Sg hx (by simpa[tD] using h) he).symm)|(refine cF ?_;rw[List.take_of_length_le (by simp at h;omega)] at he;exact(Sh he).symm)
theorem UZ [Wd] (l:List (List UInt8)) (hl:l.length<=4194304):aq prog 152 [.list 1 (l.map gS),.fn 151 0 []] (.bool (l.any tD)):=by
 refine ak 9 [] func152 ?_
 repeat' (conv=>arg 2;whnf);first|refine okF (W3 l hl) ?_|(refine cL ?_;exact RQ l)
theorem acz {o:bt} (h:fD.ok o):fD.ok (jz o):=by
 obtain⟨h1,h2,h3,h4,h5⟩:=h
 have z:([]:List UInt8).length<=4194304:=Nat.zero_le _
 have r:∀n:Int,0<=n/\n<=4->-9223372036854775808<=n/\n<=9223372036854775807:=fun n _=>by omega
 have e:(dL dY).ok ([]:List (List UInt8)):=⟨Nat.zero_le _,fun x hx=>by cases hx⟩
 unfold jz
 split
 ·exact⟨r 1 (by decide),h2,z,r 0 (by decide),e⟩
 split
 ·exact⟨r 2 (by decide),h2,z,r 0 (by decide),h5⟩
 split
 ·exact⟨r 3 (by decide),h2,h3,h4,e⟩
 split
 ·exact⟨r 4 (by decide),h2,z,h4,e⟩
 exact⟨h1,z,z,r 0 (by decide),e⟩
theorem sC [Wd] (o:bt) (ho:fD.ok o):aq prog 107 [.agg (cC o)] (.int .i64 (bS o)):=by
 have hb:=acz ho
 have he:bS o=if kindOk o=false\/cx o (jz o)=false then 60 else if o.kind≠0/\jg o.av=false then 61 else if o.kind=3/\jg o.group=false then 61 else if o.kind=2/\(o.records.length<1\/4<o.records.length\/o.records.any tD=true) then 62 else if o.offset<0\/9007199254740992<o.offset then 60 else 0:=by
  unfold bS
  rw[WO]
  rfl
 refine ak 71 [] func107 ?_
 repeat' (conv=>arg 2;whnf);first|apply an<;>intro h|refine okF (acy o) ?_|refine okF (JX o (jz o) ho hb) ?_|refine okF (Dw o.av ho.2.1) ?_|refine okF (Dw o.group ho.2.2.1) ?_|refine okF (UZ o.records ho.2.2.2.2.1) ?_|refine cF ?_|(exfalso;clear he;simp_all;done)
 all_goals
  rw[he]
  clear he hb ho
  (try simp only[List.length_map] at*)
  generalize o.records.length=n at*
  generalize o.records.any tD=lf at*
  simp_all
  try (first|omega|(split<;>first|omega|(simp_all;omega))|(intros;exfalso;simp_all;omega))
theorem bY [Wd] {P:Program} {Q:Exit->S->Prop} {b:Bool} {t f:T} (hb:b=true) (h:t.ok P Q):(bT b t f).ok P Q:=by subst hb;exact h
theorem bB [Wd] {P:Program} {Q:Exit->S->Prop} {b:Bool} {t f:T} (hb:b=false) (h:f.ok P Q):(bT b t f).ok P Q:=by subst hb;exact h
theorem kf [Wd] {P:Program} {tb:TT} {rs:List ResultVar} {e:Exit} {s:S} {xs ys:List UInt8} (he:e=.normal\/e=.ret) (hr:iD tb s rs=some [.list 1 (xs.map af)]) (h:xs=ys):(T.leaf e s).ok P (Lf tb rs [] (fun r' h'=>r'=.list 1 (ys.map af)/\h'=[])):=by
 subst h
 exact qB he hr (.refl _) rfl
theorem pK [Wd] {P:Program} {tb:TT} {rs:List ResultVar} {e:Exit} {s:S} {xs ys:List UInt8} {d:D} (he:e=.normal\/e=.ret) (hr:iD tb s rs=some [.list 1 (xs.map af),d]) (h:xs=ys) (hp:ga d=true):(T.leaf e s).ok P (Lf tb rs [] (fun r' h'=>r'=.aj [.list 1 (ys.map af),d]/\h'=[])):=by
 subst h
 exact qB he hr (.refl _) (by simp[ga,ga.pl,hp])
theorem sH {α:Type} {f:α->List UInt8} {l:List α} {q:Nat} {x:α} (h:l[q]?=some x):(l.take (q+1)).flatMap f=(l.take q).flatMap f++f x:=by
 rw[List.take_add_one,h,List.flatMap_append];simp
theorem lE (b:List UInt8) (h:b.length<=4194304):(cB b).length<=b.length+10:=by
 have:=kV b.length (by omega)
 unfold cB
 rw[List.length_append];omega
theorem oM {o:bt} {k:Int} (h:o.kind=k):{o with kind:=k}=o:=by subst h;rfl
def lM (o:bt):List UInt8:=if bS o=0 then iy o else[]
theorem Ss {x:ju} (h:iR x=0):0<=x.bD/\x.bD<=7/\1<=x.time/\x.time<=9007199254740992/\bS x.op=0:=by
 unfold iR at h
 split at h
 ·cases h
 ·refine⟨by omega,by omega,by omega,by omega,h⟩
theorem Jl:∀a b:List bX,lA (a++b)=aF (lA a) (lA b)
 |[],b=>by simp[lA,gu]
 |x::a,b=>by simp only[List.cons_append,lA,Jl a b,eZ]
theorem FG {l:List bX} {q:Nat} {x:bX} (hx:l[q]?=some x) (he:lA (l.take q)=0):lA l=aF (iR x.request) (aF (dw x.sign) (lA (l.drop (q+1)))):=by
 have hlt:=(List.getElem?_eq_some_iff.1 hx).1
 have e:l=l.take q++x::l.drop (q+1):=by
  conv=>lhs;rw[<-List.take_append_drop q l]
  rw[List.drop_eq_getElem_cons hlt,(List.getElem?_eq_some_iff.1 hx).2]
 rw[e,Jl,he,gu,<-e]
 rfl
theorem Ph {l:List bX} {q:Nat} {x:bX} (hx:l[q]?=some x) (he:lA (l.take q)=0) (h1:iR x.request=0) (h2:dw x.sign=0):lA (l.take (q+1))=0:=by
 rw[List.take_add_one,hx,Jl,he]
 simp[lA,h1,h2,aF]
theorem FH {l:List bX} (hl:¬4<l.length) (h:¬lA l=0):fA l=lA l:=by
 unfold fA aF
 rw[if_neg hl,if_neg h]
def yY (l:List bX) (i k:Nat):Bool:=match l[i]?,l[k]? with|some a,some b=>SE a b|_,_=>false
theorem Js (l:List bX):zT l=(List.range l.length).any fun i=>(List.range i).any fun k=>yY l i k:=rfl
theorem FI {f:Nat->Bool} {k:Nat} (h:(List.range k).any f=false) (h1:f k=false):(List.range (k+1)).any f=false:=by
 rw[List.range_succ,List.any_append,h]
 simp[h1]
theorem Pj {l:List bX} {i k:Nat} (hi:i<l.length) (hk:k<i) (h:yY l i k=true):zT l=true:=by
 rw[Js,List.any_eq_true]
 exact⟨i,List.mem_range.2 hi,List.any_eq_true.2 ⟨k,List.mem_range.2 hk,h⟩⟩
theorem GK {l:List bX} {i k:Nat} {x y:bX} (hx:l[i]?=some x) (hy:l[k]?=some y):yY l i k=((x.request.bD==y.request.bD)&&(x.request.time==y.request.time)):=by
 unfold yY
 rw[hx,hy]
 rfl
theorem Iq {α β:Type} {f g:α->List β}:∀{l:List α},(∀s∈l,f s=g s)->l.flatMap f=l.flatMap g
 |[],_=>rfl
 |x::l,h=>by
  rw[List.flatMap_cons,List.flatMap_cons,h x (by simp),Iq (fun s hs=>h s (by simp[hs]))]
theorem Dj [Wd] {P:Program} {f:FuncId} {ar:List D} {bs:List UInt8} (hl:bs.length<=aL) (xz:rj P f=true) (h:∀w I vs,dQ I w vs ar->Calls P f vs.toArray w (qL w bs)) (hp:ga.pl ar=true):aq P f ar (.list 1 (bs.map af)):=by
 refine⟨xz,fun w I g vs _ hd ha=>(h w I vs (ur ha hp)).mono ?_⟩
 rintro e w' ⟨v,rfl,hr,hb⟩
 have hg:g=[]:=List.eq_nil_of_length_eq_zero hd.len
 subst hg
 have hn:∀b,¬dF [] [] b:=fun b ⟨o,ao,p,h,_⟩=>by simp at h
 refine .inl ⟨v,fun b=>I b\/(w.heap.size<=b/\b<w'.heap.size),[],_,[],rfl,⟨rfl,rfl⟩,(hd.later hb).Al (fun _ h=>.inl h) (fun b cw=>?_) (fun b _=>hn b),.rd ((Bs.acX hr hl).dr (fun g hg _=>.inr ⟨Gh hr hg,Ry hr hg⟩)),Ext.of_B hb,fun _ h=>.inl h,fun b cw=>?_,fun b h=>.inl h,fun o p t cs _ h=>by simp at h⟩
 ·rcases cw with k|k
  ·have:=hd.aG b k
   have:=hb.size
   omega
  ·exact k.2
 ·rcases cw with k|k
  ·exact .inl k
  ·exact .inr (.inr k.1)
theorem dQ.Dk [Old] {I:Nat->Prop} {w:World} {cs:List Value} {d e:D} (h:dQ I w cs [d,e]):∃v u,cs=[v,u]/\Dr I w v d/\Dr I w u e:=by
 obtain⟨hl,h⟩:=h
 match cs,hl with
 |[v,u],_=>exact⟨v,u,rfl,h 0 v d rfl rfl,h 1 u e rfl rfl⟩
theorem Ot (n:Int):0<=IntKind.u64.wrap n/\IntKind.u64.wrap n<18446744073709551616:=by
 simp only[IntKind.wrap,IntKind.signed,IntKind.bits]
 simp
 omega
theorem Qq (n:Int):enc (IntKind.u64.wrap n).toNat=aJ n:=by
 unfold aJ
 congr 2
theorem sj [Wd] (bs:List UInt8) (n:Int) (hl:bs.length+100<=aL):aq prog 112 [.list 1 (bs.map af),.int .u64 (IntKind.u64.wrap n)] (.list 1 ((bs++aJ n).map af)):=
 Dj (by have:=qA (show(n%18446744073709551616).toNat<18446744073709551616 by omega);unfold aJ;rw[List.length_append];omega) (by kernel_rfl) (fun w I vs hv=>by
  obtain⟨v,u,rfl,h1,h2⟩:=hv.Dk
  cases h2
  rw[<-Qq]
  exact adw (h1.bs (by omega)) _ (Ot n) (by omega)) rfl
theorem A9 [Wd] (bs xs:List UInt8) (hx:xs.length<=4194304) (hl:(bs++xs).length+100<=aL):aq prog 154 [.list 1 (bs.map af),.list 1 (xs.map af)] (.list 1 ((bs++cB xs).map af)):=
 Dj (by have:=qA (show xs.length<18446744073709551616 by omega);unfold cB;simp at hl ⊢;omega) (by kernel_rfl) (fun w I vs hv=>by
  obtain⟨v,u,rfl,h1,h2⟩:=hv.Dk
  rw[<-Rq]
  exact Wt (h1.bs (by simp at hl;omega)) (h2.bs (by simp at hl;omega)) (by omega)) rfl
theorem FY (s:bJ):(cG s).length<=20:=by
 unfold cG
 split
 ·rename_i h
  obtain⟨h1,h2⟩:=Ge h
  have e1:=qA (show s.key.toNat<18446744073709551616 by omega)
  have e2:=qA (show s.ah.toNat<18446744073709551616 by omega)
  unfold rL
  rw[List.length_append]
  omega
 ·simp
theorem Dh [Wd] (l:List UInt8) (hl:l.length<=140737488355328):aq prog 153 [.list 1 (l.map af)] (.list 1 (l.map af)):=by
 refine kK false 8 [] func153 ?_
 repeat'
  (conv=>arg 2;whnf)
  first
  |refine aT (by simp[maxLen];omega) ?_
  |refine aV ?_ ?_
  |apply an<;>intro h
  |(have e:l=[]:=by simpa using h
    subst e
    refine j5 rfl (.nil _))
  |refine mE [1] (.inr rfl) rfl (.refl _) rfl
theorem Kl [Wd] (s:bJ):aq prog 307 [.agg (bL s)] (.int .i64 (dw s)):=by
 refine ak 21 [] func307 ?_
 repeat' (conv=>arg 2;whnf);first|apply an<;>intro h|refine cF ?_
 all_goals simp_all [dw]
 all_goals omega
theorem RP [Wd] (x:ju) (hx:su.ok x):aq prog 316 [.agg (sw x)] (.int .i64 (iR x)):=by
 have h1:=sC x.op hx.2.2
 refine ak 24 [] func316 ?_
 repeat' (conv=>arg 2;whnf);first|refine okF h1 ?_|apply an<;>intro h|refine cF ?_
 all_goals simp_all [iR]
 all_goals omega
theorem Ql [Wd] (bs:List UInt8) (s:bJ) (hl:bs.length+200<=aL):aq prog 263 [.list 1 (bs.map af),.agg (bL s)] (.list 1 ((bs++cG s).map af)):=by
 have p1:=fG s.key
 by_cases h0:dw s=0
 ·have z:=Ge h0
  have e1:aJ s.key=enc s.key.toNat:=eK z.1.1 (by omega)
  have e2:aJ s.ah=enc s.ah.toNat:=eK (by omega) (by omega)
  refine ak 19 [(3,⟨[(0,false),(1,false),(2,false),(3,false),(5,false),(6,false),(7,false),(4,true),(8,true),(9,false)],[]⟩)] func263 ?_
  repeat' (conv=>arg 2;whnf);first|refine okF (Kl s) ?_|refine lD ?_|refine okF (sj _ (s.key) (by(try simp only[List.length_append,List.length_nil]);omega)) ?_|refine okF (sj _ (s.ah) (by(try simp only[List.length_append]);omega)) ?_|(refine bB ?_ ?_;focus (simp[h0];done))|(refine kf (.inr rfl) rfl ?_;rw[cG,if_pos h0];simp[rL,e1,e2];done)
 ·refine ak 19 [(3,⟨[],[]⟩)] func263 ?_
  repeat' (conv=>arg 2;whnf);first|refine okF (Kl s) ?_|refine okF (Dh bs (by have:=hl;simp[aL] at this;omega)) ?_|(refine bY ?_ ?_;focus (simp[h0];done))|(refine kf (.inr rfl) rfl ?_;simp[cG,h0];done)
theorem Yf {o:bt} (h:bS o=0):0<=o.offset/\o.offset<=9007199254740992:=(xB h).2.2
theorem W2 [Wd] (bs:List UInt8) (o:bt) (ho:fD.ok o) (h0:¬bS o=0) (hl:bs.length+200000000<=aL):aq prog 108 [.list 1 (bs.map af),.agg (cC o)] (.list 1 ((bs++lM o).map af)):=by
 refine ak 67 [(16,⟨[],[]⟩)] func108 ?_
 repeat' (conv=>arg 2;whnf);first|refine okF (sC o ho) ?_|refine okF (Dh bs (by have:=hl;simp[aL] at this;omega)) ?_|(refine bY ?_ ?_;focus (simp[h0];done))|(refine kf (.inr rfl) rfl ?_;simp[lM,h0];done)
theorem Yg [Wd] (bs:List UInt8) (o:bt) (k:Int) (hk:k=0\/k=1\/k=3\/k=4) (ho:fD.ok {o with kind:=k}) (h0:bS {o with kind:=k}=0) (hl:bs.length+200000000<=aL):aq prog 108 [.list 1 (bs.map af),.agg (cC {o with kind:=k})] (.list 1 ((bs++lM {o with kind:=k}).map af)):=by
 have p1:=fG k
 have p2:=lE o.av ho.2.1
 have p3:=lE o.group ho.2.2.1
 have t1:o.av.length<=4194304:=ho.2.1
 have t2:o.group.length<=4194304:=ho.2.2.1
 have z:=Yf h0
 have e0:aJ k=enc k.toNat:=eK (by omega) (by omega)
 have e1:aJ o.offset=enc o.offset.toNat:=eK z.1 (by have:=z.2;simp only at this;omega)
 have hC:=sC {o with kind:=k} ho
 rcases hk with rfl|rfl|rfl|rfl
 all_goals
  refine ak 67 [(16,⟨[(0,false),(1,false),(2,false),(5,false),(6,false),(7,false),(3,true),(4,true),(8,true),(9,false)],[]⟩)] func108 ?_
  repeat' (conv=>arg 2;whnf);first|refine aT (show o.av.length<=140737488355328 by omega) ?_|refine aT (show o.group.length<=140737488355328 by omega) ?_|refine okF hC ?_|refine okF (Dh bs (by have:=hl;simp[aL] at this;omega)) ?_|refine lD ?_|refine okF (sj _ _ (by(try simp only[List.length_append]);omega)) ?_|refine okF (A9 _ o.av t1 (by(try simp only[List.length_append]);omega)) ?_|refine okF (A9 _ o.group t2 (by(try simp only[List.length_append]);omega)) ?_|(refine bB ?_ ?_;focus (simp[h0];done))|(refine kf (.inr rfl) rfl ?_;rw[lM,if_pos h0];simp[iy,e0,e1,List.append_assoc];done)
theorem Yh [Wd] (bs:List UInt8) (o:bt) (ho:fD.ok {o with kind:=2}) (h0:bS {o with kind:=2}=0) (hl:bs.length+200000000<=aL):aq prog 108 [.list 1 (bs.map af),.agg (cC {o with kind:=2})] (.list 1 ((bs++lM {o with kind:=2}).map af)):=by
 have p1:=fG 2
 have p2:=lE o.av ho.2.1
 have t1:o.av.length<=4194304:=ho.2.1
 have LL:o.records.length<=4:=by
  apply Classical.byContradiction
  intro hc
  simp[bS] at h0
  omega
 have e0:aJ 2=enc 2:=eK (by omega) (by omega)
 have e2:aJ (o.records.length:Int)=enc o.records.length:=eK (by omega) (by omega)
 have hC:=sC {o with kind:=2} ho
 have p8:=fG ((o.records.map gS).length:Int)
 refine ak 67 [(16,⟨[],[]⟩)] func108 ?_
 repeat' (conv=>arg 2;whnf);first|refine aT (show o.av.length<=140737488355328 by omega) ?_|refine okF hC ?_|refine okF (Dh bs (by have:=hl;simp[aL] at this;omega)) ?_|refine lD ?_|refine okF (sj _ _ (by(try simp only[List.length_append]);omega)) ?_|refine okF (A9 _ o.av t1 (by(try simp only[List.length_append]);omega)) ?_|(refine bB ?_ ?_;focus (simp[h0];done))
 conv=>arg 2;whnf
 refine bE (α:=Nat×List UInt8) (fun a=>⟨[(40,.int .i64 a.1),(39,.int .i64 ((o.records.map gS).length:Int)),(38,.list 1 (o.records.map gS)),(28,.int .i64 2),(3,.ptr 0 0),(5,.list 1 (a.2.map af))],[.cells 40 (cC {o with kind:=2})]⟩) (fun a=>a.1<=o.records.length/\a.2=bs++aJ 2++cB o.av++aJ ((o.records.map gS).length:Int)++(o.records.take a.1).flatMap (cB)) (fun a=>o.records.length-a.1) (0,bs++aJ 2++cB o.av++aJ ((o.records.map gS).length:Int)) ⟨Nat.zero_le _,by simp⟩ (Sv.aK [0]) ?_
 rintro⟨q,b2⟩ ⟨hq,he⟩
 replace hq:q<=o.records.length:=hq
 replace he:b2=bs++aJ 2++cB o.av++aJ ((o.records.map gS).length:Int)++(o.records.take q).flatMap (cB):=he
 have p6:=lz (f:=cB) (K:=4194314) (o.records.take q) (fun r hr=>by have h1:r.length<=4194304:=ho.2.2.2.2.2 r (List.mem_of_mem_take hr);have:=lE r h1;omega)
 have p7:(o.records.take q).length*4194314<=4*4194314:=Nat.mul_le_mul_right _ (by rw[List.length_take];omega)
 have eJ:b2.length+100000000<=aL:=by rw[he];simp only[List.length_append];omega
 repeat' (conv=>arg 2;whnf);first|apply an<;>intro h|refine cK (l:=o.records) (by simp at h;omega) (fun x hx=>?_)|refine okF (A9 b2 x (ho.2.2.2.2.2 x (List.mem_of_getElem? hx)) (by have h1:x.length<=4194304:=ho.2.2.2.2.2 x (List.mem_of_getElem? hx);rw[List.length_append];omega)) ?_|refine bZ (by simp at h hq;omega) ?_|refine aZ (q+1,b2++cB x) (Sv.aK [0]) ⟨by have:=(List.getElem?_eq_some_iff.1 hx).1;show q+1<=o.records.length;omega,by show b2++cB x=_;rw[sH hx,<-List.append_assoc,<-he]⟩ (by have:=(List.getElem?_eq_some_iff.1 hx).1;show o.records.length-(q+1)<o.records.length-q;omega)|refine bq ?_|(refine kf (.inr rfl) rfl ?_;rw[he,show o.records.take q=o.records from List.take_of_length_le (by simp at h;omega),lM,if_pos h0];simp[iy,e0,e2,List.append_assoc];done)
theorem Py [Wd] (bs:List UInt8) (o:bt) (ho:fD.ok o) (hl:bs.length+200000000<=aL):aq prog 108 [.list 1 (bs.map af),.agg (cC o)] (.list 1 ((bs++lM o).map af)):=by
 by_cases h0:bS o=0
 ·have hk:=(xB h0).1
  have h:(o.kind=0\/o.kind=1\/o.kind=3\/o.kind=4)\/o.kind=2:=by omega
  rcases h with h|h
  ·exact Yg bs o o.kind h ho h0 hl
  ·have e:=oM h
   have t:=Yh bs o (by rw[e];exact ho) (by rw[e];exact h0) hl
   rw[e] at t
   exact t
 ·exact W2 bs o ho h0 hl
theorem V6 [Wd] (x:ju) (hx:su.ok x) (h0:iR x=0):aq prog 319 [.agg (sw x)] (.aj [.list 1 ((iS x).map af),.int .i64 0]):=by
 have z:=Ss h0
 have p1:=fG x.bD
 have p2:=fG x.time
 have e1:aJ x.bD=enc x.bD.toNat:=eK z.1 (by omega)
 have e2:aJ x.time=enc x.time.toNat:=eK (by omega) (by omega)
 have hb:300000000<=aL:=by simp[aL]
 refine ak 21 [(4,⟨[(0,false),(1,false),(2,false),(4,false),(5,false),(6,false),(8,false),(9,false),(3,true),(7,true),(10,true),(11,false),(12,false)],[]⟩)] func319 ?_
 repeat' (conv=>arg 2;whnf);first|refine okF (RP x hx) ?_|refine lD ?_|refine iQ (sj [] (x.bD) (by simp[aL])) rfl (aa.cons (Co.nil _) (.refl _)) ?_|refine okF (sj _ x.time (by(try simp only[List.length_append,List.length_nil]);omega)) ?_|refine okF (Py _ x.op hx.2.2 (by(try simp only[List.length_append,List.length_nil]);omega)) ?_|(refine bB ?_ ?_;focus (simp[h0];done))|(refine pK (.inr rfl) rfl ?_ rfl;simp[iS,lM,z,e1,e2,List.append_assoc];done)
theorem Jn [Wd] (l:List bX) (hl:(dL fX).ok l):aq prog 296 [.list 9 (l.map bI)] (.int .i64 (fA l)):=by
 have HL:l.length<=4194304:=hl.1
 refine ak 66 [] func296 ?_
 repeat' (conv=>arg 2;whnf);first|apply an<;>intro h|(refine cF ?_;unfold fA;rw[if_pos (by simp at h;omega)];done)
 have h4:¬4<l.length:=by simp at h;omega
 clear h
 refine bE (α:=Nat) (fun q=>⟨[(16,.int .i64 q),(15,.int .i64 (l.map bI).length),(14,.list 9 (l.map bI)),(0,.list 9 (l.map bI))],[]⟩) (fun q=>q<=l.length/\lA (l.take q)=0) (fun q=>l.length-q) 0 ⟨Nat.zero_le _,rfl⟩ (Sv.aK []) ?_
 rintro q ⟨hq,he⟩
 repeat' (conv=>arg 2;whnf);first|apply an<;>intro h|refine cK (l:=l) (by simp at h;omega) (fun x hx=>?_)|refine okF (RP x.request (hl.2 x (List.mem_of_getElem? hx)).1) ?_|refine okF (Kl x.sign) ?_|refine bw (cj (by omega) (by have:=(List.getElem?_eq_some_iff.1 hx).1;omega)) ?_|refine aZ (q+1) (Sv.aK []) ⟨by have:=(List.getElem?_eq_some_iff.1 hx).1;omega,Ph hx he (by simp_all) (by simp_all)⟩ (by have:=(List.getElem?_eq_some_iff.1 hx).1;omega)|refine bq ?_|refine eG ?_|(have hp:=FG hx he;refine cF ?_;have h1:¬iR x.request=0:=(by simpa using h);rw[FH h4 (by rw[hp,aF,if_neg h1];exact h1),hp,aF,if_neg h1])|(have hp:=FG hx he;refine cF ?_;have h1:¬dw x.sign=0:=(by simpa using h);have h2:iR x.request=0:=(by simp_all);rw[FH h4 (by rw[hp,h2,gu,aF,if_neg h1];exact h1),hp,h2,gu,aF,if_neg h1])
 have hp:lA l=0:=by rw[List.take_of_length_le (by simp at h;omega)] at he;exact he
 clear he hq h
 refine bE (α:=Nat) (fun i=>⟨[(35,.int .i64 i),(34,.int .i64 (l.map bI).length),(33,.list 9 (l.map bI)),(0,.list 9 (l.map bI))],[]⟩) (fun i=>i<=l.length/\((List.range i).any fun i=>(List.range i).any fun k=>yY l i k)=false) (fun i=>l.length-i) 0 ⟨Nat.zero_le _,rfl⟩ (Sv.aK []) ?_
 rintro i ⟨hi,he⟩
 by_cases uc:i<l.length
 ·have hx:l[i]?=some l[i]:=List.getElem?_eq_getElem uc
  have dh:(l.map bI)[((i:Int)).toNat]?=some (bI l[i]):=by rw[List.getElem?_map];show(l[i]?).map _=_;rw[hx];rfl
  generalize l[i]=x at hx dh
  have Hi:(i:Int)<((l.map bI).length:Int):=by simp;omega
  repeat' (conv=>arg 2;whnf);first|refine bY (decide_eq_true Hi) ?_|refine eT _ (Int.natCast_nonneg _) dh ?_|refine aT ⟨Int.le_refl _,Int.natCast_nonneg _,Int.le_of_lt Hi⟩ ?_
  refine bE (α:=Nat) (fun k=>⟨[(44,.int .i64 k),(43,.int .i64 ((l.map bI).take i).length),(42,.list 9 ((l.map bI).take i)),(8,.ptr 0 0),(35,.int .i64 i),(34,.int .i64 (l.map bI).length),(33,.list 9 (l.map bI)),(0,.list 9 (l.map bI))],[.cells 183 (bI x)]⟩) (fun k=>k<=i/\((List.range k).any fun k=>yY l i k)=false) (fun k=>i-k) 0 ⟨Nat.zero_le _,rfl⟩ (Sv.aK [0]) ?_
  rintro k ⟨hk,Eh⟩
  by_cases Cn:k<i
  ·have hy:l[k]?=some l[k]:=List.getElem?_eq_getElem (by omega)
   have TV:((l.map bI).take i)[((k:Int)).toNat]?=some (bI l[k]):=by
    show((l.map bI).take i)[k]?=_
    rw[List.getElem?_take,if_pos Cn,List.getElem?_map,hy]
    rfl
   generalize l[k]=y at hy TV
   have LI:(k:Int)<(((l.map bI).take i).length:Int):=by simp;omega
   repeat' (conv=>arg 2;whnf);first|refine bY (decide_eq_true LI) ?_|refine eT _ (Int.natCast_nonneg _) TV ?_|refine bw (e:=(k:Int)+1) (cj (by omega) (by omega)) ?_|apply an<;>intro h|refine aZ (k+1) (Sv.aK [0]) ⟨by omega,FI Eh (by rw[GK hx hy];simp_all)⟩ (by omega)|refine eG ?_|(have hw:zT l=true:=Pj uc (k:=k) Cn (by rw[GK hx hy];simp_all);refine cF ?_;unfold fA;rw[if_neg h4,hp,gu,hw];rfl)
  ·obtain rfl:k=i:=by omega
   have LI:¬(k:Int)<(((l.map bI).take k).length:Int):=by simp;omega
   repeat' (conv=>arg 2;whnf);first|refine bB (decide_eq_false LI) ?_|refine bq ?_|refine bw (e:=(k:Int)+1) (cj (by omega) (by omega)) ?_|refine aZ (k+1) (Sv.aK []) ⟨by omega,FI he Eh⟩ (by omega)
 ·have Hi:¬(i:Int)<((l.map bI).length:Int):=by simp;omega
  have hw:zT l=false:=by rw[Js,show l.length=i by omega];exact he
  repeat' (conv=>arg 2;whnf);first|refine bB (decide_eq_false Hi) ?_|refine bq ?_|(refine cF ?_;unfold fA;rw[if_neg h4,hp,gu,hw];rfl)
theorem aat [Wd] (bs:List UInt8) (l:List bX) (hl:(dL fX).ok l) (h0:fA l=0) (hb:bs.length+300000000<=aL):aq prog 308 [.list 9 (l.map bI),.list 1 (bs.map af)] (.list 1 ((bs++BI l).map af)):=by
 have z:=J1 h0
 have z1:=z.1
 have p1:=fG ((l.map bI).length:Int)
 have e1:aJ ((l.map bI).length:Int)=enc l.length:=by rw[List.length_map,eK (by omega) (by omega)];rfl
 refine ak 34 [(6,⟨[(0,false),(1,false),(3,false),(4,false),(2,true),(5,true),(6,false)],[]⟩)] func308 ?_
 repeat' (conv=>arg 2;whnf);first|refine lD ?_|refine okF (sj _ (((l.map bI).length:Int)) (by omega)) ?_
 refine bE (α:=Nat×List UInt8) (fun a=>⟨[(16,.int .i64 a.1),(15,.int .i64 (l.map bI).length),(14,.list 9 (l.map bI)),(1,.list 1 (a.2.map af))],[]⟩) (fun a=>a.1<=l.length/\a.2=bs++aJ ((l.map bI).length:Int)++(l.take a.1).flatMap (fun s:bX=>cB (iS s.request)++cG s.sign)) (fun a=>l.length-a.1) (0,bs++aJ ((l.map bI).length:Int)) ⟨Nat.zero_le _,by simp⟩ (Sv.aK []) ?_
 rintro⟨q,b2⟩ ⟨hq,he⟩
 replace hq:q<=l.length:=hq
 replace he:b2=bs++aJ ((l.map bI).length:Int)++(l.take q).flatMap (fun s:bX=>cB (iS s.request)++cG s.sign):=he
 have p6:=lz (f:=fun s:bX=>cB (iS s.request)++cG s.sign) (K:=1050) (l.take q) (fun s hs=>by
  have k:=vC (z.2 s (List.mem_of_mem_take hs)).1
  have:=lE (iS s.request) (by omega)
  have:=vE s.sign
  rw[List.length_append];omega)
 have p7:(l.take q).length*1050<=4*1050:=Nat.mul_le_mul_right _ (by rw[List.length_take];omega)
 have eJ:b2.length+200000000<=aL:=by rw[he];simp only[List.length_append];omega
 repeat' (conv=>arg 2;whnf);first|apply an<;>intro h|refine cK (l:=l) (by simp at h;omega) (fun x hx=>?_)|refine okF (V6 x.request (hl.2 x (List.mem_of_getElem? hx)).1 (z.2 x (List.mem_of_getElem? hx)).1) ?_|refine okF (A9 b2 (iS x.request) (by have:=vC (z.2 x (List.mem_of_getElem? hx)).1;omega) (by have:=vC (z.2 x (List.mem_of_getElem? hx)).1;rw[List.length_append];omega)) ?_|refine okF (Ql _ x.sign (by have:=vC (z.2 x (List.mem_of_getElem? hx)).1;have:=lE (iS x.request) (by omega);rw[List.length_append];omega)) ?_|refine bZ (by simp at h hq;omega) ?_|refine aZ (q+1,b2++cB (iS x.request)++cG x.sign) (Sv.aK []) ⟨by have:=(List.getElem?_eq_some_iff.1 hx).1;show q+1<=l.length;omega,by show b2++cB (iS x.request)++cG x.sign=_;rw[sH hx,<-List.append_assoc,<-he];simp⟩ (by have:=(List.getElem?_eq_some_iff.1 hx).1;show l.length-(q+1)<l.length-q;omega)|refine bq ?_|(refine kf (.inr rfl) rfl ?_;rw[he,show l.take q=l from List.take_of_length_le (by simp at h;omega),BI,e1,List.append_assoc];refine congrArg (fun y=>bs++(enc l.length++y)) ?_;refine Iq (fun s hs=>?_);simp[zO,cG,(z.2 s hs).2])
theorem YP [Wd] (bs:List UInt8) (l:List bX) (hl:(dL fX).ok l) (hb:bs.length+300000000<=aL):aq prog 264 [.list 1 (bs.map af),.list 9 (l.map bI)] (.list 1 ((bs++jM l).map af)):=by
 by_cases h0:fA l=0
 ·refine ak 16 [] func264 ?_
  repeat' (conv=>arg 2;whnf);first|refine okF (Jn l hl) ?_|refine okF (aat bs l hl h0 hb) ?_|(refine bB ?_ ?_;focus (simp[h0];done))|(refine kf (.inr rfl) rfl ?_;simp[jM,h0];done)
 ·refine ak 16 [] func264 ?_
  repeat' (conv=>arg 2;whnf);first|refine okF (Jn l hl) ?_|refine okF (Dh bs (by have:=hb;simp[aL] at this;omega)) ?_|(refine bY ?_ ?_;focus (simp[h0];done))|(refine kf (.inr rfl) rfl ?_;simp[jM,h0];done)
section
theorem Xf [Wd] (bs:List UInt8) (x:bJ) (hl:bs.length+200<=aL):aq prog 263 [.list 1 (bs.map af),.agg (bL x)] (.list 1 ((bs++cG x).map af)):=Ql bs x hl
theorem Wb [Wd] (bs:List UInt8) (x:List bX) (hx:(dL fX).ok x) (hl:bs.length+300000000<=aL):aq prog 264 [.list 1 (bs.map af),.list 9 (x.map bI)] (.list 1 ((bs++jM x).map af)):=YP bs x hx hl
abbrev oW (bs:List UInt8):List AO:=[.cells 220 [.list 1 (bs.map af)]]
abbrev tR [Wd] (f:FuncId) (ar:List D) (add:List UInt8):Prop:=∀bs:List UInt8,(bs++add).length+700000000<=aL->bC prog f (.ptr 0 0::ar) (oW bs) (fun r h=>r=.aj []/\h=oW (bs++add))
section
variable {Q:Exit->S->Prop}
theorem fo [Wd] {f:FuncId} {ar bR:List D} {add bs:List UInt8} {hb:List AO} {c:D->List AO->T} (hF:tR f ar add) (hl:(bs++add).length+700000000<=aL) (hv:jF hb [0] [0] (oW bs)) (hc:aa bR (D.bO.rl [0] (.ptr 0 0::ar))) (hM:([0].all fun o=>(jT hb bR).elem o)=true) (k:(c (.aj []) (lK hb [0] (oW bs) (oW (bs++add)))).ok prog Q):(T.call f bR hb c).ok prog Q:=
 mA [0] (hF bs hl) (.mk' rfl hv) hc hM k
theorem we [Wd] {tb:TT} {rs:List ResultVar} {ex:Exit} {s:S} {bs Ee:List UInt8} {ds:List D} (he:ex=.normal\/ex=.ret) (hr:iD tb s rs=some ds) (hv:jF s.h [0] [0] (oW Ee)) (iw:Co (lI ds) (.aj [])) {add:List UInt8} (hx:Ee=bs++add):(T.leaf ex s).ok prog (Lf tb rs (oW bs) (fun r h=>r=.aj []/\h=oW (bs++add))):=by
 subst hx
 exact mL [0] he hr rfl hv ⟨⟨rfl,rfl⟩,trivial⟩ iw
end
theorem BS [Wd] {P:Program} {Q:Exit->S->Prop} {a b:Nat} {t f:T} (h1:a<b->t.ok P Q) (h2:b<=a->f.ok P Q):(bT (decide ((a:Int)<(b:Int))) t f).ok P Q:=
 an (fun h=>h1 (by simpa using h)) (fun h=>h2 (by simpa using h))
theorem Gd [Wd] (x:List UInt8) (hx:x.length<=4194304):tR 215 [.list 1 (x.map af)] (cB x):=by
 intro bs hl
 refine ak 13 [] func215 ?_
 repeat' (conv=>arg 2;whnf);first|refine okF (A9 bs x hx (by unfold cB at hl;simp at hl ⊢;omega)) ?_|exact we (.inl rfl) rfl ⟨⟨rfl,rfl⟩,trivial⟩ (.refl _) rfl
theorem yl [Wd] (x:bJ):tR 206 [.agg (bL x)] (cG x):=by
 intro bs hl
 refine ak 15 [(1,⟨[(0,false),(1,false),(2,false),(3,false),(4,false),(6,false),(5,true),(7,true),(8,false),(9,false),(10,false),(11,true)],[0]⟩)] func206 ?_
 repeat' (conv=>arg 2;whnf);first|refine okF (Xf bs x (by simp at hl;omega)) ?_|exact we (.inl rfl) rfl ⟨⟨rfl,rfl⟩,trivial⟩ (.refl _) rfl
theorem FD [Wd] (x:List bX) (hx:(dL fX).ok x):tR 209 [.list 9 (x.map bI)] (jM x):=by
 intro bs hl
 refine ak 15 [] func209 ?_
 repeat' (conv=>arg 2;whnf);first|refine okF (Wb bs x hx (by rw[List.length_append] at hl;omega)) ?_|exact we (.inl rfl) rfl ⟨⟨rfl,rfl⟩,trivial⟩ (.refl _) rfl
theorem mC [Wd] (l:List Int) (hl:l.length<=4194304):tR 208 [.list 1 (l.map eD)] (aN l):=by
 intro bs hb
 refine ak 23 [] func208 ?_
 conv=>arg 2;whnf
 refine bE (α:=Nat) (fun q=>⟨[(8,.int .i64 q),(7,.int .i64 (l.map eD).length),(6,.list 1 (l.map eD)),(0,.ptr 0 0)],oW (bs++aN (l.take q))⟩) (fun q=>q<=l.length) (fun q=>l.length-q) 0 (Nat.zero_le _) (Sv.mk' [0] rfl ⟨⟨rfl,by simp[aN];rfl⟩,trivial⟩ ⟨rfl,rfl,rfl,rfl,trivial⟩) ?_
 intro q hq
 have cw:(bs++aN (l.take q)).length+700000000<=aL:=by
  have:(aN (l.take q)).length<=(aN l).length:=by
   conv=>rhs;rw[<-List.take_append_drop q l]
   simp only[aN,List.flatMap_append,List.length_append];omega
  simp only[List.length_append] at hb ⊢;omega
 repeat' (conv=>arg 2;whnf);first|apply an<;>intro h|refine cK (by simpa using h) (fun x hx=>?_)|refine okF (sj (bs++aN (l.take q)) x (by omega)) ?_|refine bZ (by simp at h;omega) ?_|refine aZ (q+1) (Sv.mk' [0] rfl ⟨⟨rfl,by rw[List.take_add_one,hx];simp[aN];rfl⟩,trivial⟩ ⟨rfl,rfl,rfl,rfl,trivial⟩) ?_ ?_|refine bq ?_|refine we (.inl rfl) rfl ⟨⟨rfl,rfl⟩,trivial⟩ (.refl _) ?_
 ·simp at h;omega
 ·simp at h;omega
 ·rw[show l.take q=l from List.take_of_length_le (by simp at h;omega)]
theorem Bx [Wd] (n:Int):tR 212 [.int .i64 n] (aJ n):=by
 intro bs hb
 have h1:aN [n]=aJ n:=by simp[aN]
 refine ak 8 [] func212 ?_
 repeat' (conv=>arg 2;whnf);first|refine fo (mC [n] (by simp)) (by rw[h1];omega) ⟨⟨rfl,rfl⟩,trivial⟩ (aa.refl _) rfl ?_|refine we (.inl rfl) rfl ⟨⟨rfl,rfl⟩,trivial⟩ (.refl _) ?_
 rw[h1]
theorem O8 [Wd] (l:List bJ) (hl:l.length<=4194304):tR 265 [.list 2 (l.map bL)] (rB l):=by
 intro bs hb
 have hm:∀q,((bs++aJ (l.length:Int))++(l.take q).flatMap cG).length+700000000<=aL:=fun q=>by
  have:((l.take q).flatMap cG).length<=(l.flatMap cG).length:=by
   conv=>rhs;rw[<-List.take_append_drop q l]
   simp only[List.flatMap_append,List.length_append];omega
  simp only[rB,List.length_append] at hb ⊢;omega
 have h0:=hm 0
 refine ak 22 [] func265 ?_
 repeat' (conv=>arg 2;whnf);first|refine fo (Bx _) (by simpa using h0) ⟨⟨rfl,rfl⟩,trivial⟩ (aa.refl _) rfl ?_
 conv=>arg 2;whnf
 refine bE (α:=Nat) (fun q=>⟨[(14,.int .i64 q),(13,.int .i64 (l.map bL).length),(12,.list 2 (l.map bL)),(0,.ptr 0 0)],oW ((bs++aJ ((l.map bL).length:Nat))++(l.take q).flatMap cG)⟩) (fun q=>q<=l.length) (fun q=>l.length-q) 0 (Nat.zero_le _) (Sv.mk' [0] rfl ⟨⟨rfl,by simp;rfl⟩,trivial⟩ ⟨rfl,rfl,rfl,rfl,trivial⟩) ?_
 intro q hq
 repeat' (conv=>arg 2;whnf);first|refine BS (fun hlt=>?_) (fun dm=>?_)|refine cK (by simpa using hlt) (fun x hx=>?_)|refine fo (yl x) (by have:=hm (q+1);rw[List.take_add_one,hx] at this;simpa using this) ⟨⟨rfl,rfl⟩,trivial⟩ (aa.refl _) rfl ?_|refine bZ (by simp at hlt;omega) ?_|refine aZ (q+1) (Sv.mk' [0] rfl ⟨⟨rfl,by rw[List.take_add_one,hx];simp;rfl⟩,trivial⟩ ⟨rfl,rfl,rfl,rfl,trivial⟩) ?_ ?_|refine bq ?_|refine we (.inl rfl) rfl ⟨⟨rfl,rfl⟩,trivial⟩ (.refl _) ?_
 ·simp at hlt;omega
 ·simp at hlt;omega
 ·rw[show l.take q=l from List.take_of_length_le (by simpa using dm)]
  simp[rB]
theorem JV [Wd] (c:gX) (hc:je.ok c):tR 214 [.agg (mj c)] (lR c):=by
 intro bs hb
 have h1:(bs++aN [c.seq,c.ah]).length+700000000<=aL:=by simp only[lR,List.length_append] at hb ⊢;omega
 refine ak 17 [] func214 ?_
 repeat' (conv=>arg 2;whnf);first|refine fo (mC [c.seq,c.ah] (by simp)) (h1) ⟨⟨rfl,rfl⟩,trivial⟩ (aa.refl _) rfl ?_|refine fo (O8 c.cM hc.2.2.1) (by simpa only[lR,List.append_assoc] using hb) ⟨⟨rfl,rfl⟩,trivial⟩ (aa.refl _) rfl ?_|refine we (.inl rfl) rfl ⟨⟨rfl,rfl⟩,trivial⟩ (.refl _) ?_
 simp only[lR,List.append_assoc]
end
theorem DM {α:Type} (f:α->List UInt8) (l:List α) (q:Nat):((l.take q).flatMap f).length<=(l.flatMap f).length:=by
 conv=>rhs;rw[<-List.take_append_drop q l]
 simp only[List.flatMap_append,List.length_append];omega
theorem wg {α:Type} (f:α->List UInt8) {l:List α} {q:Nat} {x:α} (h:l[q]?=some x):((l.take q).flatMap f).length+(f x).length<=(l.flatMap f).length:=by
 have:=DM f l (q+1)
 rw[List.take_add_one,h] at this
 simpa using this
theorem Qm [Wd] (c:cX) (hc:fP.ok c):tR 211 [.agg (bU c)] (jy c):=by
 intro bs hb
 refine ak 57 [] func211 ?_
 repeat' (conv=>arg 2;whnf);first|refine fo (mC [c.view,c.src] (by simp)) (by simp only[jy,List.length_append] at hb ⊢;omega) ⟨⟨rfl,rfl⟩,trivial⟩ (aa.refl _) rfl ?_|refine fo (JV c.cert hc.2.2.1) (by simp only[jy,List.length_append] at hb ⊢;omega) ⟨⟨rfl,rfl⟩,trivial⟩ (aa.refl _) rfl ?_|refine fo (Bx _) (by simp only[jy,List.length_append,List.length_map] at hb ⊢;omega) ⟨⟨rfl,rfl⟩,trivial⟩ (aa.refl _) rfl ?_
 conv=>arg 2;whnf
 refine bE (α:=Nat) (fun q=>⟨[(29,.int .i64 q),(28,.int .i64 (c.cD.map fk).length),(27,.list 7 (c.cD.map fk)),(3,.ptr 1 0),(0,.ptr 0 0)],[.cells 220 [.list 1 (((bs++aN [c.view,c.src]++lR c.cert++aJ ((c.cD.map fk).length:Nat))++(c.cD.take q).flatMap iJ).map af)],.cells 145 (bU c)]⟩) (fun q=>q<=c.cD.length) (fun q=>c.cD.length-q) 0 (Nat.zero_le _) (Sv.mk' [0,1] rfl ⟨⟨rfl,by simp;rfl⟩,⟨rfl,rfl⟩,trivial⟩ ⟨rfl,rfl,rfl,rfl,rfl,trivial⟩) ?_
 intro q hq
 have hl:c.cD.length<=4194304:=hc.2.2.2.1.1
 repeat' (conv=>arg 2;whnf);first|refine BS (fun hlt=>?_) (fun dm=>?_)|refine cK (by simpa using hlt) (fun x hx=>?_)|refine fo (mC [x.view,x.seq,x.ah] (by simp)) (by have:=wg iJ hx;simp only[jy,iJ,List.length_append,List.length_map] at hb this ⊢;omega) ⟨⟨rfl,rfl⟩,trivial⟩ (aa.refl _) rfl ?_|refine fo (yl x.kG) (by have:=wg iJ hx;simp only[jy,iJ,List.length_append,List.length_map] at hb this ⊢;omega) ⟨⟨rfl,rfl⟩,trivial⟩ (aa.refl _) rfl ?_|refine fo (O8 x.cM (hc.2.2.2.1.2 x (List.mem_of_getElem? hx)).2.2.2.2.1.1) (by have:=wg iJ hx;simp only[jy,iJ,List.length_append,List.length_map] at hb this ⊢;omega) ⟨⟨rfl,rfl⟩,trivial⟩ (aa.refl _) rfl ?_|refine fo (FD x.batch (hc.2.2.2.1.2 x (List.mem_of_getElem? hx)).2.2.2.2.2) (by have:=wg iJ hx;simp only[jy,iJ,List.length_append,List.length_map] at hb this ⊢;omega) ⟨⟨rfl,rfl⟩,trivial⟩ (aa.refl _) rfl ?_|refine bZ (by simp at hlt;omega) ?_|refine aZ (q+1) (Sv.mk' [0,1] rfl ⟨⟨rfl,by rw[List.take_add_one,hx];simp[iJ];rfl⟩,⟨rfl,rfl⟩,trivial⟩ ⟨rfl,rfl,rfl,rfl,rfl,trivial⟩) ?_ ?_|refine bq ?_|refine we (.inl rfl) rfl ⟨⟨rfl,rfl⟩,trivial⟩ (.refl _) ?_
 ·simp at hlt;omega
 ·simp at hlt;omega
 ·rw[show c.cD.take q=c.cD from List.take_of_length_le (by simpa using dm)]
  simp[jy]
theorem Xg [Wd] (c:cX) (hc:fP.ok c):tR 213 [.agg (bU c)] (fq c):=by
 intro bs hb
 refine ak 11 [] func213 ?_
 repeat' (conv=>arg 2;whnf);first|refine fo (Qm c hc) (by simp only[fq,List.length_append] at hb ⊢;omega) ⟨⟨rfl,rfl⟩,trivial⟩ (aa.refl _) rfl ?_|refine fo (yl c.sign) (by simp only[fq,List.length_append] at hb ⊢;omega) ⟨⟨rfl,rfl⟩,trivial⟩ (aa.refl _) rfl ?_|refine we (.inl rfl) rfl ⟨⟨rfl,rfl⟩,trivial⟩ (.refl _) ?_
 simp[fq]
theorem YQ [Wd] (p:jX) (hp:jY.ok p):tR 216 [.agg (jv p)] (jw p):=by
 intro bs hb
 refine ak 92 [(1,⟨[(0,false),(1,false),(2,false),(3,false),(4,false),(5,true),(6,true)],[0]⟩)] func216 ?_
 repeat' (conv=>arg 2;whnf);first|refine fo (Gd p.av hp.1) (by simp only[jw,List.length_append] at hb ⊢;omega) ⟨⟨rfl,rfl⟩,trivial⟩ (aa.refl _) rfl ?_|refine fo (mC [p.offset] (by simp)) (by simp only[jw,List.length_append] at hb ⊢;omega) ⟨⟨rfl,rfl⟩,trivial⟩ (aa.refl _) rfl ?_|refine fo (Gd p.record hp.2.2.1) (by simp only[jw,List.length_append] at hb ⊢;omega) ⟨⟨rfl,rfl⟩,trivial⟩ (aa.refl _) rfl ?_|refine fo (Bx _) (by simp only[jw,List.length_append,List.length_map] at hb ⊢;omega) ⟨⟨rfl,rfl⟩,trivial⟩ (aa.refl _) rfl ?_|refine aT (by have:p.av.length<=4194304:=hp.1;omega) ?_
 conv=>arg 2;whnf
 refine bE (α:=Nat) (fun q=>⟨[(38,.int .i64 q),(37,.int .i64 (p.headers.map eO).length),(36,.list 5 (p.headers.map eO)),(3,.ptr 1 0),(0,.ptr 0 0)],[.cells 220 [.list 1 (((bs++cB p.av++aN [p.offset]++cB p.record++aJ ((p.headers.map eO).length:Nat))++(p.headers.take q).flatMap gZ).map af)],.cells 55 (jv p)]⟩) (fun q=>q<=p.headers.length) (fun q=>p.headers.length-q) 0 (Nat.zero_le _) (Sv.mk' [0,1] rfl ⟨⟨rfl,by simp;rfl⟩,⟨rfl,rfl⟩,trivial⟩ ⟨rfl,rfl,rfl,rfl,rfl,trivial⟩) ?_
 intro q hq
 have hl:p.headers.length<=4194304:=hp.2.2.2.1.1
 repeat' (conv=>arg 2;whnf);first|refine BS (fun hlt=>?_) (fun dm=>?_)|refine cK (by simpa using hlt) (fun x hx=>?_)|refine fo (mC [x.seq,x.prev,x.batch,x.root,x.state] (by simp)) (by have:=wg gZ hx;simp only[jw,gZ,List.length_append,List.length_map] at hb this ⊢;omega) ⟨⟨rfl,rfl⟩,trivial⟩ (aa.refl _) rfl ?_|refine bZ (by simp at hlt;omega) ?_|refine aZ (q+1) (Sv.mk' [0,1] rfl ⟨⟨rfl,by rw[List.take_add_one,hx];simp[gZ];rfl⟩,⟨rfl,rfl⟩,trivial⟩ ⟨rfl,rfl,rfl,rfl,rfl,trivial⟩) ?_ ?_|refine bq ?_|refine fo (mC [p.index,p.count] (by simp)) (by have:=DM gZ p.headers q;simp only[jw,List.length_append,List.length_map] at hb this ⊢;omega) ⟨⟨rfl,rfl⟩,trivial⟩ (aa.refl _) rfl ?_|refine fo (Bx _) (by have:=DM gZ p.headers q;simp only[jw,List.length_append,List.length_map] at hb this ⊢;omega) ⟨⟨rfl,rfl⟩,trivial⟩ (aa.refl _) rfl ?_
 ·simp at hlt;omega
 ·simp at hlt;omega
 rw[show p.headers.take q=p.headers from List.take_of_length_le (by simpa using dm)]
 clear hl dm
 conv=>arg 2;whnf
 refine bE (α:=Nat) (fun q=>⟨[(77,.int .i64 q),(76,.int .i64 (p.path.map eD).length),(75,.list 1 (p.path.map eD)),(3,.ptr 1 0),(0,.ptr 0 0)],[.cells 220 [.list 1 (((bs++cB p.av++aN [p.offset]++cB p.record++aJ (p.headers.length:Int)++p.headers.flatMap gZ++aN [p.index,p.count]++aJ ((p.path.map eD).length:Nat))++(p.path.take q).flatMap aJ).map af)],.cells 55 (jv p)]⟩) (fun q=>q<=p.path.length) (fun q=>p.path.length-q) 0 (Nat.zero_le _) (Sv.mk' [0,1] rfl ⟨⟨rfl,by simp;rfl⟩,⟨rfl,rfl⟩,trivial⟩ ⟨rfl,rfl,rfl,rfl,rfl,trivial⟩) ?_
 intro q hq
 have hl:p.path.length<=4194304:=hp.2.2.2.2.2.2.1.1
 repeat' (conv=>arg 2;whnf);first|refine BS (fun hlt=>?_) (fun dm=>?_)|refine cK (by simpa using hlt) (fun x hx=>?_)|refine fo (mC [x] (by simp)) (by have:=wg aJ hx;have e:(aN [x]).length=(aJ x).length:=(by simp[aN]);simp only[jw,List.length_append,List.length_map] at hb this ⊢;omega) ⟨⟨rfl,rfl⟩,trivial⟩ (aa.refl _) rfl ?_|refine bZ (by simp at hlt;omega) ?_|refine aZ (q+1) (Sv.mk' [0,1] rfl ⟨⟨rfl,by rw[List.take_add_one,hx];simp[aN];rfl⟩,⟨rfl,rfl⟩,trivial⟩ ⟨rfl,rfl,rfl,rfl,rfl,trivial⟩) ?_ ?_|refine bq ?_|refine fo (JV p.cert hp.2.2.2.2.2.2.2) (by have:=DM aJ p.path q;simp only[jw,List.length_append,List.length_map] at hb this ⊢;omega) ⟨⟨rfl,rfl⟩,trivial⟩ (aa.refl _) rfl ?_|refine we (.inl rfl) rfl ⟨⟨rfl,rfl⟩,trivial⟩ (.refl _) ?_
 ·simp at hlt;omega
 ·simp at hlt;omega
 ·rw[show p.path.take q=p.path from List.take_of_length_le (by simpa using dm)]
  simp[jw]
section
section
variable {P:Program}
end
theorem acL (n:Int):(aJ n).length<=10:=by
 unfold aJ
 exact qA (by omega)
theorem Sr {a:Int} (h:0<=a/\a<=9223372036854775807):aJ (if a<0 then 0 else a)=enc (max a 0).toNat:=by
 rw[if_neg (by omega),eK h.1 (by omega),Int.max_eq_left h.1]
theorem Vu [Wd] (bs:List UInt8) (x:nH) (he:0<=x.err/\x.err<=9223372036854775807) (ho:0<=x.offset/\x.offset<=9223372036854775807) (hl:bs.length+110<=aL):aq prog 210 [.list 1 (bs.map af),.agg (wV x)] (.list 1 ((bs++wW x).map af)):=by
 have p1:=acL (if x.err<0 then 0 else x.err)
 refine ak 16 [(1,⟨[(0,false),(1,false),(2,false),(3,false),(4,false),(6,false),(7,false),(8,false),(9,false),(5,true),(10,true),(11,false)],[]⟩)] func210 ?_
 repeat' (conv=>arg 2;whnf);first|refine lD ?_|refine okF (sj _ _ (by(try simp only[List.length_append]);omega)) ?_|(refine kf (.inr rfl) rfl ?_;rw[Sr he,Sr ho,List.append_assoc];rfl)
theorem sG [Wd] (n:Int):bC prog 208 [.ptr 0 0,.list 1 ([n].map eD)] [.cells 220 [.nils]] (fun r h=>r=.aj []/\h=oW (aJ n)):=by
 refine ak 23 [] func208 ?_
 conv=>arg 2;whnf
 refine bE (α:=Bool) (fun b=>match b with
  |false=>⟨[(8,.int .i64 0),(7,.int .i64 1),(6,.list 1 ([n].map eD)),(0,.ptr 0 0)],[.cells 220 [.nils]]⟩
  |true=>⟨[(8,.int .i64 1),(7,.int .i64 1),(6,.list 1 ([n].map eD)),(0,.ptr 0 0)],oW (aJ n)⟩) (fun _=>True) (fun b=>bif b then 0 else 1) false trivial (Sv.aK [0]) ?_
 rintro(_|_) _
 all_goals
  repeat' (conv=>arg 2;whnf);first|refine eT (eD n) (by decide) rfl ?_|refine iQ (sj [] n (by simp[aL])) rfl (aa.cons (Co.nil _) (.refl _)) ?_|refine bZ (by decide) ?_|exact aZ true (Sv.aK [0]) trivial (by decide)|refine bq ?_|exact mL [0] (.inl rfl) rfl rfl ⟨⟨rfl,rfl⟩,trivial⟩ ⟨⟨rfl,rfl⟩,trivial⟩ (.refl _)
theorem Jo [Wd] (bs:List UInt8) (hs:¬262144<bs.length):bC prog 207 [.ptr 0 0] (oW bs) (fun r h=>r=.aj [.list 1 (bs.map af),.int .i64 0]/\h=oW bs):=by
 refine ak 16 [] func207 ?_
 repeat' (conv=>arg 2;whnf);first|apply an<;>intro h|exact mL [0] (.inr rfl) rfl rfl ⟨⟨rfl,rfl⟩,trivial⟩ ⟨⟨rfl,rfl⟩,trivial⟩ (.refl _)
 simp at h
 omega
theorem IU [Wd] (bs:List UInt8) (h:262144<bs.length):bC prog 207 [.ptr 0 0] (oW bs) (fun r h=>r=.aj [.nils,.int .i64 3]/\h=oW bs):=by
 refine ak 16 [] func207 ?_
 repeat' (conv=>arg 2;whnf);first|apply an<;>intro h|exact mL [0] (.inr rfl) rfl rfl ⟨⟨rfl,rfl⟩,trivial⟩ ⟨⟨rfl,rfl⟩,trivial⟩ (.refl _)
 simp at h
 omega
theorem sL [Wd] {tb:TT} {rs:List ResultVar} {ex:Exit} {s:S} {Ee:List UInt8} {ds:List D} (he:ex=.normal\/ex=.ret) (hr:iD tb s rs=some ds) (hv:jF s.h [0] [0] (oW Ee)) (iw:Co (lI ds) (.aj [])) {add:List UInt8} (hx:Ee=add):(T.leaf ex s).ok prog (Lf tb rs [.cells 220 [.nils]] (fun r h=>r=.aj []/\h=oW add)):=by
 subst hx
 exact mL [0] he hr rfl hv ⟨⟨rfl,rfl⟩,trivial⟩ iw
end
theorem aaY [Wd] (m:aD) (hm:bh.ok m) (hl:(aJ 1++(jM m.batch)).length+700000000<=aL):bC prog 158 [.ptr 0 0,.agg (aC {m with kind:=1})] [.cells 220 [.nils]] (fun r h=>r=.aj []/\h=oW (aJ 1++(jM m.batch))):=by
 refine ak 222 [] func158 ?_
 repeat' (conv=>arg 2;whnf);first|refine mA [0] (sG _) (.mk' rfl ⟨⟨rfl,rfl⟩,trivial⟩) (aa.refl _) rfl ?_|refine fo (FD m.batch hm.2.2.2.2.2.2.2.2.1) (by simp only[List.length_append] at hl ⊢;omega) ⟨⟨rfl,rfl⟩,trivial⟩ (aa.refl _) rfl ?_|refine sL (.inl rfl) rfl ⟨⟨rfl,rfl⟩,trivial⟩ (.refl _) ?_
 all_goals (first|rfl|simp)
theorem aaZ [Wd] (m:aD) (hm:bh.ok m) (hl:(aJ 2++(aN [m.src,m.view,m.seq,m.ah]++jM m.batch)).length+700000000<=aL):bC prog 158 [.ptr 0 0,.agg (aC {m with kind:=2})] [.cells 220 [.nils]] (fun r h=>r=.aj []/\h=oW (aJ 2++(aN [m.src,m.view,m.seq,m.ah]++jM m.batch))):=by
 refine ak 222 [] func158 ?_
 repeat' (conv=>arg 2;whnf);first|refine mA [0] (sG _) (.mk' rfl ⟨⟨rfl,rfl⟩,trivial⟩) (aa.refl _) rfl ?_|refine fo (mC [m.src,m.view,m.seq,m.ah] (by simp)) (by simp only[List.length_append] at hl ⊢;omega) ⟨⟨rfl,rfl⟩,trivial⟩ (aa.refl _) rfl ?_|refine fo (FD m.batch hm.2.2.2.2.2.2.2.2.1) (by simp only[List.length_append] at hl ⊢;omega) ⟨⟨rfl,rfl⟩,trivial⟩ (aa.refl _) rfl ?_|refine sL (.inl rfl) rfl ⟨⟨rfl,rfl⟩,trivial⟩ (.refl _) ?_
 all_goals (first|rfl|simp)
theorem aa0 [Wd] (m:aD) (hm:bh.ok m) (hl:(aJ 3++(aN [m.src,m.view,m.seq,m.ah])).length+700000000<=aL):bC prog 158 [.ptr 0 0,.agg (aC {m with kind:=3})] [.cells 220 [.nils]] (fun r h=>r=.aj []/\h=oW (aJ 3++(aN [m.src,m.view,m.seq,m.ah]))):=by
 refine ak 222 [] func158 ?_
 repeat' (conv=>arg 2;whnf);first|refine mA [0] (sG _) (.mk' rfl ⟨⟨rfl,rfl⟩,trivial⟩) (aa.refl _) rfl ?_|refine fo (mC [m.src,m.view,m.seq,m.ah] (by simp)) (by simp only[List.length_append] at hl ⊢;omega) ⟨⟨rfl,rfl⟩,trivial⟩ (aa.refl _) rfl ?_|refine sL (.inl rfl) rfl ⟨⟨rfl,rfl⟩,trivial⟩ (.refl _) ?_
 all_goals (first|rfl|simp)
theorem aa1 [Wd] (m:aD) (hm:bh.ok m) (hl:(aJ 4++(aN [m.src,m.view,m.seq,m.ah])).length+700000000<=aL):bC prog 158 [.ptr 0 0,.agg (aC {m with kind:=4})] [.cells 220 [.nils]] (fun r h=>r=.aj []/\h=oW (aJ 4++(aN [m.src,m.view,m.seq,m.ah]))):=by
 refine ak 222 [] func158 ?_
 repeat' (conv=>arg 2;whnf);first|refine mA [0] (sG _) (.mk' rfl ⟨⟨rfl,rfl⟩,trivial⟩) (aa.refl _) rfl ?_|refine fo (mC [m.src,m.view,m.seq,m.ah] (by simp)) (by simp only[List.length_append] at hl ⊢;omega) ⟨⟨rfl,rfl⟩,trivial⟩ (aa.refl _) rfl ?_|refine sL (.inl rfl) rfl ⟨⟨rfl,rfl⟩,trivial⟩ (.refl _) ?_
 all_goals (first|rfl|simp)
theorem aa2 [Wd] (m:aD) (hm:bh.ok m) (h5:(0<=m.result.err/\m.result.err<=9223372036854775807)/\(0<=m.result.offset/\m.result.offset<=9223372036854775807)) (hl:(aJ 5++(aN [m.src,m.view,m.bD,m.time]++wW m.result)).length+700000000<=aL):bC prog 158 [.ptr 0 0,.agg (aC {m with kind:=5})] [.cells 220 [.nils]] (fun r h=>r=.aj []/\h=oW (aJ 5++(aN [m.src,m.view,m.bD,m.time]++wW m.result))):=by
 refine ak 222 [(13,⟨[(0,false),(1,false),(2,false),(3,false),(4,false),(6,false),(7,false),(5,true),(8,true),(9,false),(10,false),(11,false),(12,true)],[0]⟩)] func158 ?_
 repeat' (conv=>arg 2;whnf);first|refine mA [0] (sG _) (.mk' rfl ⟨⟨rfl,rfl⟩,trivial⟩) (aa.refl _) rfl ?_|refine fo (mC [m.src,m.view,m.bD,m.time] (by simp)) (by simp only[List.length_append] at hl ⊢;omega) ⟨⟨rfl,rfl⟩,trivial⟩ (aa.refl _) rfl ?_|refine okF (Vu _ m.result h5.1 h5.2 (by simp only[List.length_append] at hl ⊢;omega)) ?_|refine sL (.inl rfl) rfl ⟨⟨rfl,rfl⟩,trivial⟩ (.refl _) ?_
 all_goals (first|rfl|simp)
theorem aa3 [Wd] (m:aD) (hm:bh.ok m) (hl:(aJ 6++(aN [m.src,m.seq,m.ah])).length+700000000<=aL):bC prog 158 [.ptr 0 0,.agg (aC {m with kind:=6})] [.cells 220 [.nils]] (fun r h=>r=.aj []/\h=oW (aJ 6++(aN [m.src,m.seq,m.ah]))):=by
 refine ak 222 [] func158 ?_
 repeat' (conv=>arg 2;whnf);first|refine mA [0] (sG _) (.mk' rfl ⟨⟨rfl,rfl⟩,trivial⟩) (aa.refl _) rfl ?_|refine fo (mC [m.src,m.seq,m.ah] (by simp)) (by simp only[List.length_append] at hl ⊢;omega) ⟨⟨rfl,rfl⟩,trivial⟩ (aa.refl _) rfl ?_|refine sL (.inl rfl) rfl ⟨⟨rfl,rfl⟩,trivial⟩ (.refl _) ?_
 all_goals (first|rfl|simp)
theorem aa4 [Wd] (m:aD) (hm:bh.ok m) {c:cX} (h7:m.changes[0]?=some c) (hl:(aJ 7++(jy c)).length+700000000<=aL):bC prog 158 [.ptr 0 0,.agg (aC {m with kind:=7})] [.cells 220 [.nils]] (fun r h=>r=.aj []/\h=oW (aJ 7++(jy c))):=by
 refine ak 222 [] func158 ?_
 repeat' (conv=>arg 2;whnf);first|refine mA [0] (sG _) (.mk' rfl ⟨⟨rfl,rfl⟩,trivial⟩) (aa.refl _) rfl ?_|refine eT (bU c) (by decide) (by simp[h7]) ?_|refine fo (Qm c (hm.2.2.2.2.2.2.2.2.2.2.1.2 c (List.mem_of_getElem? h7))) (by simp only[List.length_append] at hl ⊢;omega) ⟨⟨rfl,rfl⟩,trivial⟩ (aa.refl _) rfl ?_|refine sL (.inl rfl) rfl ⟨⟨rfl,rfl⟩,trivial⟩ (.refl _) ?_
 all_goals (first|rfl|simp)
theorem aa5 [Wd] (m:aD) (hm:bh.ok m) (hl:(aJ 9++(aN [m.src,m.seq])).length+700000000<=aL):bC prog 158 [.ptr 0 0,.agg (aC {m with kind:=9})] [.cells 220 [.nils]] (fun r h=>r=.aj []/\h=oW (aJ 9++(aN [m.src,m.seq]))):=by
 refine ak 222 [] func158 ?_
 repeat' (conv=>arg 2;whnf);first|refine mA [0] (sG _) (.mk' rfl ⟨⟨rfl,rfl⟩,trivial⟩) (aa.refl _) rfl ?_|refine fo (mC [m.src,m.seq] (by simp)) (by simp only[List.length_append] at hl ⊢;omega) ⟨⟨rfl,rfl⟩,trivial⟩ (aa.refl _) rfl ?_|refine sL (.inl rfl) rfl ⟨⟨rfl,rfl⟩,trivial⟩ (.refl _) ?_
 all_goals (first|rfl|simp)
theorem YR [Wd] (m:aD) (hm:bh.ok m) (hl:(aJ 10++(aN [m.src]++lR m.cert++cB m.state)).length+700000000<=aL):bC prog 158 [.ptr 0 0,.agg (aC {m with kind:=10})] [.cells 220 [.nils]] (fun r h=>r=.aj []/\h=oW (aJ 10++(aN [m.src]++lR m.cert++cB m.state))):=by
 refine ak 222 [] func158 ?_
 repeat' (conv=>arg 2;whnf);first|refine mA [0] (sG _) (.mk' rfl ⟨⟨rfl,rfl⟩,trivial⟩) (aa.refl _) rfl ?_|refine fo (mC [m.src] (by simp)) (by simp only[List.length_append] at hl ⊢;omega) ⟨⟨rfl,rfl⟩,trivial⟩ (aa.refl _) rfl ?_|refine fo (JV m.cert hm.2.2.2.2.2.2.2.2.2.1) (by simp only[List.length_append] at hl ⊢;omega) ⟨⟨rfl,rfl⟩,trivial⟩ (aa.refl _) rfl ?_|refine fo (Gd m.state hm.2.2.2.2.2.2.2.2.2.2.2.2.1) (by simp only[List.length_append] at hl ⊢;omega) ⟨⟨rfl,rfl⟩,trivial⟩ (aa.refl _) rfl ?_|refine sL (.inl rfl) rfl ⟨⟨rfl,rfl⟩,trivial⟩ (.refl _) ?_
 all_goals (first|rfl|simp)
theorem YS [Wd] (m:aD) (hm:bh.ok m) (hl:(aJ 11++(aN [m.bD]++cB m.av++aN [m.offset])).length+700000000<=aL):bC prog 158 [.ptr 0 0,.agg (aC {m with kind:=11})] [.cells 220 [.nils]] (fun r h=>r=.aj []/\h=oW (aJ 11++(aN [m.bD]++cB m.av++aN [m.offset]))):=by
 refine ak 222 [(42,⟨[(0,false),(1,false),(2,false),(3,false),(4,false),(5,true),(6,true)],[0]⟩)] func158 ?_
 repeat' (conv=>arg 2;whnf);first|refine mA [0] (sG _) (.mk' rfl ⟨⟨rfl,rfl⟩,trivial⟩) (aa.refl _) rfl ?_|refine fo (mC [m.bD] (by simp)) (by simp only[List.length_append] at hl ⊢;omega) ⟨⟨rfl,rfl⟩,trivial⟩ (aa.refl _) rfl ?_|refine aT (by have:m.av.length<=4194304:=hm.2.2.2.2.2.2.2.2.2.2.2.2.2.1;simp only;omega) ?_|refine fo (Gd m.av hm.2.2.2.2.2.2.2.2.2.2.2.2.2.1) (by simp only[List.length_append] at hl ⊢;omega) ⟨⟨rfl,rfl⟩,trivial⟩ (aa.refl _) rfl ?_|refine fo (mC [m.offset] (by simp)) (by simp only[List.length_append] at hl ⊢;omega) ⟨⟨rfl,rfl⟩,trivial⟩ (aa.refl _) rfl ?_|refine sL (.inl rfl) rfl ⟨⟨rfl,rfl⟩,trivial⟩ (.refl _) ?_
 all_goals (first|rfl|simp)
theorem YT [Wd] (m:aD) (hm:bh.ok m) (hl:(aJ 12++(aN [m.src]++jw m.proof)).length+700000000<=aL):bC prog 158 [.ptr 0 0,.agg (aC {m with kind:=12})] [.cells 220 [.nils]] (fun r h=>r=.aj []/\h=oW (aJ 12++(aN [m.src]++jw m.proof))):=by
 refine ak 222 [] func158 ?_
 repeat' (conv=>arg 2;whnf);first|refine mA [0] (sG _) (.mk' rfl ⟨⟨rfl,rfl⟩,trivial⟩) (aa.refl _) rfl ?_|refine fo (mC [m.src] (by simp)) (by simp only[List.length_append] at hl ⊢;omega) ⟨⟨rfl,rfl⟩,trivial⟩ (aa.refl _) rfl ?_|refine fo (YQ m.proof hm.2.2.2.2.2.2.2.2.2.2.2.2.2.2.2.1) (by simp only[List.length_append] at hl ⊢;omega) ⟨⟨rfl,rfl⟩,trivial⟩ (aa.refl _) rfl ?_|refine sL (.inl rfl) rfl ⟨⟨rfl,rfl⟩,trivial⟩ (.refl _) ?_
 all_goals (first|rfl|simp)
theorem aa6 [Wd] (m:aD) (hm:bh.ok m) (hl:(aJ 8++(aN [m.src,m.view]++aJ (m.changes.length:Int)++m.changes.flatMap fq++aJ (m.entries.length:Int)++m.entries.flatMap gG)).length+700000000<=aL):bC prog 158 [.ptr 0 0,.agg (aC {m with kind:=8})] [.cells 220 [.nils]] (fun r h=>r=.aj []/\h=oW (aJ 8++(aN [m.src,m.view]++aJ (m.changes.length:Int)++m.changes.flatMap fq++aJ (m.entries.length:Int)++m.entries.flatMap gG))):=by
 refine ak 222 [] func158 ?_
 repeat' (conv=>arg 2;whnf);first|refine mA [0] (sG _) (.mk' rfl ⟨⟨rfl,rfl⟩,trivial⟩) (aa.refl _) rfl ?_|refine fo (mC [m.src,m.view] (by simp)) (by simp only[List.length_append] at hl ⊢;omega) ⟨⟨rfl,rfl⟩,trivial⟩ (aa.refl _) rfl ?_|refine fo (Bx _) (by simp only[List.length_append,List.length_map] at hl ⊢;omega) ⟨⟨rfl,rfl⟩,trivial⟩ (aa.refl _) rfl ?_
 conv=>arg 2;whnf
 refine bE (α:=Nat) (fun q=>⟨[(116,.int .i64 q),(115,.int .i64 (m.changes.map bU).length),(114,.list 8 (m.changes.map bU)),(3,.ptr 1 0),(0,.ptr 0 0)],[.cells 220 [.list 1 (((aJ 8++aN [m.src,m.view]++aJ ((m.changes.map bU).length:Nat))++(m.changes.take q).flatMap fq).map af)],.cells 59 (aC {m with kind:=8})]⟩) (fun q=>q<=m.changes.length) (fun q=>m.changes.length-q) 0 (Nat.zero_le _) (Sv.mk' [0,1] rfl ⟨⟨rfl,by simp;rfl⟩,⟨rfl,rfl⟩,trivial⟩ ⟨rfl,rfl,rfl,rfl,rfl,trivial⟩) ?_
 intro q hq
 have fL:m.changes.length<=4194304:=hm.2.2.2.2.2.2.2.2.2.2.1.1
 repeat' (conv=>arg 2;whnf);first|refine BS (fun hlt=>?_) (fun dm=>?_)|refine cK (by simpa using hlt) (fun x hx=>?_)|refine fo (Xg x (hm.2.2.2.2.2.2.2.2.2.2.1.2 x (List.mem_of_getElem? hx))) (by have:=wg fq hx;simp only[List.length_append,List.length_map] at hl this ⊢;omega) ⟨⟨rfl,rfl⟩,trivial⟩ (aa.refl _) rfl ?_|refine bZ (by simp at hlt;omega) ?_|refine aZ (q+1) (Sv.mk' [0,1] rfl ⟨⟨rfl,by rw[List.take_add_one,hx];simp[fq];rfl⟩,⟨rfl,rfl⟩,trivial⟩ ⟨rfl,rfl,rfl,rfl,rfl,trivial⟩) ?_ ?_|refine bq ?_|refine fo (Bx _) (by have:=DM fq m.changes q;simp only[List.length_append,List.length_map] at hl this ⊢;omega) ⟨⟨rfl,rfl⟩,trivial⟩ (aa.refl _) rfl ?_
 ·simp at hlt;omega
 ·simp at hlt;omega
 rw[show m.changes.take q=m.changes from List.take_of_length_le (by simpa using dm)]
 clear fL dm
 conv=>arg 2;whnf
 refine bE (α:=Nat) (fun q=>⟨[(134,.int .i64 q),(133,.int .i64 (m.entries.map dV).length),(132,.list 5 (m.entries.map dV)),(3,.ptr 1 0),(0,.ptr 0 0)],[.cells 220 [.list 1 (((aJ 8++aN [m.src,m.view]++aJ (m.changes.length:Int)++m.changes.flatMap fq++aJ ((m.entries.map dV).length:Nat))++(m.entries.take q).flatMap gG).map af)],.cells 59 (aC {m with kind:=8})]⟩) (fun q=>q<=m.entries.length) (fun q=>m.entries.length-q) 0 (Nat.zero_le _) (Sv.mk' [0,1] rfl ⟨⟨rfl,by simp;rfl⟩,⟨rfl,rfl⟩,trivial⟩ ⟨rfl,rfl,rfl,rfl,rfl,trivial⟩) ?_
 intro q hq
 have fL:m.entries.length<=4194304:=hm.2.2.2.2.2.2.2.2.2.2.2.1.1
 repeat' (conv=>arg 2;whnf);first|refine BS (fun hlt=>?_) (fun dm=>?_)|refine cK (by simpa using hlt) (fun x hx=>?_)|refine fo (mC [x.view,x.seq] (by simp)) (by have:=wg gG hx;simp only[gG,List.length_append,List.length_map] at hl this ⊢;omega) ⟨⟨rfl,rfl⟩,trivial⟩ (aa.refl _) rfl ?_|refine fo (FD x.batch (hm.2.2.2.2.2.2.2.2.2.2.2.1.2 x (List.mem_of_getElem? hx)).2.2.1) (by have:=wg gG hx;simp only[gG,List.length_append,List.length_map] at hl this ⊢;omega) ⟨⟨rfl,rfl⟩,trivial⟩ (aa.refl _) rfl ?_|refine fo (yl x.sign) (by have:=wg gG hx;simp only[gG,List.length_append,List.length_map] at hl this ⊢;omega) ⟨⟨rfl,rfl⟩,trivial⟩ (aa.refl _) rfl ?_|refine bZ (by simp at hlt;omega) ?_|refine aZ (q+1) (Sv.mk' [0,1] rfl ⟨⟨rfl,by rw[List.take_add_one,hx];simp[gG];rfl⟩,⟨rfl,rfl⟩,trivial⟩ ⟨rfl,rfl,rfl,rfl,rfl,trivial⟩) ?_ ?_|refine bq ?_|refine sL (.inl rfl) rfl ⟨⟨rfl,rfl⟩,trivial⟩ (.refl _) ?_
 ·simp at hlt;omega
 ·simp at hlt;omega
 ·rw[show m.entries.take q=m.entries from List.take_of_length_le (by simpa using dm)]
  simp
theorem Jq {n a b:Int} (h:cQ n a b=0):a<=n/\n<=b:=by
 unfold cQ at h
 split at h
 ·cases h
 ·omega
theorem aa7 {m:aD} (h:bP m=0):m.kind=1\/m.kind=2\/m.kind=3\/m.kind=4\/m.kind=5\/m.kind=6\/m.kind=7\/m.kind=8\/m.kind=9\/m.kind=10\/m.kind=11\/m.kind=12:=by
 unfold bP at h
 repeat' split at h
 all_goals omega
theorem sn (m:aD) {k:Int} (h:m.kind=k):({m with kind:=k}:aD)=m:=by
 subst h
 rfl
theorem xj [Wd] (m:aD) (hm:bh.ok m) (h0:bP m=0) (hl:(aO m).length+700000000<=aL):bC prog 158 [.ptr 0 0,.agg (aC m)] [.cells 220 [.nils]] (fun r h=>r=.aj []/\h=oW (aO m)):=by
 have h5:m.kind=5->(0<=m.result.err/\m.result.err<=9223372036854775807)/\(0<=m.result.offset/\m.result.offset<=9223372036854775807):=fun hk=>by
  simp only[bP,hk] at h0
  simp[bQ] at h0
  obtain⟨_,_,_,_,e1,e2⟩:=h0
  have:=Jq e1
  have:=Jq (show cQ m.result.offset 0 9007199254740992=0 from e2)
  omega
 have h7:m.kind=7->∃c,m.changes[0]?=some c:=fun hk=>by
  simp only[bP,hk] at h0
  simp[bQ] at h0
  have:=Jq h0.1
  exact⟨_,List.getElem?_eq_getElem (by omega)⟩
 rcases aa7 h0 with hk|hk|hk|hk|hk|hk|hk|hk|hk|hk|hk|hk
 ·have u:aO m=aJ 1++(jM m.batch):=by simp[aO,cT,hk]
  rw[u] at hl ⊢
  have r:=aaY m hm hl
  rwa [sn m hk] at r
 ·have u:aO m=aJ 2++(aN [m.src,m.view,m.seq,m.ah]++jM m.batch):=by simp[aO,cT,hk]
  rw[u] at hl ⊢
  have r:=aaZ m hm hl
  rwa [sn m hk] at r
 ·have u:aO m=aJ 3++(aN [m.src,m.view,m.seq,m.ah]):=by simp[aO,cT,hk]
  rw[u] at hl ⊢
  have r:=aa0 m hm hl
  rwa [sn m hk] at r
 ·have u:aO m=aJ 4++(aN [m.src,m.view,m.seq,m.ah]):=by simp[aO,cT,hk]
  rw[u] at hl ⊢
  have r:=aa1 m hm hl
  rwa [sn m hk] at r
 ·have u:aO m=aJ 5++(aN [m.src,m.view,m.bD,m.time]++wW m.result):=by simp[aO,cT,hk]
  rw[u] at hl ⊢
  have r:=aa2 m hm (h5 hk) hl
  rwa [sn m hk] at r
 ·have u:aO m=aJ 6++(aN [m.src,m.seq,m.ah]):=by simp[aO,cT,hk]
  rw[u] at hl ⊢
  have r:=aa3 m hm hl
  rwa [sn m hk] at r
 ·obtain⟨c,hc⟩:=h7 hk
  obtain⟨r,hr⟩:∃r,m.changes=c::r:=by
   cases hx:m.changes with
   |nil=>rw[hx] at hc;cases hc
   |cons d r=>rw[hx] at hc;cases hc;exact⟨r,rfl⟩
  have u:aO m=aJ 7++(jy c):=by simp[aO,cT,hk,hr]
  rw[u] at hl ⊢
  have r:=aa4 m hm hc hl
  rwa [sn m hk] at r
 ·have u:aO m=aJ 8++(aN [m.src,m.view]++aJ (m.changes.length:Int)++m.changes.flatMap fq++aJ (m.entries.length:Int)++m.entries.flatMap gG):=by simp[aO,cT,hk]
  rw[u] at hl ⊢
  have r:=aa6 m hm hl
  rwa [sn m hk] at r
 ·have u:aO m=aJ 9++(aN [m.src,m.seq]):=by simp[aO,cT,hk]
  rw[u] at hl ⊢
  have r:=aa5 m hm hl
  rwa [sn m hk] at r
 ·have u:aO m=aJ 10++(aN [m.src]++lR m.cert++cB m.state):=by simp[aO,cT,hk]
  rw[u] at hl ⊢
  have r:=YR m hm hl
  rwa [sn m hk] at r
 ·have u:aO m=aJ 11++(aN [m.bD]++cB m.av++aN [m.offset]):=by simp[aO,cT,hk]
  rw[u] at hl ⊢
  have r:=YS m hm hl
  rwa [sn m hk] at r
 ·have u:aO m=aJ 12++(aN [m.src]++jw m.proof):=by simp[aO,cT,hk]
  rw[u] at hl ⊢
  have r:=YT m hm hl
  rwa [sn m hk] at r
theorem C7 [Wd] (l:List bX) (hl:(dL fX).ok l):aq prog 296 [.list 9 (l.map bI)] (.int .i64 (fA l)):=Jn l hl
theorem Oo [Wd] (s:List UInt8) (hs:s.length<=4194304):nO 305 [.str s] (mh s):=by
 intro e
 refine ak 9 [] func305 ?_
 repeat' (conv=>arg 2;whnf);first|apply an<;>intro h|refine okF (Dw s hs) ?_|refine fQ 0 (yA _) ⟨⟨rfl,rfl⟩,trivial⟩ (aa.refl _) rfl ?_|refine pJ [0] (.inl rfl) rfl rfl ⟨⟨rfl,rfl⟩,trivial⟩ ⟨⟨rfl,rfl⟩,trivial⟩ (.refl _) ?_
 all_goals simp_all [mh,gH]
theorem IT [Wd] (c:gX) (hc:je.ok c):nO 303 [.agg (mj c)] (jl c):=by
 intro e
 refine ak 36 [] func303 ?_
 repeat' (conv=>arg 2;whnf);first|apply an<;>intro h|refine fQ 0 (wT _) ⟨⟨rfl,rfl⟩,trivial⟩ (aa.refl _) rfl ?_|refine fQ 0 (yA _) ⟨⟨rfl,rfl⟩,trivial⟩ (aa.refl _) rfl ?_|refine qq 0 (NX c.cM hc.2.2.1) ?_|refine pJ [0] (.inl rfl) rfl rfl ⟨⟨rfl,rfl⟩,trivial⟩ ⟨⟨rfl,rfl⟩,trivial⟩ (.refl _) ?_
 all_goals simp only[jl,eZ];by_cases h1:c.seq=0<;>by_cases h2:c.ah=0<;>by_cases h3:0<c.cM.length<;>simp_all [gu,show ∀a b:Int,(a==b)=decide (a=b) from fun _ _=>rfl]
theorem Xb [Wd] (p:jt) (hp:oC.ok p):nO 317 [.agg (fk p)] (jQ p):=by
 intro e
 refine ak 30 [] func317 ?_
 repeat' (conv=>arg 2;whnf);first|refine fQ 0 (wT _) ⟨⟨rfl,rfl⟩,trivial⟩ (aa.refl _) rfl ?_|refine fQ 0 (zy _) ⟨⟨rfl,rfl⟩,trivial⟩ (aa.refl _) rfl ?_|refine fQ 0 (yA _) ⟨⟨rfl,rfl⟩,trivial⟩ (aa.refl _) rfl ?_|refine qq 0 (NX p.cM hp.2.2.2.2.1.1) ?_|refine okF (Di p.kG) ?_|refine okF (C7 p.batch hp.2.2.2.2.2) ?_|refine pJ [0] (.inl rfl) rfl rfl ⟨⟨rfl,rfl⟩,trivial⟩ ⟨⟨rfl,rfl⟩,trivial⟩ (.refl _) ?_
 all_goals simp only[jQ,eZ]
theorem Xc [Wd] (m:aD):nO 297 [.agg (aC m)] (gI m):=by
 intro e
 refine ak 20 [] func297 ?_
 repeat' (conv=>arg 2;whnf);first|refine fQ 0 (EW _) ⟨⟨rfl,rfl⟩,trivial⟩ (aa.refl _) rfl ?_|refine fQ 0 (wT _) ⟨⟨rfl,rfl⟩,trivial⟩ (aa.refl _) rfl ?_|refine fQ 0 (zy _) ⟨⟨rfl,rfl⟩,trivial⟩ (aa.refl _) rfl ?_|refine pJ [0] (.inl rfl) rfl rfl ⟨⟨rfl,rfl⟩,trivial⟩ ⟨⟨rfl,rfl⟩,trivial⟩ (.refl _) ?_
 all_goals simp only[gI,eZ]
theorem NG [Wd] (c:cX) (hc:fP.ok c):nO 301 [.agg (bU c)] (ir c):=by
 intro e
 refine ak 39 [] func301 ?_
 repeat' (conv=>arg 2;whnf);first|refine fQ 0 (zy _) ⟨⟨rfl,rfl⟩,trivial⟩ (aa.refl _) rfl ?_|refine fQ 0 (EW _) ⟨⟨rfl,rfl⟩,trivial⟩ (aa.refl _) rfl ?_|refine qq 0 (IT c.cert hc.2.2.1) ?_|refine fQ 0 (zm _ _) ⟨⟨rfl,rfl⟩,trivial⟩ (aa.refl _) rfl ?_
 conv=>arg 2;whnf
 refine bE (α:=Nat×Int) (fun a=>⟨[(26,.int .i64 a.1),(25,.int .i64 (c.cD.map fk).length),(24,.list 7 (c.cD.map fk)),(3,.ptr 1 0),(0,.ptr 0 0)],[.cells 320 [.int .i64 a.2],.cells 145 (bU c)]⟩) (fun a=>a.1<=c.cD.length/\a.2=aF (aF (aF (aF (aF e (gd c.view)) (ke c.src)) (jl c.cert)) (jd c.cD.length 8)) (bG jQ (c.cD.take a.1))) (fun a=>c.cD.length-a.1) (0,aF (aF (aF (aF e (gd c.view)) (ke c.src)) (jl c.cert)) (cQ ((c.cD.map fk).length:Nat) 0 8)) ⟨Nat.zero_le _,by simp[bG,gH,jd]⟩ (Sv.aK [0,1]) ?_
 rintro⟨q,e'⟩ ⟨hq,he⟩
 have hl:c.cD.length<=4194304:=hc.2.2.2.1.1
 repeat' (conv=>arg 2;whnf);first|apply an<;>intro h|refine cK (by simpa using h) (fun x hx=>?_)|refine qq 0 (Xb x (hc.2.2.2.1.2 x (List.mem_of_getElem? hx))) ?_|refine okF (Di c.sign) ?_|refine fQ 0 (yA _) ⟨⟨rfl,rfl⟩,trivial⟩ (aa.refl _) rfl ?_|refine bZ (by simp at h hq;omega) ?_|refine aZ (q+1,_) (Sv.aK [0,1] rfl rfl rfl) ⟨?_,?_⟩ ?_|refine pJ [0] (.inl rfl) rfl rfl ⟨⟨rfl,rfl⟩,trivial⟩ ⟨⟨rfl,rfl⟩,trivial⟩ (.refl _) ?_
 ·show q+1<=c.cD.length
  simp at h;omega
 ·show aF e' (jQ x)=_
  rw[oF jQ hx,<-eZ,<-he]
  try simp only[jQ,eZ]
 ·simp at h ⊢;omega
 ·rw[he,show c.cD.take q=c.cD from List.take_of_length_le (by simp at h;omega)]
  simp only[ir,eZ]
theorem YN [Wd] (m:aD) (hm:bh.ok m):nO 302 [.agg (aC m)] (iP m):=by
 intro e
 refine ak 63 [] func302 ?_
 repeat' (conv=>arg 2;whnf);first|refine fQ 0 (EW _) ⟨⟨rfl,rfl⟩,trivial⟩ (aa.refl _) rfl ?_|refine fQ 0 (zy _) ⟨⟨rfl,rfl⟩,trivial⟩ (aa.refl _) rfl ?_|refine fQ 0 (zm _ _) ⟨⟨rfl,rfl⟩,trivial⟩ (aa.refl _) rfl ?_
 conv=>arg 2;whnf
 refine bE (α:=Nat×Int) (fun a=>⟨[(24,.int .i64 a.1),(23,.int .i64 (m.changes.map bU).length),(22,.list 8 (m.changes.map bU)),(3,.ptr 1 0),(0,.ptr 0 0)],[.cells 320 [.int .i64 a.2],.cells 59 (aC m)]⟩) (fun a=>a.1<=m.changes.length/\a.2=aF (aF (aF (aF e (ke m.src)) (gd m.view)) (jd m.changes.length 13)) (bG ir (m.changes.take a.1))) (fun a=>m.changes.length-a.1) (0,aF (aF (aF e (ke m.src)) (gd m.view)) (cQ ((m.changes.map bU).length:Nat) 0 13)) ⟨Nat.zero_le _,by simp[bG,gH,jd]⟩ (Sv.aK [0,1]) ?_
 rintro⟨q,e'⟩ ⟨hq,he⟩
 have hl:m.changes.length<=4194304:=hm.2.2.2.2.2.2.2.2.2.2.1.1
 repeat' (conv=>arg 2;whnf);first|apply an<;>intro h|refine cK (by simpa using h) (fun x hx=>?_)|refine qq 0 (NG x (hm.2.2.2.2.2.2.2.2.2.2.1.2 x (List.mem_of_getElem? hx))) ?_|refine fQ 0 (zm _ _) ⟨⟨rfl,rfl⟩,trivial⟩ (aa.refl _) rfl ?_|refine bZ (by simp at h hq;omega) ?_|refine aZ (q+1,_) (Sv.aK [0,1] rfl rfl rfl) ⟨?_,?_⟩ ?_
 ·show q+1<=m.changes.length
  simp at h;omega
 ·show aF e' (ir x)=_
  rw[oF ir hx,<-eZ,<-he]
  try simp only[ir,eZ]
 ·simp at h ⊢;omega
 rw[show m.changes.take q=m.changes from List.take_of_length_le (by simp at h;omega)] at he
 replace he:e'=_:=he
 clear hq h hl
 generalize hE:e'=e1 at he
 clear hE e'
 conv=>arg 2;whnf
 refine bE (α:=Nat×Int) (fun a=>⟨[(40,.int .i64 a.1),(39,.int .i64 (m.entries.map dV).length),(38,.list 5 (m.entries.map dV)),(3,.ptr 1 0),(0,.ptr 0 0)],[.cells 320 [.int .i64 a.2],.cells 59 (aC m)]⟩) (fun a=>a.1<=m.entries.length/\a.2=aF (aF (e1) (jd m.entries.length 8)) (bG mM (m.entries.take a.1))) (fun a=>m.entries.length-a.1) (0,aF (e1) (cQ ((m.entries.map dV).length:Nat) 0 8)) ⟨Nat.zero_le _,by simp[bG,gH,jd]⟩ (Sv.aK [0,1]) ?_
 rintro⟨q,e'⟩ ⟨hq,uT⟩
 have hl:m.entries.length<=4194304:=hm.2.2.2.2.2.2.2.2.2.2.2.1.1
 repeat' (conv=>arg 2;whnf);first|apply an<;>intro h|refine cK (by simpa using h) (fun x hx=>?_)|refine fQ 0 (wT _) ⟨⟨rfl,rfl⟩,trivial⟩ (aa.refl _) rfl ?_|refine fQ 0 (zy _) ⟨⟨rfl,rfl⟩,trivial⟩ (aa.refl _) rfl ?_|refine okF (C7 x.batch (hm.2.2.2.2.2.2.2.2.2.2.2.1.2 x (List.mem_of_getElem? hx)).2.2.1) ?_|refine okF (Di x.sign) ?_|refine fQ 0 (yA _) ⟨⟨rfl,rfl⟩,trivial⟩ (aa.refl _) rfl ?_|refine bZ (by simp at h hq;omega) ?_|refine aZ (q+1,aF (aF (aF (aF e' (cP x.view)) (gd x.seq)) (fA x.batch)) (dw x.sign)) (Sv.aK [0,1]) ⟨?_,?_⟩ ?_|refine bq ?_|refine pJ [0] (.inl rfl) rfl rfl ⟨⟨rfl,rfl⟩,trivial⟩ ⟨⟨rfl,rfl⟩,trivial⟩ (.refl _) ?_
 ·show q+1<=m.entries.length
  simp at h;omega
 ·show aF (aF (aF (aF e' (cP x.view)) (gd x.seq)) (fA x.batch)) (dw x.sign)=_
  rw[oF mM hx,<-eZ,<-uT]
  try simp only[mM,eZ]
 ·simp at h ⊢;omega
 ·rw[uT,show m.entries.take q=m.entries from List.take_of_length_le (by simp at h;omega),he]
  simp only[iP,eZ]
theorem ad1 (a i c:Int):aF (aF a (cQ c 0 16)) (cQ i 0 (IntKind.i64.wrap (c-1)))=aF (aF a (cQ c 0 16)) (cQ i 0 (c-1)):=by
 by_cases h:0<=c/\c<=16
 ·rw[cj (by omega) (by omega)]
 ·have h0:cQ c 0 16≠0:=by unfold cQ;split<;>omega
  have h1:aF a (cQ c 0 16)≠0:=by unfold aF;split<;>assumption
  have h2:∀x,aF (aF a (cQ c 0 16)) x=aF a (cQ c 0 16):=fun x=>by rw[aF,if_neg h1]
  rw[h2,h2]
theorem Wa [Wd] (p:jX) (hp:jY.ok p):nO 306 [.agg (jv p)] (mB p):=by
 intro e
 refine ak 93 [] func306 ?_
 repeat' (conv=>arg 2;whnf);first|refine qq 0 (Oo p.av hp.1) ?_|refine fQ 0 (wT _) ⟨⟨rfl,rfl⟩,trivial⟩ (aa.refl _) rfl ?_|refine fQ 0 (zm _ _) ⟨⟨rfl,rfl⟩,trivial⟩ (aa.refl _) rfl ?_
 conv=>arg 2;whnf
 refine bE (α:=Nat×Int) (fun a=>⟨[(31,.int .i64 a.1),(30,.int .i64 (p.headers.map eO).length),(29,.list 5 (p.headers.map eO)),(3,.ptr 1 0),(0,.ptr 0 0)],[.cells 320 [.int .i64 a.2],.cells 55 (jv p)]⟩) (fun a=>a.1<=p.headers.length/\a.2=aF (aF (aF (aF (aF e (mh p.av)) (cP p.offset)) (cQ ((p.record.map af).length:Nat) 0 64)) (jd p.headers.length 64)) (bG mN (p.headers.take a.1))) (fun a=>p.headers.length-a.1) (0,aF (aF (aF (aF e (mh p.av)) (cP p.offset)) (cQ ((p.record.map af).length:Nat) 0 64)) (cQ ((p.headers.map eO).length:Nat) 0 64)) ⟨Nat.zero_le _,by simp[bG,gH,jd]⟩ (Sv.aK [0,1]) ?_
 rintro⟨q,e'⟩ ⟨hq,he⟩
 have hl:p.headers.length<=4194304:=hp.2.2.2.1.1
 repeat' (conv=>arg 2;whnf);first|refine an (fun h=>?_) (fun h=>?_)|refine cK (by simpa using h) (fun x hx=>?_)|refine fQ 0 (zy _) ⟨⟨rfl,rfl⟩,trivial⟩ (aa.refl _) rfl ?_|refine fQ 0 (wT _) ⟨⟨rfl,rfl⟩,trivial⟩ (aa.refl _) rfl ?_|refine fQ 0 (zm _ _) ⟨⟨rfl,rfl⟩,trivial⟩ (aa.refl _) rfl ?_|refine fQ 0 (BR _ _ _) ⟨⟨rfl,rfl⟩,trivial⟩ (aa.refl _) rfl ?_
 case refine_1=>
  have hh:=h
  clear h
  conv=>arg 2;whnf
  refine bE (α:=Nat×Int) (fun a=>⟨[(49,.int .i64 a.1),(48,.int .i64 ([x.prev,x.batch,x.root,x.state].map eD).length),(47,.list 1 ([x.prev,x.batch,x.root,x.state].map eD)),(31,.int .i64 q),(30,.int .i64 (p.headers.map eO).length),(29,.list 5 (p.headers.map eO)),(3,.ptr 1 0),(0,.ptr 0 0)],[.cells 320 [.int .i64 a.2],.cells 55 (jv p)]⟩) (fun a=>a.1<=4/\a.2=aF (aF e' (gd x.seq)) (bG cP ([x.prev,x.batch,x.root,x.state].take a.1))) (fun a=>4-a.1) (0,aF e' (gd x.seq)) ⟨Nat.zero_le _,by simp[bG,gH]⟩ (Sv.aK [0,1]) ?_
  rintro⟨i,e2⟩ ⟨hi,uT⟩
  repeat' (conv=>arg 2;whnf);first|refine an (fun h=>?_) (fun h=>?_)|refine cK (by simp at h ⊢;omega) (fun y hy=>?_)|refine fQ 0 (wT _) ⟨⟨rfl,rfl⟩,trivial⟩ (aa.refl _) rfl ?_|refine bZ (by simp at h hi;omega) ?_|refine aZ (i+1,_) (Sv.aK [0,1] rfl rfl rfl) ⟨?_,?_⟩ ?_|refine bq ?_|refine aZ (q+1,_) (Sv.aK [0,1] rfl rfl rfl) ⟨?_,?_⟩ ?_
  ·show i+1<=4
   simp at h;omega
  ·show aF e2 (cP y)=_
   rw[oF cP hy,<-eZ,<-uT]
  ·simp at h ⊢;omega
  ·show q+1<=p.headers.length
   simp at hh;omega
  ·show e2=_
   rw[show i=4 by simp at h hi;omega] at uT
   have oS:e2=aF (aF e' (gd x.seq)) (bG cP [x.prev,x.batch,x.root,x.state]):=uT
   rw[oF mN hx,<-eZ,<-he,oS]
   simp only[mN,bG,gH,eZ]
  ·simp at hh ⊢;omega
 rw[show p.headers.take q=p.headers from List.take_of_length_le (by simp at h;omega)] at he
 replace he:e'=_:=he
 clear hq h hl
 generalize hE:e'=e1 at he
 clear hE e'
 conv=>arg 2;whnf
 refine bE (α:=Nat×Int) (fun a=>⟨[(81,.int .i64 a.1),(80,.int .i64 (p.path.map eD).length),(79,.list 1 (p.path.map eD)),(3,.ptr 1 0),(0,.ptr 0 0)],[.cells 320 [.int .i64 a.2],.cells 55 (jv p)]⟩) (fun a=>a.1<=p.path.length/\a.2=aF (aF (aF (aF (aF e1 (cP p.index)) (cQ p.count 0 16)) (cQ p.index 0 (IntKind.i64.wrap (p.count-1)))) (cQ ((p.path.map eD).length:Nat) 0 8)) (bG cP (p.path.take a.1))) (fun a=>p.path.length-a.1) (0,aF (aF (aF (aF e1 (cP p.index)) (cQ p.count 0 16)) (cQ p.index 0 (IntKind.i64.wrap (p.count-1)))) (cQ ((p.path.map eD).length:Nat) 0 8)) ⟨Nat.zero_le _,by simp[bG,gH]⟩ (Sv.aK [0,1]) ?_
 rintro⟨q,e'⟩ ⟨hq,uT⟩
 have hl:p.path.length<=4194304:=hp.2.2.2.2.2.2.1.1
 repeat' (conv=>arg 2;whnf);first|refine an (fun h=>?_) (fun h=>?_)|refine cK (by simpa using h) (fun x hx=>?_)|refine fQ 0 (wT _) ⟨⟨rfl,rfl⟩,trivial⟩ (aa.refl _) rfl ?_|refine qq 0 (IT p.cert hp.2.2.2.2.2.2.2) ?_|refine bZ (by simp at h hq;omega) ?_|refine aZ (q+1,_) (Sv.aK [0,1] rfl rfl rfl) ⟨?_,?_⟩ ?_|refine pJ [0] (.inl rfl) rfl rfl ⟨⟨rfl,rfl⟩,trivial⟩ ⟨⟨rfl,rfl⟩,trivial⟩ (.refl _) ?_
 ·show q+1<=p.path.length
  simp at h;omega
 ·show aF e' (cP x)=_
  rw[oF cP hx,<-eZ,<-uT]
  try simp only[cP,eZ]
 ·simp at h ⊢;omega
 ·rw[uT,ad1,show p.path.take q=p.path from List.take_of_length_le (by simp at h;omega),he]
  simp only[mB,jd,List.length_map,eZ]
theorem Lc [Wd] {P:Program} {Q:Exit->S->Prop} {a b:Nat} {t f:T} (h1:a<b->t.ok P Q) (h2:b<=a->f.ok P Q):(bT (decide ((a:Int)<(b:Int))) t f).ok P Q:=
 an (fun h=>h1 (by simpa using h)) (fun h=>h2 (by simpa using h))
theorem iZ [Wd] (k:Int):aq prog 156 [.int .i64 k] (.bool (bW k)):=
 bC.old (v:=.bool (bW k)) (fun _ _=>.bool _) (by kernel_rfl) (fun w I vs hv=>by
  obtain⟨v,rfl,h⟩:=hv.vR
  cases h
  exact Xd) rfl
set_option maxHeartbeats 20000000 in
theorem YO [Wd] (m:aD) (hm:bh.ok m):nO 261 [.agg (aC m)] (eX m):=by
 intro e
 refine ak 174 [] func261 ?_
 repeat'
  first
  |(rintro⟨q,e'⟩ ⟨hq,he⟩)
  |((conv=>arg 2;whnf)
    first|refine Lc (fun hlt=>?_) (fun dm=>?_)|apply an<;>intro h|refine cK (by simpa using hlt) (fun x hx=>?_)|refine fQ 0 (BR _ _ _) ⟨⟨rfl,rfl⟩,trivial⟩ (aa.refl _) rfl ?_|refine fQ 0 (wT _) ⟨⟨rfl,rfl⟩,trivial⟩ (aa.refl _) rfl ?_|refine fQ 0 (zy _) ⟨⟨rfl,rfl⟩,trivial⟩ (aa.refl _) rfl ?_|refine fQ 0 (EW _) ⟨⟨rfl,rfl⟩,trivial⟩ (aa.refl _) rfl ?_|refine fQ 0 (zm _ _) ⟨⟨rfl,rfl⟩,trivial⟩ (aa.refl _) rfl ?_|refine fQ 0 (yA _) ⟨⟨rfl,rfl⟩,trivial⟩ (aa.refl _) rfl ?_|refine qq 0 (Xc m) ?_|refine qq 0 (YN m hm) ?_|refine qq 0 (IT m.cert hm.2.2.2.2.2.2.2.2.2.1) ?_|refine qq 0 (Wa m.proof hm.2.2.2.2.2.2.2.2.2.2.2.2.2.2.2.1) ?_|refine qq 0 (Oo m.av hm.2.2.2.2.2.2.2.2.2.2.2.2.2.1) ?_|refine qq 0 (NG x (hm.2.2.2.2.2.2.2.2.2.2.1.2 x (List.mem_of_getElem? hx))) ?_|refine okF (iZ _) ?_|refine okF (Di m.sign) ?_|refine okF (C7 m.batch hm.2.2.2.2.2.2.2.2.1) ?_|refine bw (cj (by simp at hlt hq;omega) (by have:=hm.2.2.2.2.2.2.2.2.2.2.1.1;simp at hlt hq this;omega)) ?_|refine aZ (q+1,aF (aF e' (ir x)) 100) (Sv.aK [0,1]) ⟨?_,?_⟩ ?_|refine aZ (q+1,aF e' (ir x)) (Sv.aK [0,1]) ⟨?_,?_⟩ ?_|refine bE (α:=Nat×Int) (fun a=>⟨[(90,.int .i64 a.1),(89,.int .i64 (m.changes.map bU).length),(88,.list 8 (m.changes.map bU)),(3,.ptr 1 0),(0,.ptr 0 0)],[.cells 320 [.int .i64 a.2],.cells 59 (aC m)]⟩) (fun a=>a.1<=m.changes.length/\a.2=aF (aF e (cQ ((m.changes.map bU).length:Nat) 1 1)) (bG (rK m) (m.changes.take a.1))) (fun a=>m.changes.length-a.1) (0,aF e (cQ ((m.changes.map bU).length:Nat) 1 1)) ⟨Nat.zero_le _,by simp[bG,gH]⟩ (Sv.aK [0,1]) ?_|refine pJ [0] (.inl rfl) rfl rfl ⟨⟨rfl,rfl⟩,trivial⟩ ⟨⟨rfl,rfl⟩,trivial⟩ (.refl _) ?_
   )
 all_goals first|(show q+1<=m.changes.length;simp at hlt;omega)|(show m.changes.length-(q+1)<m.changes.length-q;simp at hlt;omega)|(show aF (aF e' (ir x)) 100=_;rw[oF (rK m) hx,<-eZ,<-he];clear he;simp_all [rK,eZ])|(show aF e' (ir x)=_;rw[oF (rK m) hx,<-eZ,<-he];clear he;simp_all [rK,gH])|(rw[he,List.take_of_length_le (by simpa using dm)];clear he;simp_all [eX,bP,bW,eZ,gH])|simp_all [eX,bP,bW,jd,eZ,gH]
set_option maxHeartbeats 20000000 in
theorem acM [Wd] (x:aD):aq prog 262 [.agg (aC x)] (.agg (aC (aH x))):=by
 refine ak 114 [] func262 ?_
 repeat' (conv=>arg 2;whnf);first|apply an<;>intro h|refine okF (iZ _) ?_
 all_goals (refine j5 rfl (aa.eU ?_))
 all_goals simp only[beq_iff_eq,beq_eq_false_iff_ne,ne_eq] at*
 all_goals simp_all [aH,bW,aC,aE]
 all_goals (repeat' first|exact aa.nil|exact Co.refl _|exact Co.nil _|refine aa.cons ?_ ?_)
theorem vS:bh.ok aE:=by
 simp[bh,mZ,je,jY,iO,dM,dP,dI,dS,dY,dL,aE,me,nk,oJ,dx]
theorem ad2 {P:aD->Prop} {c:Prop} [Decidable c] {a b:aD} (h1:P a) (h2:P b):P (if c then a else b):=by
 by_cases h:c
 ·rw[if_pos h];exact h1
 ·rw[if_neg h];exact h2
set_option maxHeartbeats 20000000 in
theorem Qn {m:aD} (hm:bh.ok m):bh.ok (aH m):=by
 obtain⟨h1,h2,h3,h4,h5,h6,h7,h8,h9,kN,iG,rR,rS,tT,tU,nW,tV⟩:=hm
 obtain⟨z1,z2,z3,z4,z5,z6,z7,z8,z9,iW,nY,z12,nZ,og,oh,om,uU⟩:=vS
 have hs:iO.ok (if bW m.kind then m.sign else dx):=by split;exact tV;exact uU
 unfold aH
 simp only
 generalize (if bW m.kind=true then m.sign else dx)=s at hs ⊢
 repeat' refine ad2 (P:=bh.ok) ?_ ?_
 all_goals exact⟨h1,by first|exact h2|exact z2,by first|exact h3|exact z3,by first|exact h4|exact z4,by first|exact h5|exact z5,by first|exact h6|exact z6,by first|exact h7|exact z7,by first|exact h8|exact z8,by first|exact h9|exact z9,by first|exact kN|exact iW,by first|exact iG|exact nY,by first|exact rR|exact z12,by first|exact rS|exact nZ,by first|exact tT|exact og,by first|exact tU|exact oh,by first|exact nW|exact om,hs⟩
theorem Jp (x:aD):eC x=if(eX x==0)&&!cx x (aH x) then 100 else eX x:=by
 unfold eC
 by_cases h1:eX x=0<;>by_cases h2:x=aH x
 ·rw[if_neg (fun h=>h.2 h2),zz h2];simp
 ·rw[if_pos ⟨h1,h2⟩,Bi h2];simp[h1]
 ·rw[if_neg (fun h=>h1 h.1)];simp[h1]
 ·rw[if_neg (fun h=>h1 h.1)];simp[h1]
theorem zN [Wd] (m:aD) (hm:bh.ok m):aq prog 205 [.agg (aC m)] (.int .i64 (eC m)):=by
 refine ak 18 [] func205 ?_
 repeat' (conv=>arg 2;whnf);first|apply an<;>intro h|refine qq 1 (YO m hm) ?_|refine okF (acM m) ?_|refine okF (Qo m (aH m) hm (Qn hm)) ?_|refine cF ?_
 all_goals rw[Jp]
 all_goals simp_all [gu]
theorem GI [Wd] {Q:Exit->S->Prop} {f:FuncId} {ar bR:List D} {add bs:List UInt8} {hb:List AO} {c:D->List AO->T} (hF:tR f ar add) (hl:(bs++add).length+700000000<=aL) (hv:jF hb [1] [1] (oW bs)) (hc:aa bR (D.bO.rl [1] (.ptr 0 0::ar))) (hM:([1].all fun o=>(jT hb bR).elem o)=true) (k:(c (.aj []) (lK hb [1] (oW bs) (oW (bs++add)))).ok prog Q):(T.call f bR hb c).ok prog Q:=
 mA [1] (hF bs hl) (.mk' rfl hv) hc hM k
theorem YU [Wd] (m:aD) (hm:bh.ok m) {c:cX} (h7:m.changes[0]?=some c) (hk:(m.kind==7)=true) (h0:eC m=0) (cm:bP m=0) (hl:(aO m).length+800000000<=aL) (hb:¬262144<(aO m++cG c.sign).length):aq prog 157 [.agg (aC m)] (.aj [.list 1 ((aO m++cG c.sign).map af),.int .i64 0]):=by
 refine ak 39 [] func157 ?_
 repeat' (conv=>arg 2;whnf);first|apply an<;>intro h|refine okF (zN m hm) ?_|refine cV [1] (xj m hm cm (by omega)) ?_|refine eT (bU c) (by decide) (by simp[h7]) ?_|refine okF (iZ _) ?_|refine GI (yl c.sign) (by have:=FY c.sign;rw[List.length_append];omega) ⟨⟨rfl,rfl⟩,trivial⟩ (aa.refl _) rfl ?_|refine cV [1] (Jo (aO m++cG c.sign) hb) ?_|refine cg|(exfalso;simp_all;done)
theorem Xh [Wd] (m:aD) (hm:bh.ok m) {c:cX} (h7:m.changes[0]?=some c) (hk:(m.kind==7)=true) (h0:eC m=0) (cm:bP m=0) (hl:(aO m).length+800000000<=aL) (hb:262144<(aO m++cG c.sign).length):aq prog 157 [.agg (aC m)] (.aj [.nils,.int .i64 3]):=by
 refine ak 39 [] func157 ?_
 repeat' (conv=>arg 2;whnf);first|apply an<;>intro h|refine okF (zN m hm) ?_|refine cV [1] (xj m hm cm (by omega)) ?_|refine eT (bU c) (by decide) (by simp[h7]) ?_|refine okF (iZ _) ?_|refine GI (yl c.sign) (by have:=FY c.sign;rw[List.length_append];omega) ⟨⟨rfl,rfl⟩,trivial⟩ (aa.refl _) rfl ?_|refine cV [1] (IU (aO m++cG c.sign) hb) ?_|refine cg|(exfalso;simp_all;done)
theorem YV [Wd] (m:aD) (hm:bh.ok m) (hk:(m.kind==7)=false) (hs:bW m.kind=true) (h0:eC m=0) (cm:bP m=0) (hl:(aO m).length+800000000<=aL) (hb:¬262144<(aO m++cG m.sign).length):aq prog 157 [.agg (aC m)] (.aj [.list 1 ((aO m++cG m.sign).map af),.int .i64 0]):=by
 refine ak 39 [] func157 ?_
 repeat' (conv=>arg 2;whnf);first|apply an<;>intro h|refine okF (zN m hm) ?_|refine cV [1] (xj m hm cm (by omega)) ?_|refine okF (iZ _) ?_|refine GI (yl m.sign) (by have:=FY m.sign;rw[List.length_append];omega) ⟨⟨rfl,rfl⟩,trivial⟩ (aa.refl _) rfl ?_|refine cV [1] (Jo (aO m++cG m.sign) hb) ?_|refine cg|(exfalso;simp_all;done)
theorem Xi [Wd] (m:aD) (hm:bh.ok m) (hk:(m.kind==7)=false) (hs:bW m.kind=true) (h0:eC m=0) (cm:bP m=0) (hl:(aO m).length+800000000<=aL) (hb:262144<(aO m++cG m.sign).length):aq prog 157 [.agg (aC m)] (.aj [.nils,.int .i64 3]):=by
 refine ak 39 [] func157 ?_
 repeat' (conv=>arg 2;whnf);first|apply an<;>intro h|refine okF (zN m hm) ?_|refine cV [1] (xj m hm cm (by omega)) ?_|refine okF (iZ _) ?_|refine GI (yl m.sign) (by have:=FY m.sign;rw[List.length_append];omega) ⟨⟨rfl,rfl⟩,trivial⟩ (aa.refl _) rfl ?_|refine cV [1] (IU (aO m++cG m.sign) hb) ?_|refine cg|(exfalso;simp_all;done)
theorem YW [Wd] (m:aD) (hm:bh.ok m) (hk:(m.kind==7)=false) (hs:bW m.kind=false) (h0:eC m=0) (cm:bP m=0) (hl:(aO m).length+800000000<=aL) (hb:¬262144<(aO m).length):aq prog 157 [.agg (aC m)] (.aj [.list 1 ((aO m).map af),.int .i64 0]):=by
 refine ak 39 [] func157 ?_
 repeat' (conv=>arg 2;whnf);first|apply an<;>intro h|refine okF (zN m hm) ?_|refine cV [1] (xj m hm cm (by omega)) ?_|refine okF (iZ _) ?_|refine cV [1] (Jo (aO m) hb) ?_|refine cg|(exfalso;simp_all;done)
theorem Xj [Wd] (m:aD) (hm:bh.ok m) (hk:(m.kind==7)=false) (hs:bW m.kind=false) (h0:eC m=0) (cm:bP m=0) (hl:(aO m).length+800000000<=aL) (hb:262144<(aO m).length):aq prog 157 [.agg (aC m)] (.aj [.nils,.int .i64 3]):=by
 refine ak 39 [] func157 ?_
 repeat' (conv=>arg 2;whnf);first|apply an<;>intro h|refine okF (zN m hm) ?_|refine cV [1] (xj m hm cm (by omega)) ?_|refine okF (iZ _) ?_|refine cV [1] (IU (aO m) hb) ?_|refine cg|(exfalso;simp_all;done)
theorem E9 [Wd] (m:aD) (hm:bh.ok m) (h0:¬eC m=0):aq prog 157 [.agg (aC m)] (.aj [.nils,.int .i64 (eC m)]):=by
 refine ak 39 [] func157 ?_
 repeat' (conv=>arg 2;whnf);first|apply an<;>intro h|refine okF (zN m hm) ?_|refine cg|(exfalso;simp_all;done)
section
section
variable {Q:Exit->S->Prop}
end
theorem drop_at {α:Type} {l:List α} {q:Nat} {x:α} (h:l[q]?=some x):l.drop q=x::l.drop (q+1):=by
 obtain⟨h1,h2⟩:=List.getElem?_eq_some_iff.1 h
 rw[<-h2,List.getElem_cons_drop]
end
section
abbrev RS:=List UInt8×Int
abbrev dn (s:RS):List AO:=[.cells 235 [.list 1 (s.1.map af),.int .i64 s.2,.bool true]]
def fF (k:Int) (s:RS):RS:=if s.2=0 then(s.1,k) else s
def cy (most:Nat) (s:RS):Nat×RS:=
 if s.2=0 then(if(eH most 0 0 s.1).2.2=0 then((eH most 0 0 s.1).1,((eH most 0 0 s.1).2.1,0)) else(0,(s.1,(eH most 0 0 s.1).2.2))) else(0,s)
def fR (n:Int) (s:RS):List UInt8×RS:=
 if s.2=0 then(if n<0 then([],(s.1,1)) else if(s.1.length:Int)<n then([],(s.1,10)) else(s.1.take n.toNat,(s.1.drop n.toNat,0))) else([],s)
def dA (s:RS):Int:=if s.2=0 then(if s.1=[] then 0 else 12) else s.2
abbrev gz [Wd] (f:FuncId) (a0:D) (ar:List D) (R:RS->D) (F:RS->RS):Prop:=∀s:RS,s.1.length<=8388609->bC prog f (a0::ar) (dn s) (fun r h=>r=R s/\h=dn (F s))
section
variable {Q:Exit->S->Prop}
theorem GY [Wd] {f:FuncId} {a0:D} {ar bR:List D} {R:RS->D} {F:RS->RS} {hb:List AO} {c:D->List AO->T} (o:Nat) (s s':RS) (r:D) (hF:gz f a0 ar R F) (hs:s.1.length<=8388609) (e:s'=F s) (er:r=R s) (hv:jF hb [o] [o] (dn s)) (hc:aa bR (D.bO.rl [o] (a0::ar))) (hM:([o].all fun o=>(jT hb bR).elem o)=true) (kk:(c (r.bO (mz hb [o] (dn s) (dn s'))) (lK hb [o] (dn s) (dn s'))).ok prog Q):(T.call f bR hb c).ok prog Q:=by
 subst e er
 exact mA [o] (hF s hs) (.mk' rfl hv) hc hM kk
theorem cE [Wd] {f:FuncId} {a0:D} {ar bR:List D} {R:RS->D} {F:RS->RS} {hb:List AO} {c:D->List AO->T} (o:Nat) (s s':RS) (r:D) (hF:gz f a0 ar R F) (hs:s.1.length<=8388609) (e:s'=F s) (er:r=R s) (kk:(c (r.bO (mz hb [o] (dn s) (dn s'))) (lK hb [o] (dn s) (dn s'))).ok prog Q) (hv:jF hb [o] [o] (dn s):=by exact⟨⟨rfl,rfl⟩,trivial⟩) (hc:aa bR (D.bO.rl [o] (a0::ar)):=by exact aa.refl _) (hM:([o].all fun o=>(jT hb bR).elem o)=true:=by exact rfl):(T.call f bR hb c).ok prog Q:=
 GY o s s' r hF hs e er hv hc hM kk
theorem mQ [Wd] {tb:TT} {rs:List ResultVar} {ex:Exit} {S0:S} {x:List UInt8} {y:Int} {s s':RS} {d R:D} {ds:List D} (he:ex=.normal\/ex=.ret) (hr:iD tb S0 rs=some ds) {ys:List (List D)} (hv:jF S0.h [0] [0] [.cells 235 [.list 1 ys,.int .i64 y,.bool true]]) (hy:ys=x.map af) (iw:Co (lI ds) (d.bO [0])) (hx:(x,y)=s') (hd:d=R):(T.leaf ex S0).ok prog (Lf tb rs (dn s) (fun r h=>r=R/\h=dn s')):=by
 subst hx hd hy
 exact mL [0] he hr rfl hv ⟨⟨rfl,rfl⟩,trivial⟩ iw
end
section
variable {Q:Exit->S->Prop}
theorem aX [Wd] {f:FuncId} {a0:D} {ar bR:List D} {R:RS->D} {F:RS->RS} {hb:List AO} {c:D->List AO->T} {α:Type} {p:RS->α×RS} {s s':RS} {x:α} (o:Nat) (k:α->D) (q:p s=(x,s')) (hF:gz f a0 ar R F) (hs:s.1.length<=8388609) (kk:(c ((k x).bO (mz hb [o] (dn s) (dn s'))) (lK hb [o] (dn s) (dn s'))).ok prog Q) (e:(p s).2=F s:=by exact rfl) (er:k (p s).1=R s:=by exact rfl) (hv:jF hb [o] [o] (dn s):=by exact⟨⟨rfl,rfl⟩,trivial⟩) (hc:aa bR (D.bO.rl [o] (a0::ar)):=by exact aa.refl _) (hM:([o].all fun o=>(jT hb bR).elem o)=true:=by exact rfl):(T.call f bR hb c).ok prog Q:=
 GY o s s' (k x) hF hs (by rw[<-e,q]) (by rw[<-er,q]) hv hc hM kk
theorem cU [Wd] {tb:TT} {rs:List ResultVar} {S0:S} {s:RS} {α:Type} {p:α×RS} {z:α} {x:List UInt8} {y:Int} {ds:List D} {ys:List (List D)} {k:α->D} (hr:iD tb S0 rs=some ds) (q:p=(z,(x,y))) (iw:Co (lI ds) ((k z).bO [0])) (hv:jF S0.h [0] [0] [.cells 235 [.list 1 ys,.int .i64 y,.bool true]]:=by exact⟨⟨rfl,rfl⟩,trivial⟩) (hy:ys=x.map af:=by exact rfl):(T.leaf .ret S0).ok prog (Lf tb rs (dn s) (fun r h=>r=k p.1/\h=dn p.2)):=
 mQ (d:=k z) (.inr rfl) hr hv hy iw (by rw[q]) (by rw[q])
end
theorem zq [Wd]:gz 175 (.ptr 0 0) [] (fun s=>.bool (s.2 !=0)) (fun s=>s):=by
 intro s hs
 refine ak 19 [] func175 ?_
 repeat' (conv=>arg 2;whnf);first|exact mQ (d:=.bool (s.2 !=0)) (.inr rfl) rfl ⟨⟨rfl,rfl⟩,trivial⟩ rfl (.refl _) rfl rfl
theorem fY [Wd]:gz 173 (.ptr 0 0) [] (fun s=>.int .i64 s.2) (fun s=>s):=by
 intro s hs
 refine ak 16 [] func173 ?_
 repeat' (conv=>arg 2;whnf);first|exact mQ (d:=.int .i64 s.2) (.inr rfl) rfl ⟨⟨rfl,rfl⟩,trivial⟩ rfl (.refl _) rfl rfl
theorem mJ [Wd] (k:Int):gz 174 (.ptr 0 0) [.int .i64 k] (fun _=>.aj []) (fF k):=by
 intro s hs
 refine ak 11 [] func174 ?_
 repeat' (conv=>arg 2;whnf);first|refine cE 0 s s (.bool (s.2 !=0)) zq hs rfl rfl ?_|apply an<;>intro h|(refine mQ (d:=.aj []) (.inl rfl) rfl ⟨⟨rfl,rfl⟩,trivial⟩ rfl (.refl _) ?_ rfl;unfold fF;simp at h;first|(rw[if_pos h];done)|(rw[if_neg h];done))
theorem Bt [Wd]:gz 120 (.ptr 0 0) [] (fun s=>.int .i64 (dA s)) (fun s=>s):=by
 intro s hs
 refine ak 15 [] func120 ?_
 repeat' (conv=>arg 2;whnf);first|refine cE 0 s s (.int .i64 s.2) fY hs rfl rfl ?_|apply an<;>intro h|(refine mQ (d:=.int .i64 _) (.inr rfl) rfl ⟨⟨rfl,rfl⟩,trivial⟩ rfl (.refl _) rfl ?_;unfold dA;simp_all;done)|(refine mQ (d:=.int .i64 _) (.inr rfl) rfl ⟨⟨rfl,rfl⟩,trivial⟩ rfl (.refl _) rfl ?_;unfold dA;obtain⟨x,y⟩:=s;cases x<;>simp_all;done)
theorem QB {most q m:Nat} {x:UInt8} {bs:List UInt8} {A:Int} (hx:bs[q]?=some x) (hI:eH most 0 0 bs=eH most q m (bs.drop q)) (hA:(q<9\/x.toNat<=1)->A=((m+x.toNat%128*128^q:Nat):Int)) (hq:q<=9) (h1:x.toNat<=127) (h2:(0<q/\x.toNat=0)\/(q=9/\1<x.toNat)\/(most:Int)<A):cy most (bs,0)=(0,(bs,11)):=by
 have e:eH most 0 0 bs=(0,[],11):=by
  rw[hI,drop_at hx]
  by_cases h9:q=9/\1<x.toNat
  ·exact IK h9.1 h9.2
  ·refine XR h1 ?_
   rcases h2 with h2|h2|h2
   ·exact .inl h2
   ·exact absurd h2 h9
   ·rw[hA (by omega),Nat.mod_eq_of_lt (by omega)] at h2
    exact .inr (by omega)
 unfold cy
 rw[if_pos rfl]
 simp[e]
theorem Pr {most q m:Nat} {x:UInt8} {bs:List UInt8} {A:Int} (hx:bs[q]?=some x) (hI:eH most 0 0 bs=eH most q m (bs.drop q)) (hA:(q<9\/x.toNat<=1)->A=((m+x.toNat%128*128^q:Nat):Int)) (hq:q<=9) (h1:x.toNat<=127) (h2:¬(0<q/\x.toNat=0)) (h3:¬(q=9/\1<x.toNat)) (h4:¬(most:Int)<A):cy most (bs,0)=(A.toNat,(bs.drop (q+1),0))/\A=(A.toNat:Int):=by
 have Cm:=hA (by omega)
 rw[Nat.mod_eq_of_lt (by omega)] at Cm
 have e:eH most 0 0 bs=(m+x.toNat*128^q,bs.drop (q+1),0):=by
  rw[hI,drop_at hx]
  exact N0 h1 h3 (fun h=>by
   rcases h with h|h
   ·exact h2 h
   ·exact h4 (by rw[Cm];omega))
 unfold cy
 rw[if_pos rfl]
 refine⟨?_,by rw[Cm];omega⟩
 rw[e]
 rw[Cm,Int.toNat_natCast]
 rfl
theorem QC {most q m:Nat} {bs:List UInt8} (hI:eH most 0 0 bs=eH most q m (bs.drop q)) (hq:bs.length<=q):cy most (bs,0)=(0,(bs,10)):=by
 have e:eH most 0 0 bs=(0,[],10):=by
  rw[hI,List.drop_eq_nil_of_le hq]
  rfl
 unfold cy
 rw[if_pos rfl]
 simp[e]
structure yR (most:Nat) (bs:List UInt8) (q:Nat) (A:Int):Prop where
 go:q<10->q<=bs.length/\∃m:Nat,A=m/\m<128^q/\eH most 0 0 bs=eH most q m (bs.drop q)
 out:q=10->cy most (bs,0)=(0,(bs,11))
def qV (A:Int) (q:Nat) (x:UInt8):Int:=bits .or .u64 A (IntKind.u64.wrap (IntKind.u64.wrap (bits .and .u8 (x.toNat:Int) 127)*2^min (7*(q:Int)).toNat IntKind.u64.bits))
theorem Ku {m q:Nat} {x:UInt8} (hm:m<128^q) (hq:q<=9):(∃s:Nat,qV m q x=s)/\((q<9\/x.toNat<=1)->qV m q x=((m+x.toNat%128*128^q:Nat):Int)):=by
 obtain⟨d,e,s,h1,h2,h3,h4⟩:=abv m q x.toNat x.toNat_lt hq hm
 have afi:min (7*(q:Int)).toNat IntKind.u64.bits=7*q:=by
  have:IntKind.u64.bits=64:=rfl
  omega
 have hd:qV m q x=s:=by
  unfold qV
  rw[afi,h1,h2,h3]
 exact⟨⟨s,hd⟩,fun h=>by rw[hd,h4 h]⟩
theorem yR.next {most:Nat} {bs:List UInt8} {q:Nat} {A:Int} {x:UInt8} (h:yR most bs q A) (hq:q<10) (hx:bs[q]?=some x) (h1:127<x.toNat):yR most bs (q+1) (qV A q x):=by
 obtain⟨h2,m,rfl,h3,h4⟩:=h.go hq
 have hl:=(List.getElem?_eq_some_iff.1 hx).1
 obtain⟨_,h5⟩:=Ku (x:=x) h3 (show q<=9 by omega)
 constructor
 ·intro h9
  refine⟨by omega,m+x.toNat%128*128^q,h5 (.inl (by omega)),Kt h3 (Nat.mod_lt _ (by decide)),?_⟩
  rw[h4,drop_at hx,IJ h1 (by omega)]
 ·intro kN
  have e:eH most 0 0 bs=(0,[],11):=by
   rw[h4,drop_at hx,IK (by omega) (by omega)]
  unfold cy
  rw[if_pos rfl]
  simp[e]
theorem from_ (bs:List UInt8) (q:Nat):(((bs.map af).drop ((q:Int)+1).toNat).take ((((bs.map af).length:Nat):Int).toNat-((q:Int)+1).toNat))=(bs.drop (q+1)).map af:=by
 have e:((q:Int)+1).toNat=q+1:=by omega
 rw[e,List.take_of_length_le (by simp),List.map_drop]
theorem gF [Wd] (most:Nat):gz 121 (.ptr 0 0) [.int .u64 (most:Int)] (fun s=>.int .u64 ((cy most s).1:Int)) (fun s=>(cy most s).2):=by
 rintro⟨bs,e⟩ hs
 replace hs:bs.length<=8388609:=hs
 by_cases he:e=0
 ·subst he
  refine ak 72 [] func121 ?_
  repeat' (conv=>arg 2;whnf);first|refine cE 0 (bs,0) (bs,0) (.bool ((0:Int)!=0)) zq hs rfl rfl ?_
  conv=>arg 2;whnf
  refine bE (α:=Nat×Int) (fun a=>⟨[(10,.int .i64 a.1),(5,.int .u64 a.2),(1,.int .u64 (most:Int)),(0,.ptr 0 0)],dn (bs,0)⟩) (fun a=>a.1<=10/\yR most bs a.1 a.2) (fun a=>10-a.1) (0,0) ⟨Nat.zero_le _,⟨fun _=>⟨Nat.zero_le _,0,rfl,by decide,rfl⟩,fun h=>by cases h⟩⟩ (Sv.aK [0]) ?_
  rintro⟨q,A⟩ ⟨hq,hI⟩
  replace hq:q<=10:=hq
  replace hI:yR most bs q A:=hI
  have f1:q<10->bs.length<=q->cy most (bs,0)=(0,(bs,10)):=fun a b=>by
   obtain⟨_,m,_,_,h⟩:=hI.go a
   exact QC h b
  have f2:∀x,bs[q]?=some x->q<10->x.toNat<=127->((0<q/\x.toNat=0)\/(q=9/\1<x.toNat)\/(most:Int)<qV A q x)->cy most (bs,0)=(0,(bs,11)):=fun x hx a b c=>by
   obtain⟨_,m,rfl,h3,h⟩:=hI.go a
   exact QB hx h (Ku h3 (by omega)).2 (by omega) b c
  have f3:∀x,bs[q]?=some x->q<10->x.toNat<=127->¬(0<q/\x.toNat=0)->¬(q=9/\1<x.toNat)->¬(most:Int)<qV A q x->cy most (bs,0)=((qV A q x).toNat,(bs.drop (q+1),0))/\qV A q x=((qV A q x).toNat:Int):=fun x hx a b c d e=>by
   obtain⟨_,m,rfl,h3,h⟩:=hI.go a
   exact Pr hx h (Ku h3 (by omega)).2 (by omega) b c d e
  conv=>arg 2;whnf
  refine an (fun hlt=>?_) (fun dm=>?_)
  ·replace hlt:q<10:=by simp at hlt;omega
   repeat'
    (conv=>arg 2;whnf)
    first
    |refine aT (by omega) ?_
    |refine aT ⟨by omega,by have:=(List.getElem?_eq_some_iff.1 hx).1;simp;omega,by simp⟩ ?_
    |apply an<;>intro h
    |(refine cK (l:=bs) (by simp at h;omega) (fun x hx=>?_);replace hx:bs[q]?=some x:=hx)
    |refine gJ ?_
    |refine lD ?_
    |refine cE 0 (bs,0) (bs,10) (.aj []) (mJ 10) hs rfl rfl ?_
    |refine cE 0 (bs,0) (bs,11) (.aj []) (mJ 11) hs rfl rfl ?_
    |refine aZ (q+1,qV A q x) (Sv.aK [0]) ⟨hlt,hI.next hlt hx (by simp at h;omega)⟩ (by show 10-(q+1)<10-q;omega)
    |refine eG ?_
    |(refine cU (k:=fun x:Nat=>D.int .u64 (x:Int)) rfl (f1 hlt (by simp at h;omega)) (.refl _))
    |(have g:=f2 x hx hlt (by clear f1 f2 f3 hI;simp_all<;>omega) (by clear f1 f2 f3 hI;first|(refine .inr (.inr ?_);simp_all [qV];done)|(refine .inl ?_;simp_all<;>omega)|(refine .inr (.inl ?_);simp_all<;>omega))
      refine cU (k:=fun x:Nat=>D.int .u64 (x:Int)) rfl g (.refl _))
    |(have g:=f3 x hx hlt (by clear f1 f2 f3 hI;simp_all<;>omega) (by clear f1 f2 f3 hI;simp_all<;>omega) (by clear f1 f2 f3 hI;simp_all<;>omega) (by clear f1 f2 f3 hI;simp_all [qV]<;>omega)
      refine mQ (x:=bs.drop (q+1)) (d:=.int .u64 (qV A q x)) (.inr rfl) rfl ⟨⟨rfl,rfl⟩,trivial⟩ (from_ bs q) (.refl _) (congrArg Prod.snd g.1).symm ((congrArg (D.int .u64) g.2).trans (congrArg (fun r:Nat×RS=>D.int .u64 (r.1:Int)) g.1).symm))
  ·replace dm:¬q<10:=by simp at dm;omega
   repeat' (conv=>arg 2;whnf);first|refine cE 0 (bs,0) (bs,11) (.aj []) (mJ 11) hs rfl rfl ?_|(refine cU (k:=fun x:Nat=>D.int .u64 (x:Int)) rfl (hI.out (by omega)) (.refl _))
 ·have e1:cy most (bs,e)=(0,(bs,e)):=by unfold cy;rw[if_neg he]
  refine ak 72 [] func121 ?_
  repeat' (conv=>arg 2;whnf);first|refine cE 0 (bs,e) (bs,e) (.bool (e !=0)) zq hs rfl rfl ?_|apply an<;>intro h|(refine cU (k:=fun x:Nat=>D.int .u64 (x:Int)) rfl e1 (.refl _))|(exfalso;simp_all;done)
end
theorem yp (most:Nat) (s:RS):(cy most s).1<=most:=by
 unfold cy
 split
 ·split
  ·exact Pq most s.1 0 0
  ·exact Nat.zero_le _
 ·exact Nat.zero_le _
theorem zB (most:Nat) (s:RS):(cy most s).2.1.length<=s.1.length:=by
 unfold cy
 split
 ·split
  ·exact(Ow most s.1 0 0).1
  ·exact Nat.le_refl _
 ·exact Nat.le_refl _
theorem I6 (n:Int) (s:RS):(fR n s).2.1.length<=s.1.length:=by
 unfold fR
 split
 ·split
  ·exact Nat.le_refl _
  ·split
   ·exact Nat.le_refl _
   ·simp
 ·exact Nat.le_refl _
def fB (most:Nat) (s:RS):List UInt8×RS:=fR ((cy most s).1:Int) (cy most s).2
theorem Wu (most:Nat) (s:RS):(fB most s).2.1.length<=s.1.length:=Nat.le_trans (I6 _ _) (zB _ _)
theorem GZ {a b:List D} (h:a=b):aa a b:=h▸aa.refl a
theorem aea (bs:List UInt8) (n:Nat):((bs.map af).drop (0:Int).toNat).take (((n:Nat):Int).toNat-(0:Int).toNat)=(bs.take n).map af:=by
 simp[List.map_take]
theorem aeb (bs:List UInt8) (n:Nat):((bs.map af).drop ((n:Nat):Int).toNat).take ((((bs.map af).length:Nat):Int).toNat-((n:Nat):Int).toNat)=(bs.drop n).map af:=by
 have e:((n:Nat):Int).toNat=n:=Int.toNat_natCast n
 rw[e,List.take_of_length_le (by simp),List.map_drop]
theorem Ox [Wd] (bs:List UInt8) (hl:bs.length<=8388609):aq prog 171 [.list 1 (bs.map af)] (.list 1 (bs.map af)):=
 Dj (by unfold aL;omega) (by kernel_rfl) (fun w I vs hv=>by
  obtain⟨v,rfl,h1⟩:=hv.vR
  exact abu (h1.bs (by unfold aL;omega))) rfl
theorem Zx [Wd] (n:Nat):gz 223 (.ptr 0 0) [.int .i64 (n:Int)] (fun s=>.list 1 ((fR n s).1.map af)) (fun s=>(fR n s).2):=by
 rintro⟨bs,e⟩ hs
 replace hs:bs.length<=8388609:=hs
 by_cases he:e=0
 ·subst he
  by_cases hn:(bs.length:Int)<n
  ·have g:fR n (bs,0)=([],(bs,10)):=by unfold fR;rw[if_pos rfl,if_neg (by omega),if_pos hn]
   refine ak 43 [] func223 ?_
   repeat' (conv=>arg 2;whnf);first|refine cE 0 (bs,0) (bs,0) (.bool ((0:Int)!=0)) zq hs rfl rfl ?_|refine cE 0 (bs,0) (bs,10) (.aj []) (mJ 10) hs rfl rfl ?_|refine cE 0 (bs,10) (bs,10) (.bool ((10:Int)!=0)) zq hs rfl rfl ?_|apply an<;>intro h|refine cU (k:=fun x=>D.list 1 (List.map af x)) rfl g (.nil _)|(exfalso;simp at h;omega)
  ·have g:fR n (bs,0)=(bs.take n,(bs.drop n,0)):=by unfold fR;rw[if_pos rfl,if_neg (by omega),if_neg hn,Int.toNat_natCast]
   refine ak 43 [] func223 ?_
   repeat' (conv=>arg 2;whnf);first|refine aT ⟨by omega,by simp;omega,by simp⟩ ?_|refine aT ⟨by omega,by omega,by simp;omega⟩ ?_|refine cE 0 (bs,0) (bs,0) (.bool ((0:Int)!=0)) zq hs rfl rfl ?_|refine iQ (Ox (bs.take n) (by rw[List.length_take];omega)) rfl (GZ (congrArg (fun z=>[D.list 1 z]) (aea bs n))) ?_|apply an<;>intro h|refine mQ (d:=.list 1 ((bs.take n).map af)) (.inr rfl) rfl ⟨⟨rfl,rfl⟩,trivial⟩ (aeb bs n) (.refl _) (congrArg Prod.snd g).symm (congrArg (fun r:List UInt8×RS=>D.list 1 (r.1.map af)) g).symm|(exfalso;simp at h;omega)
 ·have g:fR n (bs,e)=([],(bs,e)):=by unfold fR;rw[if_neg he]
  refine ak 43 [] func223 ?_
  repeat' (conv=>arg 2;whnf);first|refine cE 0 (bs,e) (bs,e) (.bool (e !=0)) zq hs rfl rfl ?_|apply an<;>intro h|refine cU (k:=fun x=>D.list 1 (List.map af x)) rfl g (.nil _)|(exfalso;simp_all;done)
theorem Fe [Wd] (most:Nat) (hm:most<=4194304):gz 172 (.ptr 0 0) [.int .i64 (most:Int)] (fun s=>.list 1 ((fB most s).1.map af)) (fun s=>(fB most s).2):=by
 intro s hs
 have h1:=yp most s
 have h2:=zB most s
 have afj:(if(0:Int)<(most:Int) then(most:Int) else 0)=(most:Int):=by split<;>omega
 have hu:IntKind.u64.wrap (most:Int)=(most:Int):=Gi (by omega)
 refine ak 13 [] func172 ?_
 repeat' (conv=>arg 2;whnf);first|refine gJ ?_|refine lD ?_|refine GY 0 s (cy most s).2 (.int .u64 ((cy most s).1:Int)) (gF most) hs rfl rfl ⟨⟨rfl,rfl⟩,trivial⟩ (GZ (by rw[afj,hu];rfl)) rfl ?_|refine cE 0 (cy most s).2 (fB most s).2 (.list 1 ((fB most s).1.map af)) (Zx (cy most s).1) (by omega) rfl rfl ?_|refine mQ (d:=.list 1 ((fB most s).1.map af)) (.inr rfl) rfl ⟨⟨rfl,rfl⟩,trivial⟩ rfl (.refl _) rfl rfl
theorem zC [Wd] (bs:List UInt8) (hl:bs.length<=8388609):bC prog 118 [.list 1 (bs.map af)] [] (fun r h=>r=.ptr 0 0/\h=dn (bs,0)):=by
 refine ak 7 [] func118 ?_
 repeat' (conv=>arg 2;whnf);first|refine okF (Ox bs hl) ?_|refine mL [0] (.inr rfl) rfl rfl ⟨⟨rfl,rfl⟩,trivial⟩ trivial (.refl _)
abbrev MX:Nat:=9007199254740992
section
def bF (least:Int) (s:RS):Int×RS:=
 if(cy MX s).2.2=0 then(if((cy MX s).1:Int)<least then(0,((cy MX s).2.1,100)) else((cy MX s).1,(cy MX s).2)) else(0,(cy MX s).2)
def lS (b:Bool) (s:RS):RS:=if s.2=0 then(if b then s else(s.1,100)) else s
def ia (most:Int) (s:RS):Int×RS:=
 if(lS (decide ((bF 0 s).1<=most)) (bF 0 s).2).2=0 then((bF 0 s).1,lS (decide ((bF 0 s).1<=most)) (bF 0 s).2) else(0,lS (decide ((bF 0 s).1<=most)) (bF 0 s).2)
def cO (s:RS):bJ×RS:=
 if(cy MX (cy 20 s).2).2.2=0 then(if(cy MX (cy 20 s).2).1=0 then(dx,((cy MX (cy 20 s).2).2.1,81)) else(⟨(cy 20 s).1,(cy MX (cy 20 s).2).1⟩,(cy MX (cy 20 s).2).2)) else(dx,(cy MX (cy 20 s).2).2)
theorem wR (most:Nat) (s:RS):∃(n:Nat) (b:List UInt8) (e:Int),cy most s=(n,(b,e))/\n<=most/\b.length<=s.1.length:=
 ⟨_,_,_,rfl,yp most s,zB most s⟩
theorem CT (least:Int) (s:RS):∃(n:Int) (b:List UInt8) (e:Int),bF least s=(n,(b,e))/\0<=n/\n<=9007199254740992/\b.length<=s.1.length:=by
 have h1:(cy MX s).1<=9007199254740992:=yp MX s
 have h2:=zB MX s
 refine⟨(bF least s).1,(bF least s).2.1,(bF least s).2.2,rfl,?_,?_,?_⟩<;>unfold bF<;>split<;>(try split)<;>first|omega|exact h2|decide
section
variable [Wd]
theorem mK (least:Int):gz 228 (.agg [.ptr 0 0]) [.int .i64 least] (fun s=>.int .i64 (bF least s).1) (fun s=>(bF least s).2):=by
 intro s hs
 obtain⟨n,b,e,en,hn,hb⟩:=wR MX s
 replace hn:n<=9007199254740992:=hn
 have cw:b.length<=8388609:=by omega
 refine ak 27 [] func228 ?_
 repeat' (conv=>arg 2;whnf);first|refine gJ ?_|refine aX 0 (fun x:Nat=>D.int .u64 (x:Int)) en (gF MX) hs ?_|refine cE 0 (b,e) (b,e) (.int .i64 e) fY cw rfl rfl ?_|apply an<;>intro h|refine cE 0 (b,e) (b,100) (.aj []) (mJ 100) cw (by unfold fF;rw[if_pos (by simp_all)]) rfl ?_|refine cE 0 (b,100) (b,100) (.int .i64 100) fY cw rfl rfl ?_|(refine mQ (d:=.int .i64 _) (.inr rfl) rfl ⟨⟨rfl,rfl⟩,trivial⟩ rfl (.refl _) ?_ ?_<;>(simp only[bF,en];(repeat' split)<;>first|rfl|(exfalso;simp_all<;>omega)))
theorem wP (least:Int):gz 231 (.agg [.ptr 0 0]) [.int .i64 least] (fun s=>.int .i64 (bF least s).1) (fun s=>(bF least s).2):=by
 intro s hs
 obtain⟨n,b,e,en,Tc,hn,hb⟩:=CT least s
 refine ak 8 [] func231 ?_
 repeat' (conv=>arg 2;whnf);first|refine aX 0 (fun x=>D.int .i64 x) en (mK least) hs ?_|refine cU (k:=fun x=>D.int .i64 x) rfl en (.refl _)
theorem FJ (c:Bool):gz 225 (.agg [.ptr 0 0]) [.bool c] (fun _=>.aj []) (lS c):=by
 intro s hs
 obtain⟨b,e⟩:=s
 replace hs:b.length<=8388609:=hs
 refine ak 15 [] func225 ?_
 repeat' (conv=>arg 2;whnf);first|refine cE 0 (b,e) (b,e) (.int .i64 e) fY hs rfl rfl ?_|apply an<;>intro h|refine cE 0 (b,e) (b,100) (.aj []) (mJ 100) hs (by unfold fF;rw[if_pos (by simp_all)]) rfl ?_|(refine mQ (d:=.aj []) (.inl rfl) rfl ⟨⟨rfl,rfl⟩,trivial⟩ rfl (.refl _) ?_ rfl;simp only[lS];(repeat' split)<;>first|rfl|(exfalso;simp_all<;>omega))
theorem zE (most:Int):gz 281 (.agg [.ptr 0 0]) [.int .i64 most] (fun s=>.int .i64 (ia most s).1) (fun s=>(ia most s).2):=by
 intro s hs
 obtain⟨n,b,e,en,Tc,hn,hb⟩:=CT 0 s
 have cw:b.length<=8388609:=by omega
 obtain⟨b2,e2,em⟩:∃(b2:List UInt8) (e2:Int),lS (decide (n<=most)) (b,e)=(b2,e2):=⟨_,_,rfl⟩
 have eJ:b2.length<=8388609:=by
  have h:=congrArg Prod.fst em
  have h2:(lS (decide (n<=most)) (b,e)).1=b:=by
   unfold lS
   split
   ·split<;>rfl
   ·rfl
  have h3:b2=b:=h.symm.trans h2
  rw[h3]
  exact cw
 have eR:ia most s=if e2=0 then(n,(b2,e2)) else(0,(b2,e2)):=by unfold ia;rw[en];simp only[em]
 refine ak 18 [] func281 ?_
 repeat' (conv=>arg 2;whnf);first|refine aX 0 (fun x=>D.int .i64 x) en (mK 0) hs ?_|refine cE 0 (b,e) (b2,e2) (.aj []) (FJ (decide (n<=most))) cw em.symm rfl ?_|refine cE 0 (b2,e2) (b2,e2) (.int .i64 e2) fY eJ rfl rfl ?_|apply an<;>intro h|(refine mQ (d:=.int .i64 _) (.inr rfl) rfl ⟨⟨rfl,rfl⟩,trivial⟩ rfl (.refl _) ?_ ?_<;>(simp only[eR];(repeat' split)<;>first|rfl|(exfalso;simp_all<;>omega)))
theorem It:gz 287 (.ptr 0 0) [] (fun s=>.agg (bL (cO s).1)) (fun s=>(cO s).2):=by
 intro s hs
 obtain⟨n,b,e,en,hn,hb⟩:=wR 20 s
 have cw:b.length<=8388609:=by omega
 obtain⟨m,b2,e2,em,hm,eJ⟩:=wR MX (b,e)
 replace hm:m<=9007199254740992:=hm
 replace eJ:b2.length<=b.length:=eJ
 have B9:b2.length<=8388609:=by omega
 refine ak 27 [] func287 ?_
 repeat' (conv=>arg 2;whnf);first|refine gJ ?_|refine aX 0 (fun x:Nat=>D.int .u64 (x:Int)) en (gF 20) hs ?_|refine aX 0 (fun x:Nat=>D.int .u64 (x:Int)) em (gF MX) cw ?_|refine cE 0 (b2,e2) (b2,e2) (.int .i64 e2) fY B9 rfl rfl ?_|apply an<;>intro h|refine cE 0 (b2,e2) (b2,81) (.aj []) (mJ 81) B9 (by unfold fF;rw[if_pos (by simp_all)]) rfl ?_|refine cE 0 (b2,81) (b2,81) (.int .i64 81) fY B9 rfl rfl ?_|(refine mQ (d:=.agg [.int .i64 _,.int .i64 _]) (.inr rfl) rfl ⟨⟨rfl,rfl⟩,trivial⟩ rfl (.refl _) ?_ ?_<;>(simp only[cO,en,em];(repeat' split)<;>first|rfl|(exfalso;simp_all<;>omega)))
end
end
def aP {α:Type} (p:RS->α×RS):Nat->RS->List α×RS
 |0,s=>([],s)
 |n+1,s=>if s.2=0 then((p s).1::(aP p n (p s).2).1,(aP p n (p s).2).2) else([],s)
theorem vJ {α:Type} (p:RS->α×RS) (n:Nat) (s:RS) (h:¬s.2=0):aP p n s=([],s):=by
 cases n with
 |zero=>rfl
 |succ n=>unfold aP;rw[if_neg h]
theorem Bu {α:Type} (p:RS->α×RS) {n:Int} {s:RS} (hn:0<n) (h:s.2=0):aP p n.toNat s=((p s).1::(aP p (n-1).toNat (p s).2).1,(aP p (n-1).toNat (p s).2).2):=by
 obtain⟨k,rfl⟩:∃k:Nat,n=(k:Int)+1:=⟨(n-1).toNat,by omega⟩
 have e1:((k:Int)+1).toNat=k+1:=by omega
 have e2:((k:Int)+1-1).toNat=k:=by omega
 rw[e1,e2]
 conv=>lhs;unfold aP
 rw[if_pos h]
theorem Dl {α:Type} {p:RS->α×RS} (hp:∀s,(p s).2.1.length<=s.1.length):∀(n:Nat) (s:RS),(aP p n s).2.1.length<=s.1.length
 |0,s=>Nat.le_refl _
 |n+1,s=>by
  unfold aP
  split
  ·exact Nat.le_trans (Dl hp n _) (hp s)
  ·exact Nat.le_refl _
def cY {α:Type} (p:RS->α×RS) (most:Int) (s:RS):List α×RS:=aP p (ia most s).1.toNat (ia most s).2
theorem CW (c:Bool) (s:RS):(lS c s).1=s.1:=by
 unfold lS
 split
 ·split<;>rfl
 ·rfl
theorem zl (most:Int) (hm:0<=most) (s:RS):∃(n:Int) (b:List UInt8) (e:Int),ia most s=(n,(b,e))/\0<=n/\n<=most/\b.length<=s.1.length:=by
 obtain⟨n,b,e,en,h0,h1,h2⟩:=CT 0 s
 refine⟨(ia most s).1,(ia most s).2.1,(ia most s).2.2,rfl,?_,?_,?_⟩
 ·unfold ia
  rw[en]
  split
  ·exact h0
  ·exact Int.le_refl _
 ·unfold ia
  rw[en]
  split
  ·rename_i h
   show n<=most
   by_cases hn:n<=most
   ·exact hn
   ·exfalso
    have hd:decide (n<=most)=false:=by simpa using hn
    simp only[hd,lS] at h
    split at h
    ·cases h
    ·contradiction
  ·exact hm
 ·unfold ia
  rw[en]
  split
  ·show(lS _ (b,e)).1.length<=_;rw[CW];exact h2
  ·show(lS _ (b,e)).1.length<=_;rw[CW];exact h2
theorem XS {α:Type} {p:RS->α×RS} (hp:∀s,(p s).2.1.length<=s.1.length) (most:Int) (hm:0<=most) (s:RS):(cY p most s).2.1.length<=s.1.length:=by
 obtain⟨n,b,e,en,_,_,h2⟩:=zl most hm s
 unfold cY
 rw[en]
 exact Nat.le_trans (Dl hp _ _) h2
theorem Oy (s:RS):(cO s).2.1.length<=s.1.length:=by
 have h1:=zB 20 s
 have h2:=zB MX (cy 20 s).2
 unfold cO
 split
 ·split
  ·show(cy MX (cy 20 s).2).2.1.length<=_;omega
  ·show(cy MX (cy 20 s).2).2.1.length<=_;omega
 ·show(cy MX (cy 20 s).2).2.1.length<=_;omega
theorem acT [Wd] (fz:List Nat) {tb:TT} {rs:List ResultVar} {ex:Exit} {S0:S} {x:List UInt8} {y:Int} {s s':RS} {d R:D} {ds:List D} {ys:List (List D)} (he:ex=.normal\/ex=.ret) (hr:iD tb (S0.dj fz) rs=some ds) (hv:jF (S0.dj fz).h [0] [0] [.cells 235 [.list 1 ys,.int .i64 y,.bool true]]) (hy:ys=x.map af) (iw:Co (lI ds) (d.bO [0])) (hx:(x,y)=s') (hd:d=R):(T.leaf ex S0).ok prog (Lf tb rs (dn s) (fun r h=>r=R/\h=dn s')):=by
 subst hx hd hy
 exact abw fz [0] he hr rfl hv ⟨⟨rfl,rfl⟩,trivial⟩ iw
theorem qD [Wd] (fz:List Nat) {tb:TT} {rs:List ResultVar} {S0:S} {s:RS} {α:Type} {p:α×RS} {z:α} {x:List UInt8} {y:Int} {ds:List D} {ys:List (List D)} {k:α->D} (hr:iD tb (S0.dj fz) rs=some ds) (q:p=(z,(x,y))) (iw:Co (lI ds) ((k z).bO [0])) (hv:jF (S0.dj fz).h [0] [0] [.cells 235 [.list 1 ys,.int .i64 y,.bool true]]:=by exact⟨⟨rfl,rfl⟩,trivial⟩) (hy:ys=x.map af:=by exact rfl):(T.leaf .ret S0).ok prog (Lf tb rs (dn s) (fun r h=>r=k p.1/\h=dn p.2)):=
 acT fz (d:=k z) (.inr rfl) hr hv hy iw (by rw[q]) (by rw[q])
theorem sy [Wd]:gz 239 (.agg [.ptr 0 0]) [] (fun s=>.agg (bL (cO s).1)) (fun s=>(cO s).2):=by
 intro s hs
 refine ak 6 [] func239 ?_
 repeat' (conv=>arg 2;whnf);first|refine cE 0 s (cO s).2 (.agg (bL (cO s).1)) It hs rfl rfl ?_|refine mQ (d:=.agg (bL (cO s).1)) (.inr rfl) rfl ⟨⟨rfl,rfl⟩,trivial⟩ rfl (.refl _) rfl rfl
theorem NK [Wd] (most:Int) (uf:0<=most) (hm:most<=4096):gz 282 (.agg [.ptr 0 0]) [.int .i64 most,.fn 239 0 []] (fun s=>.list 2 ((cY cO most s).1.map bL)) (fun s=>(cY cO most s).2):=by
 intro s0 hs
 obtain⟨N,b0,e0,en,rW,hN,uV⟩:=zl most uf s0
 have eL:cY cO most s0=aP cO N.toNat (b0,e0):=by unfold cY;rw[en]
 refine ak 29 [] func282 ?_
 repeat' (conv=>arg 2;whnf);first|refine aX 0 (fun x=>D.int .i64 x) en (zE most) hs ?_
 conv=>arg 2;whnf
 refine bE (α:=Int×RS×List bJ) (fun a=>match a.2.2 with
  |[]=>⟨[(8,.int .i64 a.1),(7,.nils),(3,.ptr 1 0),(2,.fn 239 0 [])],[.cells 235 [.list 1 (a.2.1.1.map af),.int .i64 a.2.1.2,.bool true],.cells 239 [.ptr 0 0]]⟩
  |x::l=>⟨[(8,.int .i64 a.1),(7,.row 2),(3,.ptr 1 0),(2,.fn 239 0 [])],[.cells 235 [.list 1 (a.2.1.1.map af),.int .i64 a.2.1.2,.bool true],.cells 239 [.ptr 0 0],.row 57 2 ((x::l).map bL)]⟩) (fun a=>0<=a.1/\a.1<=4096/\a.2.1.1.length<=8388609/\a.2.2.length+a.1.toNat<=4096/\aP cO N.toNat (b0,e0)=(a.2.2++(aP cO a.1.toNat a.2.1).1,(aP cO a.1.toNat a.2.1).2)) (fun a=>a.1.toNat) (N,(b0,e0),[]) ⟨rW,by omega,by show b0.length<=_;omega,by simp;omega,rfl⟩ (Sv.aK [0,1]) ?_
 rintro⟨n,⟨b,e⟩,out⟩ ⟨h0,h1,hl,ho,hg⟩
 replace h0:0<=n:=h0
 replace h1:n<=4096:=h1
 replace hl:b.length<=8388609:=hl
 replace ho:out.length+n.toNat<=4096:=ho
 replace hg:aP cO N.toNat (b0,e0)=(out++(aP cO n.toNat (b,e)).1,(aP cO n.toNat (b,e)).2):=hg
 obtain⟨x,b2,e2,ep⟩:∃(x:bJ) (b2:List UInt8) (e2:Int),cO (b,e)=(x,(b2,e2)):=⟨_,_,_,rfl⟩
 have oo:b2.length<=8388609:=by
  have h:=Oy (b,e)
  rw[ep] at h
  exact Nat.le_trans h hl
 have iq:(n<=0\/¬e=0)->cY cO most s0=(out,(b,e)):=fun h=>by
  rw[eL,hg]
  rcases h with h|h
  ·rw[show n.toNat=0 by omega];simp[aP]
  ·rw[vJ _ _ _ h];simp
 have lG:0<n->e=0->aP cO N.toNat (b0,e0)=((out++[x])++(aP cO (n-1).toNat (b2,e2)).1,(aP cO (n-1).toNat (b2,e2)).2):=fun hn h=>by
  rw[hg,Bu _ hn h,ep]
  simp
 cases out with
 |nil=>
  conv=>arg 2;whnf
  refine an (fun hn=>?_) (fun hn=>?_)
  ·replace hn:0<n:=by simpa using hn
   repeat' (conv=>arg 2;whnf);first|refine cE 0 (b,e) (b,e) (.int .i64 e) fY hl rfl rfl ?_|apply an<;>intro h|refine aX 0 (fun x=>D.agg (bL x)) ep sy hl ?_|refine aT (by constructor<;>(simp only[List.length_cons,List.length_nil];decide)) ?_|refine bw (cj (by show _<=n-1;omega) (by show n-1<=_;omega)) ?_|refine aZ (n-1,(b2,e2),[x]) (Sv.aK [0,1,4]) ⟨by show 0<=n-1;omega,by show n-1<=4096;omega,oo,by show([x]).length+(n-1).toNat<=4096;simp at ho ⊢;omega,lG hn (by simpa using h)⟩ (by show(n-1).toNat<n.toNat;omega)|refine bq ?_|refine cU (k:=fun x=>D.list 2 (List.map bL x)) rfl (iq (.inr (by simpa using h))) (.nil _)
  ·replace hn:n<=0:=by simpa using hn
   repeat' (conv=>arg 2;whnf);first|refine bq ?_|refine cU (k:=fun x=>D.list 2 (List.map bL x)) rfl (iq (.inl hn)) (.nil _)
 |cons y out=>
  conv=>arg 2;whnf
  refine an (fun hn=>?_) (fun hn=>?_)
  ·replace hn:0<n:=by simpa using hn
   repeat' (conv=>arg 2;whnf);first|refine cE 0 (b,e) (b,e) (.int .i64 e) fY hl rfl rfl ?_|apply an<;>intro h|refine aX 0 (fun x=>D.agg (bL x)) ep sy hl ?_|refine aT (by constructor<;>(simp only[List.length_cons,List.length_nil,List.length_map,maxLen] at ho ⊢;omega)) ?_|refine bw (cj (by show _<=n-1;omega) (by show n-1<=_;omega)) ?_|refine aZ (n-1,(b2,e2),(y::out)++[x]) (Sv.mk' [0,1,5] rfl ⟨⟨rfl,rfl⟩,⟨rfl,rfl⟩,⟨rfl,by simp;rfl⟩,trivial⟩ ⟨rfl,rfl,rfl,rfl,trivial⟩) ⟨by show 0<=n-1;omega,by show n-1<=4096;omega,oo,by show((y::out)++[x]).length+(n-1).toNat<=4096;simp at ho ⊢;omega,lG hn (by simpa using h)⟩ (by show(n-1).toNat<n.toNat;omega)|refine bq ?_|refine qD (k:=fun x=>D.list 2 (List.map bL x)) [2] rfl (iq (.inr (by simpa using h))) (.refl _)
  ·replace hn:n<=0:=by simpa using hn
   repeat' (conv=>arg 2;whnf);first|refine bq ?_|refine qD (k:=fun x=>D.list 2 (List.map bL x)) [2] rfl (iq (.inl hn)) (.refl _)
def lT (s:RS):gX×RS:=
 let a:=bF 0 s
 let d:=bF 0 a.2
 let l:=cY cO (if a.1=0 then 0 else 13) (lS ((a.1==0)==(d.1==0)) d.2)
 (⟨a.1,d.1,l.1⟩,l.2)
theorem Wv {α:Type} {p:RS->α×RS} (hp:∀s,(p s).2.1.length<=s.1.length) (most:Int) (hm:0<=most) (s:RS):∃(l:List α) (b:List UInt8) (e:Int),cY p most s=(l,(b,e))/\b.length<=s.1.length:=
 ⟨_,_,_,rfl,XS hp most hm s⟩
theorem Jw [Wd]:gz 236 (.agg [.ptr 0 0]) [] (fun s=>.agg (mj (lT s).1)) (fun s=>(lT s).2):=by
 intro s hs
 obtain⟨n,b,e,en,Tc,hn,hb⟩:=CT 0 s
 obtain⟨d,b2,e2,ed,oV,hd,eJ⟩:=CT 0 (b,e)
 replace eJ:b2.length<=b.length:=eJ
 have cw:b.length<=8388609:=by omega
 have B9:b2.length<=8388609:=by omega
 obtain⟨b3,e3,em⟩:∃(b3:List UInt8) (e3:Int),lS ((n==0)==(d==0)) (b2,e2)=(b3,e3):=⟨_,_,rfl⟩
 have afk:b3.length<=8388609:=by
  have h:=CW ((n==0)==(d==0)) (b2,e2)
  rw[em] at h
  have h':b3=b2:=h
  rw[h']
  exact B9
 obtain⟨M,hM,Td,hM1⟩:∃M:Int,(if n=0 then 0 else 13)=M/\0<=M/\M<=4096:=⟨_,rfl,by split<;>decide,by split<;>decide⟩
 obtain⟨l,b4,e4,el,_⟩:=Wv Oy M Td (b3,e3)
 have eR:lT s=(⟨n,d,l⟩,(b4,e4)):=by unfold lT;simp only[en,ed,em,hM,el]
 refine ak 28 [] func236 ?_
 by_cases hz:n=0
 all_goals
  first|rw[if_pos hz] at hM|rw[if_neg hz] at hM
  subst hM
  repeat' (conv=>arg 2;whnf);first|refine aX 0 (fun x=>D.int .i64 x) en (mK 0) hs ?_|refine aX 0 (fun x=>D.int .i64 x) ed (wP 0) cw ?_|refine cE 0 (b2,e2) (b3,e3) (.aj []) (FJ ((n==0)==(d==0))) B9 em.symm rfl ?_|refine aX 0 (fun x=>D.list 2 (List.map bL x)) el (NK _ Td hM1) afk ?_|apply an<;>intro h|refine cU (k:=fun x=>D.agg (mj x)) rfl eR (.refl _)|(exfalso;simp_all;done)
def cS {α:Type} (p:RS->α×RS) (z:α) (b:List UInt8):α×Int:=
 if 262144<b.length then(z,3) else if dA (p (b,0)).2=0 then((p (b,0)).1,0) else(z,dA (p (b,0)).2)
theorem Oz {α:Type} {p:RS->α×RS} {z:α} {b:List UInt8} (h:262144<b.length):cS p z b=(z,3):=by unfold cS;rw[if_pos h]
theorem OA {α:Type} {p:RS->α×RS} {z c:α} {b:List UInt8} {s:RS} (h:¬262144<b.length) (e:p (b,0)=(c,s)) (hd:¬dA s=0):cS p z b=(z,dA s):=by unfold cS;rw[if_neg h,e,if_neg hd]
theorem FK {α:Type} {p:RS->α×RS} {z c:α} {b:List UInt8} {s:RS} (h:¬262144<b.length) (e:p (b,0)=(c,s)) (hd:dA s=0):cS p z b=(c,0):=by unfold cS;rw[if_neg h,e,if_pos hd]
theorem Ww (n:Nat) (s:RS):∃(x b:List UInt8) (e:Int),fR n s=(x,(b,e))/\b.length<=s.1.length/\x.length<=n:=by
 refine⟨(fR n s).1,(fR n s).2.1,(fR n s).2.2,rfl,I6 n s,?_⟩
 unfold fR
 split
 ·split
  ·exact Nat.zero_le _
  ·split
   ·exact Nat.zero_le _
   ·rw[List.length_take,Int.toNat_natCast];omega
 ·exact Nat.zero_le _
theorem VL (most:Nat) (s:RS):∃(x b:List UInt8) (e:Int),fB most s=(x,(b,e))/\b.length<=s.1.length/\x.length<=most:=by
 obtain⟨n,b,e,en,h1,h2⟩:=wR most s
 obtain⟨x,b2,e2,ex,h3,h4⟩:=Ww n (b,e)
 refine⟨x,b2,e2,?_,Nat.le_trans h3 h2,Nat.le_trans h4 h1⟩
 unfold fB
 rw[en]
 exact ex
theorem G0 {e:Int} (h1:0<=e) (h2:e<18446744073709551616):IntKind.u64.wrap e=e:=by
 simp only[IntKind.wrap,IntKind.signed,IntKind.bits]
 simp
 omega
structure Rd1 {α:Type} (p:RS->α×RS):Prop where
 len:∀s,(p s).2.1.length<=s.1.length
 stay:∀s,¬s.2=0->¬(p s).2.2=0
structure Cd {α:Type} (p:RS->α×RS) (ok:α->Prop) (b:α->List UInt8):Prop extends Rd1 p where
 there:∀x r,ok x->p (b x++r,0)=(x,(r,0))
 back:∀t,(p (t,0)).2.2=0->ok (p (t,0)).1/\t=b (p (t,0)).1++(p (t,0)).2.1
theorem Rd1.ok {α:Type} {p:RS->α×RS} (h:Rd1 p) {s:RS} (e:(p s).2.2=0):s=(s.1,0):=by
 by_cases h0:s.2=0
 ·rw[<-h0]
 ·exact absurd e (h.stay s h0)
def cN {α β:Type} (p:RS->α×RS) (q:α->RS->β×RS) (s:RS):(α×β)×RS:=(((p s).1,(q (p s).1 (p s).2).1),(q (p s).1 (p s).2).2)
def bg {α β:Type} (p:RS->α×RS) (q:RS->β×RS):RS->(α×β)×RS:=cN p fun _=>q
def bN {α β:Type} (f:α->β) (p:RS->α×RS) (s:RS):β×RS:=(f (p s).1,(p s).2)
def fZ {α:Type} (p:RS->α×RS) (f:α->Int) (s:RS):α×RS:=((p s).1,fF (f (p s).1) (p s).2)
def jR {α:Type} (p:RS->α×RS) (z:α) (s:RS):α×RS:=if(p s).2.2=0 then p s else(z,(p s).2)
theorem wS (k:Int) (s:RS):(fF k s).1=s.1:=by unfold fF;split<;>rfl
theorem Rd1.bind {α β:Type} {p:RS->α×RS} {q:α->RS->β×RS} (h:Rd1 p) (k:∀x,Rd1 (q x)):Rd1 (cN p q):=
 ⟨fun s=>Nat.le_trans ((k _).len _) (h.len s),fun s hs=>(k _).stay _ (h.stay s hs)⟩
theorem Rd1.map {α β:Type} {p:RS->α×RS} (f:α->β) (h:Rd1 p):Rd1 (bN f p):=⟨h.len,h.stay⟩
theorem Rd1.guard {α:Type} {p:RS->α×RS} (f:α->Int) (h:Rd1 p):Rd1 (fZ p f):=
 ⟨fun s=>by show(fF _ _).1.length<=_;rw[wS];exact h.len s,fun s hs=>by
   show ¬(fF _ _).2=0
   unfold fF
   rw[if_neg (h.stay s hs)]
   exact h.stay s hs⟩
theorem Rd1.zero {α:Type} {p:RS->α×RS} (z:α) (h:Rd1 p):Rd1 (jR p z):=
 ⟨fun s=>by unfold jR;split<;>exact h.len s,fun s hs=>by unfold jR;split<;>exact h.stay s hs⟩
theorem Cd.bind {α β:Type} {p:RS->α×RS} {q:α->RS->β×RS} {ok:α->Prop} {ok':α->β->Prop} {b:α->List UInt8} {b':α->β->List UInt8}
 (h:Cd p ok b) (k:∀x,Rd1 (q x)) (g:∀x,ok x->Cd (q x) (ok' x) (b' x)):Cd (cN p q) (fun z=>ok z.1/\ok' z.1 z.2) (fun z=>b z.1++b' z.1 z.2) where
 toRd1:=h.toRd1.bind k
 there:=fun ⟨x,y⟩ r hh=>by
  show((_,_),_)=_
  rw[show(b x++b' x y++r)=b x++(b' x y++r) from List.append_assoc _ _ _,h.there x _ hh.1]
  show((x,(q x (b' x y++r,0)).1),(q x (b' x y++r,0)).2)=_
  rw[(g x hh.1).there y r hh.2]
 back:=fun t e=>by
  have e2:=(k _).ok (s:=(p (t,0)).2) e
  obtain⟨h1,h2⟩:=h.back t (by rw[e2])
  have e3:(q (p (t,0)).1 ((p (t,0)).2.1,0)).2.2=0:=by rw[<-e2];exact e
  obtain⟨g1,g2⟩:=(g _ h1).back _ e3
  rw[<-e2] at g1 g2
  refine⟨⟨h1,g1⟩,?_⟩
  show t=(b _++b' _ _)++_
  rw[List.append_assoc]
  conv=>lhs;rw[h2,g2]
  rfl
theorem Cd.pair {α β:Type} {p:RS->α×RS} {q:RS->β×RS} {ok:α->Prop} {ok':β->Prop} {b:α->List UInt8} {b':β->List UInt8}
 (h:Cd p ok b) (g:Cd q ok' b'):Cd (bg p q) (fun z=>ok z.1/\ok' z.2) (fun z=>b z.1++b' z.2):=
 h.bind (ok':=fun _=>ok') (b':=fun _=>b') (fun _=>g.toRd1) (fun _ _=>g)
theorem Cd.map {α β:Type} {p:RS->α×RS} {ok:α->Prop} {b:α->List UInt8} {ok':β->Prop} {b':β->List UInt8} (h:Cd p ok b) (f:α->β) (g:β->α)
 (h1:∀x,ok x->ok' (f x)/\b' (f x)=b x) (h2:∀y,ok' y->ok (g y)/\f (g y)=y):Cd (bN f p) ok' b' where
 toRd1:=h.toRd1.map f
 there:=fun y r hy=>by
  obtain⟨g1,g2⟩:=h2 y hy
  have h3:=h1 _ g1
  rw[g2] at h3
  show(f _,_)=_
  rw[h3.2,h.there _ r g1,g2]
 back:=fun t e=>by
  obtain⟨k1,k2⟩:=h.back t e
  obtain⟨h3,h4⟩:=h1 _ k1
  refine⟨h3,?_⟩
  show t=b' (f _)++_
  rw[h4]
  exact k2
theorem Cd.guard {α:Type} {p:RS->α×RS} {ok:α->Prop} {b:α->List UInt8} (h:Cd p ok b) (f:α->Int):Cd (fZ p f) (fun x=>ok x/\f x=0) b where
 toRd1:=h.toRd1.guard f
 there:=fun x r hx=>by
  show(_,fF _ _)=_
  rw[h.there x r hx.1]
  show(x,fF (f x) (r,0))=_
  rw[hx.2]
  rfl
 back:=fun t e=>by
  have e:(fF (f (p (t,0)).1) (p (t,0)).2).2=0:=e
  have e1:(p (t,0)).2.2=0:=by
   by_cases h0:(p (t,0)).2.2=0
   ·exact h0
   ·unfold fF at e;rw[if_neg h0] at e;exact e
  have e2:f (p (t,0)).1=0:=by
   unfold fF at e;rw[if_pos e1] at e;exact e
  obtain⟨k1,k2⟩:=h.back t e1
  refine⟨⟨k1,e2⟩,?_⟩
  show t=b _++(fF _ _).1
  rw[wS]
  exact k2
theorem Cd.zero {α:Type} {p:RS->α×RS} {ok:α->Prop} {b:α->List UInt8} (h:Cd p ok b) (z:α):Cd (jR p z) ok b where
 toRd1:=h.toRd1.zero z
 there:=fun x r hx=>by
  unfold jR
  rw[h.there x r hx,if_pos rfl]
 back:=fun t e=>by
  have e1:(p (t,0)).2.2=0:=by
   by_cases h0:(p (t,0)).2.2=0
   ·exact h0
   ·unfold jR at e;rw[if_neg h0] at e;exact e
  have e2:jR p z (t,0)=p (t,0):=by unfold jR;rw[if_pos e1]
  rw[e2]
  exact h.back t e1
theorem Cd.as {α:Type} {p:RS->α×RS} {ok ok':α->Prop} {b b':α->List UInt8} (h:Cd p ok b) (h1:∀x,ok' x<->ok x) (h2:∀x,ok x->b' x=b x):Cd p ok' b' where
 toRd1:=h.toRd1
 there:=fun x r hx=>by rw[h2 x ((h1 x).1 hx)];exact h.there x r ((h1 x).1 hx)
 back:=fun t e=>by
  obtain⟨k1,k2⟩:=h.back t e
  exact⟨(h1 _).2 k1,by rw[h2 _ k1];exact k2⟩
def qM {α:Type} (x:α) (s:RS):α×RS:=(x,s)
theorem zJ {α:Type} (x:α):Rd1 (qM x):=⟨fun s=>Nat.le_refl _,fun s h=>h⟩
theorem Qd {α:Type} (x:α):Cd (qM x) (fun y=>y=x) (fun _=>[]) where
 toRd1:=zJ x
 there:=fun y r h=>by rw[h];rfl
 back:=fun t e=>⟨rfl,rfl⟩
def nR (most:Nat) (s:RS):Int×RS:=(((cy most s).1:Int),(cy most s).2)
theorem Bl (most:Nat) (s:RS) (h:¬s.2=0):cy most s=(0,s):=by unfold cy;rw[if_neg h]
theorem dD (most:Nat):Rd1 (nR most):=⟨zB most,fun s h=>by show ¬(cy most s).2.2=0;rw[Bl most s h];exact h⟩
theorem j3 (most:Nat) (hm:most<18446744073709551616):Cd (nR most) (fun n=>0<=n/\n<=most) aJ where
 toRd1:=dD most
 there:=fun n r ⟨h0,h1⟩=>by
  have e:=abx most n.toNat 0 0 r (by omega) (by omega) (by omega) (by omega)
  rw[eK h0 (by omega)]
  unfold nR cy
  rw[if_pos rfl,e]
  simp
  omega
 back:=fun t e=>by
  have e:(cy most (t,0)).2.2=0:=e
  have hle:=yp most (t,0)
  unfold cy at e
  rw[if_pos rfl] at e
  split at e
  ·rename_i h0
   obtain⟨d,h1,h2,_⟩:=Pt most t 0 0 _ _ (show eH most 0 0 t=((eH most 0 0 t).1,(eH most 0 0 t).2.1,0) by rw[<-h0])
   have hn:cy most (t,0)=((eH most 0 0 t).1,((eH most 0 0 t).2.1,0)):=by unfold cy;rw[if_pos rfl,if_pos h0]
   rw[hn] at hle
   have hle:(eH most 0 0 t).1<=most:=hle
   unfold nR
   rw[hn]
   refine⟨⟨by simp,by show(((eH most 0 0 t).1:Nat):Int)<=most;omega⟩,?_⟩
   show t=aJ (((eH most 0 0 t).1:Nat):Int)++(eH most 0 0 t).2.1
   rw[eK (by omega) (by omega),Int.toNat_natCast,h1]
   simpa using h2
  ·rename_i h0
   exact absurd e h0
theorem JC (least:Int):bF least=jR (fZ (nR MX) fun n=>if n<least then 100 else 0) 0:=by
 funext s
 obtain⟨n,b,e,en,hn,hb⟩:=wR MX s
 unfold bF jR fZ nR fF
 rw[en]
 simp only
 by_cases he:e=0
 ·subst he
  by_cases hl:(n:Int)<least
  ·simp[hl]
  ·simp[hl]
 ·simp[he]
theorem bV (least:Int):Rd1 (bF least):=by rw[JC];exact((dD MX).guard _).zero _
theorem jW (least:Int) (h0:0<=least):Cd (bF least) (fun n=>least<=n/\n<=9007199254740992) aJ:=by
 rw[JC]
 refine(((j3 MX (by decide)).guard _).zero _).as (fun n=>?_) (fun _ _=>rfl)
 have hM:((MX:Nat):Int)=9007199254740992:=rfl
 rw[hM]
 constructor
 ·intro h;exact⟨⟨by omega,by omega⟩,by rw[if_neg (by omega)]⟩
 ·intro ⟨⟨h1,h2⟩,h3⟩
  refine⟨?_,h2⟩
  by_cases hl:n<least
  ·rw[if_pos hl] at h3;cases h3
  ·omega
theorem FW (c:Bool) (s:RS):lS c s=fF (if c then 0 else 100) s:=by
 obtain⟨b,e⟩:=s
 unfold lS fF
 cases c
 ·simp
 ·simp
theorem JD (most:Int):ia most=jR (fZ (bF 0) fun n=>if n<=most then 0 else 100) 0:=by
 funext s
 unfold ia jR fZ
 rw[FW]
 have e:(if decide ((bF 0 s).1<=most)=true then(0:Int) else 100)=if(bF 0 s).1<=most then 0 else 100:=by simp
 rw[e]
theorem uu (most:Int):Rd1 (ia most):=by rw[JD];exact((bV 0).guard _).zero _
theorem Qe (most:Int) (hm:most<=4096):Cd (ia most) (fun n=>0<=n/\n<=most) aJ:=by
 rw[JD]
 refine(((jW 0 (by decide)).guard _).zero _).as (fun n=>?_) (fun _ _=>rfl)
 constructor
 ·intro h;exact⟨⟨h.1,by omega⟩,if_pos h.2⟩
 ·intro ⟨⟨h1,h2⟩,h3⟩
  refine⟨h1,?_⟩
  by_cases hl:n<=most
  ·exact hl
  ·rw[if_neg hl] at h3;cases h3
theorem Oj (n:Int) (s:RS) (h:¬s.2=0):fR n s=([],s):=by unfold fR;rw[if_neg h]
theorem JB (n:Int):Rd1 (fR n):=⟨I6 n,fun s h=>by rw[Oj n s h];exact h⟩
theorem Yo (x r:List UInt8):fR ((x.length:Nat):Int) (x++r,0)=(x,(r,0)):=by
 unfold fR
 rw[if_pos rfl,if_neg (by omega),if_neg (by simp only[List.length_append];omega),Int.toNat_natCast]
 simp
theorem W5 {n:Nat} {t:List UInt8} (h:(fR (n:Int) (t,0)).2.2=0):t=(fR (n:Int) (t,0)).1++(fR (n:Int) (t,0)).2.1/\(fR (n:Int) (t,0)).1.length=n:=by
 unfold fR at h ⊢
 rw[if_pos rfl,if_neg (by omega)] at h ⊢
 split at h
 ·cases h
 ·rename_i hl
  rw[if_neg hl,Int.toNat_natCast]
  refine⟨(List.take_append_drop _ _).symm,?_⟩
  simp only[List.length_take] at hl ⊢
  have hl:¬(t.length:Int)<(n:Int):=hl
  omega
theorem iB (most:Nat):Rd1 (fB most):=
 ⟨Wu most,fun s h=>by
   unfold fB
   exact(JB _).stay _ ((dD most).stay s h)⟩
theorem vG (most:Nat) (hm:most<=4194304):Cd (fB most) (fun x=>x.length<=most) cB where
 toRd1:=iB most
 there:=fun x r hx=>by
  have e:=(j3 most (by omega)).there (x.length:Int) (x++r) ⟨by omega,by omega⟩
  rw[eK (by omega) (by omega),Int.toNat_natCast] at e
  have e1:cy most (enc x.length++(x++r),0)=(x.length,(x++r,0)):=by
   have h1:=congrArg Prod.fst e
   have h2:=congrArg Prod.snd e
   have h1:(((cy most (enc x.length++(x++r),0)).1:Nat):Int)=((x.length:Nat):Int):=h1
   exact Prod.ext (by omega) h2
  unfold fB cB
  rw[List.append_assoc,e1]
  exact Yo x r
 back:=fun t e=>by
  have e2:=(JB _).ok (s:=(cy most (t,0)).2) e
  obtain⟨⟨h0,h1⟩,h2⟩:=(j3 most (by omega)).back t (by show(cy most (t,0)).2.2=0;rw[e2])
  have h1:(((cy most (t,0)).1:Nat):Int)<=(most:Int):=h1
  have h2:t=aJ ((cy most (t,0)).1:Int)++(cy most (t,0)).2.1:=h2
  have e3:(fR ((cy most (t,0)).1:Int) ((cy most (t,0)).2.1,0)).2.2=0:=by rw[<-e2];exact e
  obtain⟨g1,g2⟩:=W5 e3
  rw[<-e2] at g1 g2
  refine⟨by show(fR _ _).1.length<=_;rw[g2];omega,?_⟩
  rw[eK (by omega) (by omega),Int.toNat_natCast] at h2
  show t=cB (fR _ _).1++(fR _ _).2.1
  unfold cB
  rw[g2,List.append_assoc,<-g1]
  exact h2
theorem JQ {α:Type} {p:RS->α×RS} (h:Rd1 p) (n:Nat) (s:RS) (hs:¬s.2=0):¬(aP p n s).2.2=0:=by rw[vJ p n s hs];exact hs
theorem uB {α:Type} {p:RS->α×RS} (h:Rd1 p) (n:Nat):Rd1 (aP p n):=⟨Dl h.len n,JQ h n⟩
theorem Kn {α:Type} {p:RS->α×RS} {ok:α->Prop} {b:α->List UInt8} (h:Cd p ok b):∀(l:List α) (r:List UInt8),(∀x∈l,ok x)->aP p l.length (l.flatMap b++r,0)=(l,(r,0))
 |[],r,_=>rfl
 |x::l,r,hx=>by
  rw[List.length_cons,aP,if_pos rfl,List.flatMap_cons,List.append_assoc,h.there x _ (hx x (.head _))]
  show(x::(aP p l.length (l.flatMap b++r,0)).1,(aP p l.length (l.flatMap b++r,0)).2)=_
  rw[Kn h l r fun y hy=>hx y (.tail _ hy)]
theorem JR {α:Type} {p:RS->α×RS} {ok:α->Prop} {b:α->List UInt8} (h:Cd p ok b):∀(n:Nat) (t:List UInt8),(aP p n (t,0)).2.2=0->(∀x∈(aP p n (t,0)).1,ok x)/\(aP p n (t,0)).1.length=n/\t=(aP p n (t,0)).1.flatMap b++(aP p n (t,0)).2.1
 |0,t,_=>⟨fun x hx=>(List.not_mem_nil hx).elim,rfl,rfl⟩
 |n+1,t,e=>by
  have e1:aP p (n+1) (t,0)=((p (t,0)).1::(aP p n (p (t,0)).2).1,(aP p n (p (t,0)).2).2):=by rw[aP,if_pos rfl]
  rw[e1] at e ⊢
  have e:(aP p n (p (t,0)).2).2.2=0:=e
  have e2:=(uB h.toRd1 n).ok (s:=(p (t,0)).2) e
  obtain⟨h1,h2⟩:=h.back t (by rw[e2])
  have e3:(aP p n ((p (t,0)).2.1,0)).2.2=0:=by rw[<-e2];exact e
  obtain⟨g1,g2,g3⟩:=JR h n _ e3
  rw[<-e2] at g1 g2 g3
  refine⟨fun x hx=>?_,by simp[g2],?_⟩
  ·rcases List.mem_cons.1 hx with rfl|hx
   ·exact h1
   ·exact g1 x hx
  ·show t=(_::_).flatMap b++_
   rw[List.flatMap_cons,List.append_assoc,<-g3]
   exact h2
theorem acE {α:Type} {p:RS->α×RS} {ok:α->Prop} {b:α->List UInt8} {c:RS->Int×RS} {most:Int} (hc:Cd c (fun n=>0<=n/\n<=most) aJ) (hm:most<=4096) (h:Cd p ok b):
 Cd (fun s=>aP p (c s).1.toNat (c s).2) (fun l=>(l.length:Int)<=most/\∀x∈l,ok x) (lH b) where
 len:=fun s=>Nat.le_trans (Dl h.len _ _) (hc.len s)
 stay:=fun s hs=>JQ h.toRd1 _ _ (hc.stay s hs)
 there:=fun l r hl=>by
  unfold lH
  rw[List.append_assoc,hc.there _ _ ⟨by omega,hl.1⟩]
  show aP p ((l.length:Nat):Int).toNat _=_
  rw[Int.toNat_natCast]
  exact Kn h l r hl.2
 back:=fun t e=>by
  have e:(aP p (c (t,0)).1.toNat (c (t,0)).2).2.2=0:=e
  have e2:=(uB h.toRd1 _).ok (s:=(c (t,0)).2) e
  obtain⟨⟨h0,h1⟩,h2⟩:=hc.back t (by rw[e2])
  have e3:(aP p (c (t,0)).1.toNat ((c (t,0)).2.1,0)).2.2=0:=by rw[<-e2];exact e
  obtain⟨g1,g2,g3⟩:=JR h _ _ e3
  rw[<-e2] at g1 g2 g3
  refine⟨⟨?_,g1⟩,?_⟩
  ·show(((aP p (c (t,0)).1.toNat (c (t,0)).2).1.length:Nat):Int)<=most
   rw[g2];omega
  ·show t=lH b (aP p (c (t,0)).1.toNat (c (t,0)).2).1++_
   unfold lH
   rw[g2,Int.toNat_of_nonneg h0,List.append_assoc,<-g3]
   exact h2
theorem jL {α:Type} {p:RS->α×RS} (h:Rd1 p) (most:Int):Rd1 (cY p most):=
 ⟨fun s=>Nat.le_trans (Dl h.len _ _) ((uu most).len s),fun s hs=>JQ h _ _ ((uu most).stay s hs)⟩
theorem zK {α:Type} {p:RS->α×RS} {ok:α->Prop} {b:α->List UInt8} (h:Cd p ok b) (most:Int) (hm:most<=4096):Cd (cY p most) (fun l=>(l.length:Int)<=most/\∀x∈l,ok x) (lH b):=
 acE (Qe most hm) hm h
structure Pc {α:Type} (p:List UInt8->α×Int) (ok:α->Prop) (b:α->List UInt8):Prop where
 there:∀x,ok x->p (b x)=(x,0)
 back:∀t,(p t).2=0->ok (p t).1/\t=b (p t).1
theorem W6 {s:RS} (h:dA s=0):s=([],0):=by
 obtain⟨b,e⟩:=s
 unfold dA at h
 by_cases he:e=0
 ·rw[if_pos he] at h
  by_cases hb:b=[]
  ·rw[he,hb]
  ·rw[if_neg hb] at h;cases h
 ·rw[if_neg he] at h;exact absurd h he
theorem Rd1.get {α:Type} {p:RS->α×RS} (h:Rd1 p) (s:RS):∃(x:α) (b:List UInt8) (e:Int),p s=(x,(b,e))/\b.length<=s.1.length:=⟨_,_,_,rfl,h.len s⟩
theorem Rd1.pair {α β:Type} {p:RS->α×RS} {q:RS->β×RS} (h:Rd1 p) (k:Rd1 q):Rd1 (bg p q):=h.bind fun _=>k
def dG {α:Type} (p:RS->α×RS):Nat->RS->List α×RS
 |0=>qM []
 |n+1=>bN (fun z=>z.1::z.2) (bg p (dG p n))
theorem w7 {α:Type} {p:RS->α×RS} (h:Rd1 p):∀n,Rd1 (dG p n)
 |0=>zJ _
 |n+1=>(h.pair (w7 h n)).map _
def lP (k:Int):RS->bt×RS:=
 if k=0 then qM ⟨0,[],[],0,[]⟩
 else if k=1 then bN (fun t=>⟨1,t,[],0,[]⟩) (fB 64)
 else if k=2 then bN (fun z=>⟨2,z.1,[],0,z.2⟩) (bg (fB 64) (bN Prod.snd (cN (nR 4) fun n=>dG (fB 64) n.toNat)))
 else if k=3 then bN (fun z=>⟨3,z.1,z.2.1,z.2.2,[]⟩) (bg (fB 64) (bg (fB 64) (nR MX)))
 else bN (fun z=>⟨k,z.1,[],z.2,[]⟩) (bg (fB 64) (nR MX))
theorem IP (k:Int):Rd1 (lP k):=by
 unfold lP
 repeat' split
 ·exact zJ _
 ·exact(iB _).map _
 ·exact((iB _).pair (((dD 4).bind fun n=>w7 (iB 64) _).map _)).map _
 ·exact((iB _).pair ((iB _).pair (dD _))).map _
 ·exact((iB _).pair (dD _)).map _
def eF:RS->bt×RS:=jR (fZ (bN Prod.snd (cN (nR 4) lP)) bS) dW
theorem DE:Rd1 eF:=((((dD 4).bind IP).map _).guard _).zero _
def rz:RS->nH×RS:=jR (bN (fun z=>⟨z.1,z.2⟩) (bg (nR 65536) (nR MX))) me
theorem Be:Rd1 rz:=(((dD _).pair (dD _)).map _).zero _
theorem FN:cO=jR (fZ (bN (fun z=>⟨z.1,z.2⟩) (bg (nR 20) (nR MX))) fun s=>if s.ah=0 then 81 else 0) dx:=by
 funext s
 obtain⟨n,b,e,en,hn,hb⟩:=wR 20 s
 obtain⟨m,b2,e2,em,hm,eJ⟩:=wR MX (b,e)
 unfold cO jR fZ bN bg cN nR fF
 simp only[en,em]
 by_cases he:e2=0
 ·subst he
  by_cases hm:m=0
  ·simp[hm]
  ·simp[hm]
 ·simp[he]
theorem eM:Rd1 cO:=by rw[FN];exact((((dD _).pair (dD _)).map _).guard _).zero _
def wu:ju:=⟨0,0,dW⟩
def vL:RS->ju×RS:=bN (fun z=>⟨z.1,z.2.1,z.2.2⟩) (bg (nR 7) (bg (nR MX) eF))
def jm (b:List UInt8):ju×Int:=
 if dA (vL (b,0)).2=0 then(if(vL (b,0)).1.time=0 then(wu,80) else((vL (b,0)).1,0)) else(wu,dA (vL (b,0)).2)
def jj:RS->bX×RS:=bN (fun z=>⟨(jm z.1).1,z.2⟩) (bg (fZ (fB 1024) fun x=>(jm x).2) cO)
theorem oB:Rd1 jj:=(((iB _).guard _).pair eM).map _
def jZ:RS->List bX×RS:=jR (fZ (bN Prod.snd (cN (nR 4) fun n=>aP jj n.toNat)) fA) []
theorem oD:Rd1 jZ:=((((dD 4).bind fun n=>uB oB _).map _).guard _).zero _
theorem zF:lT=bN (fun z=>⟨z.1.1,z.1.2,z.2⟩) (cN (fZ (bg (bF 0) (bF 0)) fun z=>if(z.1==0)==(z.2==0) then 0 else 100) fun z=>cY cO (if z.1=0 then 0 else 13)):=by
 funext s
 unfold lT bN cN fZ bg cN
 simp only[FW]
theorem uw:Rd1 lT:=by rw[zF];exact((((bV _).pair (bV _)).guard _).bind fun z=>jL eM _).map _
def uC:RS->List bJ×RS:=cY cO 13
def jB:RS->jt×RS:=bN (fun z=>⟨z.1,z.2.1,z.2.2.1,z.2.2.2.1,z.2.2.2.2.1,z.2.2.2.2.2⟩) (bg (bF 0) (bg (bF 1) (bg (bF 1) (bg cO (bg uC jZ)))))
theorem uv:Rd1 jB:=((bV _).pair ((bV _).pair ((bV _).pair (eM.pair ((jL eM _).pair oD))))).map _
def iE:RS->cX×RS:=bN (fun z=>⟨z.1,z.2.1,z.2.2.1,z.2.2.2.1,z.2.2.2.2⟩) (bg (bF 1) (bg (nR 12) (bg lT (bg (cY jB 8) cO))))
theorem sI:Rd1 iE:=((bV _).pair ((dD _).pair (uw.pair ((jL uv _).pair eM)))).map _
def iC:RS->gq×RS:=bN (fun z=>⟨z.1,z.2.1,z.2.2.1,z.2.2.2⟩) (bg (bF 0) (bg (bF 1) (bg jZ cO)))
theorem pE:Rd1 iC:=((bV _).pair ((bV _).pair (oD.pair eM))).map _
def jA:RS->j7×RS:=bN (fun z=>⟨z.1,z.2.1,z.2.2.1,z.2.2.2.1,z.2.2.2.2⟩) (bg (bF 1) (bg (bF 0) (bg (bF 0) (bg (bF 0) (bF 0)))))
theorem ux:Rd1 jA:=((bV _).pair ((bV _).pair ((bV _).pair ((bV _).pair (bV _))))).map _
def nS:RS->List UInt8×RS:=fZ (fB 64) mh
theorem C9:Rd1 nS:=(iB _).guard _
def uD:RS->jX×RS:=
 bN (fun z=>⟨z.1.1,z.1.2.1,z.1.2.2.1,z.1.2.2.2.1,z.1.2.2.2.2.1,z.1.2.2.2.2.2,z.2.1,z.2.2⟩)
  (bg (fZ (bg nS (bg (bF 0) (bg (fB 64) (bg (cY jA 64) (bg (bF 0) (ia 16)))))) fun z=>if z.2.2.2.2.1<z.2.2.2.2.2 then 0 else 100) (bg (cY (bF 0) 8) lT))
theorem Jb:Rd1 uD:=(((C9.pair ((bV _).pair ((iB _).pair ((jL ux _).pair ((bV _).pair (uu _)))))).guard _).pair ((jL (bV _) _).pair uw)).map _
def qF:RS->(Int×Int×Int×Int)×RS:=bg (nR 12) (bg (bF 0) (bg (bF 1) (bF 1)))
theorem Bp:Rd1 qF:=(dD _).pair ((bV _).pair ((bV _).pair (bV _)))
def cR (k:Int):RS->aD×RS:=
 if k=1 then bN (fun l=>{aE with kind:=1,batch:=l}) (fZ jZ fun l=>if l.length=1 then 0 else 100)
 else if k=2 then bN (fun z=>{aE with kind:=2,src:=z.1.1,view:=z.1.2.1,seq:=z.1.2.2.1,ah:=z.1.2.2.2,batch:=z.2}) (bg qF jZ)
 else if k=3 then bN (fun z=>{aE with kind:=3,src:=z.1,view:=z.2.1,seq:=z.2.2.1,ah:=z.2.2.2}) qF
 else if k=4 then bN (fun z=>{aE with kind:=4,src:=z.1,view:=z.2.1,seq:=z.2.2.1,ah:=z.2.2.2}) qF
 else if k=5 then bN (fun z=>{aE with kind:=5,src:=z.1,view:=z.2.1,bD:=z.2.2.1,time:=z.2.2.2.1,result:=z.2.2.2.2}) (bg (nR 12) (bg (bF 0) (bg (nR 7) (bg (bF 0) rz))))
 else if k=6 then bN (fun z=>{aE with kind:=6,src:=z.1,seq:=z.2.1,ah:=z.2.2}) (bg (nR 12) (bg (bF 1) (bF 1)))
 else if k=7 then bN (fun c=>{aE with kind:=7,src:=c.src,view:=c.view,changes:=[c]}) iE
 else if k=8 then bN (fun z=>{aE with kind:=8,src:=z.1,view:=z.2.1,changes:=z.2.2.1,entries:=z.2.2.2}) (bg (nR 12) (bg (bF 1) (bg (cY iE 13) (cY iC 8))))
 else if k=9 then bN (fun z=>{aE with kind:=9,src:=z.1,seq:=z.2}) (bg (nR 12) (bF 0))
 else if k=10 then bN (fun z=>{aE with kind:=10,src:=z.1,cert:=z.2.1,state:=z.2.2}) (bg (nR 12) (bg lT (fB 262144)))
 else if k=11 then bN (fun z=>{aE with kind:=11,bD:=z.1,av:=z.2.1,offset:=z.2.2}) (bg (nR 7) (bg nS (bF 0)))
 else if k=12 then bN (fun z=>{aE with kind:=12,src:=z.1,proof:=z.2}) (bg (nR 12) uD)
 else fZ (qM {aE with kind:=k}) fun _=>100
theorem sY {α:Type} {c:Prop} [Decidable c] {p q:RS->α×RS} (h:Rd1 p) (k:Rd1 q):Rd1 (if c then p else q):=by split<;>assumption
theorem C0 (k:Int):Rd1 (cR k):=by
 unfold cR
 refine sY ((oD.guard _).map _) ?_
 refine sY ((Bp.pair oD).map _) ?_
 refine sY (Bp.map _) ?_
 refine sY (Bp.map _) ?_
 refine sY (((dD _).pair ((bV _).pair ((dD _).pair ((bV _).pair Be)))).map _) ?_
 refine sY (((dD _).pair ((bV _).pair (bV _))).map _) ?_
 refine sY (sI.map _) ?_
 refine sY (((dD _).pair ((bV _).pair ((jL sI _).pair (jL pE _)))).map _) ?_
 refine sY (((dD _).pair (bV _)).map _) ?_
 refine sY (((dD _).pair (uw.pair (iB _))).map _) ?_
 refine sY (((dD _).pair (C9.pair (bV _))).map _) ?_
 refine sY (((dD _).pair Jb).map _) ?_
 exact(zJ _).guard _
def jS (k:Int):RS->bJ×RS:=if bW k then cO else qM dx
theorem zG (k:Int):Rd1 (jS k):=by
 unfold jS
 split
 ·exact eM
 ·exact zJ _
def aU:RS->aD×RS:=bN (fun z=>{z.2.1 with sign:=z.2.2}) (cN (nR MX) fun k=>bg (cR k) (jS k))
theorem acF:Rd1 aU:=((dD _).bind fun k=>(C0 k).pair (zG k)).map _
def afS:cX:=⟨0,0,nk,[],dx⟩
def QN:bX:=⟨wu,dx⟩
section
structure au {α:Type} (p:RS->α×RS) (s:RS) (x:α) (t:RS):Prop where
 kM:t.2=0->p s=(x,t)
 bad:¬t.2=0->¬(p s).2.2=0
 len:t.1.length<=s.1.length
section
variable {α β:Type} {p:RS->α×RS} {s t u:RS} {x:α}
theorem au.done (h:au p s x t):(t.2=0<->(p s).2.2=0):=
 ⟨fun e=>by rw[h.kM e];exact e,fun e=>Classical.byContradiction fun k=>h.bad k e⟩
theorem au.stay (h:au p s x t) (k:Rd1 p) (e:¬s.2=0):¬t.2=0:=fun h0=>by
 have:=k.stay s e
 rw[h.kM h0] at this
 exact this h0
theorem au.pure (x:α) (s:RS):au (qM x) s x s:=⟨fun _=>rfl,fun h=>h,Nat.le_refl _⟩
theorem au.bind {q:α->RS->β×RS} {y:β} (h:au p s x t) (g:au (q x) t y u) (k:∀x,Rd1 (q x)):au (cN p q) s (x,y) u where
 kM e:=by
  have h0:t.2=0:=Classical.byContradiction fun n=>g.stay (k x) n e
  unfold cN
  rw[h.kM h0]
  show((x,(q x t).1),(q x t).2)=_
  rw[g.kM e]
 bad e:=by
  show ¬(q (p s).1 (p s).2).2.2=0
  by_cases h0:t.2=0
  ·rw[h.kM h0]
   exact g.bad e
  ·exact(k _).stay _ (h.bad h0)
 len:=Nat.le_trans g.len h.len
theorem au.pair {q:RS->β×RS} {y:β} (h:au p s x t) (g:au q t y u) (k:Rd1 q):au (bg p q) s (x,y) u:=h.bind (q:=fun _=>q) g fun _=>k
theorem au.map (f:α->β) (h:au p s x t):au (bN f p) s (f x) t where
 kM e:=by unfold bN;rw[h.kM e]
 bad e:=h.bad e
 len:=h.len
theorem au.to {q:RS->α×RS} {y:α} (h:au p s x t) (e:q=p) (e2:y=x):au q s y t:=by subst e e2;exact h
theorem au.guard {f:α->Int} (h:au p s x t) (h1:t.2=0->f x=0->u=t) (h2:t.2=0->¬f x=0->¬u.2=0) (h3:¬t.2=0->¬u.2=0) (hl:u.1.length<=t.1.length):au (fZ p f) s x u where
 kM e:=by
  have h0:t.2=0:=Classical.byContradiction fun n=>h3 n e
  have h4:f x=0:=Classical.byContradiction fun n=>h2 h0 n e
  unfold fZ
  rw[h.kM h0]
  show(x,fF (f x) t)=_
  rw[h4,h1 h0 h4]
  obtain⟨b,e⟩:=t
  replace h0:e=0:=h0
  subst h0
  rfl
 bad e:=by
  show ¬(fF (f (p s).1) (p s).2).2=0
  by_cases h0:t.2=0
  ·rw[h.kM h0]
   show ¬(fF (f x) t).2=0
   unfold fF
   rw[if_pos h0]
   intro h4
   have:=h1 h0 h4
   subst this
   exact e h0
  ·unfold fF
   rw[if_neg (h.bad h0)]
   exact h.bad h0
 len:=Nat.le_trans hl h.len
theorem au.zero {z y:α} (h:au p s x t) (h1:t.2=0->y=x):au (jR p z) s y t where
 kM e:=by
  unfold jR
  have:=h.kM e
  rw[this,if_pos e,h1 e]
 bad e:=by
  unfold jR
  rw[if_neg (h.bad e)]
  exact h.bad e
 len:=h.len
theorem au.xu {y:α} (h:¬(p s).2.2=0) (hu:¬u.2=0) (hl:u.1.length<=s.1.length):au p s y u:=⟨fun e=>absurd e hu,fun _=>h,hl⟩
theorem au.gQ {f:α->Int} (h:au p s x t) (hf:t.2=0->f x=0):au (fZ p f) s x t:=
 h.guard (fun _ _=>rfl) (fun e n=>absurd (hf e) n) (fun n=>n) (Nat.le_refl _)
theorem au.nM {f:α->Int} {y:α} (h:au p s x t) (hf:t.2=0->¬f x=0) (hu:¬u.2=0) (hl:u.1.length<=t.1.length):au (fZ p f) s y u:=
 .xu ((h.guard (u:=u) (fun e n=>absurd n (hf e)) (fun _ _=>hu) (fun _=>hu) hl).bad hu) hu (Nat.le_trans hl h.len)
theorem Fh:∀(i:Nat) (s:RS),dG p (i+1) s=((dG p i s).1++[(p (dG p i s).2).1],(p (dG p i s).2).2)
 |0,s=>rfl
 |i+1,s=>by
  have ih:=Fh i (p s).2
  show((p s).1::(dG p (i+1) (p s).2).1,(dG p (i+1) (p s).2).2)=_
  rw[ih]
  rfl
theorem au.nil (s:RS):au (dG p 0) s [] s:=au.pure _ _
theorem au.snoc {i:Nat} {l:List α} (k:Rd1 p) (h:au (dG p i) s l t) (g:au p t x u):au (dG p (i+1)) s (l++[x]) u where
 kM e:=by
  have h0:t.2=0:=Classical.byContradiction fun n=>g.stay k n e
  rw[Fh,h.kM h0]
  show(l++[(p t).1],(p t).2)=_
  rw[g.kM e]
 bad e:=by
  rw[Fh]
  show ¬(p (dG p i s).2).2.2=0
  by_cases h0:t.2=0
  ·rw[h.kM h0]
   exact g.bad e
  ·exact k.stay _ (h.bad h0)
 len:=Nat.le_trans g.len h.len
theorem Ky (k:Rd1 p):∀(n:Nat) (s:RS),((dG p n s).2.2=0->aP p n s=dG p n s)/\(¬(dG p n s).2.2=0->¬(aP p n s).2.2=0)
 |0,s=>⟨fun _=>rfl,fun h=>h⟩
 |n+1,s=>by
  have ih:=Ky k n (p s).2
  have e1:dG p (n+1) s=((p s).1::(dG p n (p s).2).1,(dG p n (p s).2).2):=rfl
  rw[e1]
  by_cases h0:s.2=0
  ·have e2:aP p (n+1) s=((p s).1::(aP p n (p s).2).1,(aP p n (p s).2).2):=by conv=>lhs;unfold aP;rw[if_pos h0]
   rw[e2]
   exact⟨fun h=>by rw[ih.1 h],fun h=>ih.2 h⟩
  ·rw[vJ p _ s h0]
   exact⟨fun h=>absurd h ((w7 k n).stay _ (k.stay s h0)),fun _=>h0⟩
theorem ZH (k:Rd1 p) {i n:Nat} (h:i<=n) (s:RS) (e:¬(dG p i s).2.2=0):¬(dG p n s).2.2=0:=by
 induction n with
 |zero=>
  have:i=0:=by omega
  subst this
  exact e
 |succ n ih=>
  by_cases hi:i=n+1
  ·subst hi;exact e
  ·rw[Fh]
   exact k.stay _ (ih (by omega))
theorem au.list {i n:Nat} {l:List α} (k:Rd1 p) (h:au (dG p i) s l t) (hi:i<=n) (hn:i=n\/¬t.2=0):au (aP p n) s l t where
 kM e:=by
  rcases hn with rfl|hn
  ·rw[(Ky k i s).1 (by rw[h.kM e];exact e)]
   exact h.kM e
  ·exact absurd e hn
 bad e:=(Ky k n s).2 (ZH k hi s (h.bad e))
 len:=h.len
theorem au.all {i n:Nat} {l:List α} (h:au (dG p i) s l t) (hn:i=n):au (dG p n) s l t:=by subst hn;exact h
end
end
end Go.Proofs.YtafomdobfmmleaaGreatDoor
