/- Lemmas and contracts, part 19. -/
import Derived.Test.YtafomdobfmmleaaGreatDoorZp18
import Derived.Lib.SplitLaws
import Derived.Lib.AtoiAll
import Derived.Deep.Light
namespace Go.Proofs.YtafomdobfmmleaaGreatDoor
set_option linter.unusedVariables false
open Go.RowKit
open Go.Proofs.Tryz
set_option maxRecDepth 20000
set_option maxHeartbeats 20000000
theorem Pu:∀s:List UInt8,Lib.splitK [32] 0 (Lib.count s [32]) s=fc s
 |[]=>by
  rw[Lib.count_miss (by simp[Lib.index])]
  rfl
 |b::l=>by
  have ih:=Pu l
  by_cases hb:b=32
  ·subst hb
   rw[Lib.count_cons_eq,Nat.add_comm 1]
   have uh:Lib.index (32::l) [32]=((0:Nat):Int):=by rw[Lib.index];simp[List.isPrefixOf]
   unfold Lib.splitK
   rw[if_neg (by rw[uh];decide),uh]
   simp only[Int.toNat_natCast,Nat.zero_add,List.take_zero,List.length_cons,List.length_nil,List.drop_succ_cons,List.drop_zero,Nat.add_zero]
   rw[ih]
   simp[fc]
  ·rw[Lib.count_cons_ne b 32 l hb]
   have hp:([32]:List UInt8).isPrefixOf (b::l)=false:=by simp[List.isPrefixOf,Ne.symm hb]
   have uh:Lib.index (b::l) [32]=if Lib.index l [32]==-1 then-1 else Lib.index l [32]+1:=by rw[Lib.index,hp];simp
   have hs:fc (b::l)=match fc l with|[]=>[[b]]|w::ws=>(b::w)::ws:=by rw[fc,if_neg hb];rfl
   rw[hs,<-ih]
   have dm:=Lib.index_ge l [32]
   by_cases hm:Lib.index l [32]=-1
   ·rw[Lib.count_miss hm]
    rfl
   ·obtain⟨j,hj⟩:∃j:Nat,Lib.index l [32]=j:=⟨(Lib.index l [32]).toNat,by omega⟩
    have Sz:Lib.index (b::l) [32]=((j+1:Nat):Int):=by rw[uh,if_neg (fun e=>hm (beq_iff_eq.1 e)),hj];omega
    rw[Lib.count_hit (by simp) hj,Nat.add_comm 1]
    unfold Lib.splitK
    rw[if_neg (by rw[Sz];intro e;have:=beq_iff_eq.1 e;omega),if_neg (by rw[hj];intro e;have:=beq_iff_eq.1 e;omega),Sz,hj]
    simp only[Int.toNat_natCast,Nat.add_zero,List.length_cons,List.length_nil,Nat.zero_add]
    rw[show j+1+1=(j+1)+1 from rfl,List.take_succ_cons,List.drop_succ_cons]
theorem Np:∀(l:List UInt8) (acc v:Nat) (c:UInt8),Lib.parseUint10 acc l=.ok v->48<=c.toNat/\c.toNat<=57->v*10+(c.toNat-48)<18446744073709551616->Lib.parseUint10 acc (l++[c])=.ok (v*10+(c.toNat-48))
 |[],acc,v,c,h,hc,hv=>by
  simp only[Lib.parseUint10] at h
  injection h with h
  subst h
  simp only[List.nil_append,Lib.parseUint10]
  rw[if_pos hc,if_neg (by omega),if_neg (by omega)]
 |d::l,acc,v,c,h,hc,hv=>by
  simp only[Lib.parseUint10] at h
  simp only[List.cons_append,Lib.parseUint10]
  split at h
  ·rename_i hd
   rw[if_pos hd]
   split at h
   ·cases h
   ·rename_i h1
    rw[if_neg h1]
    split at h
    ·cases h
    ·rename_i h2
     rw[if_neg h2]
     exact Np l _ v c h hc hv
  ·cases h
theorem Ff {d:Nat} (h:d<10):(UInt8.ofNat (48+d)).toNat=48+d:=by
 rw[UInt8.toNat_ofNat',Nat.mod_eq_of_lt (by omega)]
theorem Nw (u:Nat) (hu:u<18446744073709551616):Lib.parseUint10 0 (Lib.decDigits u)=.ok u:=by
 induction u using Nat.strongRecOn with
 |_ u ih=>
  by_cases h:u<10
  ·rw[Lib.decDigits,dif_pos h]
   simp only[Lib.parseUint10]
   rw[Ff h,if_pos (by omega),if_neg (by omega),if_neg (by omega)]
   congr 1;omega
  ·rw[Lib.decDigits,dif_neg h,Np _ 0 (u/10) _ (ih (u/10) (by omega) (by omega)) (by rw[Ff (by omega)];omega) (by rw[Ff (by omega)];omega),Ff (by omega)]
   congr 1;omega
theorem I8 (u:Nat):Lib.decDigits u≠[]:=by
 rw[Lib.decDigits]
 split<;>simp
theorem OB (n:Int) (h0:-9223372036854775808<=n) (h1:n<=9223372036854775807):Lib.atoiAll (Lib.itoa n)=.ok n:=by
 by_cases hn:n<0
 ·rw[Lib.itoa,if_pos hn]
  simp only[Lib.atoiAll]
  have T9:(45:UInt8).toNat=45:=rfl
  rw[T9,if_pos (.inr rfl),Lib.parseMag,if_neg (I8 _),Nw _ (by omega)]
  have e1:¬(9223372036854775808<n.natAbs):=by omega
  have e2:-(n.natAbs:Int)=n:=by omega
  simp[e1,e2]
 ·rw[Lib.itoa,if_neg hn]
  have hr:=CP n.toNat
  have hp:=Nw n.toNat (by omega)
  have cu:=I8 n.toNat
  revert hr hp cu
  generalize Lib.decDigits n.toNat=l
  intro hr hp cu
  match l,cu with
  |c::r,cu=>
   have hc:=hr c (by simp)
   simp only[Lib.atoiAll]
   rw[if_neg (by omega),Lib.parseMag,if_neg cu,hp]
   simp only
   rw[if_neg (by omega),if_neg (by omega),if_neg (by omega)]
   congr 1;omega
def wk (s:List UInt8):D:=match Lib.atoiAll s with
 |.ok v=>.aj [.int .i64 v,.gj true]
 |.range=>.aj [.int .i64 (Lib.atoiSat s),.gj false]
 |_=>.aj [.int .i64 0,.gj false]
theorem OC (s:List UInt8):fc s≠[]:=by
 cases s with
 |nil=>simp[fc]
 |cons b l=>
  unfold fc
  split
  ·simp
  ·split<;>simp
theorem IL (s:List UInt8):(fc s).length<=s.length+1:=by
 induction s with
 |nil=>simp[fc]
 |cons b l ih=>
  unfold fc
  split
  ·simp;omega
  ·split
   ·simp
   ·rename_i w ws e
    rw[e] at ih
    simpa using Nat.le_succ_of_le ih
theorem VM (s:List UInt8):∀w∈fc s,w.length<=s.length:=by
 induction s with
 |nil=>simp[fc]
 |cons b l ih=>
  unfold fc
  split
  ·intro w hw
   rcases List.mem_cons.1 hw with rfl|hw
   ·simp
   ·have:=ih w hw
    simp;omega
  ·split
   ·intro w hw
    simp only[List.mem_singleton] at hw
    subst hw
    simp
   ·rename_i w ws e
    rw[e] at ih
    intro x hx
    rcases List.mem_cons.1 hx with rfl|hx
    ·have:=ih w (by simp)
     simpa using this
    ·have:=ih x (by simp[hx])
     simp;omega
section
open Go.RowKit Go.Deep
theorem afC {w:World} {g:Nat} {t:TypeId} (ns:List Int) (h:dR w g t (ns.map (Value.int .i64)).toArray) (hb:∀n∈ns,-9223372036854775808<=n/\n<=9223372036854775807) (hl:ns.length<=4194304):
 (tL tI).rd (fun _=>True) w [.slice (some ⟨g,0,none⟩) ns.length ns.length] ns:=by
 refine⟨_,_,rfl,Nat.le_refl _,by unfold maxLen;omega,fun e=>(by cases e),hl,fun _=>⟨g,0,rfl,h.lt,trivial,fun i x hx=>⟨_,⟨rfl,hb x (List.mem_of_getElem? hx)⟩,fun j v hj=>?_⟩⟩⟩
 cases j with
 |zero=>
  simp only[List.getElem?_cons_zero,Option.some.injEq] at hj
  subst hj
  rw[h.cell]
  simp[tI,hx]
 |succ j=>simp at hj
set_option maxRecDepth 20000 in
set_option maxHeartbeats 20000000 in
theorem Z0 {aG:Nat->Prop} {w:World} {v:Value} {s:List Int} {x:Int} (h:(tL tI).rd aG w [v] s):
 Calls prog 260 #[v,.int .i64 x] w fun e w'=>∃k:Int,e=.returned (.int .i64 k)/\(0<=k<->x∈s)/\w=w':=by
 obtain⟨A,c,e1,hs⟩:=tL.slice h
 injection e1 with e1 _
 subst e1
 have HR:=Lib.hid h
 obtain⟨l,dH⟩:∃l,s.length=l:=⟨_,rfl⟩
 have CB:=Lib.hid dH
 rw[dH] at hs ⊢
 clear h dH
 go_enter func260,ntmps260
 go_wp2_with fail
 go_loop [5,8] (fun _ i=>∃q:Nat,q<=l/\i=.int .i64 q/\Hid (∀j y,j<q->s[j]?=some y->¬x=y)) (fun _ i=>l-(intOf i).toNat)
 case atStart=>exact⟨0,Nat.zero_le _,rfl,fun j x h=>by omega⟩
 case round=>
  obtain⟨q,hq,rfl,HP⟩:=hrel
  by_cases hlt:q<l
  ·obtain⟨y,hy⟩:∃y,s[q]?=some y:=⟨_,List.getElem?_eq_getElem (by have:=CB.out;omega)⟩
   obtain⟨_,b,off,cs,rfl,⟨rfl,_⟩,k1⟩:=tL.at HR.out hy
   have c1:=k1 0 _ rfl
   simp only[show tI.n=1 from rfl,Nat.mul_one,Nat.add_zero] at c1
   have HS:=Lib.hid hy
   have LN:(q:Int)<l:=by omega
   clear k1 hy
   by_cases e1:x=y
   ·have g:(x==y)=true:=by simpa using e1
    have g':(y==x)=true:=by simpa using e1.symm
    have E:=Lib.hid (show((0:Int)<=q<->x∈s) from⟨fun _=>by rw[e1];exact List.mem_of_getElem? HS.out,fun _=>by omega⟩)
    clear e1
    go_wp2_with fail
    go_ret
    exact⟨_,rfl,E.out,rfl⟩
   ·have g:(x==y)=false:=by simpa using e1
    have g':(y==x)=false:=by simpa using fun e=>e1 e.symm
    have E:=Lib.hid e1
    clear e1
    go_wp2_with fail
    go_round
    case rel=>exact⟨q+1,by omega,by go_num,fun j z hj hz=>by
     by_cases e:j=q
     ·rw[e,HS.out] at hz;injection hz with hz;rw[<-hz];exact E.out
     ·exact HP.out j z (by omega) hz⟩
    case measure=>simp[intOf];omega
  ·have LN:¬(q:Int)<l:=by omega
   have E:=Lib.hid (show((0:Int)<=-1<->x∈s) from by
    refine⟨fun hx=>by omega,fun hx=>?_⟩
    exfalso
    obtain⟨j,hj⟩:=List.getElem?_of_mem hx
    have HU:j<s.length:=by
     rcases Nat.lt_or_ge j s.length with h'|h'
     ·exact h'
     ·rw[List.getElem?_eq_none h'] at hj;cases hj
    exact HP.out j x (by have:=CB.out;omega) hj rfl)
   go_wp2_with fail
   go_ret
   exact⟨_,rfl,E.out,rfl⟩
theorem Z1 {aG:Nat->Prop} {w:World} {v:Value} {s:List Int} {x:Int} (h:(tL tI).rd aG w [v] s):
 Calls prog 204 #[v,.int .i64 x] w fun e w'=>e=.returned (.bool (decide (x∈s)))/\w=w':=by
 have HI:=Lib.hid (Z0 (x:=x) h)
 clear h
 go_enter func204,ntmps204
 go_wp2_with (first|(go_at_call 260;(with_reducible refine HI.out.mono ?_);rintro e w1 ⟨k,rfl,hk,rfl⟩;rcases(show(decide (x∈s)=true/\0<=k)\/(decide (x∈s)=false/\¬0<=k) from by by_cases hx:x∈s<;>simp[hx]<;>simp[hx] at hk<;>omega) with⟨hz,iH⟩|⟨hz,iH⟩;all_goals (have HZ:=Lib.hid hz;clear hz hk)))
 all_goals go_ret;exact⟨by rw[HZ.out];simp<;>omega,rfl⟩
theorem VY (k:Int):decide (k∈([2,3,4,5,6,8,9]:List Int))=bW k:=by
 rw[Bool.eq_iff_iff]
 simp[bW,or_assoc]
theorem Xd {w:World} {k:Int}:Calls prog 156 #[.int .i64 k] w fun e w'=>e=.returned (.bool (bW k))/\B w w':=by
 have HI:=Lib.hid (Z1 (x:=k) (afC (w:=w.alloc (.cells #[.int .i64 2,.int .i64 3,.int .i64 4,.int .i64 5,.int .i64 6,.int .i64 8,.int .i64 9] 3)) (g:=w.heap.size) (t:=3) [2,3,4,5,6,8,9] (dR.new w 3 _) (by simp) (by simp)))
 rw[VY] at HI
 go_enter func156,ntmps156
 go_wp2_with (first|(go_at_call 204;(with_reducible refine qC (HI.out) ?_);rintro e w1 ⟨rfl,rfl⟩))
 go_ret
 exact⟨rfl,BB.out⟩
end
section
open Go.RowKit Go.Deep
section
variable {W w:World} {p:Nat} {v:Value} {bs:List UInt8} {X:List gi}
end
end
section
open Go.RowKit Go.Deep
theorem uy {n a b:Int} (h:cQ n a b=0):a<=n/\n<=b:=by
 unfold cQ at h
 split at h
 ·cases h
 ·omega
theorem oA {x:aD} (h:eC x=0):eX x=0:=by
 unfold eC at h
 split at h
 ·cases h
 ·exact h
theorem nG {x:aD} (h:eX x=0):bP x=0:=by
 exact(bQ.1 h).1
theorem jE.len {aG:Nat->Prop} {w:World} {cs:List Value} {x:aD} (hx:jE.rd aG w cs x):cs.toArray.size=30:=by
 obtain⟨Ms,Mt,Mu,Mv,Mw,Mx,My,Mz,MA,rfl,MC⟩:=jE.parts hx
 rfl
noncomputable def ig (x:aD):Int:=if eC x=0 then(if 262144<(kg x).length then 3 else 0) else eC x
theorem wY {x:aD}:ig x=0<->eC x=0/\(kg x).length<=262144:=by
 unfold ig
 split
 ·rename_i h
  split
  ·rename_i h2;constructor
   ·intro h3;cases h3
   ·intro h3;omega
  ·rename_i h2;exact⟨fun _=>⟨h,by omega⟩,fun _=>rfl⟩
 ·rename_i h;exact⟨fun h2=>absurd h2 h,fun h2=>absurd h2.1 h⟩
theorem abm {x:aD}:KY x<->ig (eu x)=0:=wY.symm
theorem jE.WS {aG:Nat->Prop} {w:World} {cs:List Value} {x:aD} (hx:jE.rd aG w cs x):∃a c,cs.toArray[13]?=some (.slice a x.changes.length c)/\(tL vU).rd aG w [.slice a x.changes.length c] x.changes:=by
 obtain⟨Ms,Mt,Mu,Mv,Mw,Mx,My,Mz,MA,rfl,MC,Tt,Tu,Tv,Tw,Tx,Tz,TA,TB,MD,SF,SG,Lt,D6,Lu,G8,SH,SI,SJ,SK,G9,Lv,SL,SM,Lw,SN,SO,Lx,Ly,Lz⟩:=jE.parts hx
 obtain⟨a,c,he,hl⟩:=tL.slice D6
 injection he with he _
 subst he
 exact⟨a,c,rfl,D6⟩
end
section
open Go.RowKit Go.Deep
theorem Z2 (s:ByteArray) (pos:Nat):(Utf8.decode s pos).2<=4:=by
 simp only[Utf8.decode]
 repeat' split
 all_goals simp_all
 all_goals omega
theorem NQ (s:ByteArray):∀k pos n m,s.size<=pos+k->jk s k pos n=some m->n<=m/\s.size<=pos+4*(m-n)
 |0,pos,n,m,hk,h=>by
  simp only[jk] at h
  injection h with h
  omega
 |k+1,pos,n,m,hk,h=>by
  simp only[jk] at h
  split at h
  ·rename_i hp
   split at h
   ·cases h
   ·have h1:=OU s pos hp
    have h4:=Z2 s pos
    have:=NQ s k _ _ m (by omega) h
    omega
  ·injection h with h
   omega
theorem C2 {s:List UInt8} (h:jg s=true):s.length<=64:=by
 unfold jg uF at h
 simp only[decide_eq_true_eq] at h
 split at h
 ·omega
 ·rename_i n hn
  split at h
  ·omega
  ·have:=NQ (aA s) _ 0 0 n (by rw[Bo];omega) hn
   rw[Bo] at this
   omega
theorem zV {s:List UInt8} (h:mh s=0):s.length<=64:=by
 unfold mh at h
 split at h
 ·rename_i hn;exact C2 hn
 ·cases h
theorem zo {o:bt} (h:bS o=0):(iy o).length<=1000:=by
 have h0:=xB h
 unfold bS at h
 repeat' split at h
 all_goals try cases h
 rename_i g1 g2 g3 g4 g5
 have ek:=kV o.kind.toNat (by omega)
 have eo:=kV o.offset.toNat (by omega)
 have bl:∀b:List UInt8,b.length<=64->(cB b).length<=74:=fun b hb=>by
  unfold cB
  have:=kV b.length (by omega)
  rw[List.length_append];omega
 unfold iy
 rw[List.length_append,List.length_append]
 have p1:(if o.kind=0 then[] else cB o.av).length<=74:=by
  split
  ·simp
  ·rename_i hk
   exact bl _ (C2 (by simpa[hk] using g2))
 have p2:(if o.kind=2 then enc o.records.length++o.records.flatMap cB else if o.kind=3 then cB o.group++enc o.offset.toNat else if o.kind=4 then enc o.offset.toNat else[]).length<=800:=by
  split
  ·rename_i k2
   have hr:o.records.length<=4/\th o=false:=by
    simp only[not_and,not_or] at g4
    have:=g4 k2
    exact⟨by omega,by simpa using this.2.2⟩
   have e5:=kV o.records.length (by omega)
   have e6:=lz (f:=cB) (K:=74) o.records (fun x hx=>bl x (by
    have:=hr.2
    unfold th at this
    rw[List.any_eq_false] at this
    have:=this x hx
    simp at this
    omega))
   rw[List.length_append]
   have:o.records.length*74<=4*74:=Nat.mul_le_mul_right _ hr.1
   omega
  ·split
   ·rename_i k3
    have:=bl o.group (C2 (by simpa[k3] using g3))
    rw[List.length_append];omega
   ·split
    ·omega
    ·simp
 omega
theorem fG (n:Int):(aJ n).length<=10:=by
 unfold aJ
 exact kV _ (by omega)
theorem yj (l:List Int):(aN l).length<=10*l.length:=by
 unfold aN
 have:=lz (f:=aJ) (K:=10) l (fun x _=>fG x)
 omega
theorem OW {s:bJ} (h:dw s=0):(rL s).length<=20:=by
 have h':=Ge h
 have e1:=kV s.key.toNat (by omega)
 have e2:=kV s.ah.toNat (by omega)
 unfold rL
 rw[List.length_append];omega
theorem vE (s:bJ):(cG s).length<=20:=by
 unfold cG
 split
 ·rename_i h;exact OW h
 ·simp
theorem vC {x:ju} (h:iR x=0):(iS x).length<=1020:=by
 obtain⟨c,t,o⟩:=aeD h
 have e1:=kV x.bD.toNat (by omega)
 have e2:=kV x.time.toNat (by omega)
 have e3:=zo o
 unfold iS
 simp only[List.length_append];omega
theorem Bb (l:List bX):(jM l).length<=4300:=by
 unfold jM
 split
 ·rename_i h
  have h':=J1 h
  unfold BI
  have e:=kV l.length (by omega)
  have f:=lz (f:=zO) (K:=1050) l (fun s hs=>by
   obtain⟨h1,h2⟩:=h'.2 s hs
   have a1:=vC h1
   have a2:=OW h2
   have a3:=kV (iS s.request).length (by omega)
   unfold zO cB
   simp only[List.length_append];omega)
  rw[List.length_append]
  have:l.length*1050<=4*1050:=Nat.mul_le_mul_right _ h'.1
  omega
 ·simp
theorem pL {n:Nat} {m:Int} (h:jd n m=0):(n:Int)<=m:=(uy h).2
theorem CS {l:List bJ} (h:lQ l=0):(rB l).length<=270:=by
 have h1:=pL (bQ.1 h).1
 unfold rB
 have e:=fG (l.length:Int)
 have f:=lz (f:=cG) (K:=20) l (fun s _=>vE s)
 rw[List.length_append]
 have:l.length*20<=13*20:=Nat.mul_le_mul_right _ (by omega)
 omega
theorem CV {c:gX} (h:jl c=0):(lR c).length<=300:=by
 unfold jl at h
 have h1:=(bQ.1 (bQ.1 (bQ.1 h).2).2).2
 have e:=yj [c.seq,c.ah]
 have f:=CS h1
 simp at e
 unfold lR
 rw[List.length_append];omega
theorem Ov {p:jt} (h:jQ p=0):(iJ p).length<=5000:=by
 unfold jQ at h
 simp only[bQ] at h
 have e:=yj [p.view,p.seq,p.ah]
 have f:=CS h.2.2.2.2.1
 have g:=vE p.kG
 have b:=Bb p.batch
 simp at e
 unfold iJ
 simp only[List.length_append];omega
theorem IW {c:cX} (h:ir c=0):(jy c).length<=41000:=by
 unfold ir at h
 simp only[bQ] at h
 obtain⟨_,_,h3,h4,h5,_⟩:=h
 have n:=pL h4
 have e:=yj [c.view,c.src]
 have f:=CV h3
 have g:=fG (c.cD.length:Int)
 have b:=lz (f:=iJ) (K:=5000) c.cD (fun p hp=>Ov (gV.1 h5 p hp))
 have:c.cD.length*5000<=8*5000:=Nat.mul_le_mul_right _ (by omega)
 simp at e
 unfold jy
 simp only[List.length_append];omega
theorem Pm {c:cX} (h:ir c=0):(fq c).length<=41100:=by
 have a:=IW h
 have b:=vE c.sign
 unfold fq
 simp only[List.length_append];omega
theorem NZ (x:gq):(gG x).length<=4400:=by
 have e:=yj [x.view,x.seq]
 have a:=Bb x.batch
 have b:=vE x.sign
 simp at e
 unfold gG
 simp only[List.length_append];omega
theorem WQ {p:jX} (h:mB p=0):(jw p).length<=5000:=by
 unfold mB at h
 simp only[bQ] at h
 obtain⟨h1,_,h3,h4,_,_,_,_,h9,_,iG⟩:=h
 have n1:=zV h1
 have n3:=pL h3
 have n4:=pL h4
 have n9:=pL h9
 have a1:=kV p.av.length (by omega)
 have a2:=kV p.record.length (by omega)
 have e1:=yj [p.offset]
 have e2:=yj [p.index,p.count]
 have f1:=fG (p.headers.length:Int)
 have f2:=fG (p.path.length:Int)
 have c:=CV iG
 have b1:=lz (f:=gZ) (K:=50) p.headers (fun x _=>by have:=yj [x.seq,x.prev,x.batch,x.root,x.state];simp at this;unfold gZ;omega)
 have b2:=lz (f:=aJ) (K:=10) p.path (fun x _=>fG x)
 have:p.headers.length*50<=64*50:=Nat.mul_le_mul_right _ (by omega)
 have:p.path.length*10<=8*10:=Nat.mul_le_mul_right _ (by omega)
 simp at e1 e2
 unfold jw cB
 simp only[List.length_append];omega
theorem so {m:aD} (h:bP m=0):(aO m).length<=1000000:=by
 have hk:=fG m.kind
 unfold aO
 rw[List.length_append]
 suffices (cT m).length<=900000 by omega
 have ns:∀l:List Int,l.length<=4->(aN l).length<=40:=fun l hl=>by have:=yj l;omega
 unfold bP at h
 unfold cT
 by_cases k1:m.kind=1
 ·rw[if_pos k1];have:=Bb m.batch;omega
 rw[if_neg k1] at h ⊢
 by_cases k2:m.kind=2
 ·rw[if_pos k2];have:=Bb m.batch;have:=ns [m.src,m.view,m.seq,m.ah] (by simp);rw[List.length_append];omega
 rw[if_neg k2] at h ⊢
 by_cases k3:m.kind=3\/m.kind=4
 ·rw[if_pos k3];have:=ns [m.src,m.view,m.seq,m.ah] (by simp);omega
 rw[if_neg k3]
 rw[if_neg (fun e=>k3 (.inl e)),if_neg (fun e=>k3 (.inr e))] at h
 by_cases k5:m.kind=5
 ·rw[if_pos k5] at h ⊢
  simp only[bQ] at h
  have r1:=uy h.2.2.2.2.1
  have r2:=uy h.2.2.2.2.2
  have a1:=kV (max m.result.err 0).toNat (by omega)
  have a2:=kV (max m.result.offset 0).toNat (by omega)
  have:=ns [m.src,m.view,m.bD,m.time] (by simp)
  unfold wW
  simp only[List.length_append];omega
 rw[if_neg k5] at h ⊢
 by_cases k6:m.kind=6
 ·rw[if_pos k6];have:=ns [m.src,m.seq,m.ah] (by simp);omega
 rw[if_neg k6] at h ⊢
 by_cases k7:m.kind=7
 ·rw[if_pos k7] at h ⊢
  split
  ·rename_i c r hc
   have:=gV.1 (bQ.1 h).2 c (by rw[hc];simp)
   unfold rK at this
   have:=IW (bQ.1 this).1
   omega
  ·simp
 rw[if_neg k7] at h ⊢
 by_cases k8:m.kind=8
 ·rw[if_pos k8] at h ⊢
  unfold iP at h
  simp only[bQ] at h
  obtain⟨_,_,h3,h4,h5,_⟩:=h
  have n3:=pL h3
  have n5:=pL h5
  have f1:=fG (m.changes.length:Int)
  have f2:=fG (m.entries.length:Int)
  have b1:=lz (f:=fq) (K:=41100) m.changes (fun c hc=>Pm (gV.1 h4 c hc))
  have b2:=lz (f:=gG) (K:=4400) m.entries (fun c hc=>NZ c)
  have:m.changes.length*41100<=13*41100:=Nat.mul_le_mul_right _ (by omega)
  have:m.entries.length*4400<=8*4400:=Nat.mul_le_mul_right _ (by omega)
  have:=ns [m.src,m.view] (by simp)
  simp only[List.length_append];omega
 rw[if_neg k8] at h ⊢
 by_cases k9:m.kind=9
 ·rw[if_pos k9];have:=ns [m.src,m.seq] (by simp);omega
 rw[if_neg k9] at h ⊢
 by_cases ud:m.kind=10
 ·rw[if_pos ud] at h ⊢
  simp only[bQ] at h
  have c:=CV h.2.1
  have s:=pL h.2.2
  have a:=kV m.state.length (by omega)
  have:=ns [m.src] (by simp)
  unfold cB
  simp only[List.length_append];omega
 rw[if_neg ud] at h ⊢
 by_cases oU:m.kind=11
 ·rw[if_pos oU] at h ⊢
  simp only[bQ] at h
  have s:=zV h.2.1
  have a:=kV m.av.length (by omega)
  have:=ns [m.bD] (by simp)
  have:=ns [m.offset] (by simp)
  unfold cB
  simp only[List.length_append];omega
 rw[if_neg oU] at h ⊢
 by_cases ue:m.kind=12
 ·rw[if_pos ue] at h ⊢
  have:=WQ (bQ.1 h).2
  have:=ns [m.src] (by simp)
  simp only[List.length_append];omega
 rw[if_neg ue]
 simp
end
theorem Dw [Wd] (s:List UInt8) (hs:s.length<=4194304):aq prog 27 [.str s] (.bool (jg s)):=
 bC.old (v:=.bool (jg s)) (fun _ _=>.bool _) (by kernel_rfl) (fun w I vs hv=>by
  obtain⟨v,rfl,h⟩:=hv.vR
  cases h
  exact KE w s hs) rfl
theorem Rs {α:Type} {f:α->Bool} {l:List α} {q:Nat} {x:α} (hx:l[q]?=some x) (h:f x=false) (he:(l.take q).any f=false):(l.take (q+1)).any f=false:=by
 rw[List.take_add_one,List.any_append,he,hx]
 simp[h]
theorem acy [Wd] (o:bt):aq prog 150 [.agg (cC o)] (.aj [.agg (cC (jz o)),.bool (kindOk o)]):=by
 obtain⟨k,t,g,f,rs⟩:=o
 have hk:k=0\/k=1\/k=2\/k=3\/k=4\/(k<0\/4<k):=by omega
 rcases hk with rfl|rfl|rfl|rfl|rfl|hk
 case inr.inr.inr.inr.inr=>
  rw[show jz ⟨k,t,g,f,rs⟩=⟨k,[],[],0,[]⟩ by unfold jz;simp only;rw[if_neg (by omega),if_neg (by omega),if_neg (by omega),if_neg (by omega)],show kindOk ⟨k,t,g,f,rs⟩=false by simp only[kindOk];simp;omega]
  refine ak 46 [] func150 ?_
  repeat' (conv=>arg 2;whnf);first|apply an<;>intro h|exact G5|(exfalso;simp at h;omega)
 all_goals
  refine ak 46 [] func150 ?_
  repeat' (conv=>arg 2;whnf);first|exact G5
theorem Yi [Wd] (r:List UInt8):aq prog 151 [.list 1 (r.map af)] (.bool (decide (64<r.length))):=by
 refine ak 6 [] func151 ?_
 repeat' (conv=>arg 2;whnf);first|(refine cL ?_;simp;omega)
def tD (r:List UInt8):Bool:=decide (64<r.length)
def q8:List (List UInt8)->Int
 |[]=>-1
 |r::l=>if tD r then 0 else if q8 l<0 then-1 else q8 l+1
theorem Sg:∀{l:List (List UInt8)} {q:Nat} {x:List UInt8},l[q]?=some x->tD x=true->(l.take q).any tD=false->q8 l=q
 |[],_,_,h,_,_=>by simp at h
 |r::l,0,x,h,hx,_=>by
  simp only[List.getElem?_cons_zero,Option.some.injEq] at h
  subst h
  simp[q8,hx]
 |r::l,q+1,x,h,hx,he=>by
  simp only[List.take_succ_cons,List.any_cons,Bool.or_eq_false_iff] at he
  have:=Sg (by simpa using h) hx he.2
  simp only[q8,he.1,this]
  rw[if_neg (by simp),if_neg (by omega)]
  omega
theorem Sh:∀{l:List (List UInt8)},l.any tD=false->q8 l=-1
 |[],_=>rfl
 |r::l,he=>by
  simp only[List.any_cons,Bool.or_eq_false_iff] at he
  simp[q8,he.1,Sh he.2]
theorem RQ:∀l:List (List UInt8),decide (0<=q8 l)=l.any tD
 |[]=>rfl
 |r::l=>by
  have:=RQ l
  rw[List.any_cons,<-this]
  simp only[q8]
  by_cases hr:tD r=true
  ·simp[hr]
  ·by_cases h:q8 l<0
   ·have h2:¬0<=q8 l:=by omega
    simp[h,h2,hr]
   ·have h2:0<=q8 l:=by omega
    have h3:0<=q8 l+1:=by omega
    simp[h,h2,h3,hr]
theorem W3 [Wd] (l:List (List UInt8)) (hl:l.length<=4194304):aq prog 203 [.list 1 (l.map gS),.fn 151 0 []] (.int .i64 (q8 l)):=by
 refine ak 19 [] func203 ?_
 conv=>arg 2;whnf
 refine bE (α:=Nat) (fun q=>⟨[(8,.int .i64 q),(7,.int .i64 (l.map gS).length),(1,.fn 151 0 []),(0,.list 1 (l.map gS))],[]⟩) (fun q=>q<=l.length/\(l.take q).any tD=false) (fun q=>l.length-q) 0 ⟨Nat.zero_le _,rfl⟩ (Sv.aK []) ?_
 rintro q ⟨hq,he⟩
 repeat' (conv=>arg 2;whnf);first|apply an<;>intro h|refine cK (l:=l) (by simp at h;omega) (fun x hx=>?_)|refine okF (Yi x) ?_|refine bZ (by simp at h hq;omega) ?_|refine aZ (q+1) (Sv.aK []) ⟨by have:=(List.getElem?_eq_some_iff.1 hx).1;omega,Rs hx (by simpa[tD] using h) he⟩ (by have:=(List.getElem?_eq_some_iff.1 hx).1;omega)|refine bq ?_|refine eG ?_|(refine cF ?_;exact(Sg hx (by simpa[tD] using h) he).symm)|(refine cF ?_;rw[List.take_of_length_le (by simp at h;omega)] at he;exact(Sh he).symm)
theorem UZ [Wd] (l:List (List UInt8)) (hl:l.length<=4194304):aq prog 152 [.list 1 (l.map gS),.fn 151 0 []] (.bool (l.any tD)):=by
 refine ak 9 [] func152 ?_
 repeat' (conv=>arg 2;whnf);first|refine okF (W3 l hl) ?_|(refine cL ?_;exact RQ l)
theorem acz {o:bt} (h:fD.ok o):fD.ok (jz o):=by
 obtain⟨h1,h2,h3,h4,h5⟩:=h
 have z:([]:List UInt8).length<=4194304:=Nat.zero_le _
 have r:∀n:Int,0<=n/\n<=4->-9223372036854775808<=n/\n<=9223372036854775807:=fun n _=>by omega
 have e:(dL dY).ok ([]:List (List UInt8)):=⟨Nat.zero_le _,fun x hx=>by cases hx⟩
 unfold jz
 split
 ·exact⟨r 1 (by decide),h2,z,r 0 (by decide),e⟩
 split
 ·exact⟨r 2 (by decide),h2,z,r 0 (by decide),h5⟩
 split
 ·exact⟨r 3 (by decide),h2,h3,h4,e⟩
 split
 ·exact⟨r 4 (by decide),h2,z,h4,e⟩
 exact⟨h1,z,z,r 0 (by decide),e⟩
theorem sC [Wd] (o:bt) (ho:fD.ok o):aq prog 107 [.agg (cC o)] (.int .i64 (bS o)):=by
 have hb:=acz ho
 have he:bS o=if kindOk o=false\/cx o (jz o)=false then 60 else if o.kind≠0/\jg o.av=false then 61 else if o.kind=3/\jg o.group=false then 61 else if o.kind=2/\(o.records.length<1\/4<o.records.length\/o.records.any tD=true) then 62 else if o.offset<0\/9007199254740992<o.offset then 60 else 0:=by
  unfold bS
  rw[WO]
  rfl
 refine ak 71 [] func107 ?_
 repeat' (conv=>arg 2;whnf);first|apply an<;>intro h|refine okF (acy o) ?_|refine okF (JX o (jz o) ho hb) ?_|refine okF (Dw o.av ho.2.1) ?_|refine okF (Dw o.group ho.2.2.1) ?_|refine okF (UZ o.records ho.2.2.2.2.1) ?_|refine cF ?_|(exfalso;clear he;simp_all;done)
 all_goals
  rw[he]
  clear he hb ho
  (try simp only[List.length_map] at*)
  generalize o.records.length=n at*
  generalize o.records.any tD=lf at*
  simp_all
  try (first|omega|(split<;>first|omega|(simp_all;omega))|(intros;exfalso;simp_all;omega))
theorem bY [Wd] {P:Program} {Q:Exit->S->Prop} {b:Bool} {t f:T} (hb:b=true) (h:t.ok P Q):(bT b t f).ok P Q:=by subst hb;exact h
theorem bB [Wd] {P:Program} {Q:Exit->S->Prop} {b:Bool} {t f:T} (hb:b=false) (h:f.ok P Q):(bT b t f).ok P Q:=by subst hb;exact h
theorem kf [Wd] {P:Program} {tb:TT} {rs:List ResultVar} {e:Exit} {s:S} {xs ys:List UInt8} (he:e=.normal\/e=.ret) (hr:iD tb s rs=some [.list 1 (xs.map af)]) (h:xs=ys):(T.leaf e s).ok P (Lf tb rs [] (fun r' h'=>r'=.list 1 (ys.map af)/\h'=[])):=by
 subst h
 exact qB he hr (.refl _) rfl
theorem pK [Wd] {P:Program} {tb:TT} {rs:List ResultVar} {e:Exit} {s:S} {xs ys:List UInt8} {d:D} (he:e=.normal\/e=.ret) (hr:iD tb s rs=some [.list 1 (xs.map af),d]) (h:xs=ys) (hp:ga d=true):(T.leaf e s).ok P (Lf tb rs [] (fun r' h'=>r'=.aj [.list 1 (ys.map af),d]/\h'=[])):=by
 subst h
 exact qB he hr (.refl _) (by simp[ga,ga.pl,hp])
theorem sH {α:Type} {f:α->List UInt8} {l:List α} {q:Nat} {x:α} (h:l[q]?=some x):(l.take (q+1)).flatMap f=(l.take q).flatMap f++f x:=by
 rw[List.take_add_one,h,List.flatMap_append];simp
theorem lE (b:List UInt8) (h:b.length<=4194304):(cB b).length<=b.length+10:=by
 have:=kV b.length (by omega)
 unfold cB
 rw[List.length_append];omega
theorem oM {o:bt} {k:Int} (h:o.kind=k):{o with kind:=k}=o:=by subst h;rfl
def lM (o:bt):List UInt8:=if bS o=0 then iy o else[]
theorem Ss {x:ju} (h:iR x=0):0<=x.bD/\x.bD<=7/\1<=x.time/\x.time<=9007199254740992/\bS x.op=0:=by
 unfold iR at h
 split at h
 ·cases h
 ·refine⟨by omega,by omega,by omega,by omega,h⟩
theorem Jl:∀a b:List bX,lA (a++b)=aF (lA a) (lA b)
 |[],b=>by simp[lA,gu]
 |x::a,b=>by simp only[List.cons_append,lA,Jl a b,eZ]
theorem FG {l:List bX} {q:Nat} {x:bX} (hx:l[q]?=some x) (he:lA (l.take q)=0):lA l=aF (iR x.request) (aF (dw x.sign) (lA (l.drop (q+1)))):=by
 have hlt:=(List.getElem?_eq_some_iff.1 hx).1
 have e:l=l.take q++x::l.drop (q+1):=by
  conv=>lhs;rw[<-List.take_append_drop q l]
  rw[List.drop_eq_getElem_cons hlt,(List.getElem?_eq_some_iff.1 hx).2]
 rw[e,Jl,he,gu,<-e]
 rfl
theorem Ph {l:List bX} {q:Nat} {x:bX} (hx:l[q]?=some x) (he:lA (l.take q)=0) (h1:iR x.request=0) (h2:dw x.sign=0):lA (l.take (q+1))=0:=by
 rw[List.take_add_one,hx,Jl,he]
 simp[lA,h1,h2,aF]
theorem FH {l:List bX} (hl:¬4<l.length) (h:¬lA l=0):fA l=lA l:=by
 unfold fA aF
 rw[if_neg hl,if_neg h]
def yY (l:List bX) (i k:Nat):Bool:=match l[i]?,l[k]? with|some a,some b=>SE a b|_,_=>false
theorem Js (l:List bX):zT l=(List.range l.length).any fun i=>(List.range i).any fun k=>yY l i k:=rfl
theorem FI {f:Nat->Bool} {k:Nat} (h:(List.range k).any f=false) (h1:f k=false):(List.range (k+1)).any f=false:=by
 rw[List.range_succ,List.any_append,h]
 simp[h1]
theorem Pj {l:List bX} {i k:Nat} (hi:i<l.length) (hk:k<i) (h:yY l i k=true):zT l=true:=by
 rw[Js,List.any_eq_true]
 exact⟨i,List.mem_range.2 hi,List.any_eq_true.2 ⟨k,List.mem_range.2 hk,h⟩⟩
theorem GK {l:List bX} {i k:Nat} {x y:bX} (hx:l[i]?=some x) (hy:l[k]?=some y):yY l i k=((x.request.bD==y.request.bD)&&(x.request.time==y.request.time)):=by
 unfold yY
 rw[hx,hy]
 rfl
theorem Iq {α β:Type} {f g:α->List β}:∀{l:List α},(∀s∈l,f s=g s)->l.flatMap f=l.flatMap g
 |[],_=>rfl
 |x::l,h=>by
  rw[List.flatMap_cons,List.flatMap_cons,h x (by simp),Iq (fun s hs=>h s (by simp[hs]))]
theorem Dj [Wd] {P:Program} {f:FuncId} {ar:List D} {bs:List UInt8} (hl:bs.length<=aL) (xz:rj P f=true) (h:∀w I vs,dQ I w vs ar->Calls P f vs.toArray w (qL w bs)) (hp:ga.pl ar=true):aq P f ar (.list 1 (bs.map af)):=by
 refine⟨xz,fun w I g vs _ hd ha=>(h w I vs (ur ha hp)).mono ?_⟩
 rintro e w' ⟨v,rfl,hr,hb⟩
 have hg:g=[]:=List.eq_nil_of_length_eq_zero hd.len
 subst hg
 have hn:∀b,¬dF [] [] b:=fun b ⟨o,ao,p,h,_⟩=>by simp at h
 refine .inl ⟨v,fun b=>I b\/(w.heap.size<=b/\b<w'.heap.size),[],_,[],rfl,⟨rfl,rfl⟩,(hd.later hb).Al (fun _ h=>.inl h) (fun b cw=>?_) (fun b _=>hn b),.rd ((Bs.acX hr hl).dr (fun g hg _=>.inr ⟨Gh hr hg,Ry hr hg⟩)),Ext.of_B hb,fun _ h=>.inl h,fun b cw=>?_,fun b h=>.inl h,fun o p t cs _ h=>by simp at h⟩
 ·rcases cw with k|k
  ·have:=hd.aG b k
   have:=hb.size
   omega
  ·exact k.2
 ·rcases cw with k|k
  ·exact .inl k
  ·exact .inr (.inr k.1)
theorem dQ.Dk [Old] {I:Nat->Prop} {w:World} {cs:List Value} {d e:D} (h:dQ I w cs [d,e]):∃v u,cs=[v,u]/\Dr I w v d/\Dr I w u e:=by
 obtain⟨hl,h⟩:=h
 match cs,hl with
 |[v,u],_=>exact⟨v,u,rfl,h 0 v d rfl rfl,h 1 u e rfl rfl⟩
theorem Ot (n:Int):0<=IntKind.u64.wrap n/\IntKind.u64.wrap n<18446744073709551616:=by
 simp only[IntKind.wrap,IntKind.signed,IntKind.bits]
 simp
 omega
theorem Qq (n:Int):enc (IntKind.u64.wrap n).toNat=aJ n:=by
 unfold aJ
 congr 2
theorem sj [Wd] (bs:List UInt8) (n:Int) (hl:bs.length+100<=aL):aq prog 112 [.list 1 (bs.map af),.int .u64 (IntKind.u64.wrap n)] (.list 1 ((bs++aJ n).map af)):=
 Dj (by have:=qA (show(n%18446744073709551616).toNat<18446744073709551616 by omega);unfold aJ;rw[List.length_append];omega) (by kernel_rfl) (fun w I vs hv=>by
  obtain⟨v,u,rfl,h1,h2⟩:=hv.Dk
  cases h2
  rw[<-Qq]
  exact adw (h1.bs (by omega)) _ (Ot n) (by omega)) rfl
theorem A9 [Wd] (bs xs:List UInt8) (hx:xs.length<=4194304) (hl:(bs++xs).length+100<=aL):aq prog 154 [.list 1 (bs.map af),.list 1 (xs.map af)] (.list 1 ((bs++cB xs).map af)):=
 Dj (by have:=qA (show xs.length<18446744073709551616 by omega);unfold cB;simp at hl ⊢;omega) (by kernel_rfl) (fun w I vs hv=>by
  obtain⟨v,u,rfl,h1,h2⟩:=hv.Dk
  rw[<-Rq]
  exact Wt (h1.bs (by simp at hl;omega)) (h2.bs (by simp at hl;omega)) (by omega)) rfl
theorem FY (s:bJ):(cG s).length<=20:=by
 unfold cG
 split
 ·rename_i h
  obtain⟨h1,h2⟩:=Ge h
  have e1:=qA (show s.key.toNat<18446744073709551616 by omega)
  have e2:=qA (show s.ah.toNat<18446744073709551616 by omega)
  unfold rL
  rw[List.length_append]
  omega
 ·simp
theorem Dh [Wd] (l:List UInt8) (hl:l.length<=140737488355328):aq prog 153 [.list 1 (l.map af)] (.list 1 (l.map af)):=by
 refine kK false 8 [] func153 ?_
 repeat'
  (conv=>arg 2;whnf)
  first
  |refine aT (by simp[maxLen];omega) ?_
  |refine aV ?_ ?_
  |apply an<;>intro h
  |(have e:l=[]:=by simpa using h
    subst e
    refine j5 rfl (.nil _))
  |refine mE [1] (.inr rfl) rfl (.refl _) rfl
theorem Kl [Wd] (s:bJ):aq prog 307 [.agg (bL s)] (.int .i64 (dw s)):=by
 refine ak 21 [] func307 ?_
 repeat' (conv=>arg 2;whnf);first|apply an<;>intro h|refine cF ?_
 all_goals simp_all [dw]
 all_goals omega
theorem RP [Wd] (x:ju) (hx:su.ok x):aq prog 316 [.agg (sw x)] (.int .i64 (iR x)):=by
 have h1:=sC x.op hx.2.2
 refine ak 24 [] func316 ?_
 repeat' (conv=>arg 2;whnf);first|refine okF h1 ?_|apply an<;>intro h|refine cF ?_
 all_goals simp_all [iR]
 all_goals omega
theorem Ql [Wd] (bs:List UInt8) (s:bJ) (hl:bs.length+200<=aL):aq prog 263 [.list 1 (bs.map af),.agg (bL s)] (.list 1 ((bs++cG s).map af)):=by
 have p1:=fG s.key
 by_cases h0:dw s=0
 ·have z:=Ge h0
  have e1:aJ s.key=enc s.key.toNat:=eK z.1.1 (by omega)
  have e2:aJ s.ah=enc s.ah.toNat:=eK (by omega) (by omega)
  refine ak 19 [(3,⟨[(0,false),(1,false),(2,false),(3,false),(5,false),(6,false),(7,false),(4,true),(8,true),(9,false)],[]⟩)] func263 ?_
  repeat' (conv=>arg 2;whnf);first|refine okF (Kl s) ?_|refine lD ?_|refine okF (sj _ (s.key) (by(try simp only[List.length_append,List.length_nil]);omega)) ?_|refine okF (sj _ (s.ah) (by(try simp only[List.length_append]);omega)) ?_|(refine bB ?_ ?_;focus (simp[h0];done))|(refine kf (.inr rfl) rfl ?_;rw[cG,if_pos h0];simp[rL,e1,e2];done)
 ·refine ak 19 [(3,⟨[],[]⟩)] func263 ?_
  repeat' (conv=>arg 2;whnf);first|refine okF (Kl s) ?_|refine okF (Dh bs (by have:=hl;simp[aL] at this;omega)) ?_|(refine bY ?_ ?_;focus (simp[h0];done))|(refine kf (.inr rfl) rfl ?_;simp[cG,h0];done)
theorem Yf {o:bt} (h:bS o=0):0<=o.offset/\o.offset<=9007199254740992:=(xB h).2.2
theorem W2 [Wd] (bs:List UInt8) (o:bt) (ho:fD.ok o) (h0:¬bS o=0) (hl:bs.length+200000000<=aL):aq prog 108 [.list 1 (bs.map af),.agg (cC o)] (.list 1 ((bs++lM o).map af)):=by
 refine ak 67 [(16,⟨[],[]⟩)] func108 ?_
 repeat' (conv=>arg 2;whnf);first|refine okF (sC o ho) ?_|refine okF (Dh bs (by have:=hl;simp[aL] at this;omega)) ?_|(refine bY ?_ ?_;focus (simp[h0];done))|(refine kf (.inr rfl) rfl ?_;simp[lM,h0];done)
theorem Yg [Wd] (bs:List UInt8) (o:bt) (k:Int) (hk:k=0\/k=1\/k=3\/k=4) (ho:fD.ok {o with kind:=k}) (h0:bS {o with kind:=k}=0) (hl:bs.length+200000000<=aL):aq prog 108 [.list 1 (bs.map af),.agg (cC {o with kind:=k})] (.list 1 ((bs++lM {o with kind:=k}).map af)):=by
 have p1:=fG k
 have p2:=lE o.av ho.2.1
 have p3:=lE o.group ho.2.2.1
 have t1:o.av.length<=4194304:=ho.2.1
 have t2:o.group.length<=4194304:=ho.2.2.1
 have z:=Yf h0
 have e0:aJ k=enc k.toNat:=eK (by omega) (by omega)
 have e1:aJ o.offset=enc o.offset.toNat:=eK z.1 (by have:=z.2;simp only at this;omega)
 have hC:=sC {o with kind:=k} ho
 rcases hk with rfl|rfl|rfl|rfl
 all_goals
  refine ak 67 [(16,⟨[(0,false),(1,false),(2,false),(5,false),(6,false),(7,false),(3,true),(4,true),(8,true),(9,false)],[]⟩)] func108 ?_
  repeat' (conv=>arg 2;whnf);first|refine aT (show o.av.length<=140737488355328 by omega) ?_|refine aT (show o.group.length<=140737488355328 by omega) ?_|refine okF hC ?_|refine okF (Dh bs (by have:=hl;simp[aL] at this;omega)) ?_|refine lD ?_|refine okF (sj _ _ (by(try simp only[List.length_append]);omega)) ?_|refine okF (A9 _ o.av t1 (by(try simp only[List.length_append]);omega)) ?_|refine okF (A9 _ o.group t2 (by(try simp only[List.length_append]);omega)) ?_|(refine bB ?_ ?_;focus (simp[h0];done))|(refine kf (.inr rfl) rfl ?_;rw[lM,if_pos h0];simp[iy,e0,e1,List.append_assoc];done)
theorem Yh [Wd] (bs:List UInt8) (o:bt) (ho:fD.ok {o with kind:=2}) (h0:bS {o with kind:=2}=0) (hl:bs.length+200000000<=aL):aq prog 108 [.list 1 (bs.map af),.agg (cC {o with kind:=2})] (.list 1 ((bs++lM {o with kind:=2}).map af)):=by
 have p1:=fG 2
 have p2:=lE o.av ho.2.1
 have t1:o.av.length<=4194304:=ho.2.1
 have LL:o.records.length<=4:=by
  apply Classical.byContradiction
  intro hc
  simp[bS] at h0
  omega
 have e0:aJ 2=enc 2:=eK (by omega) (by omega)
 have e2:aJ (o.records.length:Int)=enc o.records.length:=eK (by omega) (by omega)
 have hC:=sC {o with kind:=2} ho
 have p8:=fG ((o.records.map gS).length:Int)
 refine ak 67 [(16,⟨[],[]⟩)] func108 ?_
 repeat' (conv=>arg 2;whnf);first|refine aT (show o.av.length<=140737488355328 by omega) ?_|refine okF hC ?_|refine okF (Dh bs (by have:=hl;simp[aL] at this;omega)) ?_|refine lD ?_|refine okF (sj _ _ (by(try simp only[List.length_append]);omega)) ?_|refine okF (A9 _ o.av t1 (by(try simp only[List.length_append]);omega)) ?_|(refine bB ?_ ?_;focus (simp[h0];done))
 conv=>arg 2;whnf
 refine bE (α:=Nat×List UInt8) (fun a=>⟨[(40,.int .i64 a.1),(39,.int .i64 ((o.records.map gS).length:Int)),(38,.list 1 (o.records.map gS)),(28,.int .i64 2),(3,.ptr 0 0),(5,.list 1 (a.2.map af))],[.cells 40 (cC {o with kind:=2})]⟩) (fun a=>a.1<=o.records.length/\a.2=bs++aJ 2++cB o.av++aJ ((o.records.map gS).length:Int)++(o.records.take a.1).flatMap (cB)) (fun a=>o.records.length-a.1) (0,bs++aJ 2++cB o.av++aJ ((o.records.map gS).length:Int)) ⟨Nat.zero_le _,by simp⟩ (Sv.aK [0]) ?_
 rintro⟨q,b2⟩ ⟨hq,he⟩
 replace hq:q<=o.records.length:=hq
 replace he:b2=bs++aJ 2++cB o.av++aJ ((o.records.map gS).length:Int)++(o.records.take q).flatMap (cB):=he
 have p6:=lz (f:=cB) (K:=4194314) (o.records.take q) (fun r hr=>by have h1:r.length<=4194304:=ho.2.2.2.2.2 r (List.mem_of_mem_take hr);have:=lE r h1;omega)
 have p7:(o.records.take q).length*4194314<=4*4194314:=Nat.mul_le_mul_right _ (by rw[List.length_take];omega)
 have eJ:b2.length+100000000<=aL:=by rw[he];simp only[List.length_append];omega
 repeat' (conv=>arg 2;whnf);first|apply an<;>intro h|refine cK (l:=o.records) (by simp at h;omega) (fun x hx=>?_)|refine okF (A9 b2 x (ho.2.2.2.2.2 x (List.mem_of_getElem? hx)) (by have h1:x.length<=4194304:=ho.2.2.2.2.2 x (List.mem_of_getElem? hx);rw[List.length_append];omega)) ?_|refine bZ (by simp at h hq;omega) ?_|refine aZ (q+1,b2++cB x) (Sv.aK [0]) ⟨by have:=(List.getElem?_eq_some_iff.1 hx).1;show q+1<=o.records.length;omega,by show b2++cB x=_;rw[sH hx,<-List.append_assoc,<-he]⟩ (by have:=(List.getElem?_eq_some_iff.1 hx).1;show o.records.length-(q+1)<o.records.length-q;omega)|refine bq ?_|(refine kf (.inr rfl) rfl ?_;rw[he,show o.records.take q=o.records from List.take_of_length_le (by simp at h;omega),lM,if_pos h0];simp[iy,e0,e2,List.append_assoc];done)
theorem Py [Wd] (bs:List UInt8) (o:bt) (ho:fD.ok o) (hl:bs.length+200000000<=aL):aq prog 108 [.list 1 (bs.map af),.agg (cC o)] (.list 1 ((bs++lM o).map af)):=by
 by_cases h0:bS o=0
 ·have hk:=(xB h0).1
  have h:(o.kind=0\/o.kind=1\/o.kind=3\/o.kind=4)\/o.kind=2:=by omega
  rcases h with h|h
  ·exact Yg bs o o.kind h ho h0 hl
  ·have e:=oM h
   have t:=Yh bs o (by rw[e];exact ho) (by rw[e];exact h0) hl
   rw[e] at t
   exact t
 ·exact W2 bs o ho h0 hl
theorem V6 [Wd] (x:ju) (hx:su.ok x) (h0:iR x=0):aq prog 319 [.agg (sw x)] (.aj [.list 1 ((iS x).map af),.int .i64 0]):=by
 have z:=Ss h0
 have p1:=fG x.bD
 have p2:=fG x.time
 have e1:aJ x.bD=enc x.bD.toNat:=eK z.1 (by omega)
 have e2:aJ x.time=enc x.time.toNat:=eK (by omega) (by omega)
 have hb:300000000<=aL:=by simp[aL]
 refine ak 21 [(4,⟨[(0,false),(1,false),(2,false),(4,false),(5,false),(6,false),(8,false),(9,false),(3,true),(7,true),(10,true),(11,false),(12,false)],[]⟩)] func319 ?_
 repeat' (conv=>arg 2;whnf);first|refine okF (RP x hx) ?_|refine lD ?_|refine iQ (sj [] (x.bD) (by simp[aL])) rfl (aa.cons (Co.nil _) (.refl _)) ?_|refine okF (sj _ x.time (by(try simp only[List.length_append,List.length_nil]);omega)) ?_|refine okF (Py _ x.op hx.2.2 (by(try simp only[List.length_append,List.length_nil]);omega)) ?_|(refine bB ?_ ?_;focus (simp[h0];done))|(refine pK (.inr rfl) rfl ?_ rfl;simp[iS,lM,z,e1,e2,List.append_assoc];done)
theorem Jn [Wd] (l:List bX) (hl:(dL fX).ok l):aq prog 296 [.list 9 (l.map bI)] (.int .i64 (fA l)):=by
 have HL:l.length<=4194304:=hl.1
 refine ak 66 [] func296 ?_
 repeat' (conv=>arg 2;whnf);first|apply an<;>intro h|(refine cF ?_;unfold fA;rw[if_pos (by simp at h;omega)];done)
 have h4:¬4<l.length:=by simp at h;omega
 clear h
 refine bE (α:=Nat) (fun q=>⟨[(16,.int .i64 q),(15,.int .i64 (l.map bI).length),(14,.list 9 (l.map bI)),(0,.list 9 (l.map bI))],[]⟩) (fun q=>q<=l.length/\lA (l.take q)=0) (fun q=>l.length-q) 0 ⟨Nat.zero_le _,rfl⟩ (Sv.aK []) ?_
 rintro q ⟨hq,he⟩
 repeat' (conv=>arg 2;whnf);first|apply an<;>intro h|refine cK (l:=l) (by simp at h;omega) (fun x hx=>?_)|refine okF (RP x.request (hl.2 x (List.mem_of_getElem? hx)).1) ?_|refine okF (Kl x.sign) ?_|refine bw (cj (by omega) (by have:=(List.getElem?_eq_some_iff.1 hx).1;omega)) ?_|refine aZ (q+1) (Sv.aK []) ⟨by have:=(List.getElem?_eq_some_iff.1 hx).1;omega,Ph hx he (by simp_all) (by simp_all)⟩ (by have:=(List.getElem?_eq_some_iff.1 hx).1;omega)|refine bq ?_|refine eG ?_|(have hp:=FG hx he;refine cF ?_;have h1:¬iR x.request=0:=(by simpa using h);rw[FH h4 (by rw[hp,aF,if_neg h1];exact h1),hp,aF,if_neg h1])|(have hp:=FG hx he;refine cF ?_;have h1:¬dw x.sign=0:=(by simpa using h);have h2:iR x.request=0:=(by simp_all);rw[FH h4 (by rw[hp,h2,gu,aF,if_neg h1];exact h1),hp,h2,gu,aF,if_neg h1])
 have hp:lA l=0:=by rw[List.take_of_length_le (by simp at h;omega)] at he;exact he
 clear he hq h
 refine bE (α:=Nat) (fun i=>⟨[(35,.int .i64 i),(34,.int .i64 (l.map bI).length),(33,.list 9 (l.map bI)),(0,.list 9 (l.map bI))],[]⟩) (fun i=>i<=l.length/\((List.range i).any fun i=>(List.range i).any fun k=>yY l i k)=false) (fun i=>l.length-i) 0 ⟨Nat.zero_le _,rfl⟩ (Sv.aK []) ?_
 rintro i ⟨hi,he⟩
 by_cases uc:i<l.length
 ·have hx:l[i]?=some l[i]:=List.getElem?_eq_getElem uc
  have dh:(l.map bI)[((i:Int)).toNat]?=some (bI l[i]):=by rw[List.getElem?_map];show(l[i]?).map _=_;rw[hx];rfl
  generalize l[i]=x at hx dh
  have Hi:(i:Int)<((l.map bI).length:Int):=by simp;omega
  repeat' (conv=>arg 2;whnf);first|refine bY (decide_eq_true Hi) ?_|refine eT _ (Int.natCast_nonneg _) dh ?_|refine aT ⟨Int.le_refl _,Int.natCast_nonneg _,Int.le_of_lt Hi⟩ ?_
  refine bE (α:=Nat) (fun k=>⟨[(44,.int .i64 k),(43,.int .i64 ((l.map bI).take i).length),(42,.list 9 ((l.map bI).take i)),(8,.ptr 0 0),(35,.int .i64 i),(34,.int .i64 (l.map bI).length),(33,.list 9 (l.map bI)),(0,.list 9 (l.map bI))],[.cells 183 (bI x)]⟩) (fun k=>k<=i/\((List.range k).any fun k=>yY l i k)=false) (fun k=>i-k) 0 ⟨Nat.zero_le _,rfl⟩ (Sv.aK [0]) ?_
  rintro k ⟨hk,Eh⟩
  by_cases Cn:k<i
  ·have hy:l[k]?=some l[k]:=List.getElem?_eq_getElem (by omega)
   have TV:((l.map bI).take i)[((k:Int)).toNat]?=some (bI l[k]):=by
    show((l.map bI).take i)[k]?=_
    rw[List.getElem?_take,if_pos Cn,List.getElem?_map,hy]
    rfl
   generalize l[k]=y at hy TV
   have LI:(k:Int)<(((l.map bI).take i).length:Int):=by simp;omega
   repeat' (conv=>arg 2;whnf);first|refine bY (decide_eq_true LI) ?_|refine eT _ (Int.natCast_nonneg _) TV ?_|refine bw (e:=(k:Int)+1) (cj (by omega) (by omega)) ?_|apply an<;>intro h|refine aZ (k+1) (Sv.aK [0]) ⟨by omega,FI Eh (by rw[GK hx hy];simp_all)⟩ (by omega)|refine eG ?_|(have hw:zT l=true:=Pj uc (k:=k) Cn (by rw[GK hx hy];simp_all);refine cF ?_;unfold fA;rw[if_neg h4,hp,gu,hw];rfl)
  ·obtain rfl:k=i:=by omega
   have LI:¬(k:Int)<(((l.map bI).take k).length:Int):=by simp;omega
   repeat' (conv=>arg 2;whnf);first|refine bB (decide_eq_false LI) ?_|refine bq ?_|refine bw (e:=(k:Int)+1) (cj (by omega) (by omega)) ?_|refine aZ (k+1) (Sv.aK []) ⟨by omega,FI he Eh⟩ (by omega)
 ·have Hi:¬(i:Int)<((l.map bI).length:Int):=by simp;omega
  have hw:zT l=false:=by rw[Js,show l.length=i by omega];exact he
  repeat' (conv=>arg 2;whnf);first|refine bB (decide_eq_false Hi) ?_|refine bq ?_|(refine cF ?_;unfold fA;rw[if_neg h4,hp,gu,hw];rfl)
theorem aat [Wd] (bs:List UInt8) (l:List bX) (hl:(dL fX).ok l) (h0:fA l=0) (hb:bs.length+300000000<=aL):aq prog 308 [.list 9 (l.map bI),.list 1 (bs.map af)] (.list 1 ((bs++BI l).map af)):=by
 have z:=J1 h0
 have z1:=z.1
 have p1:=fG ((l.map bI).length:Int)
 have e1:aJ ((l.map bI).length:Int)=enc l.length:=by rw[List.length_map,eK (by omega) (by omega)];rfl
 refine ak 34 [(6,⟨[(0,false),(1,false),(3,false),(4,false),(2,true),(5,true),(6,false)],[]⟩)] func308 ?_
 repeat' (conv=>arg 2;whnf);first|refine lD ?_|refine okF (sj _ (((l.map bI).length:Int)) (by omega)) ?_
 refine bE (α:=Nat×List UInt8) (fun a=>⟨[(16,.int .i64 a.1),(15,.int .i64 (l.map bI).length),(14,.list 9 (l.map bI)),(1,.list 1 (a.2.map af))],[]⟩) (fun a=>a.1<=l.length/\a.2=bs++aJ ((l.map bI).length:Int)++(l.take a.1).flatMap (fun s:bX=>cB (iS s.request)++cG s.sign)) (fun a=>l.length-a.1) (0,bs++aJ ((l.map bI).length:Int)) ⟨Nat.zero_le _,by simp⟩ (Sv.aK []) ?_
 rintro⟨q,b2⟩ ⟨hq,he⟩
 replace hq:q<=l.length:=hq
 replace he:b2=bs++aJ ((l.map bI).length:Int)++(l.take q).flatMap (fun s:bX=>cB (iS s.request)++cG s.sign):=he
 have p6:=lz (f:=fun s:bX=>cB (iS s.request)++cG s.sign) (K:=1050) (l.take q) (fun s hs=>by
  have k:=vC (z.2 s (List.mem_of_mem_take hs)).1
  have:=lE (iS s.request) (by omega)
  have:=vE s.sign
  rw[List.length_append];omega)
 have p7:(l.take q).length*1050<=4*1050:=Nat.mul_le_mul_right _ (by rw[List.length_take];omega)
 have eJ:b2.length+200000000<=aL:=by rw[he];simp only[List.length_append];omega
 repeat' (conv=>arg 2;whnf);first|apply an<;>intro h|refine cK (l:=l) (by simp at h;omega) (fun x hx=>?_)|refine okF (V6 x.request (hl.2 x (List.mem_of_getElem? hx)).1 (z.2 x (List.mem_of_getElem? hx)).1) ?_|refine okF (A9 b2 (iS x.request) (by have:=vC (z.2 x (List.mem_of_getElem? hx)).1;omega) (by have:=vC (z.2 x (List.mem_of_getElem? hx)).1;rw[List.length_append];omega)) ?_|refine okF (Ql _ x.sign (by have:=vC (z.2 x (List.mem_of_getElem? hx)).1;have:=lE (iS x.request) (by omega);rw[List.length_append];omega)) ?_|refine bZ (by simp at h hq;omega) ?_|refine aZ (q+1,b2++cB (iS x.request)++cG x.sign) (Sv.aK []) ⟨by have:=(List.getElem?_eq_some_iff.1 hx).1;show q+1<=l.length;omega,by show b2++cB (iS x.request)++cG x.sign=_;rw[sH hx,<-List.append_assoc,<-he];simp⟩ (by have:=(List.getElem?_eq_some_iff.1 hx).1;show l.length-(q+1)<l.length-q;omega)|refine bq ?_|(refine kf (.inr rfl) rfl ?_;rw[he,show l.take q=l from List.take_of_length_le (by simp at h;omega),BI,e1,List.append_assoc];refine congrArg (fun y=>bs++(enc l.length++y)) ?_;refine Iq (fun s hs=>?_);simp[zO,cG,(z.2 s hs).2])
theorem YP [Wd] (bs:List UInt8) (l:List bX) (hl:(dL fX).ok l) (hb:bs.length+300000000<=aL):aq prog 264 [.list 1 (bs.map af),.list 9 (l.map bI)] (.list 1 ((bs++jM l).map af)):=by
 by_cases h0:fA l=0
 ·refine ak 16 [] func264 ?_
  repeat' (conv=>arg 2;whnf);first|refine okF (Jn l hl) ?_|refine okF (aat bs l hl h0 hb) ?_|(refine bB ?_ ?_;focus (simp[h0];done))|(refine kf (.inr rfl) rfl ?_;simp[jM,h0];done)
 ·refine ak 16 [] func264 ?_
  repeat' (conv=>arg 2;whnf);first|refine okF (Jn l hl) ?_|refine okF (Dh bs (by have:=hb;simp[aL] at this;omega)) ?_|(refine bY ?_ ?_;focus (simp[h0];done))|(refine kf (.inr rfl) rfl ?_;simp[jM,h0];done)
section
theorem Xf [Wd] (bs:List UInt8) (x:bJ) (hl:bs.length+200<=aL):aq prog 263 [.list 1 (bs.map af),.agg (bL x)] (.list 1 ((bs++cG x).map af)):=Ql bs x hl
theorem Wb [Wd] (bs:List UInt8) (x:List bX) (hx:(dL fX).ok x) (hl:bs.length+300000000<=aL):aq prog 264 [.list 1 (bs.map af),.list 9 (x.map bI)] (.list 1 ((bs++jM x).map af)):=YP bs x hx hl
abbrev oW (bs:List UInt8):List AO:=[.cells 220 [.list 1 (bs.map af)]]
abbrev tR [Wd] (f:FuncId) (ar:List D) (add:List UInt8):Prop:=∀bs:List UInt8,(bs++add).length+700000000<=aL->bC prog f (.ptr 0 0::ar) (oW bs) (fun r h=>r=.aj []/\h=oW (bs++add))
section
variable {Q:Exit->S->Prop}
theorem fo [Wd] {f:FuncId} {ar bR:List D} {add bs:List UInt8} {hb:List AO} {c:D->List AO->T} (hF:tR f ar add) (hl:(bs++add).length+700000000<=aL) (hv:jF hb [0] [0] (oW bs)) (hc:aa bR (D.bO.rl [0] (.ptr 0 0::ar))) (hM:([0].all fun o=>(jT hb bR).elem o)=true) (k:(c (.aj []) (lK hb [0] (oW bs) (oW (bs++add)))).ok prog Q):(T.call f bR hb c).ok prog Q:=
 mA [0] (hF bs hl) (.mk' rfl hv) hc hM k
theorem we [Wd] {tb:TT} {rs:List ResultVar} {ex:Exit} {s:S} {bs Ee:List UInt8} {ds:List D} (he:ex=.normal\/ex=.ret) (hr:iD tb s rs=some ds) (hv:jF s.h [0] [0] (oW Ee)) (iw:Co (lI ds) (.aj [])) {add:List UInt8} (hx:Ee=bs++add):(T.leaf ex s).ok prog (Lf tb rs (oW bs) (fun r h=>r=.aj []/\h=oW (bs++add))):=by
 subst hx
 exact mL [0] he hr rfl hv ⟨⟨rfl,rfl⟩,trivial⟩ iw
end
theorem BS [Wd] {P:Program} {Q:Exit->S->Prop} {a b:Nat} {t f:T} (h1:a<b->t.ok P Q) (h2:b<=a->f.ok P Q):(bT (decide ((a:Int)<(b:Int))) t f).ok P Q:=
 an (fun h=>h1 (by simpa using h)) (fun h=>h2 (by simpa using h))
theorem Gd [Wd] (x:List UInt8) (hx:x.length<=4194304):tR 215 [.list 1 (x.map af)] (cB x):=by
 intro bs hl
 refine ak 13 [] func215 ?_
 repeat' (conv=>arg 2;whnf);first|refine okF (A9 bs x hx (by unfold cB at hl;simp at hl ⊢;omega)) ?_|exact we (.inl rfl) rfl ⟨⟨rfl,rfl⟩,trivial⟩ (.refl _) rfl
theorem yl [Wd] (x:bJ):tR 206 [.agg (bL x)] (cG x):=by
 intro bs hl
 refine ak 15 [(1,⟨[(0,false),(1,false),(2,false),(3,false),(4,false),(6,false),(5,true),(7,true),(8,false),(9,false),(10,false),(11,true)],[0]⟩)] func206 ?_
 repeat' (conv=>arg 2;whnf);first|refine okF (Xf bs x (by simp at hl;omega)) ?_|exact we (.inl rfl) rfl ⟨⟨rfl,rfl⟩,trivial⟩ (.refl _) rfl
theorem FD [Wd] (x:List bX) (hx:(dL fX).ok x):tR 209 [.list 9 (x.map bI)] (jM x):=by
 intro bs hl
 refine ak 15 [] func209 ?_
 repeat' (conv=>arg 2;whnf);first|refine okF (Wb bs x hx (by rw[List.length_append] at hl;omega)) ?_|exact we (.inl rfl) rfl ⟨⟨rfl,rfl⟩,trivial⟩ (.refl _) rfl
theorem mC [Wd] (l:List Int) (hl:l.length<=4194304):tR 208 [.list 1 (l.map eD)] (aN l):=by
 intro bs hb
 refine ak 23 [] func208 ?_
 conv=>arg 2;whnf
 refine bE (α:=Nat) (fun q=>⟨[(8,.int .i64 q),(7,.int .i64 (l.map eD).length),(6,.list 1 (l.map eD)),(0,.ptr 0 0)],oW (bs++aN (l.take q))⟩) (fun q=>q<=l.length) (fun q=>l.length-q) 0 (Nat.zero_le _) (Sv.mk' [0] rfl ⟨⟨rfl,by simp[aN];rfl⟩,trivial⟩ ⟨rfl,rfl,rfl,rfl,trivial⟩) ?_
 intro q hq
 have cw:(bs++aN (l.take q)).length+700000000<=aL:=by
  have:(aN (l.take q)).length<=(aN l).length:=by
   conv=>rhs;rw[<-List.take_append_drop q l]
   simp only[aN,List.flatMap_append,List.length_append];omega
  simp only[List.length_append] at hb ⊢;omega
 repeat' (conv=>arg 2;whnf);first|apply an<;>intro h|refine cK (by simpa using h) (fun x hx=>?_)|refine okF (sj (bs++aN (l.take q)) x (by omega)) ?_|refine bZ (by simp at h;omega) ?_|refine aZ (q+1) (Sv.mk' [0] rfl ⟨⟨rfl,by rw[List.take_add_one,hx];simp[aN];rfl⟩,trivial⟩ ⟨rfl,rfl,rfl,rfl,trivial⟩) ?_ ?_|refine bq ?_|refine we (.inl rfl) rfl ⟨⟨rfl,rfl⟩,trivial⟩ (.refl _) ?_
 ·simp at h;omega
 ·simp at h;omega
 ·rw[show l.take q=l from List.take_of_length_le (by simp at h;omega)]
theorem Bx [Wd] (n:Int):tR 212 [.int .i64 n] (aJ n):=by
 intro bs hb
 have h1:aN [n]=aJ n:=by simp[aN]
 refine ak 8 [] func212 ?_
 repeat' (conv=>arg 2;whnf);first|refine fo (mC [n] (by simp)) (by rw[h1];omega) ⟨⟨rfl,rfl⟩,trivial⟩ (aa.refl _) rfl ?_|refine we (.inl rfl) rfl ⟨⟨rfl,rfl⟩,trivial⟩ (.refl _) ?_
 rw[h1]
theorem O8 [Wd] (l:List bJ) (hl:l.length<=4194304):tR 265 [.list 2 (l.map bL)] (rB l):=by
 intro bs hb
 have hm:∀q,((bs++aJ (l.length:Int))++(l.take q).flatMap cG).length+700000000<=aL:=fun q=>by
  have:((l.take q).flatMap cG).length<=(l.flatMap cG).length:=by
   conv=>rhs;rw[<-List.take_append_drop q l]
   simp only[List.flatMap_append,List.length_append];omega
  simp only[rB,List.length_append] at hb ⊢;omega
 have h0:=hm 0
 refine ak 22 [] func265 ?_
 repeat' (conv=>arg 2;whnf);first|refine fo (Bx _) (by simpa using h0) ⟨⟨rfl,rfl⟩,trivial⟩ (aa.refl _) rfl ?_
 conv=>arg 2;whnf
 refine bE (α:=Nat) (fun q=>⟨[(14,.int .i64 q),(13,.int .i64 (l.map bL).length),(12,.list 2 (l.map bL)),(0,.ptr 0 0)],oW ((bs++aJ ((l.map bL).length:Nat))++(l.take q).flatMap cG)⟩) (fun q=>q<=l.length) (fun q=>l.length-q) 0 (Nat.zero_le _) (Sv.mk' [0] rfl ⟨⟨rfl,by simp;rfl⟩,trivial⟩ ⟨rfl,rfl,rfl,rfl,trivial⟩) ?_
 intro q hq
 repeat' (conv=>arg 2;whnf);first|refine BS (fun hlt=>?_) (fun dm=>?_)|refine cK (by simpa using hlt) (fun x hx=>?_)|refine fo (yl x) (by have:=hm (q+1);rw[List.take_add_one,hx] at this;simpa using this) ⟨⟨rfl,rfl⟩,trivial⟩ (aa.refl _) rfl ?_|refine bZ (by simp at hlt;omega) ?_|refine aZ (q+1) (Sv.mk' [0] rfl ⟨⟨rfl,by rw[List.take_add_one,hx];simp;rfl⟩,trivial⟩ ⟨rfl,rfl,rfl,rfl,trivial⟩) ?_ ?_|refine bq ?_|refine we (.inl rfl) rfl ⟨⟨rfl,rfl⟩,trivial⟩ (.refl _) ?_
 ·simp at hlt;omega
 ·simp at hlt;omega
 ·rw[show l.take q=l from List.take_of_length_le (by simpa using dm)]
  simp[rB]
theorem JV [Wd] (c:gX) (hc:je.ok c):tR 214 [.agg (mj c)] (lR c):=by
 intro bs hb
 have h1:(bs++aN [c.seq,c.ah]).length+700000000<=aL:=by simp only[lR,List.length_append] at hb ⊢;omega
 refine ak 17 [] func214 ?_
 repeat' (conv=>arg 2;whnf);first|refine fo (mC [c.seq,c.ah] (by simp)) (h1) ⟨⟨rfl,rfl⟩,trivial⟩ (aa.refl _) rfl ?_|refine fo (O8 c.cM hc.2.2.1) (by simpa only[lR,List.append_assoc] using hb) ⟨⟨rfl,rfl⟩,trivial⟩ (aa.refl _) rfl ?_|refine we (.inl rfl) rfl ⟨⟨rfl,rfl⟩,trivial⟩ (.refl _) ?_
 simp only[lR,List.append_assoc]
end
theorem DM {α:Type} (f:α->List UInt8) (l:List α) (q:Nat):((l.take q).flatMap f).length<=(l.flatMap f).length:=by
 conv=>rhs;rw[<-List.take_append_drop q l]
 simp only[List.flatMap_append,List.length_append];omega
theorem wg {α:Type} (f:α->List UInt8) {l:List α} {q:Nat} {x:α} (h:l[q]?=some x):((l.take q).flatMap f).length+(f x).length<=(l.flatMap f).length:=by
 have:=DM f l (q+1)
 rw[List.take_add_one,h] at this
 simpa using this
theorem Qm [Wd] (c:cX) (hc:fP.ok c):tR 211 [.agg (bU c)] (jy c):=by
 intro bs hb
 refine ak 57 [] func211 ?_
 repeat' (conv=>arg 2;whnf);first|refine fo (mC [c.view,c.src] (by simp)) (by simp only[jy,List.length_append] at hb ⊢;omega) ⟨⟨rfl,rfl⟩,trivial⟩ (aa.refl _) rfl ?_|refine fo (JV c.cert hc.2.2.1) (by simp only[jy,List.length_append] at hb ⊢;omega) ⟨⟨rfl,rfl⟩,trivial⟩ (aa.refl _) rfl ?_|refine fo (Bx _) (by simp only[jy,List.length_append,List.length_map] at hb ⊢;omega) ⟨⟨rfl,rfl⟩,trivial⟩ (aa.refl _) rfl ?_
 conv=>arg 2;whnf
 refine bE (α:=Nat) (fun q=>⟨[(29,.int .i64 q),(28,.int .i64 (c.cD.map fk).length),(27,.list 7 (c.cD.map fk)),(3,.ptr 1 0),(0,.ptr 0 0)],[.cells 220 [.list 1 (((bs++aN [c.view,c.src]++lR c.cert++aJ ((c.cD.map fk).length:Nat))++(c.cD.take q).flatMap iJ).map af)],.cells 145 (bU c)]⟩) (fun q=>q<=c.cD.length) (fun q=>c.cD.length-q) 0 (Nat.zero_le _) (Sv.mk' [0,1] rfl ⟨⟨rfl,by simp;rfl⟩,⟨rfl,rfl⟩,trivial⟩ ⟨rfl,rfl,rfl,rfl,rfl,trivial⟩) ?_
 intro q hq
 have hl:c.cD.length<=4194304:=hc.2.2.2.1.1
 repeat' (conv=>arg 2;whnf);first|refine BS (fun hlt=>?_) (fun dm=>?_)|refine cK (by simpa using hlt) (fun x hx=>?_)|refine fo (mC [x.view,x.seq,x.ah] (by simp)) (by have:=wg iJ hx;simp only[jy,iJ,List.length_append,List.length_map] at hb this ⊢;omega) ⟨⟨rfl,rfl⟩,trivial⟩ (aa.refl _) rfl ?_|refine fo (yl x.kG) (by have:=wg iJ hx;simp only[jy,iJ,List.length_append,List.length_map] at hb this ⊢;omega) ⟨⟨rfl,rfl⟩,trivial⟩ (aa.refl _) rfl ?_|refine fo (O8 x.cM (hc.2.2.2.1.2 x (List.mem_of_getElem? hx)).2.2.2.2.1.1) (by have:=wg iJ hx;simp only[jy,iJ,List.length_append,List.length_map] at hb this ⊢;omega) ⟨⟨rfl,rfl⟩,trivial⟩ (aa.refl _) rfl ?_|refine fo (FD x.batch (hc.2.2.2.1.2 x (List.mem_of_getElem? hx)).2.2.2.2.2) (by have:=wg iJ hx;simp only[jy,iJ,List.length_append,List.length_map] at hb this ⊢;omega) ⟨⟨rfl,rfl⟩,trivial⟩ (aa.refl _) rfl ?_|refine bZ (by simp at hlt;omega) ?_|refine aZ (q+1) (Sv.mk' [0,1] rfl ⟨⟨rfl,by rw[List.take_add_one,hx];simp[iJ];rfl⟩,⟨rfl,rfl⟩,trivial⟩ ⟨rfl,rfl,rfl,rfl,rfl,trivial⟩) ?_ ?_|refine bq ?_|refine we (.inl rfl) rfl ⟨⟨rfl,rfl⟩,trivial⟩ (.refl _) ?_
 ·simp at hlt;omega
 ·simp at hlt;omega
 ·rw[show c.cD.take q=c.cD from List.take_of_length_le (by simpa using dm)]
  simp[jy]
theorem Xg [Wd] (c:cX) (hc:fP.ok c):tR 213 [.agg (bU c)] (fq c):=by
 intro bs hb
 refine ak 11 [] func213 ?_
 repeat' (conv=>arg 2;whnf);first|refine fo (Qm c hc) (by simp only[fq,List.length_append] at hb ⊢;omega) ⟨⟨rfl,rfl⟩,trivial⟩ (aa.refl _) rfl ?_|refine fo (yl c.sign) (by simp only[fq,List.length_append] at hb ⊢;omega) ⟨⟨rfl,rfl⟩,trivial⟩ (aa.refl _) rfl ?_|refine we (.inl rfl) rfl ⟨⟨rfl,rfl⟩,trivial⟩ (.refl _) ?_
 simp[fq]
theorem YQ [Wd] (p:jX) (hp:jY.ok p):tR 216 [.agg (jv p)] (jw p):=by
 intro bs hb
 refine ak 92 [(1,⟨[(0,false),(1,false),(2,false),(3,false),(4,false),(5,true),(6,true)],[0]⟩)] func216 ?_
 repeat' (conv=>arg 2;whnf);first|refine fo (Gd p.av hp.1) (by simp only[jw,List.length_append] at hb ⊢;omega) ⟨⟨rfl,rfl⟩,trivial⟩ (aa.refl _) rfl ?_|refine fo (mC [p.offset] (by simp)) (by simp only[jw,List.length_append] at hb ⊢;omega) ⟨⟨rfl,rfl⟩,trivial⟩ (aa.refl _) rfl ?_|refine fo (Gd p.record hp.2.2.1) (by simp only[jw,List.length_append] at hb ⊢;omega) ⟨⟨rfl,rfl⟩,trivial⟩ (aa.refl _) rfl ?_|refine fo (Bx _) (by simp only[jw,List.length_append,List.length_map] at hb ⊢;omega) ⟨⟨rfl,rfl⟩,trivial⟩ (aa.refl _) rfl ?_|refine aT (by have:p.av.length<=4194304:=hp.1;omega) ?_
 conv=>arg 2;whnf
 refine bE (α:=Nat) (fun q=>⟨[(38,.int .i64 q),(37,.int .i64 (p.headers.map eO).length),(36,.list 5 (p.headers.map eO)),(3,.ptr 1 0),(0,.ptr 0 0)],[.cells 220 [.list 1 (((bs++cB p.av++aN [p.offset]++cB p.record++aJ ((p.headers.map eO).length:Nat))++(p.headers.take q).flatMap gZ).map af)],.cells 55 (jv p)]⟩) (fun q=>q<=p.headers.length) (fun q=>p.headers.length-q) 0 (Nat.zero_le _) (Sv.mk' [0,1] rfl ⟨⟨rfl,by simp;rfl⟩,⟨rfl,rfl⟩,trivial⟩ ⟨rfl,rfl,rfl,rfl,rfl,trivial⟩) ?_
 intro q hq
 have hl:p.headers.length<=4194304:=hp.2.2.2.1.1
 repeat' (conv=>arg 2;whnf);first|refine BS (fun hlt=>?_) (fun dm=>?_)|refine cK (by simpa using hlt) (fun x hx=>?_)|refine fo (mC [x.seq,x.prev,x.batch,x.root,x.state] (by simp)) (by have:=wg gZ hx;simp only[jw,gZ,List.length_append,List.length_map] at hb this ⊢;omega) ⟨⟨rfl,rfl⟩,trivial⟩ (aa.refl _) rfl ?_|refine bZ (by simp at hlt;omega) ?_|refine aZ (q+1) (Sv.mk' [0,1] rfl ⟨⟨rfl,by rw[List.take_add_one,hx];simp[gZ];rfl⟩,⟨rfl,rfl⟩,trivial⟩ ⟨rfl,rfl,rfl,rfl,rfl,trivial⟩) ?_ ?_|refine bq ?_|refine fo (mC [p.index,p.count] (by simp)) (by have:=DM gZ p.headers q;simp only[jw,List.length_append,List.length_map] at hb this ⊢;omega) ⟨⟨rfl,rfl⟩,trivial⟩ (aa.refl _) rfl ?_|refine fo (Bx _) (by have:=DM gZ p.headers q;simp only[jw,List.length_append,List.length_map] at hb this ⊢;omega) ⟨⟨rfl,rfl⟩,trivial⟩ (aa.refl _) rfl ?_
 ·simp at hlt;omega
 ·simp at hlt;omega
 rw[show p.headers.take q=p.headers from List.take_of_length_le (by simpa using dm)]
 clear hl dm
 conv=>arg 2;whnf
 refine bE (α:=Nat) (fun q=>⟨[(77,.int .i64 q),(76,.int .i64 (p.path.map eD).length),(75,.list 1 (p.path.map eD)),(3,.ptr 1 0),(0,.ptr 0 0)],[.cells 220 [.list 1 (((bs++cB p.av++aN [p.offset]++cB p.record++aJ (p.headers.length:Int)++p.headers.flatMap gZ++aN [p.index,p.count]++aJ ((p.path.map eD).length:Nat))++(p.path.take q).flatMap aJ).map af)],.cells 55 (jv p)]⟩) (fun q=>q<=p.path.length) (fun q=>p.path.length-q) 0 (Nat.zero_le _) (Sv.mk' [0,1] rfl ⟨⟨rfl,by simp;rfl⟩,⟨rfl,rfl⟩,trivial⟩ ⟨rfl,rfl,rfl,rfl,rfl,trivial⟩) ?_
 intro q hq
 have hl:p.path.length<=4194304:=hp.2.2.2.2.2.2.1.1
 repeat' (conv=>arg 2;whnf);first|refine BS (fun hlt=>?_) (fun dm=>?_)|refine cK (by simpa using hlt) (fun x hx=>?_)|refine fo (mC [x] (by simp)) (by have:=wg aJ hx;have e:(aN [x]).length=(aJ x).length:=(by simp[aN]);simp only[jw,List.length_append,List.length_map] at hb this ⊢;omega) ⟨⟨rfl,rfl⟩,trivial⟩ (aa.refl _) rfl ?_|refine bZ (by simp at hlt;omega) ?_|refine aZ (q+1) (Sv.mk' [0,1] rfl ⟨⟨rfl,by rw[List.take_add_one,hx];simp[aN];rfl⟩,⟨rfl,rfl⟩,trivial⟩ ⟨rfl,rfl,rfl,rfl,rfl,trivial⟩) ?_ ?_|refine bq ?_|refine fo (JV p.cert hp.2.2.2.2.2.2.2) (by have:=DM aJ p.path q;simp only[jw,List.length_append,List.length_map] at hb this ⊢;omega) ⟨⟨rfl,rfl⟩,trivial⟩ (aa.refl _) rfl ?_|refine we (.inl rfl) rfl ⟨⟨rfl,rfl⟩,trivial⟩ (.refl _) ?_
 ·simp at hlt;omega
 ·simp at hlt;omega
 ·rw[show p.path.take q=p.path from List.take_of_length_le (by simpa using dm)]
  simp[jw]
section
section
variable {P:Program}
end
theorem acL (n:Int):(aJ n).length<=10:=by
 unfold aJ
 exact qA (by omega)
theorem Sr {a:Int} (h:0<=a/\a<=9223372036854775807):aJ (if a<0 then 0 else a)=enc (max a 0).toNat:=by
 rw[if_neg (by omega),eK h.1 (by omega),Int.max_eq_left h.1]
theorem Vu [Wd] (bs:List UInt8) (x:nH) (he:0<=x.err/\x.err<=9223372036854775807) (ho:0<=x.offset/\x.offset<=9223372036854775807) (hl:bs.length+110<=aL):aq prog 210 [.list 1 (bs.map af),.agg (wV x)] (.list 1 ((bs++wW x).map af)):=by
 have p1:=acL (if x.err<0 then 0 else x.err)
 refine ak 16 [(1,⟨[(0,false),(1,false),(2,false),(3,false),(4,false),(6,false),(7,false),(8,false),(9,false),(5,true),(10,true),(11,false)],[]⟩)] func210 ?_
 repeat' (conv=>arg 2;whnf);first|refine lD ?_|refine okF (sj _ _ (by(try simp only[List.length_append]);omega)) ?_|(refine kf (.inr rfl) rfl ?_;rw[Sr he,Sr ho,List.append_assoc];rfl)
theorem sG [Wd] (n:Int):bC prog 208 [.ptr 0 0,.list 1 ([n].map eD)] [.cells 220 [.nils]] (fun r h=>r=.aj []/\h=oW (aJ n)):=by
 refine ak 23 [] func208 ?_
 conv=>arg 2;whnf
 refine bE (α:=Bool) (fun b=>match b with
  |false=>⟨[(8,.int .i64 0),(7,.int .i64 1),(6,.list 1 ([n].map eD)),(0,.ptr 0 0)],[.cells 220 [.nils]]⟩
  |true=>⟨[(8,.int .i64 1),(7,.int .i64 1),(6,.list 1 ([n].map eD)),(0,.ptr 0 0)],oW (aJ n)⟩) (fun _=>True) (fun b=>bif b then 0 else 1) false trivial (Sv.aK [0]) ?_
 rintro(_|_) _
 all_goals
  repeat' (conv=>arg 2;whnf);first|refine eT (eD n) (by decide) rfl ?_|refine iQ (sj [] n (by simp[aL])) rfl (aa.cons (Co.nil _) (.refl _)) ?_|refine bZ (by decide) ?_|exact aZ true (Sv.aK [0]) trivial (by decide)|refine bq ?_|exact mL [0] (.inl rfl) rfl rfl ⟨⟨rfl,rfl⟩,trivial⟩ ⟨⟨rfl,rfl⟩,trivial⟩ (.refl _)
theorem Jo [Wd] (bs:List UInt8) (hs:¬262144<bs.length):bC prog 207 [.ptr 0 0] (oW bs) (fun r h=>r=.aj [.list 1 (bs.map af),.int .i64 0]/\h=oW bs):=by
 refine ak 16 [] func207 ?_
 repeat' (conv=>arg 2;whnf);first|apply an<;>intro h|exact mL [0] (.inr rfl) rfl rfl ⟨⟨rfl,rfl⟩,trivial⟩ ⟨⟨rfl,rfl⟩,trivial⟩ (.refl _)
 simp at h
 omega
theorem IU [Wd] (bs:List UInt8) (h:262144<bs.length):bC prog 207 [.ptr 0 0] (oW bs) (fun r h=>r=.aj [.nils,.int .i64 3]/\h=oW bs):=by
 refine ak 16 [] func207 ?_
 repeat' (conv=>arg 2;whnf);first|apply an<;>intro h|exact mL [0] (.inr rfl) rfl rfl ⟨⟨rfl,rfl⟩,trivial⟩ ⟨⟨rfl,rfl⟩,trivial⟩ (.refl _)
 simp at h
 omega
theorem sL [Wd] {tb:TT} {rs:List ResultVar} {ex:Exit} {s:S} {Ee:List UInt8} {ds:List D} (he:ex=.normal\/ex=.ret) (hr:iD tb s rs=some ds) (hv:jF s.h [0] [0] (oW Ee)) (iw:Co (lI ds) (.aj [])) {add:List UInt8} (hx:Ee=add):(T.leaf ex s).ok prog (Lf tb rs [.cells 220 [.nils]] (fun r h=>r=.aj []/\h=oW add)):=by
 subst hx
 exact mL [0] he hr rfl hv ⟨⟨rfl,rfl⟩,trivial⟩ iw
end
theorem aaY [Wd] (m:aD) (hm:bh.ok m) (hl:(aJ 1++(jM m.batch)).length+700000000<=aL):bC prog 158 [.ptr 0 0,.agg (aC {m with kind:=1})] [.cells 220 [.nils]] (fun r h=>r=.aj []/\h=oW (aJ 1++(jM m.batch))):=by
 refine ak 222 [] func158 ?_
 repeat' (conv=>arg 2;whnf);first|refine mA [0] (sG _) (.mk' rfl ⟨⟨rfl,rfl⟩,trivial⟩) (aa.refl _) rfl ?_|refine fo (FD m.batch hm.2.2.2.2.2.2.2.2.1) (by simp only[List.length_append] at hl ⊢;omega) ⟨⟨rfl,rfl⟩,trivial⟩ (aa.refl _) rfl ?_|refine sL (.inl rfl) rfl ⟨⟨rfl,rfl⟩,trivial⟩ (.refl _) ?_
 all_goals (first|rfl|simp)
theorem aaZ [Wd] (m:aD) (hm:bh.ok m) (hl:(aJ 2++(aN [m.src,m.view,m.seq,m.ah]++jM m.batch)).length+700000000<=aL):bC prog 158 [.ptr 0 0,.agg (aC {m with kind:=2})] [.cells 220 [.nils]] (fun r h=>r=.aj []/\h=oW (aJ 2++(aN [m.src,m.view,m.seq,m.ah]++jM m.batch))):=by
 refine ak 222 [] func158 ?_
 repeat' (conv=>arg 2;whnf);first|refine mA [0] (sG _) (.mk' rfl ⟨⟨rfl,rfl⟩,trivial⟩) (aa.refl _) rfl ?_|refine fo (mC [m.src,m.view,m.seq,m.ah] (by simp)) (by simp only[List.length_append] at hl ⊢;omega) ⟨⟨rfl,rfl⟩,trivial⟩ (aa.refl _) rfl ?_|refine fo (FD m.batch hm.2.2.2.2.2.2.2.2.1) (by simp only[List.length_append] at hl ⊢;omega) ⟨⟨rfl,rfl⟩,trivial⟩ (aa.refl _) rfl ?_|refine sL (.inl rfl) rfl ⟨⟨rfl,rfl⟩,trivial⟩ (.refl _) ?_
 all_goals (first|rfl|simp)
theorem aa0 [Wd] (m:aD) (hm:bh.ok m) (hl:(aJ 3++(aN [m.src,m.view,m.seq,m.ah])).length+700000000<=aL):bC prog 158 [.ptr 0 0,.agg (aC {m with kind:=3})] [.cells 220 [.nils]] (fun r h=>r=.aj []/\h=oW (aJ 3++(aN [m.src,m.view,m.seq,m.ah]))):=by
 refine ak 222 [] func158 ?_
 repeat' (conv=>arg 2;whnf);first|refine mA [0] (sG _) (.mk' rfl ⟨⟨rfl,rfl⟩,trivial⟩) (aa.refl _) rfl ?_|refine fo (mC [m.src,m.view,m.seq,m.ah] (by simp)) (by simp only[List.length_append] at hl ⊢;omega) ⟨⟨rfl,rfl⟩,trivial⟩ (aa.refl _) rfl ?_|refine sL (.inl rfl) rfl ⟨⟨rfl,rfl⟩,trivial⟩ (.refl _) ?_
 all_goals (first|rfl|simp)
theorem aa1 [Wd] (m:aD) (hm:bh.ok m) (hl:(aJ 4++(aN [m.src,m.view,m.seq,m.ah])).length+700000000<=aL):bC prog 158 [.ptr 0 0,.agg (aC {m with kind:=4})] [.cells 220 [.nils]] (fun r h=>r=.aj []/\h=oW (aJ 4++(aN [m.src,m.view,m.seq,m.ah]))):=by
 refine ak 222 [] func158 ?_
 repeat' (conv=>arg 2;whnf);first|refine mA [0] (sG _) (.mk' rfl ⟨⟨rfl,rfl⟩,trivial⟩) (aa.refl _) rfl ?_|refine fo (mC [m.src,m.view,m.seq,m.ah] (by simp)) (by simp only[List.length_append] at hl ⊢;omega) ⟨⟨rfl,rfl⟩,trivial⟩ (aa.refl _) rfl ?_|refine sL (.inl rfl) rfl ⟨⟨rfl,rfl⟩,trivial⟩ (.refl _) ?_
 all_goals (first|rfl|simp)
theorem aa2 [Wd] (m:aD) (hm:bh.ok m) (h5:(0<=m.result.err/\m.result.err<=9223372036854775807)/\(0<=m.result.offset/\m.result.offset<=9223372036854775807)) (hl:(aJ 5++(aN [m.src,m.view,m.bD,m.time]++wW m.result)).length+700000000<=aL):bC prog 158 [.ptr 0 0,.agg (aC {m with kind:=5})] [.cells 220 [.nils]] (fun r h=>r=.aj []/\h=oW (aJ 5++(aN [m.src,m.view,m.bD,m.time]++wW m.result))):=by
 refine ak 222 [(13,⟨[(0,false),(1,false),(2,false),(3,false),(4,false),(6,false),(7,false),(5,true),(8,true),(9,false),(10,false),(11,false),(12,true)],[0]⟩)] func158 ?_
 repeat' (conv=>arg 2;whnf);first|refine mA [0] (sG _) (.mk' rfl ⟨⟨rfl,rfl⟩,trivial⟩) (aa.refl _) rfl ?_|refine fo (mC [m.src,m.view,m.bD,m.time] (by simp)) (by simp only[List.length_append] at hl ⊢;omega) ⟨⟨rfl,rfl⟩,trivial⟩ (aa.refl _) rfl ?_|refine okF (Vu _ m.result h5.1 h5.2 (by simp only[List.length_append] at hl ⊢;omega)) ?_|refine sL (.inl rfl) rfl ⟨⟨rfl,rfl⟩,trivial⟩ (.refl _) ?_
 all_goals (first|rfl|simp)
theorem aa3 [Wd] (m:aD) (hm:bh.ok m) (hl:(aJ 6++(aN [m.src,m.seq,m.ah])).length+700000000<=aL):bC prog 158 [.ptr 0 0,.agg (aC {m with kind:=6})] [.cells 220 [.nils]] (fun r h=>r=.aj []/\h=oW (aJ 6++(aN [m.src,m.seq,m.ah]))):=by
 refine ak 222 [] func158 ?_
 repeat' (conv=>arg 2;whnf);first|refine mA [0] (sG _) (.mk' rfl ⟨⟨rfl,rfl⟩,trivial⟩) (aa.refl _) rfl ?_|refine fo (mC [m.src,m.seq,m.ah] (by simp)) (by simp only[List.length_append] at hl ⊢;omega) ⟨⟨rfl,rfl⟩,trivial⟩ (aa.refl _) rfl ?_|refine sL (.inl rfl) rfl ⟨⟨rfl,rfl⟩,trivial⟩ (.refl _) ?_
 all_goals (first|rfl|simp)
theorem aa4 [Wd] (m:aD) (hm:bh.ok m) {c:cX} (h7:m.changes[0]?=some c) (hl:(aJ 7++(jy c)).length+700000000<=aL):bC prog 158 [.ptr 0 0,.agg (aC {m with kind:=7})] [.cells 220 [.nils]] (fun r h=>r=.aj []/\h=oW (aJ 7++(jy c))):=by
 refine ak 222 [] func158 ?_
 repeat' (conv=>arg 2;whnf);first|refine mA [0] (sG _) (.mk' rfl ⟨⟨rfl,rfl⟩,trivial⟩) (aa.refl _) rfl ?_|refine eT (bU c) (by decide) (by simp[h7]) ?_|refine fo (Qm c (hm.2.2.2.2.2.2.2.2.2.2.1.2 c (List.mem_of_getElem? h7))) (by simp only[List.length_append] at hl ⊢;omega) ⟨⟨rfl,rfl⟩,trivial⟩ (aa.refl _) rfl ?_|refine sL (.inl rfl) rfl ⟨⟨rfl,rfl⟩,trivial⟩ (.refl _) ?_
 all_goals (first|rfl|simp)
theorem aa5 [Wd] (m:aD) (hm:bh.ok m) (hl:(aJ 9++(aN [m.src,m.seq])).length+700000000<=aL):bC prog 158 [.ptr 0 0,.agg (aC {m with kind:=9})] [.cells 220 [.nils]] (fun r h=>r=.aj []/\h=oW (aJ 9++(aN [m.src,m.seq]))):=by
 refine ak 222 [] func158 ?_
 repeat' (conv=>arg 2;whnf);first|refine mA [0] (sG _) (.mk' rfl ⟨⟨rfl,rfl⟩,trivial⟩) (aa.refl _) rfl ?_|refine fo (mC [m.src,m.seq] (by simp)) (by simp only[List.length_append] at hl ⊢;omega) ⟨⟨rfl,rfl⟩,trivial⟩ (aa.refl _) rfl ?_|refine sL (.inl rfl) rfl ⟨⟨rfl,rfl⟩,trivial⟩ (.refl _) ?_
 all_goals (first|rfl|simp)
theorem YR [Wd] (m:aD) (hm:bh.ok m) (hl:(aJ 10++(aN [m.src]++lR m.cert++cB m.state)).length+700000000<=aL):bC prog 158 [.ptr 0 0,.agg (aC {m with kind:=10})] [.cells 220 [.nils]] (fun r h=>r=.aj []/\h=oW (aJ 10++(aN [m.src]++lR m.cert++cB m.state))):=by
 refine ak 222 [] func158 ?_
 repeat' (conv=>arg 2;whnf);first|refine mA [0] (sG _) (.mk' rfl ⟨⟨rfl,rfl⟩,trivial⟩) (aa.refl _) rfl ?_|refine fo (mC [m.src] (by simp)) (by simp only[List.length_append] at hl ⊢;omega) ⟨⟨rfl,rfl⟩,trivial⟩ (aa.refl _) rfl ?_|refine fo (JV m.cert hm.2.2.2.2.2.2.2.2.2.1) (by simp only[List.length_append] at hl ⊢;omega) ⟨⟨rfl,rfl⟩,trivial⟩ (aa.refl _) rfl ?_|refine fo (Gd m.state hm.2.2.2.2.2.2.2.2.2.2.2.2.1) (by simp only[List.length_append] at hl ⊢;omega) ⟨⟨rfl,rfl⟩,trivial⟩ (aa.refl _) rfl ?_|refine sL (.inl rfl) rfl ⟨⟨rfl,rfl⟩,trivial⟩ (.refl _) ?_
 all_goals (first|rfl|simp)
theorem YS [Wd] (m:aD) (hm:bh.ok m) (hl:(aJ 11++(aN [m.bD]++cB m.av++aN [m.offset])).length+700000000<=aL):bC prog 158 [.ptr 0 0,.agg (aC {m with kind:=11})] [.cells 220 [.nils]] (fun r h=>r=.aj []/\h=oW (aJ 11++(aN [m.bD]++cB m.av++aN [m.offset]))):=by
 refine ak 222 [(42,⟨[(0,false),(1,false),(2,false),(3,false),(4,false),(5,true),(6,true)],[0]⟩)] func158 ?_
 repeat' (conv=>arg 2;whnf);first|refine mA [0] (sG _) (.mk' rfl ⟨⟨rfl,rfl⟩,trivial⟩) (aa.refl _) rfl ?_|refine fo (mC [m.bD] (by simp)) (by simp only[List.length_append] at hl ⊢;omega) ⟨⟨rfl,rfl⟩,trivial⟩ (aa.refl _) rfl ?_|refine aT (by have:m.av.length<=4194304:=hm.2.2.2.2.2.2.2.2.2.2.2.2.2.1;simp only;omega) ?_|refine fo (Gd m.av hm.2.2.2.2.2.2.2.2.2.2.2.2.2.1) (by simp only[List.length_append] at hl ⊢;omega) ⟨⟨rfl,rfl⟩,trivial⟩ (aa.refl _) rfl ?_|refine fo (mC [m.offset] (by simp)) (by simp only[List.length_append] at hl ⊢;omega) ⟨⟨rfl,rfl⟩,trivial⟩ (aa.refl _) rfl ?_|refine sL (.inl rfl) rfl ⟨⟨rfl,rfl⟩,trivial⟩ (.refl _) ?_
 all_goals (first|rfl|simp)
theorem YT [Wd] (m:aD) (hm:bh.ok m) (hl:(aJ 12++(aN [m.src]++jw m.proof)).length+700000000<=aL):bC prog 158 [.ptr 0 0,.agg (aC {m with kind:=12})] [.cells 220 [.nils]] (fun r h=>r=.aj []/\h=oW (aJ 12++(aN [m.src]++jw m.proof))):=by
 refine ak 222 [] func158 ?_
 repeat' (conv=>arg 2;whnf);first|refine mA [0] (sG _) (.mk' rfl ⟨⟨rfl,rfl⟩,trivial⟩) (aa.refl _) rfl ?_|refine fo (mC [m.src] (by simp)) (by simp only[List.length_append] at hl ⊢;omega) ⟨⟨rfl,rfl⟩,trivial⟩ (aa.refl _) rfl ?_|refine fo (YQ m.proof hm.2.2.2.2.2.2.2.2.2.2.2.2.2.2.2.1) (by simp only[List.length_append] at hl ⊢;omega) ⟨⟨rfl,rfl⟩,trivial⟩ (aa.refl _) rfl ?_|refine sL (.inl rfl) rfl ⟨⟨rfl,rfl⟩,trivial⟩ (.refl _) ?_
 all_goals (first|rfl|simp)
theorem aa6 [Wd] (m:aD) (hm:bh.ok m) (hl:(aJ 8++(aN [m.src,m.view]++aJ (m.changes.length:Int)++m.changes.flatMap fq++aJ (m.entries.length:Int)++m.entries.flatMap gG)).length+700000000<=aL):bC prog 158 [.ptr 0 0,.agg (aC {m with kind:=8})] [.cells 220 [.nils]] (fun r h=>r=.aj []/\h=oW (aJ 8++(aN [m.src,m.view]++aJ (m.changes.length:Int)++m.changes.flatMap fq++aJ (m.entries.length:Int)++m.entries.flatMap gG))):=by
 refine ak 222 [] func158 ?_
 repeat' (conv=>arg 2;whnf);first|refine mA [0] (sG _) (.mk' rfl ⟨⟨rfl,rfl⟩,trivial⟩) (aa.refl _) rfl ?_|refine fo (mC [m.src,m.view] (by simp)) (by simp only[List.length_append] at hl ⊢;omega) ⟨⟨rfl,rfl⟩,trivial⟩ (aa.refl _) rfl ?_|refine fo (Bx _) (by simp only[List.length_append,List.length_map] at hl ⊢;omega) ⟨⟨rfl,rfl⟩,trivial⟩ (aa.refl _) rfl ?_
 conv=>arg 2;whnf
 refine bE (α:=Nat) (fun q=>⟨[(116,.int .i64 q),(115,.int .i64 (m.changes.map bU).length),(114,.list 8 (m.changes.map bU)),(3,.ptr 1 0),(0,.ptr 0 0)],[.cells 220 [.list 1 (((aJ 8++aN [m.src,m.view]++aJ ((m.changes.map bU).length:Nat))++(m.changes.take q).flatMap fq).map af)],.cells 59 (aC {m with kind:=8})]⟩) (fun q=>q<=m.changes.length) (fun q=>m.changes.length-q) 0 (Nat.zero_le _) (Sv.mk' [0,1] rfl ⟨⟨rfl,by simp;rfl⟩,⟨rfl,rfl⟩,trivial⟩ ⟨rfl,rfl,rfl,rfl,rfl,trivial⟩) ?_
 intro q hq
 have fL:m.changes.length<=4194304:=hm.2.2.2.2.2.2.2.2.2.2.1.1
 repeat' (conv=>arg 2;whnf);first|refine BS (fun hlt=>?_) (fun dm=>?_)|refine cK (by simpa using hlt) (fun x hx=>?_)|refine fo (Xg x (hm.2.2.2.2.2.2.2.2.2.2.1.2 x (List.mem_of_getElem? hx))) (by have:=wg fq hx;simp only[List.length_append,List.length_map] at hl this ⊢;omega) ⟨⟨rfl,rfl⟩,trivial⟩ (aa.refl _) rfl ?_|refine bZ (by simp at hlt;omega) ?_|refine aZ (q+1) (Sv.mk' [0,1] rfl ⟨⟨rfl,by rw[List.take_add_one,hx];simp[fq];rfl⟩,⟨rfl,rfl⟩,trivial⟩ ⟨rfl,rfl,rfl,rfl,rfl,trivial⟩) ?_ ?_|refine bq ?_|refine fo (Bx _) (by have:=DM fq m.changes q;simp only[List.length_append,List.length_map] at hl this ⊢;omega) ⟨⟨rfl,rfl⟩,trivial⟩ (aa.refl _) rfl ?_
 ·simp at hlt;omega
 ·simp at hlt;omega
 rw[show m.changes.take q=m.changes from List.take_of_length_le (by simpa using dm)]
 clear fL dm
 conv=>arg 2;whnf
 refine bE (α:=Nat) (fun q=>⟨[(134,.int .i64 q),(133,.int .i64 (m.entries.map dV).length),(132,.list 5 (m.entries.map dV)),(3,.ptr 1 0),(0,.ptr 0 0)],[.cells 220 [.list 1 (((aJ 8++aN [m.src,m.view]++aJ (m.changes.length:Int)++m.changes.flatMap fq++aJ ((m.entries.map dV).length:Nat))++(m.entries.take q).flatMap gG).map af)],.cells 59 (aC {m with kind:=8})]⟩) (fun q=>q<=m.entries.length) (fun q=>m.entries.length-q) 0 (Nat.zero_le _) (Sv.mk' [0,1] rfl ⟨⟨rfl,by simp;rfl⟩,⟨rfl,rfl⟩,trivial⟩ ⟨rfl,rfl,rfl,rfl,rfl,trivial⟩) ?_
 intro q hq
 have fL:m.entries.length<=4194304:=hm.2.2.2.2.2.2.2.2.2.2.2.1.1
 repeat' (conv=>arg 2;whnf);first|refine BS (fun hlt=>?_) (fun dm=>?_)|refine cK (by simpa using hlt) (fun x hx=>?_)|refine fo (mC [x.view,x.seq] (by simp)) (by have:=wg gG hx;simp only[gG,List.length_append,List.length_map] at hl this ⊢;omega) ⟨⟨rfl,rfl⟩,trivial⟩ (aa.refl _) rfl ?_|refine fo (FD x.batch (hm.2.2.2.2.2.2.2.2.2.2.2.1.2 x (List.mem_of_getElem? hx)).2.2.1) (by have:=wg gG hx;simp only[gG,List.length_append,List.length_map] at hl this ⊢;omega) ⟨⟨rfl,rfl⟩,trivial⟩ (aa.refl _) rfl ?_|refine fo (yl x.sign) (by have:=wg gG hx;simp only[gG,List.length_append,List.length_map] at hl this ⊢;omega) ⟨⟨rfl,rfl⟩,trivial⟩ (aa.refl _) rfl ?_|refine bZ (by simp at hlt;omega) ?_|refine aZ (q+1) (Sv.mk' [0,1] rfl ⟨⟨rfl,by rw[List.take_add_one,hx];simp[gG];rfl⟩,⟨rfl,rfl⟩,trivial⟩ ⟨rfl,rfl,rfl,rfl,rfl,trivial⟩) ?_ ?_|refine bq ?_|refine sL (.inl rfl) rfl ⟨⟨rfl,rfl⟩,trivial⟩ (.refl _) ?_
 ·simp at hlt;omega
 ·simp at hlt;omega
 ·rw[show m.entries.take q=m.entries from List.take_of_length_le (by simpa using dm)]
  simp
theorem Jq {n a b:Int} (h:cQ n a b=0):a<=n/\n<=b:=by
 unfold cQ at h
 split at h
 ·cases h
 ·omega
theorem aa7 {m:aD} (h:bP m=0):m.kind=1\/m.kind=2\/m.kind=3\/m.kind=4\/m.kind=5\/m.kind=6\/m.kind=7\/m.kind=8\/m.kind=9\/m.kind=10\/m.kind=11\/m.kind=12:=by
 unfold bP at h
 repeat' split at h
 all_goals omega
theorem sn (m:aD) {k:Int} (h:m.kind=k):({m with kind:=k}:aD)=m:=by
 subst h
 rfl
theorem xj [Wd] (m:aD) (hm:bh.ok m) (h0:bP m=0) (hl:(aO m).length+700000000<=aL):bC prog 158 [.ptr 0 0,.agg (aC m)] [.cells 220 [.nils]] (fun r h=>r=.aj []/\h=oW (aO m)):=by
 have h5:m.kind=5->(0<=m.result.err/\m.result.err<=9223372036854775807)/\(0<=m.result.offset/\m.result.offset<=9223372036854775807):=fun hk=>by
  simp only[bP,hk] at h0
  simp[bQ] at h0
  obtain⟨_,_,_,_,e1,e2⟩:=h0
  have:=Jq e1
  have:=Jq (show cQ m.result.offset 0 9007199254740992=0 from e2)
  omega
 have h7:m.kind=7->∃c,m.changes[0]?=some c:=fun hk=>by
  simp only[bP,hk] at h0
  simp[bQ] at h0
  have:=Jq h0.1
  exact⟨_,List.getElem?_eq_getElem (by omega)⟩
 rcases aa7 h0 with hk|hk|hk|hk|hk|hk|hk|hk|hk|hk|hk|hk
 ·have u:aO m=aJ 1++(jM m.batch):=by simp[aO,cT,hk]
  rw[u] at hl ⊢
  have r:=aaY m hm hl
  rwa [sn m hk] at r
 ·have u:aO m=aJ 2++(aN [m.src,m.view,m.seq,m.ah]++jM m.batch):=by simp[aO,cT,hk]
  rw[u] at hl ⊢
  have r:=aaZ m hm hl
  rwa [sn m hk] at r
 ·have u:aO m=aJ 3++(aN [m.src,m.view,m.seq,m.ah]):=by simp[aO,cT,hk]
  rw[u] at hl ⊢
  have r:=aa0 m hm hl
  rwa [sn m hk] at r
 ·have u:aO m=aJ 4++(aN [m.src,m.view,m.seq,m.ah]):=by simp[aO,cT,hk]
  rw[u] at hl ⊢
  have r:=aa1 m hm hl
  rwa [sn m hk] at r
 ·have u:aO m=aJ 5++(aN [m.src,m.view,m.bD,m.time]++wW m.result):=by simp[aO,cT,hk]
  rw[u] at hl ⊢
  have r:=aa2 m hm (h5 hk) hl
  rwa [sn m hk] at r
 ·have u:aO m=aJ 6++(aN [m.src,m.seq,m.ah]):=by simp[aO,cT,hk]
  rw[u] at hl ⊢
  have r:=aa3 m hm hl
  rwa [sn m hk] at r
 ·obtain⟨c,hc⟩:=h7 hk
  obtain⟨r,hr⟩:∃r,m.changes=c::r:=by
   cases hx:m.changes with
   |nil=>rw[hx] at hc;cases hc
   |cons d r=>rw[hx] at hc;cases hc;exact⟨r,rfl⟩
  have u:aO m=aJ 7++(jy c):=by simp[aO,cT,hk,hr]
  rw[u] at hl ⊢
  have r:=aa4 m hm hc hl
  rwa [sn m hk] at r
 ·have u:aO m=aJ 8++(aN [m.src,m.view]++aJ (m.changes.length:Int)++m.changes.flatMap fq++aJ (m.entries.length:Int)++m.entries.flatMap gG):=by simp[aO,cT,hk]
  rw[u] at hl ⊢
  have r:=aa6 m hm hl
  rwa [sn m hk] at r
 ·have u:aO m=aJ 9++(aN [m.src,m.seq]):=by simp[aO,cT,hk]
  rw[u] at hl ⊢
  have r:=aa5 m hm hl
  rwa [sn m hk] at r
 ·have u:aO m=aJ 10++(aN [m.src]++lR m.cert++cB m.state):=by simp[aO,cT,hk]
  rw[u] at hl ⊢
  have r:=YR m hm hl
  rwa [sn m hk] at r
 ·have u:aO m=aJ 11++(aN [m.bD]++cB m.av++aN [m.offset]):=by simp[aO,cT,hk]
  rw[u] at hl ⊢
  have r:=YS m hm hl
  rwa [sn m hk] at r
 ·have u:aO m=aJ 12++(aN [m.src]++jw m.proof):=by simp[aO,cT,hk]
  rw[u] at hl ⊢
  have r:=YT m hm hl
  rwa [sn m hk] at r
theorem C7 [Wd] (l:List bX) (hl:(dL fX).ok l):aq prog 296 [.list 9 (l.map bI)] (.int .i64 (fA l)):=Jn l hl
theorem Oo [Wd] (s:List UInt8) (hs:s.length<=4194304):nO 305 [.str s] (mh s):=by
 intro e
 refine ak 9 [] func305 ?_
 repeat' (conv=>arg 2;whnf);first|apply an<;>intro h|refine okF (Dw s hs) ?_|refine fQ 0 (yA _) ⟨⟨rfl,rfl⟩,trivial⟩ (aa.refl _) rfl ?_|refine pJ [0] (.inl rfl) rfl rfl ⟨⟨rfl,rfl⟩,trivial⟩ ⟨⟨rfl,rfl⟩,trivial⟩ (.refl _) ?_
 all_goals simp_all [mh,gH]
theorem IT [Wd] (c:gX) (hc:je.ok c):nO 303 [.agg (mj c)] (jl c):=by
 intro e
 refine ak 36 [] func303 ?_
 repeat' (conv=>arg 2;whnf);first|apply an<;>intro h|refine fQ 0 (wT _) ⟨⟨rfl,rfl⟩,trivial⟩ (aa.refl _) rfl ?_|refine fQ 0 (yA _) ⟨⟨rfl,rfl⟩,trivial⟩ (aa.refl _) rfl ?_|refine qq 0 (NX c.cM hc.2.2.1) ?_|refine pJ [0] (.inl rfl) rfl rfl ⟨⟨rfl,rfl⟩,trivial⟩ ⟨⟨rfl,rfl⟩,trivial⟩ (.refl _) ?_
 all_goals simp only[jl,eZ];by_cases h1:c.seq=0<;>by_cases h2:c.ah=0<;>by_cases h3:0<c.cM.length<;>simp_all [gu,show ∀a b:Int,(a==b)=decide (a=b) from fun _ _=>rfl]
theorem Xb [Wd] (p:jt) (hp:oC.ok p):nO 317 [.agg (fk p)] (jQ p):=by
 intro e
 refine ak 30 [] func317 ?_
 repeat' (conv=>arg 2;whnf);first|refine fQ 0 (wT _) ⟨⟨rfl,rfl⟩,trivial⟩ (aa.refl _) rfl ?_|refine fQ 0 (zy _) ⟨⟨rfl,rfl⟩,trivial⟩ (aa.refl _) rfl ?_|refine fQ 0 (yA _) ⟨⟨rfl,rfl⟩,trivial⟩ (aa.refl _) rfl ?_|refine qq 0 (NX p.cM hp.2.2.2.2.1.1) ?_|refine okF (Di p.kG) ?_|refine okF (C7 p.batch hp.2.2.2.2.2) ?_|refine pJ [0] (.inl rfl) rfl rfl ⟨⟨rfl,rfl⟩,trivial⟩ ⟨⟨rfl,rfl⟩,trivial⟩ (.refl _) ?_
 all_goals simp only[jQ,eZ]
theorem Xc [Wd] (m:aD):nO 297 [.agg (aC m)] (gI m):=by
 intro e
 refine ak 20 [] func297 ?_
 repeat' (conv=>arg 2;whnf);first|refine fQ 0 (EW _) ⟨⟨rfl,rfl⟩,trivial⟩ (aa.refl _) rfl ?_|refine fQ 0 (wT _) ⟨⟨rfl,rfl⟩,trivial⟩ (aa.refl _) rfl ?_|refine fQ 0 (zy _) ⟨⟨rfl,rfl⟩,trivial⟩ (aa.refl _) rfl ?_|refine pJ [0] (.inl rfl) rfl rfl ⟨⟨rfl,rfl⟩,trivial⟩ ⟨⟨rfl,rfl⟩,trivial⟩ (.refl _) ?_
 all_goals simp only[gI,eZ]
theorem NG [Wd] (c:cX) (hc:fP.ok c):nO 301 [.agg (bU c)] (ir c):=by
 intro e
 refine ak 39 [] func301 ?_
 repeat' (conv=>arg 2;whnf);first|refine fQ 0 (zy _) ⟨⟨rfl,rfl⟩,trivial⟩ (aa.refl _) rfl ?_|refine fQ 0 (EW _) ⟨⟨rfl,rfl⟩,trivial⟩ (aa.refl _) rfl ?_|refine qq 0 (IT c.cert hc.2.2.1) ?_|refine fQ 0 (zm _ _) ⟨⟨rfl,rfl⟩,trivial⟩ (aa.refl _) rfl ?_
 conv=>arg 2;whnf
 refine bE (α:=Nat×Int) (fun a=>⟨[(26,.int .i64 a.1),(25,.int .i64 (c.cD.map fk).length),(24,.list 7 (c.cD.map fk)),(3,.ptr 1 0),(0,.ptr 0 0)],[.cells 320 [.int .i64 a.2],.cells 145 (bU c)]⟩) (fun a=>a.1<=c.cD.length/\a.2=aF (aF (aF (aF (aF e (gd c.view)) (ke c.src)) (jl c.cert)) (jd c.cD.length 8)) (bG jQ (c.cD.take a.1))) (fun a=>c.cD.length-a.1) (0,aF (aF (aF (aF e (gd c.view)) (ke c.src)) (jl c.cert)) (cQ ((c.cD.map fk).length:Nat) 0 8)) ⟨Nat.zero_le _,by simp[bG,gH,jd]⟩ (Sv.aK [0,1]) ?_
 rintro⟨q,e'⟩ ⟨hq,he⟩
 have hl:c.cD.length<=4194304:=hc.2.2.2.1.1
 repeat' (conv=>arg 2;whnf);first|apply an<;>intro h|refine cK (by simpa using h) (fun x hx=>?_)|refine qq 0 (Xb x (hc.2.2.2.1.2 x (List.mem_of_getElem? hx))) ?_|refine okF (Di c.sign) ?_|refine fQ 0 (yA _) ⟨⟨rfl,rfl⟩,trivial⟩ (aa.refl _) rfl ?_|refine bZ (by simp at h hq;omega) ?_|refine aZ (q+1,_) (Sv.aK [0,1] rfl rfl rfl) ⟨?_,?_⟩ ?_|refine pJ [0] (.inl rfl) rfl rfl ⟨⟨rfl,rfl⟩,trivial⟩ ⟨⟨rfl,rfl⟩,trivial⟩ (.refl _) ?_
 ·show q+1<=c.cD.length
  simp at h;omega
 ·show aF e' (jQ x)=_
  rw[oF jQ hx,<-eZ,<-he]
  try simp only[jQ,eZ]
 ·simp at h ⊢;omega
 ·rw[he,show c.cD.take q=c.cD from List.take_of_length_le (by simp at h;omega)]
  simp only[ir,eZ]
theorem YN [Wd] (m:aD) (hm:bh.ok m):nO 302 [.agg (aC m)] (iP m):=by
 intro e
 refine ak 63 [] func302 ?_
 repeat' (conv=>arg 2;whnf);first|refine fQ 0 (EW _) ⟨⟨rfl,rfl⟩,trivial⟩ (aa.refl _) rfl ?_|refine fQ 0 (zy _) ⟨⟨rfl,rfl⟩,trivial⟩ (aa.refl _) rfl ?_|refine fQ 0 (zm _ _) ⟨⟨rfl,rfl⟩,trivial⟩ (aa.refl _) rfl ?_
 conv=>arg 2;whnf
 refine bE (α:=Nat×Int) (fun a=>⟨[(24,.int .i64 a.1),(23,.int .i64 (m.changes.map bU).length),(22,.list 8 (m.changes.map bU)),(3,.ptr 1 0),(0,.ptr 0 0)],[.cells 320 [.int .i64 a.2],.cells 59 (aC m)]⟩) (fun a=>a.1<=m.changes.length/\a.2=aF (aF (aF (aF e (ke m.src)) (gd m.view)) (jd m.changes.length 13)) (bG ir (m.changes.take a.1))) (fun a=>m.changes.length-a.1) (0,aF (aF (aF e (ke m.src)) (gd m.view)) (cQ ((m.changes.map bU).length:Nat) 0 13)) ⟨Nat.zero_le _,by simp[bG,gH,jd]⟩ (Sv.aK [0,1]) ?_
 rintro⟨q,e'⟩ ⟨hq,he⟩
 have hl:m.changes.length<=4194304:=hm.2.2.2.2.2.2.2.2.2.2.1.1
 repeat' (conv=>arg 2;whnf);first|apply an<;>intro h|refine cK (by simpa using h) (fun x hx=>?_)|refine qq 0 (NG x (hm.2.2.2.2.2.2.2.2.2.2.1.2 x (List.mem_of_getElem? hx))) ?_|refine fQ 0 (zm _ _) ⟨⟨rfl,rfl⟩,trivial⟩ (aa.refl _) rfl ?_|refine bZ (by simp at h hq;omega) ?_|refine aZ (q+1,_) (Sv.aK [0,1] rfl rfl rfl) ⟨?_,?_⟩ ?_
 ·show q+1<=m.changes.length
  simp at h;omega
 ·show aF e' (ir x)=_
  rw[oF ir hx,<-eZ,<-he]
  try simp only[ir,eZ]
 ·simp at h ⊢;omega
 rw[show m.changes.take q=m.changes from List.take_of_length_le (by simp at h;omega)] at he
 replace he:e'=_:=he
 clear hq h hl
 generalize hE:e'=e1 at he
 clear hE e'
 conv=>arg 2;whnf
 refine bE (α:=Nat×Int) (fun a=>⟨[(40,.int .i64 a.1),(39,.int .i64 (m.entries.map dV).length),(38,.list 5 (m.entries.map dV)),(3,.ptr 1 0),(0,.ptr 0 0)],[.cells 320 [.int .i64 a.2],.cells 59 (aC m)]⟩) (fun a=>a.1<=m.entries.length/\a.2=aF (aF (e1) (jd m.entries.length 8)) (bG mM (m.entries.take a.1))) (fun a=>m.entries.length-a.1) (0,aF (e1) (cQ ((m.entries.map dV).length:Nat) 0 8)) ⟨Nat.zero_le _,by simp[bG,gH,jd]⟩ (Sv.aK [0,1]) ?_
 rintro⟨q,e'⟩ ⟨hq,uT⟩
 have hl:m.entries.length<=4194304:=hm.2.2.2.2.2.2.2.2.2.2.2.1.1
 repeat' (conv=>arg 2;whnf);first|apply an<;>intro h|refine cK (by simpa using h) (fun x hx=>?_)|refine fQ 0 (wT _) ⟨⟨rfl,rfl⟩,trivial⟩ (aa.refl _) rfl ?_|refine fQ 0 (zy _) ⟨⟨rfl,rfl⟩,trivial⟩ (aa.refl _) rfl ?_|refine okF (C7 x.batch (hm.2.2.2.2.2.2.2.2.2.2.2.1.2 x (List.mem_of_getElem? hx)).2.2.1) ?_|refine okF (Di x.sign) ?_|refine fQ 0 (yA _) ⟨⟨rfl,rfl⟩,trivial⟩ (aa.refl _) rfl ?_|refine bZ (by simp at h hq;omega) ?_|refine aZ (q+1,aF (aF (aF (aF e' (cP x.view)) (gd x.seq)) (fA x.batch)) (dw x.sign)) (Sv.aK [0,1]) ⟨?_,?_⟩ ?_|refine bq ?_|refine pJ [0] (.inl rfl) rfl rfl ⟨⟨rfl,rfl⟩,trivial⟩ ⟨⟨rfl,rfl⟩,trivial⟩ (.refl _) ?_
 ·show q+1<=m.entries.length
  simp at h;omega
 ·show aF (aF (aF (aF e' (cP x.view)) (gd x.seq)) (fA x.batch)) (dw x.sign)=_
  rw[oF mM hx,<-eZ,<-uT]
  try simp only[mM,eZ]
 ·simp at h ⊢;omega
 ·rw[uT,show m.entries.take q=m.entries from List.take_of_length_le (by simp at h;omega),he]
  simp only[iP,eZ]
theorem ad1 (a i c:Int):aF (aF a (cQ c 0 16)) (cQ i 0 (IntKind.i64.wrap (c-1)))=aF (aF a (cQ c 0 16)) (cQ i 0 (c-1)):=by
 by_cases h:0<=c/\c<=16
 ·rw[cj (by omega) (by omega)]
 ·have h0:cQ c 0 16≠0:=by unfold cQ;split<;>omega
  have h1:aF a (cQ c 0 16)≠0:=by unfold aF;split<;>assumption
  have h2:∀x,aF (aF a (cQ c 0 16)) x=aF a (cQ c 0 16):=fun x=>by rw[aF,if_neg h1]
  rw[h2,h2]
theorem Wa [Wd] (p:jX) (hp:jY.ok p):nO 306 [.agg (jv p)] (mB p):=by
 intro e
 refine ak 93 [] func306 ?_
 repeat' (conv=>arg 2;whnf);first|refine qq 0 (Oo p.av hp.1) ?_|refine fQ 0 (wT _) ⟨⟨rfl,rfl⟩,trivial⟩ (aa.refl _) rfl ?_|refine fQ 0 (zm _ _) ⟨⟨rfl,rfl⟩,trivial⟩ (aa.refl _) rfl ?_
 conv=>arg 2;whnf
 refine bE (α:=Nat×Int) (fun a=>⟨[(31,.int .i64 a.1),(30,.int .i64 (p.headers.map eO).length),(29,.list 5 (p.headers.map eO)),(3,.ptr 1 0),(0,.ptr 0 0)],[.cells 320 [.int .i64 a.2],.cells 55 (jv p)]⟩) (fun a=>a.1<=p.headers.length/\a.2=aF (aF (aF (aF (aF e (mh p.av)) (cP p.offset)) (cQ ((p.record.map af).length:Nat) 0 64)) (jd p.headers.length 64)) (bG mN (p.headers.take a.1))) (fun a=>p.headers.length-a.1) (0,aF (aF (aF (aF e (mh p.av)) (cP p.offset)) (cQ ((p.record.map af).length:Nat) 0 64)) (cQ ((p.headers.map eO).length:Nat) 0 64)) ⟨Nat.zero_le _,by simp[bG,gH,jd]⟩ (Sv.aK [0,1]) ?_
 rintro⟨q,e'⟩ ⟨hq,he⟩
 have hl:p.headers.length<=4194304:=hp.2.2.2.1.1
 repeat' (conv=>arg 2;whnf);first|refine an (fun h=>?_) (fun h=>?_)|refine cK (by simpa using h) (fun x hx=>?_)|refine fQ 0 (zy _) ⟨⟨rfl,rfl⟩,trivial⟩ (aa.refl _) rfl ?_|refine fQ 0 (wT _) ⟨⟨rfl,rfl⟩,trivial⟩ (aa.refl _) rfl ?_|refine fQ 0 (zm _ _) ⟨⟨rfl,rfl⟩,trivial⟩ (aa.refl _) rfl ?_|refine fQ 0 (BR _ _ _) ⟨⟨rfl,rfl⟩,trivial⟩ (aa.refl _) rfl ?_
 case refine_1=>
  have hh:=h
  clear h
  conv=>arg 2;whnf
  refine bE (α:=Nat×Int) (fun a=>⟨[(49,.int .i64 a.1),(48,.int .i64 ([x.prev,x.batch,x.root,x.state].map eD).length),(47,.list 1 ([x.prev,x.batch,x.root,x.state].map eD)),(31,.int .i64 q),(30,.int .i64 (p.headers.map eO).length),(29,.list 5 (p.headers.map eO)),(3,.ptr 1 0),(0,.ptr 0 0)],[.cells 320 [.int .i64 a.2],.cells 55 (jv p)]⟩) (fun a=>a.1<=4/\a.2=aF (aF e' (gd x.seq)) (bG cP ([x.prev,x.batch,x.root,x.state].take a.1))) (fun a=>4-a.1) (0,aF e' (gd x.seq)) ⟨Nat.zero_le _,by simp[bG,gH]⟩ (Sv.aK [0,1]) ?_
  rintro⟨i,e2⟩ ⟨hi,uT⟩
  repeat' (conv=>arg 2;whnf);first|refine an (fun h=>?_) (fun h=>?_)|refine cK (by simp at h ⊢;omega) (fun y hy=>?_)|refine fQ 0 (wT _) ⟨⟨rfl,rfl⟩,trivial⟩ (aa.refl _) rfl ?_|refine bZ (by simp at h hi;omega) ?_|refine aZ (i+1,_) (Sv.aK [0,1] rfl rfl rfl) ⟨?_,?_⟩ ?_|refine bq ?_|refine aZ (q+1,_) (Sv.aK [0,1] rfl rfl rfl) ⟨?_,?_⟩ ?_
  ·show i+1<=4
   simp at h;omega
  ·show aF e2 (cP y)=_
   rw[oF cP hy,<-eZ,<-uT]
  ·simp at h ⊢;omega
  ·show q+1<=p.headers.length
   simp at hh;omega
  ·show e2=_
   rw[show i=4 by simp at h hi;omega] at uT
   have oS:e2=aF (aF e' (gd x.seq)) (bG cP [x.prev,x.batch,x.root,x.state]):=uT
   rw[oF mN hx,<-eZ,<-he,oS]
   simp only[mN,bG,gH,eZ]
  ·simp at hh ⊢;omega
 rw[show p.headers.take q=p.headers from List.take_of_length_le (by simp at h;omega)] at he
 replace he:e'=_:=he
 clear hq h hl
 generalize hE:e'=e1 at he
 clear hE e'
 conv=>arg 2;whnf
 refine bE (α:=Nat×Int) (fun a=>⟨[(81,.int .i64 a.1),(80,.int .i64 (p.path.map eD).length),(79,.list 1 (p.path.map eD)),(3,.ptr 1 0),(0,.ptr 0 0)],[.cells 320 [.int .i64 a.2],.cells 55 (jv p)]⟩) (fun a=>a.1<=p.path.length/\a.2=aF (aF (aF (aF (aF e1 (cP p.index)) (cQ p.count 0 16)) (cQ p.index 0 (IntKind.i64.wrap (p.count-1)))) (cQ ((p.path.map eD).length:Nat) 0 8)) (bG cP (p.path.take a.1))) (fun a=>p.path.length-a.1) (0,aF (aF (aF (aF e1 (cP p.index)) (cQ p.count 0 16)) (cQ p.index 0 (IntKind.i64.wrap (p.count-1)))) (cQ ((p.path.map eD).length:Nat) 0 8)) ⟨Nat.zero_le _,by simp[bG,gH]⟩ (Sv.aK [0,1]) ?_
 rintro⟨q,e'⟩ ⟨hq,uT⟩
 have hl:p.path.length<=4194304:=hp.2.2.2.2.2.2.1.1
 repeat' (conv=>arg 2;whnf);first|refine an (fun h=>?_) (fun h=>?_)|refine cK (by simpa using h) (fun x hx=>?_)|refine fQ 0 (wT _) ⟨⟨rfl,rfl⟩,trivial⟩ (aa.refl _) rfl ?_|refine qq 0 (IT p.cert hp.2.2.2.2.2.2.2) ?_|refine bZ (by simp at h hq;omega) ?_|refine aZ (q+1,_) (Sv.aK [0,1] rfl rfl rfl) ⟨?_,?_⟩ ?_|refine pJ [0] (.inl rfl) rfl rfl ⟨⟨rfl,rfl⟩,trivial⟩ ⟨⟨rfl,rfl⟩,trivial⟩ (.refl _) ?_
 ·show q+1<=p.path.length
  simp at h;omega
 ·show aF e' (cP x)=_
  rw[oF cP hx,<-eZ,<-uT]
  try simp only[cP,eZ]
 ·simp at h ⊢;omega
 ·rw[uT,ad1,show p.path.take q=p.path from List.take_of_length_le (by simp at h;omega),he]
  simp only[mB,jd,List.length_map,eZ]
theorem Lc [Wd] {P:Program} {Q:Exit->S->Prop} {a b:Nat} {t f:T} (h1:a<b->t.ok P Q) (h2:b<=a->f.ok P Q):(bT (decide ((a:Int)<(b:Int))) t f).ok P Q:=
 an (fun h=>h1 (by simpa using h)) (fun h=>h2 (by simpa using h))
theorem iZ [Wd] (k:Int):aq prog 156 [.int .i64 k] (.bool (bW k)):=
 bC.old (v:=.bool (bW k)) (fun _ _=>.bool _) (by kernel_rfl) (fun w I vs hv=>by
  obtain⟨v,rfl,h⟩:=hv.vR
  cases h
  exact Xd) rfl
set_option maxHeartbeats 20000000 in
theorem YO [Wd] (m:aD) (hm:bh.ok m):nO 261 [.agg (aC m)] (eX m):=by
 intro e
 refine ak 174 [] func261 ?_
 repeat'
  first
  |(rintro⟨q,e'⟩ ⟨hq,he⟩)
  |((conv=>arg 2;whnf)
    first|refine Lc (fun hlt=>?_) (fun dm=>?_)|apply an<;>intro h|refine cK (by simpa using hlt) (fun x hx=>?_)|refine fQ 0 (BR _ _ _) ⟨⟨rfl,rfl⟩,trivial⟩ (aa.refl _) rfl ?_|refine fQ 0 (wT _) ⟨⟨rfl,rfl⟩,trivial⟩ (aa.refl _) rfl ?_|refine fQ 0 (zy _) ⟨⟨rfl,rfl⟩,trivial⟩ (aa.refl _) rfl ?_|refine fQ 0 (EW _) ⟨⟨rfl,rfl⟩,trivial⟩ (aa.refl _) rfl ?_|refine fQ 0 (zm _ _) ⟨⟨rfl,rfl⟩,trivial⟩ (aa.refl _) rfl ?_|refine fQ 0 (yA _) ⟨⟨rfl,rfl⟩,trivial⟩ (aa.refl _) rfl ?_|refine qq 0 (Xc m) ?_|refine qq 0 (YN m hm) ?_|refine qq 0 (IT m.cert hm.2.2.2.2.2.2.2.2.2.1) ?_|refine qq 0 (Wa m.proof hm.2.2.2.2.2.2.2.2.2.2.2.2.2.2.2.1) ?_|refine qq 0 (Oo m.av hm.2.2.2.2.2.2.2.2.2.2.2.2.2.1) ?_|refine qq 0 (NG x (hm.2.2.2.2.2.2.2.2.2.2.1.2 x (List.mem_of_getElem? hx))) ?_|refine okF (iZ _) ?_|refine okF (Di m.sign) ?_|refine okF (C7 m.batch hm.2.2.2.2.2.2.2.2.1) ?_|refine bw (cj (by simp at hlt hq;omega) (by have:=hm.2.2.2.2.2.2.2.2.2.2.1.1;simp at hlt hq this;omega)) ?_|refine aZ (q+1,aF (aF e' (ir x)) 100) (Sv.aK [0,1]) ⟨?_,?_⟩ ?_|refine aZ (q+1,aF e' (ir x)) (Sv.aK [0,1]) ⟨?_,?_⟩ ?_|refine bE (α:=Nat×Int) (fun a=>⟨[(90,.int .i64 a.1),(89,.int .i64 (m.changes.map bU).length),(88,.list 8 (m.changes.map bU)),(3,.ptr 1 0),(0,.ptr 0 0)],[.cells 320 [.int .i64 a.2],.cells 59 (aC m)]⟩) (fun a=>a.1<=m.changes.length/\a.2=aF (aF e (cQ ((m.changes.map bU).length:Nat) 1 1)) (bG (rK m) (m.changes.take a.1))) (fun a=>m.changes.length-a.1) (0,aF e (cQ ((m.changes.map bU).length:Nat) 1 1)) ⟨Nat.zero_le _,by simp[bG,gH]⟩ (Sv.aK [0,1]) ?_|refine pJ [0] (.inl rfl) rfl rfl ⟨⟨rfl,rfl⟩,trivial⟩ ⟨⟨rfl,rfl⟩,trivial⟩ (.refl _) ?_
   )
 all_goals first|(show q+1<=m.changes.length;simp at hlt;omega)|(show m.changes.length-(q+1)<m.changes.length-q;simp at hlt;omega)|(show aF (aF e' (ir x)) 100=_;rw[oF (rK m) hx,<-eZ,<-he];clear he;simp_all [rK,eZ])|(show aF e' (ir x)=_;rw[oF (rK m) hx,<-eZ,<-he];clear he;simp_all [rK,gH])|(rw[he,List.take_of_length_le (by simpa using dm)];clear he;simp_all [eX,bP,bW,eZ,gH])|simp_all [eX,bP,bW,jd,eZ,gH]
set_option maxHeartbeats 20000000 in
theorem acM [Wd] (x:aD):aq prog 262 [.agg (aC x)] (.agg (aC (aH x))):=by
 refine ak 114 [] func262 ?_
 repeat' (conv=>arg 2;whnf);first|apply an<;>intro h|refine okF (iZ _) ?_
 all_goals (refine j5 rfl (aa.eU ?_))
 all_goals simp only[beq_iff_eq,beq_eq_false_iff_ne,ne_eq] at*
 all_goals simp_all [aH,bW,aC,aE]
 all_goals (repeat' first|exact aa.nil|exact Co.refl _|exact Co.nil _|refine aa.cons ?_ ?_)
theorem vS:bh.ok aE:=by
 simp[bh,mZ,je,jY,iO,dM,dP,dI,dS,dY,dL,aE,me,nk,oJ,dx]
theorem ad2 {P:aD->Prop} {c:Prop} [Decidable c] {a b:aD} (h1:P a) (h2:P b):P (if c then a else b):=by
 by_cases h:c
 ·rw[if_pos h];exact h1
 ·rw[if_neg h];exact h2
set_option maxHeartbeats 20000000 in
theorem Qn {m:aD} (hm:bh.ok m):bh.ok (aH m):=by
 obtain⟨h1,h2,h3,h4,h5,h6,h7,h8,h9,kN,iG,rR,rS,tT,tU,nW,tV⟩:=hm
 obtain⟨z1,z2,z3,z4,z5,z6,z7,z8,z9,iW,nY,z12,nZ,og,oh,om,uU⟩:=vS
 have hs:iO.ok (if bW m.kind then m.sign else dx):=by split;exact tV;exact uU
 unfold aH
 simp only
 generalize (if bW m.kind=true then m.sign else dx)=s at hs ⊢
 repeat' refine ad2 (P:=bh.ok) ?_ ?_
 all_goals exact⟨h1,by first|exact h2|exact z2,by first|exact h3|exact z3,by first|exact h4|exact z4,by first|exact h5|exact z5,by first|exact h6|exact z6,by first|exact h7|exact z7,by first|exact h8|exact z8,by first|exact h9|exact z9,by first|exact kN|exact iW,by first|exact iG|exact nY,by first|exact rR|exact z12,by first|exact rS|exact nZ,by first|exact tT|exact og,by first|exact tU|exact oh,by first|exact nW|exact om,hs⟩
theorem Jp (x:aD):eC x=if(eX x==0)&&!cx x (aH x) then 100 else eX x:=by
 unfold eC
 by_cases h1:eX x=0<;>by_cases h2:x=aH x
 ·rw[if_neg (fun h=>h.2 h2),zz h2];simp
 ·rw[if_pos ⟨h1,h2⟩,Bi h2];simp[h1]
 ·rw[if_neg (fun h=>h1 h.1)];simp[h1]
 ·rw[if_neg (fun h=>h1 h.1)];simp[h1]
theorem zN [Wd] (m:aD) (hm:bh.ok m):aq prog 205 [.agg (aC m)] (.int .i64 (eC m)):=by
 refine ak 18 [] func205 ?_
 repeat' (conv=>arg 2;whnf);first|apply an<;>intro h|refine qq 1 (YO m hm) ?_|refine okF (acM m) ?_|refine okF (Qo m (aH m) hm (Qn hm)) ?_|refine cF ?_
 all_goals rw[Jp]
 all_goals simp_all [gu]
theorem GI [Wd] {Q:Exit->S->Prop} {f:FuncId} {ar bR:List D} {add bs:List UInt8} {hb:List AO} {c:D->List AO->T} (hF:tR f ar add) (hl:(bs++add).length+700000000<=aL) (hv:jF hb [1] [1] (oW bs)) (hc:aa bR (D.bO.rl [1] (.ptr 0 0::ar))) (hM:([1].all fun o=>(jT hb bR).elem o)=true) (k:(c (.aj []) (lK hb [1] (oW bs) (oW (bs++add)))).ok prog Q):(T.call f bR hb c).ok prog Q:=
 mA [1] (hF bs hl) (.mk' rfl hv) hc hM k
theorem YU [Wd] (m:aD) (hm:bh.ok m) {c:cX} (h7:m.changes[0]?=some c) (hk:(m.kind==7)=true) (h0:eC m=0) (cm:bP m=0) (hl:(aO m).length+800000000<=aL) (hb:¬262144<(aO m++cG c.sign).length):aq prog 157 [.agg (aC m)] (.aj [.list 1 ((aO m++cG c.sign).map af),.int .i64 0]):=by
 refine ak 39 [] func157 ?_
 repeat' (conv=>arg 2;whnf);first|apply an<;>intro h|refine okF (zN m hm) ?_|refine cV [1] (xj m hm cm (by omega)) ?_|refine eT (bU c) (by decide) (by simp[h7]) ?_|refine okF (iZ _) ?_|refine GI (yl c.sign) (by have:=FY c.sign;rw[List.length_append];omega) ⟨⟨rfl,rfl⟩,trivial⟩ (aa.refl _) rfl ?_|refine cV [1] (Jo (aO m++cG c.sign) hb) ?_|refine cg|(exfalso;simp_all;done)
theorem Xh [Wd] (m:aD) (hm:bh.ok m) {c:cX} (h7:m.changes[0]?=some c) (hk:(m.kind==7)=true) (h0:eC m=0) (cm:bP m=0) (hl:(aO m).length+800000000<=aL) (hb:262144<(aO m++cG c.sign).length):aq prog 157 [.agg (aC m)] (.aj [.nils,.int .i64 3]):=by
 refine ak 39 [] func157 ?_
 repeat' (conv=>arg 2;whnf);first|apply an<;>intro h|refine okF (zN m hm) ?_|refine cV [1] (xj m hm cm (by omega)) ?_|refine eT (bU c) (by decide) (by simp[h7]) ?_|refine okF (iZ _) ?_|refine GI (yl c.sign) (by have:=FY c.sign;rw[List.length_append];omega) ⟨⟨rfl,rfl⟩,trivial⟩ (aa.refl _) rfl ?_|refine cV [1] (IU (aO m++cG c.sign) hb) ?_|refine cg|(exfalso;simp_all;done)
theorem YV [Wd] (m:aD) (hm:bh.ok m) (hk:(m.kind==7)=false) (hs:bW m.kind=true) (h0:eC m=0) (cm:bP m=0) (hl:(aO m).length+800000000<=aL) (hb:¬262144<(aO m++cG m.sign).length):aq prog 157 [.agg (aC m)] (.aj [.list 1 ((aO m++cG m.sign).map af),.int .i64 0]):=by
 refine ak 39 [] func157 ?_
 repeat' (conv=>arg 2;whnf);first|apply an<;>intro h|refine okF (zN m hm) ?_|refine cV [1] (xj m hm cm (by omega)) ?_|refine okF (iZ _) ?_|refine GI (yl m.sign) (by have:=FY m.sign;rw[List.length_append];omega) ⟨⟨rfl,rfl⟩,trivial⟩ (aa.refl _) rfl ?_|refine cV [1] (Jo (aO m++cG m.sign) hb) ?_|refine cg|(exfalso;simp_all;done)
theorem Xi [Wd] (m:aD) (hm:bh.ok m) (hk:(m.kind==7)=false) (hs:bW m.kind=true) (h0:eC m=0) (cm:bP m=0) (hl:(aO m).length+800000000<=aL) (hb:262144<(aO m++cG m.sign).length):aq prog 157 [.agg (aC m)] (.aj [.nils,.int .i64 3]):=by
 refine ak 39 [] func157 ?_
 repeat' (conv=>arg 2;whnf);first|apply an<;>intro h|refine okF (zN m hm) ?_|refine cV [1] (xj m hm cm (by omega)) ?_|refine okF (iZ _) ?_|refine GI (yl m.sign) (by have:=FY m.sign;rw[List.length_append];omega) ⟨⟨rfl,rfl⟩,trivial⟩ (aa.refl _) rfl ?_|refine cV [1] (IU (aO m++cG m.sign) hb) ?_|refine cg|(exfalso;simp_all;done)
theorem YW [Wd] (m:aD) (hm:bh.ok m) (hk:(m.kind==7)=false) (hs:bW m.kind=false) (h0:eC m=0) (cm:bP m=0) (hl:(aO m).length+800000000<=aL) (hb:¬262144<(aO m).length):aq prog 157 [.agg (aC m)] (.aj [.list 1 ((aO m).map af),.int .i64 0]):=by
 refine ak 39 [] func157 ?_
 repeat' (conv=>arg 2;whnf);first|apply an<;>intro h|refine okF (zN m hm) ?_|refine cV [1] (xj m hm cm (by omega)) ?_|refine okF (iZ _) ?_|refine cV [1] (Jo (aO m) hb) ?_|refine cg|(exfalso;simp_all;done)
theorem Xj [Wd] (m:aD) (hm:bh.ok m) (hk:(m.kind==7)=false) (hs:bW m.kind=false) (h0:eC m=0) (cm:bP m=0) (hl:(aO m).length+800000000<=aL) (hb:262144<(aO m).length):aq prog 157 [.agg (aC m)] (.aj [.nils,.int .i64 3]):=by
 refine ak 39 [] func157 ?_
 repeat' (conv=>arg 2;whnf);first|apply an<;>intro h|refine okF (zN m hm) ?_|refine cV [1] (xj m hm cm (by omega)) ?_|refine okF (iZ _) ?_|refine cV [1] (IU (aO m) hb) ?_|refine cg|(exfalso;simp_all;done)
theorem E9 [Wd] (m:aD) (hm:bh.ok m) (h0:¬eC m=0):aq prog 157 [.agg (aC m)] (.aj [.nils,.int .i64 (eC m)]):=by
 refine ak 39 [] func157 ?_
 repeat' (conv=>arg 2;whnf);first|apply an<;>intro h|refine okF (zN m hm) ?_|refine cg|(exfalso;simp_all;done)
theorem vV [Wd]:aq prog 155 [] (.agg (bL cq)):=by
 refine ak 2 [] func155 ?_
 repeat' (conv=>arg 2;whnf);first|refine cg
theorem Vv [Wd] (m:aD) (hm:bh.ok {m with sign:=cq}) (hk:(m.kind==7)=false) (hs:bW m.kind=true) (h0:eC {m with sign:=cq}=0) (cm:bP {m with sign:=cq}=0) (hl:(aO {m with sign:=cq}).length+800000000<=aL) (hb:¬262144<(aO {m with sign:=cq}++cG cq).length):aq prog 109 [.agg (aC m)] (.aj [.list 1 ((aO {m with sign:=cq}).map af),.int .i64 0]):=by
 refine ak 51 [] func109 ?_
 repeat' (conv=>arg 2;whnf);first|apply an<;>intro h|refine okF vV ?_|refine okF (iZ _) ?_|refine okF (YV {m with sign:=cq} hm hk hs h0 cm hl hb) ?_|refine cV [1] (xj {m with sign:=cq} hm cm (by omega)) ?_|refine cg|(exfalso;simp_all;done)
theorem U4 [Wd] (m:aD) (hm:bh.ok {m with sign:=cq}) (hk:(m.kind==7)=false) (hs:bW m.kind=true) (h0:eC {m with sign:=cq}=0) (cm:bP {m with sign:=cq}=0) (hl:(aO {m with sign:=cq}).length+800000000<=aL) (hb:262144<(aO {m with sign:=cq}++cG cq).length):aq prog 109 [.agg (aC m)] (.aj [.nils,.int .i64 3]):=by
 refine ak 51 [] func109 ?_
 repeat' (conv=>arg 2;whnf);first|apply an<;>intro h|refine okF vV ?_|refine okF (iZ _) ?_|refine okF (Xi {m with sign:=cq} hm hk hs h0 cm hl hb) ?_|refine cg|(exfalso;simp_all;done)
theorem UO [Wd] (m:aD) (hm:bh.ok {m with sign:=cq}) (hk:(m.kind==7)=false) (hs:bW m.kind=true) (h0:¬eC {m with sign:=cq}=0):aq prog 109 [.agg (aC m)] (.aj [.nils,.int .i64 (eC {m with sign:=cq})]):=by
 refine ak 51 [] func109 ?_
 repeat' (conv=>arg 2;whnf);first|apply an<;>intro h|refine okF vV ?_|refine okF (iZ _) ?_|refine okF (E9 {m with sign:=cq} hm h0) ?_|refine cg|(exfalso;simp_all;done)
theorem Vw [Wd] (m:aD) (hm:bh.ok m) (hk:(m.kind==7)=false) (hs:bW m.kind=false) (h0:eC m=0) (cm:bP m=0) (hl:(aO m).length+800000000<=aL) (hb:¬262144<(aO m).length):aq prog 109 [.agg (aC m)] (.aj [.list 1 ((aO m).map af),.int .i64 0]):=by
 refine ak 51 [] func109 ?_
 repeat' (conv=>arg 2;whnf);first|apply an<;>intro h|refine okF vV ?_|refine okF (iZ _) ?_|refine okF (YW m hm hk hs h0 cm hl hb) ?_|refine cV [1] (xj m hm cm (by omega)) ?_|refine cg|(exfalso;simp_all;done)
theorem U5 [Wd] (m:aD) (hm:bh.ok m) (hk:(m.kind==7)=false) (hs:bW m.kind=false) (h0:eC m=0) (cm:bP m=0) (hl:(aO m).length+800000000<=aL) (hb:262144<(aO m).length):aq prog 109 [.agg (aC m)] (.aj [.nils,.int .i64 3]):=by
 refine ak 51 [] func109 ?_
 repeat' (conv=>arg 2;whnf);first|apply an<;>intro h|refine okF vV ?_|refine okF (iZ _) ?_|refine okF (Xj m hm hk hs h0 cm hl hb) ?_|refine cg|(exfalso;simp_all;done)
theorem UP [Wd] (m:aD) (hm:bh.ok m) (hk:(m.kind==7)=false) (hs:bW m.kind=false) (h0:¬eC m=0):aq prog 109 [.agg (aC m)] (.aj [.nils,.int .i64 (eC m)]):=by
 refine ak 51 [] func109 ?_
 repeat' (conv=>arg 2;whnf);first|apply an<;>intro h|refine okF vV ?_|refine okF (iZ _) ?_|refine okF (E9 m hm h0) ?_|refine cg|(exfalso;simp_all;done)
theorem Vx [Wd] (m:aD) (c:cX) (hm:bh.ok {m with changes:=[{c with sign:=cq}]}) (hk:(m.kind==7)=true) (hc:m.changes=[c]) (h0:eC {m with changes:=[{c with sign:=cq}]}=0) (cm:bP {m with changes:=[{c with sign:=cq}]}=0) (hl:(aO {m with changes:=[{c with sign:=cq}]}).length+800000000<=aL) (hb:¬262144<(aO {m with changes:=[{c with sign:=cq}]}++cG cq).length):aq prog 109 [.agg (aC m)] (.aj [.list 1 ((aO {m with changes:=[{c with sign:=cq}]}).map af),.int .i64 0]):=by
 refine ak 51 [] func109 ?_
 repeat' (conv=>arg 2;whnf);first|apply an<;>intro h|refine eT (bU c) (by decide) (by simp[hc]) ?_|refine okF vV ?_|refine okF (iZ _) ?_|refine okF (YU {m with changes:=[{c with sign:=cq}]} hm (c:={c with sign:=cq}) rfl hk h0 cm hl hb) ?_|refine cV [2] (xj {m with changes:=[{c with sign:=cq}]} hm cm (by omega)) ?_|refine cg|(exfalso;simp_all;done)
theorem U6 [Wd] (m:aD) (c:cX) (hm:bh.ok {m with changes:=[{c with sign:=cq}]}) (hk:(m.kind==7)=true) (hc:m.changes=[c]) (h0:eC {m with changes:=[{c with sign:=cq}]}=0) (cm:bP {m with changes:=[{c with sign:=cq}]}=0) (hl:(aO {m with changes:=[{c with sign:=cq}]}).length+800000000<=aL) (hb:262144<(aO {m with changes:=[{c with sign:=cq}]}++cG cq).length):aq prog 109 [.agg (aC m)] (.aj [.nils,.int .i64 3]):=by
 refine ak 51 [] func109 ?_
 repeat' (conv=>arg 2;whnf);first|apply an<;>intro h|refine eT (bU c) (by decide) (by simp[hc]) ?_|refine okF vV ?_|refine okF (iZ _) ?_|refine okF (Xh {m with changes:=[{c with sign:=cq}]} hm (c:={c with sign:=cq}) rfl hk h0 cm hl hb) ?_|refine cg|(exfalso;simp_all;done)
theorem UQ [Wd] (m:aD) (c:cX) (hm:bh.ok {m with changes:=[{c with sign:=cq}]}) (hk:(m.kind==7)=true) (hc:m.changes=[c]) (h0:¬eC {m with changes:=[{c with sign:=cq}]}=0):aq prog 109 [.agg (aC m)] (.aj [.nils,.int .i64 (eC {m with changes:=[{c with sign:=cq}]})]):=by
 refine ak 51 [] func109 ?_
 repeat' (conv=>arg 2;whnf);first|apply an<;>intro h|refine eT (bU c) (by decide) (by simp[hc]) ?_|refine okF vV ?_|refine okF (iZ _) ?_|refine okF (E9 {m with changes:=[{c with sign:=cq}]} hm h0) ?_|refine cg|(exfalso;simp_all;done)
theorem O9:iO.ok cq:=by
 simp[iO,dM,dP,dI,cq]
theorem ym (m:aD):bh.ok m=(dI.ok m.kind/\dI.ok m.src/\dI.ok m.view/\dI.ok m.seq/\dI.ok m.ah/\dI.ok m.bD/\dI.ok m.time/\mZ.ok m.result/\(dL fX).ok m.batch/\je.ok m.cert/\(dL fP).ok m.changes/\(dL jx).ok m.entries/\dY.ok m.state/\dS.ok m.av/\dI.ok m.offset/\jY.ok m.proof/\iO.ok m.sign):=rfl
theorem Ba (c:cX):fP.ok c=(dI.ok c.view/\dI.ok c.src/\je.ok c.cert/\(dL oC).ok c.cD/\iO.ok c.sign):=rfl
theorem JW {m:aD} (hm:bh.ok m):bh.ok {m with sign:=cq}:=by
 rw[ym] at hm ⊢
 obtain⟨h1,h2,h3,h4,h5,h6,h7,h8,h9,kN,iG,rR,rS,tT,tU,nW,tV⟩:=hm
 exact⟨h1,h2,h3,h4,h5,h6,h7,h8,h9,kN,iG,rR,rS,tT,tU,nW,O9⟩
theorem Kp {m:aD} (hm:bh.ok m) {c:cX} (hc:m.changes=[c]):bh.ok {m with changes:=[{c with sign:=cq}]}:=by
 rw[ym] at hm ⊢
 obtain⟨h1,h2,h3,h4,h5,h6,h7,h8,h9,kN,iG,rR,rS,tT,tU,nW,tV⟩:=hm
 have h:=iG.2 c (by rw[hc];simp)
 rw[Ba] at h
 obtain⟨c1,c2,c3,c4,c5⟩:=h
 refine⟨h1,h2,h3,h4,h5,h6,h7,h8,h9,kN,⟨by simp,fun x hx=>?_⟩,rR,rS,tT,tU,nW,tV⟩
 simp only[List.mem_singleton] at hx
 subst hx
 rw[Ba]
 exact⟨c1,c2,c3,c4,O9⟩
theorem U7 [Wd] (m:aD) (hm:bh.ok m) (hk:(m.kind==7)=true) (hc:((m.changes.length:Int)==1)=false) (hs:bW m.kind=false) (h0:¬eC m=0):aq prog 109 [.agg (aC m)] (.aj [.nils,.int .i64 (eC m)]):=by
 refine ak 51 [] func109 ?_
 repeat' (conv=>arg 2;whnf);first|apply an<;>intro h|refine okF vV ?_|refine okF (iZ _) ?_|refine okF (E9 m hm h0) ?_|refine cg|(exfalso;simp_all;done)
noncomputable def uR (m:aD):D:=if ig (eu m)=0 then .aj [.list 1 ((aO m).map af),.int .i64 0] else .aj [.nils,.int .i64 (ig (eu m))]
theorem IA [Wd] (m:aD) (hm:bh.ok m):aq prog 109 [.agg (aC m)] (uR m):=by
 have hL:eC (eu m)=0->bP (eu m)=0/\(aO m).length+800000000<=aL:=fun h=>by
  have hk:=nG (oA h)
  refine⟨hk,?_⟩
  have:=so hk
  rw[wM] at this
  unfold aL;omega
 have hU:=wM m
 unfold uR ig
 cases h7:m.kind==7 with
 |false=>
  have k7:¬m.kind=7:=by simpa using h7
  cases hs:bW m.kind with
  |true=>
   have ew:eu m={m with sign:=cq}:=by unfold eu;rw[if_neg (fun h=>k7 h.1),if_pos hs]
   have ef:kg {m with sign:=cq}=aO {m with sign:=cq}++cG cq:=by
    unfold kg
    simp only
    rw[if_neg k7,if_pos hs]
   have hw:=JW hm
   rw[ew] at hL hU
   rw[ew,ef]
   by_cases h0:eC {m with sign:=cq}=0
   ·obtain⟨cm,hl⟩:=hL h0
    rw[<-hU] at hl
    by_cases hb:262144<(aO {m with sign:=cq}++cG cq).length
    ·rw[if_pos h0,if_pos hb,if_neg (by decide)]
     exact U4 m hw h7 hs h0 cm hl hb
    ·rw[if_pos h0,if_neg hb,if_pos rfl,<-hU]
     exact Vv m hw h7 hs h0 cm hl hb
   ·rw[if_neg h0,if_neg h0]
    exact UO m hw h7 hs h0
  |false=>
   have ew:eu m=m:=by unfold eu;rw[if_neg (fun h=>k7 h.1),if_neg (by rw[hs];simp)]
   have ef:kg m=aO m:=by
    unfold kg
    rw[if_neg k7,if_neg (by rw[hs];simp),List.append_nil]
   rw[ew] at hL
   rw[ew,ef]
   by_cases h0:eC m=0
   ·obtain⟨cm,hl⟩:=hL h0
    by_cases hb:262144<(aO m).length
    ·rw[if_pos h0,if_pos hb,if_neg (by decide)]
     exact U5 m hm h7 hs h0 cm hl hb
    ·rw[if_pos h0,if_neg hb,if_pos rfl]
     exact Vw m hm h7 hs h0 cm hl hb
   ·rw[if_neg h0,if_neg h0]
    exact UP m hm h7 hs h0
 |true=>
  have k7:m.kind=7:=by simpa using h7
  have hs:bW m.kind=false:=by rw[k7];rfl
  by_cases hc:m.changes.length=1
  ·obtain⟨c,hc⟩:=sM hc
   have ew:eu m={m with changes:=[{c with sign:=cq}]}:=by unfold eu;rw[if_pos ⟨k7,by rw[hc];rfl⟩,hc];rfl
   have ef:kg {m with changes:=[{c with sign:=cq}]}=aO {m with changes:=[{c with sign:=cq}]}++cG cq:=by
    unfold kg
    simp only
    rw[if_pos k7]
   have hw:=Kp hm hc
   rw[ew] at hL hU
   rw[ew,ef]
   by_cases h0:eC {m with changes:=[{c with sign:=cq}]}=0
   ·obtain⟨cm,hl⟩:=hL h0
    rw[<-hU] at hl
    by_cases hb:262144<(aO {m with changes:=[{c with sign:=cq}]}++cG cq).length
    ·rw[if_pos h0,if_pos hb,if_neg (by decide)]
     exact U6 m c hw h7 hc h0 cm hl hb
    ·rw[if_pos h0,if_neg hb,if_pos rfl,<-hU]
     exact Vx m c hw h7 hc h0 cm hl hb
   ·rw[if_neg h0,if_neg h0]
    exact UQ m c hw h7 hc h0
  ·have ew:eu m=m:=by unfold eu;rw[if_neg (fun h=>hc h.2),if_neg (by rw[hs];simp)]
   have h0:¬eC m=0:=fun h=>by
    have hk:=nG (oA h)
    unfold bP at hk
    simp only[k7] at hk
    have:=uy (bQ.1 hk).1
    omega
   rw[ew,if_neg h0,if_neg h0]
   exact U7 m hm h7 (by
    rw[beq_eq_false_iff_ne]
    omega) hs h0
end Go.Proofs.YtafomdobfmmleaaGreatDoor
