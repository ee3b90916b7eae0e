/- Lemmas and contracts, part 20. -/
import Derived.Test.YtafomdobfmmleaaGreatDoorZp19
import Derived.Deep.QuietTactic
import Derived.BigQuiet
import Derived.Deep.Light
import Derived.Deep.RegionLaw
import Derived.Deep.RegionHeld3
namespace Go.Proofs.YtafomdobfmmleaaGreatDoor
set_option linter.unusedVariables false
open Go.RowKit
open Go.Proofs.Tryz
set_option maxRecDepth 20000
set_option maxHeartbeats 20000000
section
open Go.RowKit Go.Deep
def ez (l:List UInt8) (i:Nat):Nat:=(l.getD i 0).toNat
def r1 (l:List UInt8):Nat×Nat:=qH l.length (ez l 0) (ez l 1) (ez l 2) (ez l 3)
theorem GH (l:List UInt8) (i:Nat):ez l i<256:=UInt8.toNat_lt _
theorem KS {l:List UInt8} {i:Nat} (h:i<l.length):∃x,l[i]?=some x/\x.toNat=ez l i:=⟨_,List.getElem?_eq_getElem h,by simp[ez,h]⟩
theorem YK (s:List UInt8) (pos:Nat) (h:pos<s.length):Utf8.decode (aA s) pos=if(r1 (s.drop pos)).2=0 then(65533,1) else r1 (s.drop pos):=by
 have hg:∀i,((aA s).get! (pos+i)).toNat=ez (s.drop pos) i:=by
  intro i
  simp only[ez,aA,ByteArray.get!,List.getD,List.getElem?_drop]
  rw[getElem!_def]
  simp only[List.getElem?_toArray]
  cases s[pos+i]?<;>rfl
 rw[Lib.decode_at,Bo]
 have h0:=hg 0
 rw[Nat.add_zero] at h0
 rw[h0,hg 1,hg 2,hg 3,Vl _ _ _ _ _ (by omega) (GH _ _) (GH _ _) (GH _ _) (GH _ _)]
 unfold r1
 rw[List.length_drop]
def tQ (a:Nat) (cb:Nat->Nat):Nat->Nat
 |0=>a
 |q+1=>if q=0 then a else tQ a cb q*64+cb q%64
theorem Aj (a:Nat) (cb:Nat->Nat):tQ a cb 1=a:=by simp[tQ]
theorem Ak (a:Nat) (cb:Nat->Nat) (q:Nat) (h:1<=q):tQ a cb (q+1)=tQ a cb q*64+cb q%64:=by
 rw[tQ,if_neg (by omega)]
theorem adM (a:Nat) (cb:Nat->Nat) (q n:Nat) (hn:n<=4) (ha:(n=2/\a<32)\/(n=3/\a<16)\/(n=4/\a<8)) (h1:1<=q) (h:q<n):tQ a cb q<=32767:=by
 have hq:q=1\/q=2\/q=3:=by omega
 rcases hq with rfl|rfl|rfl
 ·rw[Aj];omega
 ·rw[Ak _ _ 1 (by omega),Aj];omega
 ·rw[Ak _ _ 2 (by omega),Ak _ _ 1 (by omega),Aj];omega
def pW (n b:Nat):Nat:=if n=2 then b%32 else if n=3 then b%16 else b%8
theorem acw {n:Nat} (b:Nat) (hn:2<=n/\n<=4):(n=2/\pW n b<32)\/(n=3/\pW n b<16)\/(n=4/\pW n b<8):=by
 have:n=2\/n=3\/n=4:=by omega
 rcases this with rfl|rfl|rfl
 ·exact .inl ⟨rfl,by simp[pW];omega⟩
 ·exact .inr (.inl ⟨rfl,by simp[pW];omega⟩)
 ·exact .inr (.inr ⟨rfl,by simp[pW];omega⟩)
theorem acv {l:List UInt8} (h:eW (ez l 0)=0\/l.length<eW (ez l 0)):r1 l=(0,0):=by unfold r1 qH;rw[if_pos h]
theorem adL {l:List UInt8} (h:eW (ez l 0)=1) (hl:1<=l.length):r1 l=(ez l 0,1):=by unfold r1 qH;rw[if_neg (by omega),if_pos h]
theorem adO {l:List UInt8} {n:Nat} (h:eW (ez l 0)=n) (hn:2<=n/\n<=4) (hl:n<=l.length) (hc:∀j,1<=j->j<n->qP (ez l j)=true):r1 l=wA n (tQ (pW n (ez l 0)) (ez l) n):=by
 unfold r1 qH
 rw[h,if_neg (by omega),if_neg (by omega)]
 have:n=2\/n=3\/n=4:=by omega
 rcases this with rfl|rfl|rfl
 ·rw[if_pos rfl,hc 1 (by omega) (by omega)]
  simp[Ak,Aj,pW]
 ·rw[if_neg (by omega),if_pos rfl,hc 1 (by omega) (by omega),hc 2 (by omega) (by omega)]
  simp[Ak,Aj,pW]
 ·rw[if_neg (by omega),if_neg (by omega),hc 1 (by omega) (by omega),hc 2 (by omega) (by omega),hc 3 (by omega) (by omega)]
  simp[Ak,Aj,pW]
theorem adN {l:List UInt8} {n q:Nat} (h:eW (ez l 0)=n) (hn:2<=n/\n<=4) (hl:n<=l.length) (hq:1<=q/\q<n) (hc:qP (ez l q)=false):r1 l=(0,0):=by
 unfold r1 qH
 rw[h,if_neg (by omega),if_neg (by omega)]
 have:n=2\/n=3\/n=4:=by omega
 have hq':q=1\/q=2\/q=3:=by omega
 rcases this with rfl|rfl|rfl<;>rcases hq' with rfl|rfl|rfl<;>first|omega|simp[hc]
theorem size_le (k:Nat):eW k<=4:=by unfold eW;(repeat' split)<;>omega
theorem aaq (y:Nat) (h:y<256):bits BinOp.and IntKind.i64 (y:Int) 31=((y%32:Nat):Int)/\bits BinOp.and IntKind.i64 (y:Int) 15=((y%16:Nat):Int)/\bits BinOp.and IntKind.i64 (y:Int) 7=((y%8:Nat):Int):=by
 have h':∀k:Fin 256,bits BinOp.and IntKind.i64 ((k.val:Int)) 31=((k.val%32:Nat):Int)/\bits BinOp.and IntKind.i64 ((k.val:Int)) 15=((k.val%16:Nat):Int)/\bits BinOp.and IntKind.i64 ((k.val:Int)) 7=((k.val%8:Nat):Int):=by decide+kernel
 exact h' ⟨y,h⟩
end
section
open Go.RowKit Go.Deep
theorem aeR (l:List UInt8):(r1 l).2<=l.length:=by
 unfold r1 qH wA
 have:=size_le (ez l 0)
 repeat' split
 all_goals simp only
 all_goals omega
theorem On (s:ByteArray):∀(f pos k m:Nat),jk s f pos k=some m->k<=m
 |0,_,k,m,h=>by simp only[jk,Option.some.injEq] at h;omega
 |f+1,pos,k,m,h=>by
  simp only[jk] at h
  split at h
  ·split at h
   ·cases h
   ·have:=On s f _ _ _ h;omega
  ·simp only[Option.some.injEq] at h;omega
def wC (o:Option Nat):Nat:=match o with|none=>0|some n=>if 16<n then 0 else n
theorem YL (s:ByteArray) (f pos k:Nat) (h:16<k):wC (jk s f pos k)=0:=by
 unfold wC
 split
 ·rfl
 ·rename_i m hm
  have:=On s f pos k m hm
  rw[if_pos (by omega)]
def zI (v n k:Nat):Prop:=n=0\/v<33\/(127<=v/\v<160)\/v=47\/v=65533\/16<=k
theorem W0 (s:List UInt8) (f pos k:Nat) (h:pos<s.length):
 (zI (r1 (s.drop pos)).1 (r1 (s.drop pos)).2 k->wC (jk (aA s) (f+1) pos k)=0)/\
 (¬zI (r1 (s.drop pos)).1 (r1 (s.drop pos)).2 k->jk (aA s) (f+1) pos k=jk (aA s) f (pos+(r1 (s.drop pos)).2) (k+1)):=by
 have hd:=YK s pos h
 have hs:jk (aA s) (f+1) pos k=if uO (Utf8.decode (aA s) pos).1 then none else jk (aA s) f (pos+(Utf8.decode (aA s) pos).2) (k+1):=by simp[jk,Bo,h]
 rw[hs,hd]
 generalize r1 (s.drop pos)=r
 obtain⟨v,n⟩:=r
 simp only
 constructor
 ·intro hb
  by_cases h0:n=0
  ·simp[h0,uO,wC]
  ·rw[if_neg h0]
   by_cases hv:uO v=true
   ·simp[hv,wC]
   ·simp only[hv]
    have hk:16<=k:=by
     unfold zI at hb
     simp only[uO,Bool.or_eq_true,Bool.and_eq_true,decide_eq_true_eq] at hv
     omega
    exact YL _ _ _ _ (by omega)
 ·intro hb
  unfold zI at hb
  have h0:n≠0:=by omega
  have hv:uO v=false:=by
   simp only[uO,Bool.or_eq_false_iff,Bool.and_eq_false_iff,decide_eq_false_iff_not]
   omega
  rw[if_neg h0,hv]
  rfl
end
theorem xI [Wd] {P:Program} {Q:Exit->S->Prop} {b:Bool} {t f:T} (hb:b=true) (h:t.ok P Q):(bT b t f).ok P Q:=by subst hb;exact h
theorem xJ [Wd] {P:Program} {Q:Exit->S->Prop} {b:Bool} {t f:T} (hb:b=false) (h:f.ok P Q):(bT b t f).ok P Q:=by subst hb;exact h
theorem Re [Wd] (c:UInt8):aq prog 141 [.int .u8 (c.toNat:Int)] (.int .i64 (eW c.toNat:Int)):=by
 refine ak 27 [] func141 ?_
 repeat' (conv=>arg 2;whnf);first|apply an<;>intro h|refine cF ?_
 all_goals
  simp at*
  unfold eW
  repeat' split
  all_goals omega
theorem GG (c:UInt8):IntKind.i64.wrap (c.toNat:Int)=(c.toNat:Int):=by
 have:=c.toNat_lt
 exact cj (by omega) (by omega)
theorem Yd [Wd] (l:List UInt8) (h0:1<=l.length) (hl:l.length<=4194304) (hn:eW (ez l 0)=0\/l.length<eW (ez l 0)\/eW (ez l 0)=1):aq prog 101 [.str l] (.aj [.int .i64 ((r1 l).1:Int),.int .i64 ((r1 l).2:Int)]):=by
 obtain⟨x0,AW,AZ⟩:=KS (show 0<l.length by omega)
 have hS:=Re x0
 rw[show eW x0.toNat=eW (ez l 0) by rw[AZ]] at hS
 have hr:(eW (ez l 0)=0\/l.length<eW (ez l 0))\/(¬(eW (ez l 0)=0\/l.length<eW (ez l 0))/\eW (ez l 0)=1):=by omega
 have dh:l[(0:Int).toNat]?=some x0:=AW
 refine ak 76 [] func101 ?_
 rcases hr with h|⟨hz,h⟩
 ·rw[acv h]
  have hb:(decide ((eW (ez l 0):Int)=0)=true)\/(decide ((eW (ez l 0):Int)=0)=false/\decide ((eW (ez l 0):Int)>(l.length:Int))=true):=by
   by_cases k:eW (ez l 0)=0
   ·exact .inl (by simp[k])
   ·exact .inr ⟨by simp[k],by simp;omega⟩
  generalize eW (ez l 0)=n at*
  repeat' (conv=>arg 2;whnf);first|refine bw (GG _) ?_|refine dK x0 (Int.le_refl _) dh ?_|refine okF hS ?_|(refine an (fun h1=>?_) (fun h1=>?_))|exact cg|(exfalso;simp at h1 hb;omega)|(exfalso;simp_all;omega)
 ·rw[adL h h0]
  rw[h] at hS
  have h2:¬(1:Int)>(l.length:Int):=by omega
  have e:((x0.toNat:Nat):Int)=(ez l 0:Int):=by rw[AZ]
  repeat' (conv=>arg 2;whnf);first|refine bw (GG _) ?_|refine dK x0 (Int.le_refl _) dh ?_|refine okF hS ?_|refine xJ (decide_eq_false h2) ?_|(rw[<-e];exact cg)
set_option maxHeartbeats 20000000 in
theorem Ye [Wd] (l:List UInt8) (n:Nat) (hn:eW (ez l 0)=n) (h3:n=2\/n=3\/n=4) (h0:n<=l.length) (hl:l.length<=4194304):aq prog 101 [.str l] (.aj [.int .i64 ((r1 l).1:Int),.int .i64 ((r1 l).2:Int)]):=by
 obtain⟨x0,AW,AZ⟩:=KS (show 0<l.length by omega)
 have hS:=Re x0
 rw[show eW x0.toNat=n by rw[AZ];exact hn] at hS
 have dh:l[(0:Int).toNat]?=some x0:=AW
 have h2:¬(n:Int)>(l.length:Int):=by omega
 obtain⟨a1,a2,a3⟩:=aaq x0.toNat x0.toNat_lt
 have h4:2<=n/\n<=4:=by omega
 obtain⟨N,hN⟩:∃N,N=n:=⟨n,rfl⟩
 rw[<-hN] at hn h0 h4
 obtain⟨L,hL⟩:∃L,BM N=L:=⟨_,rfl⟩
 have Na:=hL
 refine ak 76 [] func101 ?_
 rcases h3 with rfl|rfl|rfl
 all_goals
  rw[hN] at Na
  simp only[BM] at Na
  repeat' (conv=>arg 2;whnf);first|refine bw (GG _) ?_|refine bw rfl ?_|refine dK x0 (Int.le_refl _) dh ?_|refine okF hS ?_|refine xJ (decide_eq_false h2) ?_|refine aT (by decide) ?_
  conv=>arg 2;whnf
  refine bE (α:=Nat) (fun q=>⟨[(0,.str l),(4,.int .i64 (N:Int)),(5,.int .i64 (tQ (pW N (ez l 0)) (ez l) q:Int)),(6,.int .i64 (q:Int))],[]⟩) (fun q=>(1<=q/\q<=N)/\∀j,1<=j->j<q->qP (ez l j)=true) (fun q=>N-q) 1 ⟨⟨Nat.le_refl _,by omega⟩,fun j h1 h2=>by omega⟩ (Sv.mk' [] rfl trivial ⟨rfl,by rw[hN];rfl,(by rw[hN,Aj];first|(exact congrArg (D.int .i64) (a1.trans (by rw[AZ];rfl)))|(exact congrArg (D.int .i64) (a2.trans (by rw[AZ];rfl)))|(exact congrArg (D.int .i64) (a3.trans (by rw[AZ];rfl)))),rfl,trivial⟩) ?_
  rintro q ⟨⟨AK,Ei⟩,hc⟩
  by_cases hlt:q<N
  ·obtain⟨c,hx,Nb⟩:=KS (show q<l.length by omega)
   have TU:l[((q:Int)).toNat]?=some c:=hx
   have hb:=adM (pW N (ez l 0)) (ez l) q N h4.2 (acw _ h4) AK hlt
   have fH:=c.toNat_lt
   have Hh:(q:Int)<(N:Int):=by omega
   have es:((tQ (pW N (ez l 0)) (ez l) (q+1):Nat):Int)=(tQ (pW N (ez l 0)) (ez l) q:Int)*64+((c.toNat:Int)).tmod 64:=by
    rw[Ak _ _ q AK,<-Nb,Int.tmod_eq_emod_of_nonneg (by omega)]
    omega
   have hm:0<=((c.toNat:Int)).tmod 64/\((c.toNat:Int)).tmod 64<64:=by
    rw[Int.tmod_eq_emod_of_nonneg (by omega)]
    omega
   by_cases hk:qP (ez l q)=true
   ·have dc:128<=c.toNat/\c.toNat<192:=by rw[Nb];simpa[qP] using hk
    have g1:¬((c.toNat:Int)<128):=by omega
    have g2:¬((c.toNat:Int)>=192):=by omega
    repeat' (conv=>arg 2;whnf);first|refine bw (GG _) ?_|refine bZ (by(try dsimp only);omega) ?_|refine dK c (Int.natCast_nonneg _) TU ?_|refine xI (decide_eq_true Hh) ?_|refine aT (by decide) ?_|(refine xJ ?_ ?_;focus (simp[g1,g2];done))|(refine xI ?_ ?_;focus (simp[g1];done))|exact aZ (q+1) (Sv.mk' [] rfl trivial ⟨rfl,rfl,(congrArg (D.int .i64) es.symm),rfl,trivial⟩) ⟨⟨by omega,by omega⟩,fun j h1 h2=>if e:j=q then e▸hk else hc j h1 (by omega)⟩ (by show N-(q+1)<N-q;omega)
   ·rw[adN hn h4 h0 ⟨AK,hlt⟩ (by simpa using hk)]
    have dc:c.toNat<128\/(¬c.toNat<128/\192<=c.toNat):=by
     rw[Nb]
     simp[qP] at hk
     omega
    rcases dc with h|h
    all_goals
     repeat' (conv=>arg 2;whnf);first|refine dK c (Int.natCast_nonneg _) TU ?_|refine xI (decide_eq_true Hh) ?_|refine eG ?_|exact cg|(refine xJ ?_ ?_;focus (simp;omega))|(refine xI ?_ ?_;focus (simp;omega))
  ·obtain rfl:q=N:=by omega
   have Hh:¬((q:Int))<(q:Int):=by omega
   rw[adO hn h4 h0 hc]
   conv=>arg 2;whnf
   refine xJ (decide_eq_false Hh) ?_
   conv=>arg 2;whnf
   refine bq ?_
   conv=>arg 2;whnf
   refine eT _ (Int.natCast_nonneg _) (by rw[hN];rfl) ?_
   generalize hv:tQ (pW q (ez l 0)) (ez l) q=v
   generalize hV:(v:Int)=V
   have hf:v<L\/(¬v<L/\1114111<v)\/(¬v<L/\¬1114111<v/\55296<=v/\v<57344)\/(¬v<L/\¬1114111<v/\¬55296<=v)\/(¬v<L/\¬1114111<v/\55296<=v/\¬v<57344):=by omega
   simp at Na
   rcases hf with f1|⟨f1,f2⟩|⟨f1,f2,f3,f4⟩|⟨f1,f2,f3⟩|⟨f1,f2,f3,f4⟩
   all_goals try (exfalso;omega)
   all_goals
    first|rw[show wA q v=(0,0) from if_pos (by rw[hL];omega)]|rw[show wA q v=(v,q) from if_neg (by rw[hL];omega)]
    repeat' (conv=>arg 2;whnf);first|(refine xJ ?_ ?_;focus (simp;omega))|(refine xI ?_ ?_;focus (simp;omega))|(rw[<-hV];exact cg)
theorem aar [Wd] (l:List UInt8) (h0:1<=l.length) (hl:l.length<=4194304):aq prog 101 [.str l] (.aj [.int .i64 ((r1 l).1:Int),.int .i64 ((r1 l).2:Int)]):=by
 have hs:=size_le (ez l 0)
 by_cases h1:eW (ez l 0)=0\/l.length<eW (ez l 0)\/eW (ez l 0)=1
 ·exact Yd l h0 hl h1
 ·have h2:eW (ez l 0)=2\/eW (ez l 0)=3\/eW (ez l 0)=4:=by omega
  exact Ye l _ rfl h2 (by omega) hl
theorem aas [Wd] (s:List UInt8) (hs:s.length<=4194304):aq prog 62 [.str s] (.int .i64 (uF s:Int)):=by
 have HE:wC (jk (aA s) (s.length+1) 0 0)=uF s:=rfl
 refine ak 46 [] func62 ?_
 conv=>arg 2;whnf
 refine bE (α:=Nat×Nat×Nat) (fun a=>⟨[(0,.str (s.drop a.1)),(3,.int .i64 (a.2.1:Int))],[]⟩) (fun a=>a.1<=s.length/\a.2.1<=16/\s.length+1<=a.1+a.2.2/\wC (jk (aA s) a.2.2 a.1 a.2.1)=uF s) (fun a=>s.length-a.1) (0,0,s.length+1) ⟨Nat.zero_le _,Nat.zero_le _,by show _<=0+(s.length+1);omega,HE⟩ (Sv.aK []) ?_
 rintro⟨p,k,f⟩ ⟨hp,hk,hf,hz⟩
 replace hp:p<=s.length:=hp
 replace hk:k<=16:=hk
 replace hf:s.length+1<=p+f:=hf
 replace hz:wC (jk (aA s) f p k)=uF s:=hz
 rw[<-hz]
 by_cases hlt:p<s.length
 ·have hC:=aar (s.drop p) (by rw[List.length_drop];omega) (by rw[List.length_drop];omega)
  obtain⟨f,rfl⟩:∃g,f=g+1:=⟨f-1,by omega⟩
  obtain⟨g1,g2⟩:=W0 s f p k hlt
  have hle:=aeR (s.drop p)
  rw[List.length_drop] at hle
  generalize r1 (s.drop p)=r at*
  obtain⟨v,n⟩:=r
  simp only at g1 g2 hle
  have Cv:((s.drop p).length:Int)>0:=by rw[List.length_drop];omega
  by_cases hb:zI v n k
  ·rw[g1 hb]
   have cw:n=0\/(¬n=0/\v<33)\/(¬n=0/\¬v<33/\127<=v/\v<160)\/(¬n=0/\¬v<33/\¬127<=v/\v=47)\/(¬n=0/\¬v<33/\127<=v/\¬v<160/\v=65533)\/(¬n=0/\¬v<33/\¬127<=v/\¬v=47/\16<=k)\/(¬n=0/\¬v<33/\127<=v/\¬v<160/\¬v=65533/\16<=k):=by
    unfold zI at hb
    omega
   clear g1 g2 hb hz
   rcases cw with h|h|h|h|h|h|h
   all_goals
    repeat' (conv=>arg 2;whnf);first|refine okF hC ?_|refine eG ?_|exact cg|refine xI (decide_eq_true Cv) ?_|(refine xJ ?_ ?_;focus (simp;omega))|(refine xI ?_ ?_;focus (simp;omega))
  ·have hn:¬n=0/\¬v<33/\(¬127<=v\/¬v<160)/\¬v=47/\¬v=65533/\¬16<=k:=by
    unfold zI at hb
    omega
   obtain⟨e1,e2,e3,e4,e5,e6⟩:=hn
   rw[g2 hb]
   clear g1 g2 hz
   have vu:List.take (((s.drop p).length:Int).toNat-((n:Int)).toNat) (List.drop ((n:Int)).toNat (s.drop p))=s.drop (p+n):=by
    rw[Int.toNat_natCast,Int.toNat_natCast,List.drop_drop,List.take_of_length_le (by simp only[List.length_drop];omega)]
   have L5:¬127<=v\/(127<=v/\¬v<160):=by omega
   rcases L5 with h|h
   all_goals
    repeat' (conv=>arg 2;whnf);first|refine okF hC ?_|refine bZ (by(try dsimp only);omega) ?_|refine xI (decide_eq_true Cv) ?_|exact aZ (p+n,k+1,f) (Sv.mk' [] rfl trivial ⟨congrArg D.str vu,rfl,trivial⟩) ⟨by show p+n<=_;omega,by show k+1<=16;omega,by show _<=p+n+f;omega,rfl⟩ (by show s.length-(p+n)<s.length-p;omega)|(refine xJ ?_ ?_;focus (simp;omega))|(refine xI ?_ ?_;focus (simp;omega))|refine aT (by(try dsimp only);simp;omega) ?_
 ·have Cv:¬((s.drop p).length:Int)>0:=by rw[List.length_drop];omega
  have he:wC (jk (aA s) f p k)=k:=by
   obtain rfl:p=s.length:=by omega
   obtain⟨f,rfl⟩:∃g,f=g+1:=⟨f-1,by omega⟩
   simp[jk,Bo,wC]
   omega
  rw[he]
  repeat' (conv=>arg 2;whnf);first|refine xJ (decide_eq_false Cv) ?_|refine bq ?_|exact cg
theorem FZ [Wd] (s:List UInt8) (hs:s.length<=4194304):aq prog 30 [.str s] (.bool (jg s)):=by
 have h:=aas s hs
 refine ak 6 [] func30 ?_
 repeat' (conv=>arg 2;whnf);first|refine okF h ?_|(refine cL ?_;unfold jg;simp;done)
theorem mI [Wd] (bs:List UInt8) (n:Int) (hl:bs.length+100<=aL):aq prog 73 [.list 1 (bs.map af),.int .u64 (IntKind.u64.wrap n)] (.list 1 ((bs++aJ n).map af)):=
 Dj (by have:=qA (show(n%18446744073709551616).toNat<18446744073709551616 by omega);unfold aJ;rw[List.length_append];omega) (by kernel_rfl) (fun w I vs hv=>by
  obtain⟨v,u,rfl,h1,h2⟩:=hv.Dk
  cases h2
  rw[<-Qq]
  have hr:=Ot n
  have h:=Pd (h1.bs (by omega)) (IntKind.u64.wrap n).toNat (by omega) (by omega)
  rw[show(((IntKind.u64.wrap n).toNat:Nat):Int)=IntKind.u64.wrap n from by omega] at h
  exact h) rfl
theorem uq [Wd] (bs xs:List UInt8) (hx:xs.length<=4194304) (hl:(bs++xs).length+100<=aL):aq prog 114 [.list 1 (bs.map af),.list 1 (xs.map af)] (.list 1 ((bs++cB xs).map af)):=
 Dj (by have:=qA (show xs.length<18446744073709551616 by omega);unfold cB;simp at hl ⊢;omega) (by kernel_rfl) (fun w I vs hv=>by
  obtain⟨v,u,rfl,h1,h2⟩:=hv.Dk
  rw[<-Rq]
  exact Wh (h1.bs (by simp at hl;omega)) (h2.bs (by simp at hl;omega)) (by omega)) rfl
theorem lu [Wd] (s:bJ):aq prog 219 [.agg (bL s)] (.int .i64 (dw s)):=by
 refine ak 21 [] func219 ?_
 repeat' (conv=>arg 2;whnf);first|apply an<;>intro h|refine cF ?_
 all_goals simp_all [dw]
 all_goals omega
theorem Rr [Wd] (n:Int):aq prog 313 [.int .i64 n] (.int .i64 (if n<0\/8<=n then-1 else 13+n)):=by
 refine ak 11 [] func313 ?_
 repeat' (conv=>arg 2;whnf);first|apply an<;>intro h|refine bZ (by simp at*;omega) ?_|refine cF ?_
 all_goals simp_all
 all_goals omega
theorem ID [Wd]:aq prog 113 [.int .i64 1] (.aj [.bool true,.bool false,.bool false,.bool false]):=by
 refine ak 15 [] func113 ?_
 repeat' (conv=>arg 2;whnf);first|refine cg
theorem IE [Wd]:aq prog 113 [.int .i64 2] (.aj [.bool true,.bool false,.bool false,.bool true]):=by
 refine ak 15 [] func113 ?_
 repeat' (conv=>arg 2;whnf);first|refine cg
theorem IF [Wd]:aq prog 113 [.int .i64 3] (.aj [.bool true,.bool true,.bool true,.bool false]):=by
 refine ak 15 [] func113 ?_
 repeat' (conv=>arg 2;whnf);first|refine cg
theorem IG [Wd]:aq prog 113 [.int .i64 4] (.aj [.bool true,.bool false,.bool true,.bool false]):=by
 refine ak 15 [] func113 ?_
 repeat' (conv=>arg 2;whnf);first|refine cg
theorem E0 [Wd] (k:Int) (h1:¬k=1) (h2:¬k=2) (h3:¬k=3) (h4:¬k=4):aq prog 113 [.int .i64 k] (.aj [.bool false,.bool false,.bool false,.bool false]):=by
 refine ak 15 [] func113 ?_
 repeat' (conv=>arg 2;whnf);first|apply an<;>intro h|refine cg|(exfalso;simp_all;done)
theorem Pe {o:bt} {q:Nat} (h:(o.records.take q).any (fun r=>decide (64<r.length))=false) (hq:¬q<o.records.length):th o=false:=by
 rw[List.take_of_length_le (by omega)] at h
 exact h
theorem aba {P:Program} [Wd] {Q:Exit->S->Prop} {α:Type} {m:Nat} {s:S} {body:S->T} {c:Exit->S->T} (f:List AO->α->S) (J:α->Prop) (μ:α->Nat) (a0:α) (h0:J a0) (hv:Sv m s (f s.h a0))
 (hb:∀a,J a->(body (f s.h a)).ok P fun e s'=>match e with
   |.normal=>∃a',Sv m s' (f s.h a')/\J a'/\μ a'<μ a
   |e=>(c e s').ok P Q):(T.loop m s body c).ok P Q:=bE (f s.h) J μ a0 h0 hv hb
theorem VC [Wd] (o:bt) (ho:fD.ok o) (k:Int) (hk:k=0\/k=1\/k=2\/k=3\/k=4):aq prog 68 [.agg (cC {o with kind:=k})] (.int .i64 (bS {o with kind:=k})):=by
 have HL:o.records.length<=4194304:=ho.2.2.2.2.1
 rcases hk with rfl|rfl|rfl|rfl|rfl
 all_goals
  refine ak 112 [] func68 ?_
  repeat' (conv=>arg 2;whnf);first|apply an<;>intro h|refine okF (E0 0 (by omega) (by omega) (by omega) (by omega)) ?_|refine okF (ID) ?_|refine okF (IE) ?_|refine okF (IF) ?_|refine okF (IG) ?_|refine okF (FZ o.av ho.2.1) ?_|refine okF (FZ o.group ho.2.2.1) ?_|(refine cF ?_;simp_all [bS,kindOk,jz,rC];done)|(refine cF ?_;simp_all [bS,kindOk,jz,rC];intro hr;simp_all;done)|(refine cF ?_;simp_all [bS,kindOk,jz,rC];omega)|(have e:o.records.length=0:=(by simp at h;omega);have e:=List.length_eq_zero_iff.1 e;refine cF ?_;simp_all [bS,kindOk,jz,rC];done)
  refine aba (α:=Nat) (fun h q=>⟨[(7,.int .i64 q),(1,.ptr 0 0)],h⟩) (fun q=>q<=o.records.length/\(o.records.take q).any (fun r=>decide (64<r.length))=false) (fun q=>o.records.length-q) 0 ⟨Nat.zero_le _,rfl⟩ (Sv.aK [0]) ?_
  rintro q ⟨hq,he⟩
  repeat' (conv=>arg 2;whnf);first|apply an<;>intro h|refine cK (l:=o.records) (by simp at h;omega) (fun x hx=>?_)|refine bw (cj (by simp at h hq;omega) (by have:=HL;simp at h hq;omega)) ?_|refine aZ (q+1) (Sv.aK [0]) ⟨by have:=(List.getElem?_eq_some_iff.1 hx).1;omega,Rs hx (by simp at h ⊢;omega) he⟩ (by have:=(List.getElem?_eq_some_iff.1 hx).1;omega)|refine eG ?_|(have hL:th o=true:=List.any_eq_true.2 ⟨x,List.mem_of_getElem? hx,by simp at h ⊢;omega⟩;refine cF ?_;clear he;simp_all [bS,kindOk,jz,rC,th];done)|(have hL:th o=false:=Pe he (by simp at*;omega);refine cF ?_;clear he;simp_all [bS,kindOk,jz,rC,th];done)|(have hL:th o=false:=Pe he (by simp at*;omega);refine cF ?_;clear he;simp_all [bS,kindOk,jz,rC,th];exact⟨fun e=>by have:=List.length_eq_zero_iff.2 e;omega,by omega⟩)
theorem VD [Wd] (o:bt) (ho:fD.ok o) (k:Int) (hk:k<0\/4<k):aq prog 68 [.agg (cC {o with kind:=k})] (.int .i64 (bS {o with kind:=k})):=by
 have PM:bS {o with kind:=k}=60:=by
  unfold bS
  rw[if_pos (.inl (by simp[kindOk];omega))]
 refine ak 112 [] func68 ?_
 repeat' (conv=>arg 2;whnf);first|apply an<;>intro h|refine cF PM.symm|(exfalso;simp at*;omega)|refine okF (E0 k (by omega) (by omega) (by omega) (by omega)) ?_
theorem pq [Wd] (o:bt) (ho:fD.ok o):aq prog 68 [.agg (cC o)] (.int .i64 (bS o)):=by
 by_cases k:o.kind<0\/4<o.kind
 ·exact VD o ho o.kind k
 ·exact VC o ho o.kind (by omega)
theorem Wi [Wd] (bs:List UInt8) (o:bt) (ho:fD.ok o) (h0:¬bS o=0):aq prog 69 [.list 1 (bs.map af),.agg (cC o)] (.list 1 ((bs++lM o).map af)):=by
 refine ak 67 [] func69 ?_
 repeat' (conv=>arg 2;whnf);first|apply an<;>intro h|refine okF (pq o ho) ?_|(refine kf (.inr rfl) rfl ?_;simp[lM,h0];done)|(exfalso;simp_all;done)
theorem Xm [Wd] (bs:List UInt8) (o:bt) (ho:fD.ok {o with kind:=0}) (h0:bS {o with kind:=0}=0) (hl:bs.length+200000000<=aL):aq prog 69 [.list 1 (bs.map af),.agg (cC {o with kind:=0})] (.list 1 ((bs++lM {o with kind:=0}).map af)):=by
 have p1:=fG 0
 have p2:=lE o.av ho.2.1
 have p3:=lE o.group ho.2.2.1
 have p4:=fG o.offset
 have p5:=fG (o.records.length:Int)
 have t1:o.av.length<=4194304:=ho.2.1
 have t2:o.group.length<=4194304:=ho.2.2.1
 have z:=xB h0
 have HL:o.records.length<=4194304:=ho.2.2.2.2.1
 have e0:aJ 0=enc 0:=eK (by omega) (by omega)
 have e1:aJ o.offset=enc o.offset.toNat:=eK z.2.2.1 (by have:=z.2.2.2;simp only at this;omega)
 have e2:aJ (o.records.length:Int)=enc o.records.length:=eK (by omega) (by omega)
 refine ak 67 [] func69 ?_
 repeat' (conv=>arg 2;whnf);first|apply an<;>intro h|refine okF (pq {o with kind:=0} ho) ?_|refine okF (E0 0 (by omega) (by omega) (by omega) (by omega)) ?_|refine lD ?_|refine okF (mI _ (0) (by(try simp only[List.length_append,List.length_nil]);omega)) ?_|(refine kf (.inr rfl) rfl ?_;rw[lM,if_pos h0];simp[iy,e0];done)|(exfalso;simp[h0] at h;done)
theorem Xn [Wd] (bs:List UInt8) (o:bt) (ho:fD.ok {o with kind:=1}) (h0:bS {o with kind:=1}=0) (hl:bs.length+200000000<=aL):aq prog 69 [.list 1 (bs.map af),.agg (cC {o with kind:=1})] (.list 1 ((bs++lM {o with kind:=1}).map af)):=by
 have p1:=fG 1
 have p2:=lE o.av ho.2.1
 have p3:=lE o.group ho.2.2.1
 have p4:=fG o.offset
 have p5:=fG (o.records.length:Int)
 have t1:o.av.length<=4194304:=ho.2.1
 have t2:o.group.length<=4194304:=ho.2.2.1
 have z:=xB h0
 have HL:o.records.length<=4194304:=ho.2.2.2.2.1
 have e0:aJ 1=enc 1:=eK (by omega) (by omega)
 have e1:aJ o.offset=enc o.offset.toNat:=eK z.2.2.1 (by have:=z.2.2.2;simp only at this;omega)
 have e2:aJ (o.records.length:Int)=enc o.records.length:=eK (by omega) (by omega)
 refine ak 67 [] func69 ?_
 repeat' (conv=>arg 2;whnf);first|apply an<;>intro h|refine aT (show o.av.length<=140737488355328 by omega) ?_|refine okF (pq {o with kind:=1} ho) ?_|refine okF (ID) ?_|refine lD ?_|refine okF (mI _ (1) (by(try simp only[List.length_append,List.length_nil]);omega)) ?_|refine okF (uq _ o.av (t1) (by(try simp only[List.length_append]);omega)) ?_|(refine kf (.inr rfl) rfl ?_;rw[lM,if_pos h0];simp[iy,e0,List.append_assoc];done)|(exfalso;simp[h0] at h;done)
theorem Xo [Wd] (bs:List UInt8) (o:bt) (ho:fD.ok {o with kind:=2}) (h0:bS {o with kind:=2}=0) (hl:bs.length+200000000<=aL):aq prog 69 [.list 1 (bs.map af),.agg (cC {o with kind:=2})] (.list 1 ((bs++lM {o with kind:=2}).map af)):=by
 have p1:=fG 2
 have p2:=lE o.av ho.2.1
 have p3:=lE o.group ho.2.2.1
 have p4:=fG o.offset
 have p5:=fG (o.records.length:Int)
 have t1:o.av.length<=4194304:=ho.2.1
 have t2:o.group.length<=4194304:=ho.2.2.1
 have z:=xB h0
 have HL:o.records.length<=4194304:=ho.2.2.2.2.1
 have e0:aJ 2=enc 2:=eK (by omega) (by omega)
 have e1:aJ o.offset=enc o.offset.toNat:=eK z.2.2.1 (by have:=z.2.2.2;simp only at this;omega)
 have e2:aJ (o.records.length:Int)=enc o.records.length:=eK (by omega) (by omega)
 refine ak 67 [] func69 ?_
 repeat' (conv=>arg 2;whnf);first|apply an<;>intro h|refine aT (show o.av.length<=140737488355328 by omega) ?_|refine okF (pq {o with kind:=2} ho) ?_|refine okF (IE) ?_|refine lD ?_|refine okF (mI _ (2) (by(try simp only[List.length_append,List.length_nil]);omega)) ?_|refine okF (mI _ ((o.records.map gS).length:Int) (by(try simp only[List.length_append]);omega)) ?_|refine okF (uq _ o.av (t1) (by(try simp only[List.length_append]);omega)) ?_|(exfalso;simp[h0] at h;done)
 refine bE (α:=Nat×List UInt8) (fun a=>⟨[(9,.int .i64 a.1),(3,.ptr 0 0),(0,.list 1 (a.2.map af))],[.cells 40 (cC {o with kind:=2})]⟩) (fun a=>a.1<=o.records.length/\a.2=bs++aJ 2++cB o.av++aJ ((o.records.map gS).length:Int)++(o.records.take a.1).flatMap (cB)) (fun a=>o.records.length-a.1) (0,bs++aJ 2++cB o.av++aJ ((o.records.map gS).length:Int)) ⟨Nat.zero_le _,by simp⟩ (Sv.aK [0]) ?_
 rintro⟨q,b2⟩ ⟨hq,he⟩
 replace hq:q<=o.records.length:=hq
 replace he:b2=bs++aJ 2++cB o.av++aJ ((o.records.map gS).length:Int)++(o.records.take q).flatMap (cB):=he
 have LL:o.records.length<=4:=by
  have:=zo h0
  apply Classical.byContradiction
  intro hc
  simp[bS] at h0
  omega
 have p6:=lz (f:=cB) (K:=4194314) (o.records.take q) (fun r hr=>by have h1:r.length<=4194304:=ho.2.2.2.2.2 r (List.mem_of_mem_take hr);have:=lE r h1;omega)
 have p7:(o.records.take q).length*4194314<=4*4194314:=Nat.mul_le_mul_right _ (by rw[List.length_take];omega)
 have p8:=fG ((o.records.map gS).length:Int)
 have eJ:b2.length+100000000<=aL:=by rw[he];simp only[List.length_append];omega
 repeat' (conv=>arg 2;whnf);first|apply an<;>intro h|refine cK (l:=o.records) (by simp at h;omega) (fun x hx=>?_)|refine okF (uq b2 x (ho.2.2.2.2.2 x (List.mem_of_getElem? hx)) (by have h1:x.length<=4194304:=ho.2.2.2.2.2 x (List.mem_of_getElem? hx);rw[List.length_append];omega)) ?_|refine bw (cj (by simp at h hq;omega) (by have:=HL;simp at h hq;omega)) ?_|refine aZ (q+1,b2++cB x) (Sv.aK [0]) ⟨by have:=(List.getElem?_eq_some_iff.1 hx).1;show q+1<=o.records.length;omega,by show b2++cB x=_;rw[sH hx,<-List.append_assoc,<-he]⟩ (by have:=(List.getElem?_eq_some_iff.1 hx).1;show o.records.length-(q+1)<o.records.length-q;omega)|refine bq ?_|(refine kf (.inr rfl) rfl ?_;rw[he,show o.records.take q=o.records from List.take_of_length_le (by simp at h;omega),lM,if_pos h0];simp[iy,e0,e2,List.append_assoc];done)
theorem Xp [Wd] (bs:List UInt8) (o:bt) (ho:fD.ok {o with kind:=3}) (h0:bS {o with kind:=3}=0) (hl:bs.length+200000000<=aL):aq prog 69 [.list 1 (bs.map af),.agg (cC {o with kind:=3})] (.list 1 ((bs++lM {o with kind:=3}).map af)):=by
 have p1:=fG 3
 have p2:=lE o.av ho.2.1
 have p3:=lE o.group ho.2.2.1
 have p4:=fG o.offset
 have p5:=fG (o.records.length:Int)
 have t1:o.av.length<=4194304:=ho.2.1
 have t2:o.group.length<=4194304:=ho.2.2.1
 have z:=xB h0
 have HL:o.records.length<=4194304:=ho.2.2.2.2.1
 have e0:aJ 3=enc 3:=eK (by omega) (by omega)
 have e1:aJ o.offset=enc o.offset.toNat:=eK z.2.2.1 (by have:=z.2.2.2;simp only at this;omega)
 have e2:aJ (o.records.length:Int)=enc o.records.length:=eK (by omega) (by omega)
 refine ak 67 [] func69 ?_
 repeat' (conv=>arg 2;whnf);first|apply an<;>intro h|refine aT (show o.av.length<=140737488355328 by omega) ?_|refine aT (show o.group.length<=140737488355328 by omega) ?_|refine okF (pq {o with kind:=3} ho) ?_|refine okF (IF) ?_|refine lD ?_|refine okF (mI _ (3) (by(try simp only[List.length_append,List.length_nil]);omega)) ?_|refine okF (mI _ (o.offset) (by(try simp only[List.length_append]);omega)) ?_|refine okF (uq _ o.av (t1) (by(try simp only[List.length_append]);omega)) ?_|refine okF (uq _ o.group (t2) (by(try simp only[List.length_append]);omega)) ?_|(refine kf (.inr rfl) rfl ?_;rw[lM,if_pos h0];simp[iy,e0,e1,List.append_assoc];done)|(exfalso;simp[h0] at h;done)
theorem Xq [Wd] (bs:List UInt8) (o:bt) (ho:fD.ok {o with kind:=4}) (h0:bS {o with kind:=4}=0) (hl:bs.length+200000000<=aL):aq prog 69 [.list 1 (bs.map af),.agg (cC {o with kind:=4})] (.list 1 ((bs++lM {o with kind:=4}).map af)):=by
 have p1:=fG 4
 have p2:=lE o.av ho.2.1
 have p3:=lE o.group ho.2.2.1
 have p4:=fG o.offset
 have p5:=fG (o.records.length:Int)
 have t1:o.av.length<=4194304:=ho.2.1
 have t2:o.group.length<=4194304:=ho.2.2.1
 have z:=xB h0
 have HL:o.records.length<=4194304:=ho.2.2.2.2.1
 have e0:aJ 4=enc 4:=eK (by omega) (by omega)
 have e1:aJ o.offset=enc o.offset.toNat:=eK z.2.2.1 (by have:=z.2.2.2;simp only at this;omega)
 have e2:aJ (o.records.length:Int)=enc o.records.length:=eK (by omega) (by omega)
 refine ak 67 [] func69 ?_
 repeat' (conv=>arg 2;whnf);first|apply an<;>intro h|refine aT (show o.av.length<=140737488355328 by omega) ?_|refine okF (pq {o with kind:=4} ho) ?_|refine okF (IG) ?_|refine lD ?_|refine okF (mI _ (4) (by(try simp only[List.length_append,List.length_nil]);omega)) ?_|refine okF (mI _ (o.offset) (by(try simp only[List.length_append]);omega)) ?_|refine okF (uq _ o.av (t1) (by(try simp only[List.length_append]);omega)) ?_|(refine kf (.inr rfl) rfl ?_;rw[lM,if_pos h0];simp[iy,e0,e1,List.append_assoc];done)|(exfalso;simp[h0] at h;done)
theorem Pf [Wd] (bs:List UInt8) (o:bt) (ho:fD.ok o) (hl:bs.length+200000000<=aL):aq prog 69 [.list 1 (bs.map af),.agg (cC o)] (.list 1 ((bs++lM o).map af)):=by
 by_cases h0:bS o=0
 ·have hk:=(xB h0).1
  by_cases k0:o.kind=0
  ·have h:=Xm bs o (by rw[oM k0];exact ho) (by rw[oM k0];exact h0) hl;rw[oM k0] at h;exact h
  by_cases k1:o.kind=1
  ·have h:=Xn bs o (by rw[oM k1];exact ho) (by rw[oM k1];exact h0) hl;rw[oM k1] at h;exact h
  by_cases k2:o.kind=2
  ·have h:=Xo bs o (by rw[oM k2];exact ho) (by rw[oM k2];exact h0) hl;rw[oM k2] at h;exact h
  by_cases k3:o.kind=3
  ·have h:=Xp bs o (by rw[oM k3];exact ho) (by rw[oM k3];exact h0) hl;rw[oM k3] at h;exact h
  by_cases k4:o.kind=4
  ·have h:=Xq bs o (by rw[oM k4];exact ho) (by rw[oM k4];exact h0) hl;rw[oM k4] at h;exact h
  omega
 ·exact Wi bs o ho h0
theorem Wj [Wd] (o:bt) (ho:fD.ok o):aq prog 44 [.agg (cC o)] (if bS o=0 then .aj [.list 1 ((iy o).map af),.int .i64 0] else .aj [.nils,.int .i64 (bS o)]):=by
 by_cases h0:bS o=0
 ·rw[if_pos h0]
  refine ak 12 [] func44 ?_
  repeat' (conv=>arg 2;whnf);first|apply an<;>intro h|refine okF (pq o ho) ?_|refine iQ (Pf [] o ho (by simp[aL])) rfl (aa.cons (Co.nil _) (.refl _)) ?_|(refine pK (.inr rfl) rfl ?_ rfl;simp[lM,h0];done)|(exfalso;simp_all;done)
 ·rw[if_neg h0]
  refine ak 12 [] func44 ?_
  repeat' (conv=>arg 2;whnf);first|apply an<;>intro h|refine okF (pq o ho) ?_|refine cg|(exfalso;simp_all;done)
theorem abb [Wd] (n:Int) (h:n<0\/8<=n):aq prog 313 [.int .i64 n] (.int .i64 (-1)):=by
 have:=Rr n
 rwa [if_pos h] at this
theorem abc [Wd] (n:Int) (h:¬(n<0\/8<=n)):aq prog 313 [.int .i64 n] (.int .i64 (13+n)):=by
 have:=Rr n
 rwa [if_neg h] at this
theorem NI [Wd] (x:ju) (hx:su.ok x):aq prog 277 [.agg (sw x)] (.int .i64 (iR x)):=by
 by_cases hk:x.bD<0\/8<=x.bD
 ·have e:iR x=80:=by unfold iR;rw[if_pos (by omega)]
  refine ak 20 [] func277 ?_
  repeat' (conv=>arg 2;whnf);first|refine okF (abb x.bD hk) ?_|refine cF e.symm
 ·refine ak 20 [] func277 ?_
  repeat' (conv=>arg 2;whnf);first|apply an<;>intro h|refine okF (abc x.bD hk) ?_|refine okF (pq x.op hx.2.2) ?_|(refine cF ?_;unfold iR;rw[if_pos (by simp at*;omega)];done)|(refine cF ?_;unfold iR;rw[if_neg (by simp at*;omega)];done)
theorem VE [Wd] (x:ju) (hx:su.ok x) (h0:iR x=0):aq prog 221 [.agg (sw x)] (.aj [.list 1 ((iS x).map af),.int .i64 0]):=by
 have z:=Ss h0
 have p1:=fG x.bD
 have p2:=fG x.time
 have e1:aJ x.bD=enc x.bD.toNat:=eK z.1 (by omega)
 have e2:aJ x.time=enc x.time.toNat:=eK (by omega) (by omega)
 have hb:300000000<=aL:=by simp[aL]
 refine ak 24 [] func221 ?_
 repeat' (conv=>arg 2;whnf);first|apply an<;>intro h|refine okF (NI x hx) ?_|refine lD ?_|refine iQ (mI [] (x.bD) (by simp[aL])) rfl (aa.cons (Co.nil _) (.refl _)) ?_|refine okF (mI _ x.time (by(try simp only[List.length_append,List.length_nil]);omega)) ?_|refine okF (Pf _ x.op hx.2.2 (by(try simp only[List.length_append,List.length_nil]);omega)) ?_|(refine pK (.inr rfl) rfl ?_ rfl;simp[iS,lM,z,e1,e2,List.append_assoc];done)|(exfalso;simp[h0] at h;done)
def RY:List (Nat×tE):=[(3,⟨[(0,false),(1,false),(2,false),(3,false),(5,false),(6,false),(7,false),(4,true),(8,true),(9,false)],[]⟩)]
theorem wN [Wd] (bs:List UInt8) (s:bJ) (hl:bs.length+200<=aL):aq prog 162 [.list 1 (bs.map af),.agg (bL s)] (.list 1 ((bs++cG s).map af)):=by
 have p1:=fG s.key
 by_cases h0:dw s=0
 ·have z:=Ge h0
  have e1:aJ s.key=enc s.key.toNat:=eK z.1.1 (by omega)
  have e2:aJ s.ah=enc s.ah.toNat:=eK (by omega) (by omega)
  refine ak 18 RY func162 ?_
  repeat' (conv=>arg 2;whnf);first|apply an<;>intro h|refine okF (lu s) ?_|refine lD ?_|refine okF (mI _ (s.key) (by(try simp only[List.length_append,List.length_nil]);omega)) ?_|refine okF (mI _ (s.ah) (by(try simp only[List.length_append]);omega)) ?_|(refine kf (.inr rfl) rfl ?_;rw[cG,if_pos h0];simp[rL,e1,e2];done)|(exfalso;simp[h0] at h;done)
 ·refine ak 18 RY func162 ?_
  repeat' (conv=>arg 2;whnf);first|apply an<;>intro h|refine okF (lu s) ?_|refine lD ?_|(refine kf (.inr rfl) rfl ?_;simp[cG,h0];done)|(exfalso;simp[h0] at h;done)
theorem RZ {a:Int} (h:0<=a/\a<=9223372036854775807):aJ (if 0<a then a else 0)=enc (max a 0).toNat:=by
 rw[show(if 0<a then a else 0)=a from by split<;>omega,eK h.1 (by omega),Int.max_eq_left h.1]
theorem U9 [Wd] (bs:List UInt8) (x:nH) (he:0<=x.err/\x.err<=9223372036854775807) (ho:0<=x.offset/\x.offset<=9223372036854775807) (hl:bs.length+200<=aL):aq prog 166 [.list 1 (bs.map af),.agg (wV x)] (.list 1 ((bs++wW x).map af)):=by
 have p1:=fG (if 0<x.err then x.err else 0)
 refine ak 16 [(1,⟨[(0,false),(1,false),(2,false),(3,false),(4,false),(6,false),(7,false),(8,false),(9,false),(5,true),(10,true),(11,false)],[]⟩)] func166 ?_
 repeat' (conv=>arg 2;whnf);first|refine lD ?_|refine okF (mI _ _ (by(try simp only[List.length_append]);omega)) ?_|(refine kf (.inr rfl) rfl ?_;rw[RZ he,RZ ho,List.append_assoc];rfl)
theorem vB [Wd] (l:List bX) (hl:(dL fX).ok l):aq prog 220 [.list 9 (l.map bI)] (.int .i64 (fA l)):=by
 have HL:l.length<=4194304:=hl.1
 refine ak 74 [] func220 ?_
 repeat' (conv=>arg 2;whnf);first|apply an<;>intro h|(refine cF ?_;unfold fA;rw[if_pos (by simp at h;omega)];done)
 have h4:¬4<l.length:=by simp at h;omega
 clear h
 refine bE (α:=Nat) (fun q=>⟨[(3,.int .i64 q),(0,.list 9 (l.map bI))],[]⟩) (fun q=>q<=l.length/\lA (l.take q)=0) (fun q=>l.length-q) 0 ⟨Nat.zero_le _,rfl⟩ (Sv.aK []) ?_
 rintro q ⟨hq,he⟩
 repeat' (conv=>arg 2;whnf);first|apply an<;>intro h|refine cK (l:=l) (by simp at h;omega) (fun x hx=>?_)|refine wX hx ?_|refine okF (NI x.request (hl.2 x (List.mem_of_getElem? hx)).1) ?_|refine okF (lu x.sign) ?_|refine bw (cj (by omega) (by have:=(List.getElem?_eq_some_iff.1 hx).1;omega)) ?_|refine aZ (q+1) (Sv.aK []) ⟨by have:=(List.getElem?_eq_some_iff.1 hx).1;omega,Ph hx he (by simp_all) (by simp_all)⟩ (by have:=(List.getElem?_eq_some_iff.1 hx).1;omega)|refine bq ?_|refine eG ?_|(have hp:=FG hx he;refine cF ?_;have h1:¬iR x.request=0:=(by simpa using h);rw[FH h4 (by rw[hp,aF,if_neg h1];exact h1),hp,aF,if_neg h1])|(have hp:=FG hx he;refine cF ?_;have h1:¬dw x.sign=0:=(by simpa using h);have h2:iR x.request=0:=(by simp_all);rw[FH h4 (by rw[hp,h2,gu,aF,if_neg h1];exact h1),hp,h2,gu,aF,if_neg h1])
 have hp:lA l=0:=by rw[List.take_of_length_le (by simp at h;omega)] at he;exact he
 clear he hq h
 refine bE (α:=Nat) (fun i=>⟨[(6,.int .i64 i),(0,.list 9 (l.map bI))],[]⟩) (fun i=>i<=l.length/\((List.range i).any fun i=>(List.range i).any fun k=>yY l i k)=false) (fun i=>l.length-i) 0 ⟨Nat.zero_le _,rfl⟩ (Sv.aK []) ?_
 rintro i ⟨hi,he⟩
 repeat' (conv=>arg 2;whnf);first|apply an<;>intro h|refine bq ?_|(have hw:zT l=false:=(by rw[Js,show l.length=i from by simp at h;omega];exact he);refine cF ?_;unfold fA;rw[if_neg h4,hp,gu,hw];rfl)
 have uc:i<l.length:=by simp at h;omega
 clear h
 have hx:l[i]?=some l[i]:=List.getElem?_eq_getElem uc
 generalize l[i]=x at hx
 refine bE (α:=Nat) (fun k=>⟨[(7,.int .i64 k),(6,.int .i64 i),(0,.list 9 (l.map bI))],[]⟩) (fun k=>k<=i/\((List.range k).any fun k=>yY l i k)=false) (fun k=>i-k) 0 ⟨Nat.zero_le _,rfl⟩ (Sv.aK []) ?_
 rintro k ⟨hk,Eh⟩
 repeat' (conv=>arg 2;whnf);first|apply an<;>intro h|refine wX hx ?_|refine cK (l:=l) (by simp at h;omega) (fun y hy=>?_)|refine bw (e:=(k:Int)+1) (cj (by omega) (by omega)) ?_|refine bw (e:=(i:Int)+1) (cj (by omega) (by omega)) ?_|refine aZ (k+1) (Sv.aK []) ⟨by have Cn:k<i:=(by simp_all);omega,FI Eh (by rw[GK hx hy];simp_all)⟩ (by have Cn:k<i:=(by simp_all);omega)|refine aZ (i+1) (Sv.aK []) ⟨by omega,FI he (by have PN:k=i:=(by simp at h;omega);subst PN;exact Eh)⟩ (by omega)|refine bq ?_|refine eG ?_|(have hw:zT l=true:=Pj uc (k:=k) (by simp_all) (by rw[GK hx hy];simp_all);refine cF ?_;unfold fA;rw[if_neg h4,hp,gu,hw];rfl)
def R3:List (Nat×tE):=[(8,⟨[(0,false),(1,false),(3,false),(4,false),(5,false),(6,false),(7,false),(2,true),(8,true),(9,false)],[]⟩)]
theorem Va [Wd] (bs:List UInt8) (l:List bX) (hl:(dL fX).ok l) (h0:¬fA l=0):aq prog 165 [.list 1 (bs.map af),.list 9 (l.map bI)] (.list 1 ((bs++jM l).map af)):=by
 refine ak 42 R3 func165 ?_
 repeat' (conv=>arg 2;whnf);first|apply an<;>intro h|refine okF (vB l hl) ?_|(refine kf (.inr rfl) rfl ?_;simp[jM,h0];done)|(exfalso;simp[h0] at h;done)
theorem Vb [Wd] (bs:List UInt8) (l:List bX) (hl:(dL fX).ok l) (h0:fA l=0) (hb:bs.length+300000000<=aL):aq prog 165 [.list 1 (bs.map af),.list 9 (l.map bI)] (.list 1 ((bs++jM l).map af)):=by
 have z:=J1 h0
 have z1:=z.1
 have HL:l.length<=4194304:=hl.1
 have p1:=fG ((l.map bI).length:Int)
 have e1:aJ ((l.map bI).length:Int)=enc l.length:=by rw[List.length_map,eK (by omega) (by omega)];rfl
 refine ak 42 R3 func165 ?_
 repeat' (conv=>arg 2;whnf);first|apply an<;>intro h|refine okF (vB l hl) ?_|refine lD ?_|refine okF (mI _ (((l.map bI).length:Int)) (by(try simp only[List.length_append,List.length_nil]);omega)) ?_|(exfalso;simp[h0] at h;done)
 refine bE (α:=Nat×List UInt8) (fun a=>⟨[(5,.int .i64 a.1),(1,.list 9 (l.map bI)),(0,.list 1 (a.2.map af))],[]⟩) (fun a=>a.1<=l.length/\a.2=bs++aJ ((l.map bI).length:Int)++(l.take a.1).flatMap (fun s:bX=>cB (iS s.request)++cG s.sign)) (fun a=>l.length-a.1) (0,bs++aJ ((l.map bI).length:Int)) ⟨Nat.zero_le _,by simp⟩ (Sv.aK []) ?_
 rintro⟨q,b2⟩ ⟨hq,he⟩
 replace hq:q<=l.length:=hq
 replace he:b2=bs++aJ ((l.map bI).length:Int)++(l.take q).flatMap (fun s:bX=>cB (iS s.request)++cG s.sign):=he
 have p6:=lz (f:=fun s:bX=>cB (iS s.request)++cG s.sign) (K:=1050) (l.take q) (fun s hs=>by
  have k:=vC (z.2 s (List.mem_of_mem_take hs)).1
  have:=lE (iS s.request) (by omega)
  have:=vE s.sign
  rw[List.length_append];omega)
 have p7:(l.take q).length*1050<=4*1050:=Nat.mul_le_mul_right _ (by rw[List.length_take];omega)
 have eJ:b2.length+200000000<=aL:=by rw[he];simp only[List.length_append];omega
 repeat' (conv=>arg 2;whnf);first|apply an<;>intro h|refine wX hx ?_|refine cK (l:=l) (by simp at h;omega) (fun x hx=>?_)|refine okF (VE x.request (hl.2 x (List.mem_of_getElem? hx)).1 (z.2 x (List.mem_of_getElem? hx)).1) ?_|refine okF (uq b2 (iS x.request) (by have:=vC (z.2 x (List.mem_of_getElem? hx)).1;omega) (by have:=vC (z.2 x (List.mem_of_getElem? hx)).1;rw[List.length_append];omega)) ?_|refine okF (wN _ x.sign (by have:=vC (z.2 x (List.mem_of_getElem? hx)).1;have:=lE (iS x.request) (by omega);rw[List.length_append];omega)) ?_|refine bw (cj (by simp at h hq;omega) (by have:=HL;simp at h hq;omega)) ?_|refine aZ (q+1,b2++cB (iS x.request)++cG x.sign) (Sv.aK []) ⟨by have:=(List.getElem?_eq_some_iff.1 hx).1;show q+1<=l.length;omega,by show b2++cB (iS x.request)++cG x.sign=_;rw[sH hx,<-List.append_assoc,<-he];simp⟩ (by have:=(List.getElem?_eq_some_iff.1 hx).1;show l.length-(q+1)<l.length-q;omega)|refine bq ?_|(refine kf (.inr rfl) rfl ?_;rw[he,show l.take q=l from List.take_of_length_le (by simp at h;omega),jM,if_pos h0,BI,e1,List.append_assoc];refine congrArg (fun y=>bs++(enc l.length++y)) ?_;refine Iq (fun s hs=>?_);simp[zO,cG,(z.2 s hs).2])
theorem EX [Wd] (bs:List UInt8) (l:List bX) (hl:(dL fX).ok l) (hb:bs.length+300000000<=aL):aq prog 165 [.list 1 (bs.map af),.list 9 (l.map bI)] (.list 1 ((bs++jM l).map af)):=by
 by_cases h0:fA l=0
 ·exact Vb bs l hl h0 hb
 ·exact Va bs l hl h0
theorem wj [Wd] (n a b:Int):aq prog 270 [.int .i64 n,.int .i64 a,.int .i64 b] (.int .i64 (cQ n a b)):=by
 refine ak 15 [] func270 ?_
 repeat' (conv=>arg 2;whnf);first|apply an<;>intro h|(refine cF ?_;simp_all [cQ];done)
theorem rD [Wd] (n:Int):aq prog 269 [.int .i64 n] (.int .i64 (cP n)):=by
 refine ak 5 [] func269 ?_
 repeat' (conv=>arg 2;whnf);first|refine okF (wj _ _ _) ?_|refine cF rfl
theorem zU [Wd] (n:Int):aq prog 271 [.int .i64 n] (.int .i64 (gd n)):=by
 refine ak 5 [] func271 ?_
 repeat' (conv=>arg 2;whnf);first|refine okF (wj _ _ _) ?_|refine cF rfl
theorem yh [Wd] (n:Int):aq prog 268 [.int .i64 n] (.int .i64 (ke n)):=by
 refine ak 5 [] func268 ?_
 repeat' (conv=>arg 2;whnf);first|refine okF (wj _ _ _) ?_|refine cF rfl
theorem Wk {l:List Int} {q:Nat} {x:Int} (hx:l[q]?=some x) (he:bG id (l.take q)=0):bG id l=aF x (bG id (l.drop (q+1))):=by
 have hlt:=(List.getElem?_eq_some_iff.1 hx).1
 have e:l=l.take q++x::l.drop (q+1):=by
  conv=>lhs;rw[<-List.take_append_drop q l]
  rw[List.drop_eq_getElem_cons hlt,(List.getElem?_eq_some_iff.1 hx).2]
 have ap:∀a b:List Int,bG id (a++b)=aF (bG id a) (bG id b):=fun a b=>by
  induction a with
  |nil=>simp[bG,gu]
  |cons y r ih=>simp only[List.cons_append,bG,ih,eZ]
 rw[e,ap,he,gu,<-e]
 rfl
theorem mY [Wd] (l:List Int) (hl:l.length<=4194304):aq prog 267 [.list 1 (l.map eD)] (.int .i64 (bG id l)):=by
 refine ak 19 [] func267 ?_
 repeat' (conv=>arg 2;whnf);first|refine aY ?_
 refine bE (α:=Nat) (fun q=>⟨[(3,.int .i64 q),(0,.list 1 (l.map eD))],[]⟩) (fun q=>q<=l.length/\bG id (l.take q)=0) (fun q=>l.length-q) 0 ⟨Nat.zero_le _,rfl⟩ (Sv.aK []) ?_
 rintro q ⟨hq,he⟩
 repeat' (conv=>arg 2;whnf);first|apply an<;>intro h|refine wX hx ?_|refine cK (l:=l) (by simp at h;omega) (fun x hx=>?_)|refine bw (cj (by omega) (by have:=(List.getElem?_eq_some_iff.1 hx).1;omega)) ?_|refine aZ (q+1) (Sv.aK []) ⟨by have:=(List.getElem?_eq_some_iff.1 hx).1;omega,by rw[oF id hx,he,gu];simpa using h⟩ (by have:=(List.getElem?_eq_some_iff.1 hx).1;omega)|refine bq ?_|refine eG ?_|(have hp:=Wk hx he;refine cF ?_;rw[hp,aF,if_neg (by simpa using h)])|(refine cF ?_;rw[List.take_of_length_le (by simp at h;omega)] at he;exact he.symm)
theorem Bq {α:Type} {f:α->Int} {l:List α} {q:Nat} {x:α} (hx:l[q]?=some x) (he:bG f (l.take q)=0) (cu:¬f x=0):bG f l=f x:=by
 have hlt:=(List.getElem?_eq_some_iff.1 hx).1
 have e:l=l.take q++x::l.drop (q+1):=by
  conv=>lhs;rw[<-List.take_append_drop q l]
  rw[List.drop_eq_getElem_cons hlt,(List.getElem?_eq_some_iff.1 hx).2]
 have ap:∀a b:List α,bG f (a++b)=aF (bG f a) (bG f b):=fun a b=>by
  induction a with
  |nil=>simp[bG,gu]
  |cons y r ih=>simp only[List.cons_append,bG,ih,eZ]
 rw[e,ap,he,gu,bG,aF,if_neg cu]
theorem Bj {α:Type} {f:α->Int} {l:List α} {q:Nat} (hq:¬q<l.length) (he:bG f (l.take q)=0):bG f l=0:=by
 rwa [List.take_of_length_le (by omega)] at he
theorem uz (n:Nat) (m:Int):jd n m=if m<(n:Int) then 100 else 0:=by
 unfold jd cQ
 split<;>split<;>first|rfl|omega
theorem Qr [Wd] (s:List UInt8) (hs:s.length<=4194304):aq prog 275 [.str s] (.int .i64 (mh s)):=by
 refine ak 6 [] func275 ?_
 repeat' (conv=>arg 2;whnf);first|apply an<;>intro h|refine okF (FZ s hs) ?_|(refine cF ?_;simp_all [mh];done)
theorem Jt (l:List bJ):lQ l=aF (if(13:Int)<l.length then 100 else 0) (bG dw l):=by rw[lQ,uz]
theorem J2 (c:gX):jl c=aF (bG id [cP c.seq,cP c.ah]) (aF (if(decide (c.seq=0)!=decide (c.ah=0))||(decide (c.seq=0)&&decide (0<c.cM.length)) then 100 else 0) (lQ c.cM)):=by
 simp[jl,bG,eZ,gH]
theorem abd (p:jt):jQ p=bG id [cP p.view,gd p.seq,gd p.ah,dw p.kG,lQ p.cM,fA p.batch]:=by
 simp[jQ,bG,gH]
def qJ (c:cX):Int:=aF (bG id [gd c.view,ke c.src,jl c.cert]) (aF (if(8:Int)<c.cD.length then 100 else 0) (bG jQ c.cD))
theorem Kr (c:cX):ir c=bG id [qJ c,dw c.sign]:=by
 simp[ir,qJ,bG,eZ,gH,uz]
theorem Y5 (x:gq):mM x=bG id [cP x.view,gd x.seq,fA x.batch,dw x.sign]:=by
 simp[mM,bG,gH]
theorem abe (h:j7):mN h=bG id [gd h.seq,cP h.prev,cP h.batch,cP h.root,cP h.state]:=by
 simp[mN,bG,gH]
theorem Br (p:jX):mB p=aF (bG id [mh p.av,cP p.offset,cQ (p.record.length:Int) 0 64,cQ (p.headers.length:Int) 0 64]) (aF (bG mN p.headers) (aF (bG id [cP p.index,cQ p.count 0 16]) (aF (cQ p.index 0 (p.count-1)) (aF (jd p.path.length 8) (aF (bG cP p.path) (jl p.cert)))))):=by
 simp[mB,bG,eZ,gH,jd]
theorem Dy (m:aD):aF (iP m) (dw m.sign)=aF (bG id [ke m.src,gd m.view,cQ (m.changes.length:Int) 0 13]) (aF (bG ir m.changes) (aF (jd m.entries.length 8) (aF (bG mM m.entries) (dw m.sign)))):=by
 simp[iP,bG,eZ,gH,jd]
theorem Ju [Wd] (l:List bJ) (HL:l.length<=4194304):aq prog 311 [.list 2 (l.map bL)] (.int .i64 (lQ l)):=by
 refine ak 22 [] func311 ?_
 repeat' (conv=>arg 2;whnf);first|apply an<;>intro h|(refine cF ?_;rw[Jt];simp_all [aF];done)
 refine bE (α:=Nat) (fun q=>⟨[(3,.int .i64 q),(0,.list 2 (l.map bL))],[]⟩) (fun q=>q<=l.length/\bG dw (l.take q)=0) (fun q=>l.length-q) 0 ⟨Nat.zero_le _,rfl⟩ (Sv.aK []) ?_
 rintro q ⟨hq,he⟩
 repeat' (conv=>arg 2;whnf);first|apply an<;>intro h|refine cK (l:=l) (by simp at h;omega) (fun x hx=>?_)|refine okF (lu x) ?_|refine bw (cj (by omega) (by have:=(List.getElem?_eq_some_iff.1 hx).1;omega)) ?_|refine aZ (q+1) (Sv.aK []) ⟨by have:=(List.getElem?_eq_some_iff.1 hx).1;omega,by rw[oF dw hx,he,gu];simpa using h⟩ (by have:=(List.getElem?_eq_some_iff.1 hx).1;omega)|refine bq ?_|refine eG ?_|(have cu:¬dw x=0:=(by simpa using h);have oT:=Bq hx he cu;refine cF ?_;clear he hq hx;rw[Jt];simp_all [aF];done)|(have oT:=Bj (f:=dw) (l:=l) (by simp at h;omega) he;refine cF ?_;clear he hq h;rw[Jt];simp_all [aF];done)
def R4:List (Nat×tE):=[(1,⟨[(0,false),(1,false),(3,false),(4,false),(2,true),(5,true),(6,true),(7,true),(8,false)],[]⟩)]
theorem J3 [Wd] (c:gX) (hc:je.ok c):aq prog 274 [.agg (mj c)] (.int .i64 (jl c)):=by
 by_cases h0:bG id [cP c.seq,cP c.ah]=0
 ·have z:0<=c.seq/\0<=c.ah:=by
   simp only[bG,id,bQ] at h0
   exact⟨(uy h0.1).1,(uy h0.2.1).1⟩
  refine ak 42 R4 func274 ?_
  repeat' (conv=>arg 2;whnf);first|apply an<;>intro h|refine okF (rD _) ?_|refine okF (mY [cP c.seq,cP c.ah] (by simp)) ?_|refine okF (Ju c.cM hc.2.2.1) ?_|(exfalso;simp[h0] at h;done)|(refine cF ?_;rw[J2,h0,gu];by_cases h1:c.seq=0<;>by_cases h2:c.ah=0<;>by_cases h3:0<c.cM.length<;>simp_all [aF];done)|(refine cF ?_;rw[J2,h0,gu];by_cases h1:c.seq=0<;>by_cases h2:c.ah=0<;>by_cases h3:0<c.cM.length<;>simp_all [aF]<;>omega)
 ·refine ak 42 R4 func274 ?_
  repeat' (conv=>arg 2;whnf);first|apply an<;>intro h|refine okF (rD _) ?_|refine okF (mY [cP c.seq,cP c.ah] (by simp)) ?_|refine okF (Ju c.cM hc.2.2.1) ?_|(refine cF ?_;rw[J2];simp_all [aF];done)
theorem VF [Wd] (p:jt) (hp:oC.ok p):aq prog 320 [.agg (fk p)] (.int .i64 (jQ p)):=by
 refine ak 23 [(1,⟨[(0,false),(1,false),(3,false),(4,false),(6,false),(7,false),(9,false),(10,false),(12,false),(13,false),(15,false),(16,false),(2,true),(5,true),(8,true),(11,true),(14,true),(17,true),(18,true),(19,true),(20,false)],[]⟩)] func320 ?_
 repeat' (conv=>arg 2;whnf);first|refine okF (rD _) ?_|refine okF (zU _) ?_|refine okF (lu p.kG) ?_|refine okF (Ju p.cM hp.2.2.2.2.1.1) ?_|refine okF (vB p.batch hp.2.2.2.2.2) ?_|refine okF (mY [cP p.view,gd p.seq,gd p.ah,dw p.kG,lQ p.cM,fA p.batch] (by simp)) ?_|refine cF (abd p).symm
theorem abf [Wd] (c:cX) (hc:fP.ok c):aq prog 309 [.agg (bU c)] (.int .i64 (qJ c)):=by
 have HL:c.cD.length<=4194304:=hc.2.2.2.1.1
 refine ak 40 [(1,⟨[(0,false),(1,false),(3,false),(4,false),(6,false),(7,false),(2,true),(5,true),(8,true),(9,true),(10,true),(11,false)],[]⟩)] func309 ?_
 repeat' (conv=>arg 2;whnf);first|apply an<;>intro h|refine okF (zU _) ?_|refine okF (yh _) ?_|refine okF (J3 c.cert hc.2.2.1) ?_|refine okF (mY [gd c.view,ke c.src,jl c.cert] (by simp)) ?_|(refine cF ?_;rw[qJ];simp_all [aF];done)
 refine bE (α:=Nat) (fun q=>⟨[(4,.int .i64 q),(1,.ptr 0 0)],[.cells 145 (bU c)]⟩) (fun q=>q<=c.cD.length/\bG jQ (c.cD.take q)=0) (fun q=>c.cD.length-q) 0 ⟨Nat.zero_le _,rfl⟩ (Sv.aK [0]) ?_
 rintro q ⟨hq,he⟩
 repeat' (conv=>arg 2;whnf);first|apply an<;>intro h|refine cK (l:=c.cD) (by simp at h;omega) (fun x hx=>?_)|refine okF (VF x (hc.2.2.2.1.2 x (List.mem_of_getElem? hx))) ?_|refine bw (cj (by omega) (by have:=(List.getElem?_eq_some_iff.1 hx).1;omega)) ?_|refine aZ (q+1) (Sv.aK [0]) ⟨by have:=(List.getElem?_eq_some_iff.1 hx).1;omega,by rw[oF jQ hx,he,gu];simpa using h⟩ (by have:=(List.getElem?_eq_some_iff.1 hx).1;omega)|refine bq ?_|refine eG ?_|(have cu:¬jQ x=0:=(by simpa using h);have oT:=Bq hx he cu;refine cF ?_;clear he hq hx;rw[qJ];simp_all [aF];done)|(have oT:=Bj (f:=jQ) (l:=c.cD) (by simp at h;omega) he;refine cF ?_;clear he hq h;rw[qJ];simp_all [aF];done)
theorem Ou [Wd] (c:cX) (hc:fP.ok c):aq prog 272 [.agg (bU c)] (.int .i64 (ir c)):=by
 refine ak 10 [(1,⟨[(0,false),(2,false),(3,false),(1,true),(4,true),(5,true),(6,true),(7,false)],[]⟩)] func272 ?_
 repeat' (conv=>arg 2;whnf);first|refine okF (abf c hc) ?_|refine okF (lu c.sign) ?_|refine okF (mY [qJ c,dw c.sign] (by simp)) ?_|refine cF (Kr c).symm
theorem Y6 [Wd] (x:gq) (hx:jx.ok x):aq prog 310 [.agg (dV x)] (.int .i64 (mM x)):=by
 refine ak 17 [(1,⟨[(0,false),(1,false),(3,false),(4,false),(6,false),(7,false),(9,false),(10,false),(2,true),(5,true),(8,true),(11,true),(12,true),(13,true),(14,false)],[]⟩)] func310 ?_
 repeat' (conv=>arg 2;whnf);first|refine okF (rD _) ?_|refine okF (zU _) ?_|refine okF (vB x.batch hx.2.2.1) ?_|refine okF (lu x.sign) ?_|refine okF (mY [cP x.view,gd x.seq,fA x.batch,dw x.sign] (by simp)) ?_|refine cF (Y5 x).symm
theorem Xr [Wd] (h:j7):aq prog 312 [.agg (eO h)] (.int .i64 (mN h)):=by
 refine ak 20 [(1,⟨[(0,false),(1,false),(3,false),(4,false),(6,false),(7,false),(9,false),(10,false),(12,false),(13,false),(2,true),(5,true),(8,true),(11,true),(14,true),(15,true),(16,true),(17,false)],[]⟩)] func312 ?_
 repeat' (conv=>arg 2;whnf);first|refine okF (rD _) ?_|refine okF (zU _) ?_|refine okF (mY [gd h.seq,cP h.prev,cP h.batch,cP h.root,cP h.state] (by simp)) ?_|refine cF (abe h).symm
theorem Y7 [Wd] (p:jX) (hp:jY.ok p):aq prog 276 [.agg (jv p)] (.int .i64 (mB p)):=by
 have HL:p.headers.length<=4194304:=hp.2.2.2.1.1
 have PO:p.path.length<=4194304:=hp.2.2.2.2.2.2.1.1
 refine ak 85 [(1,⟨[(0,false),(1,false),(3,false),(4,false),(6,false),(7,false),(8,false),(10,false),(11,false),(12,false),(2,true),(5,true),(9,true),(13,true),(14,true),(15,true),(16,false)],[]⟩),(10,⟨[(0,false),(1,false),(3,false),(4,false),(2,true),(5,true),(6,true),(7,true),(8,false)],[]⟩)] func276 ?_
 repeat' (conv=>arg 2;whnf);first|apply an<;>intro h|refine okF (Qr p.av hp.1) ?_|refine okF (rD _) ?_|refine okF (wj _ _ _) ?_|refine okF (mY [mh p.av,cP p.offset,cQ ((p.record.map af).length:Int) 0 64,cQ ((p.headers.map eO).length:Int) 0 64] (by simp)) ?_|(refine cF ?_;rw[Br];simp only[List.length_map] at*;simp_all [aF];done)
 refine bE (α:=Nat) (fun q=>⟨[(4,.int .i64 q),(1,.ptr 0 0)],[.cells 55 (jv p)]⟩) (fun q=>q<=p.headers.length/\bG mN (p.headers.take q)=0) (fun q=>p.headers.length-q) 0 ⟨Nat.zero_le _,rfl⟩ (Sv.aK [0]) ?_
 rintro q ⟨hq,he⟩
 repeat' (conv=>arg 2;whnf);first|apply an<;>intro h|refine cK (l:=p.headers) (by simp at h;omega) (fun x hx=>?_)|refine okF (Xr x) ?_|refine bw (cj (by omega) (by have:=(List.getElem?_eq_some_iff.1 hx).1;omega)) ?_|refine aZ (q+1) (Sv.aK [0]) ⟨by have:=(List.getElem?_eq_some_iff.1 hx).1;omega,by rw[oF mN hx,he,gu];simpa using h⟩ (by have:=(List.getElem?_eq_some_iff.1 hx).1;omega)|refine bq ?_|refine eG ?_|(have cu:¬mN x=0:=(by simpa using h);have oT:=Bq hx he cu;refine cF ?_;clear he hq hx;rw[Br];simp only[List.length_map] at*;simp_all [aF];done)
 have oT:bG mN p.headers=0:=Bj (by simp at h;omega) he
 clear he hq h
 by_cases h1:bG id [cP p.index,cQ p.count 0 16]=0
 rotate_left
 ·repeat'
   (conv=>arg 2;whnf)
   first|apply an<;>intro h|refine okF (rD _) ?_|refine okF (wj _ _ _) ?_|refine okF (mY [cP p.index,cQ p.count 0 16] (by simp)) ?_|(refine cF ?_;rw[Br];simp only[List.length_map] at*;simp_all [aF];done)
  all_goals (exfalso;simp_all;done)
 have z:0<=p.index:=by
  simp only[bG,id,bQ] at h1
  exact(uy h1.1).1
 have hr:cQ p.index 0 (p.count-1)=if p.count<=p.index then 100 else 0:=by
  unfold cQ
  split<;>split<;>first|rfl|omega
 repeat' (conv=>arg 2;whnf);first|apply an<;>intro h|refine okF (rD _) ?_|refine okF (wj _ _ _) ?_|refine okF (mY [cP p.index,cQ p.count 0 16] (by simp)) ?_|(refine cF ?_;rw[Br];simp only[List.length_map] at*;simp_all [aF,uz];done)
 have h8:¬p.count<=p.index/\¬8<p.path.length:=by simp_all;omega
 rw[if_neg h8.1] at hr
 refine bE (α:=Nat) (fun q=>⟨[(7,.int .i64 q),(1,.ptr 0 0)],[.cells 55 (jv p)]⟩) (fun q=>q<=p.path.length/\bG cP (p.path.take q)=0) (fun q=>p.path.length-q) 0 ⟨Nat.zero_le _,rfl⟩ (Sv.aK [0]) ?_
 rintro q ⟨hq,he⟩
 repeat' (conv=>arg 2;whnf);first|apply an<;>intro h|refine cK (l:=p.path) (by simp at h;omega) (fun x hx=>?_)|refine okF (rD _) ?_|refine okF (J3 p.cert hp.2.2.2.2.2.2.2) ?_|refine bw (cj (by omega) (by have:=(List.getElem?_eq_some_iff.1 hx).1;omega)) ?_|refine aZ (q+1) (Sv.aK [0]) ⟨by have:=(List.getElem?_eq_some_iff.1 hx).1;omega,by rw[oF cP hx,he,gu];simpa using h⟩ (by have:=(List.getElem?_eq_some_iff.1 hx).1;omega)|refine eG ?_|(have cu:¬cP x=0:=(by simpa using h);have rT:=Bq hx he cu;refine cF ?_;clear he hq hx;rw[Br];simp only[List.length_map] at*;simp_all [aF,uz];done)|(have rT:=Bj (f:=cP) (l:=p.path) (by simp at h;omega) he;refine cF ?_;clear he hq h;rw[Br];simp only[List.length_map] at*;simp_all [aF,uz];done)
theorem acO [Wd] (m:aD) (hm:bh.ok m):aq prog 273 [.agg (aC m)] (.int .i64 (aF (iP m) (dw m.sign))):=by
 have HL:m.changes.length<=4194304:=hm.2.2.2.2.2.2.2.2.2.2.1.1
 have PO:m.entries.length<=4194304:=hm.2.2.2.2.2.2.2.2.2.2.2.1.1
 refine ak 62 [(1,⟨[(0,false),(1,false),(3,false),(4,false),(6,false),(7,false),(8,false),(2,true),(5,true),(9,true),(10,true),(11,true),(12,false)],[]⟩)] func273 ?_
 repeat' (conv=>arg 2;whnf);first|apply an<;>intro h|refine okF (yh _) ?_|refine okF (zU _) ?_|refine okF (wj _ _ _) ?_|refine okF (mY [ke m.src,gd m.view,cQ ((m.changes.map bU).length:Int) 0 13] (by simp)) ?_|(refine cF ?_;rw[Dy];simp only[List.length_map] at*;simp_all [aF];done)
 refine bE (α:=Nat) (fun q=>⟨[(4,.int .i64 q),(1,.ptr 0 0)],[.cells 59 (aC m)]⟩) (fun q=>q<=m.changes.length/\bG ir (m.changes.take q)=0) (fun q=>m.changes.length-q) 0 ⟨Nat.zero_le _,rfl⟩ (Sv.aK [0]) ?_
 rintro q ⟨hq,he⟩
 repeat' (conv=>arg 2;whnf);first|apply an<;>intro h|refine cK (l:=m.changes) (by simp at h;omega) (fun x hx=>?_)|refine okF (Ou x (hm.2.2.2.2.2.2.2.2.2.2.1.2 x (List.mem_of_getElem? hx))) ?_|refine bw (cj (by omega) (by have:=(List.getElem?_eq_some_iff.1 hx).1;omega)) ?_|refine aZ (q+1) (Sv.aK [0]) ⟨by have:=(List.getElem?_eq_some_iff.1 hx).1;omega,by rw[oF ir hx,he,gu];simpa using h⟩ (by have:=(List.getElem?_eq_some_iff.1 hx).1;omega)|refine eG ?_|(have cu:¬ir x=0:=(by simpa using h);have oT:=Bq hx he cu;refine cF ?_;clear he hq hx;rw[Dy];simp only[List.length_map] at*;simp_all [aF];done)
 all_goals rename_i Ei;have oT:bG ir m.changes=0:=Bj (by simp at Ei;omega) he;clear he hq Ei
 ·repeat' (conv=>arg 2;whnf);first|(refine cF ?_;rw[Dy];simp only[List.length_map] at*;simp_all [aF,uz];done)
 have h8:¬(8:Int)<(m.entries.length:Int):=by simp at h;omega
 clear h
 refine bE (α:=Nat) (fun q=>⟨[(6,.int .i64 q),(1,.ptr 0 0)],[.cells 59 (aC m)]⟩) (fun q=>q<=m.entries.length/\bG mM (m.entries.take q)=0) (fun q=>m.entries.length-q) 0 ⟨Nat.zero_le _,rfl⟩ (Sv.aK [0]) ?_
 rintro q ⟨hq,he⟩
 repeat' (conv=>arg 2;whnf);first|apply an<;>intro h|refine cK (l:=m.entries) (by simp at h;omega) (fun x hx=>?_)|refine okF (Y6 x (hm.2.2.2.2.2.2.2.2.2.2.2.1.2 x (List.mem_of_getElem? hx))) ?_|refine okF (lu m.sign) ?_|refine bw (cj (by omega) (by have:=(List.getElem?_eq_some_iff.1 hx).1;omega)) ?_|refine aZ (q+1) (Sv.aK [0]) ⟨by have:=(List.getElem?_eq_some_iff.1 hx).1;omega,by rw[oF mM hx,he,gu];simpa using h⟩ (by have:=(List.getElem?_eq_some_iff.1 hx).1;omega)|refine eG ?_|(have cu:¬mM x=0:=(by simpa using h);have rT:=Bq hx he cu;refine cF ?_;clear he hq hx;rw[Dy];simp only[List.length_map] at*;simp_all [aF,uz];done)|(have rT:=Bj (f:=mM) (l:=m.entries) (by simp at h;omega) he;refine cF ?_;clear he hq h;rw[Dy];simp only[List.length_map] at*;simp_all [aF,uz];done)
theorem eP {m:aD} {k:Int} (h:m.kind=k):{m with kind:=k}=m:=by subst h;rfl
theorem Y8 [Wd] (m:aD):aq prog 218 [.agg (aC {m with kind:=1})] (.agg (aC (aH {m with kind:=1}))):=by
 refine ak 146 [] func218 ?_
 repeat' (conv=>arg 2;whnf);first|refine j5 rfl (aa.eU ?_)
 all_goals simp[aH,bW,aC,aE,dx,me,nk,oJ]
 all_goals (repeat' first|exact aa.nil|exact Co.refl _|exact Co.nil _|refine aa.cons ?_ ?_)
theorem Y9 [Wd] (m:aD):aq prog 218 [.agg (aC {m with kind:=2})] (.agg (aC (aH {m with kind:=2}))):=by
 refine ak 146 [] func218 ?_
 repeat' (conv=>arg 2;whnf);first|refine j5 rfl (aa.eU ?_)
 all_goals simp[aH,bW,aC,aE,dx,me,nk,oJ]
 all_goals (repeat' first|exact aa.nil|exact Co.refl _|exact Co.nil _|refine aa.cons ?_ ?_)
theorem Za [Wd] (m:aD):aq prog 218 [.agg (aC {m with kind:=3})] (.agg (aC (aH {m with kind:=3}))):=by
 refine ak 146 [] func218 ?_
 repeat' (conv=>arg 2;whnf);first|refine j5 rfl (aa.eU ?_)
 all_goals simp[aH,bW,aC,aE,dx,me,nk,oJ]
 all_goals (repeat' first|exact aa.nil|exact Co.refl _|exact Co.nil _|refine aa.cons ?_ ?_)
theorem Zb [Wd] (m:aD):aq prog 218 [.agg (aC {m with kind:=4})] (.agg (aC (aH {m with kind:=4}))):=by
 refine ak 146 [] func218 ?_
 repeat' (conv=>arg 2;whnf);first|refine j5 rfl (aa.eU ?_)
 all_goals simp[aH,bW,aC,aE,dx,me,nk,oJ]
 all_goals (repeat' first|exact aa.nil|exact Co.refl _|exact Co.nil _|refine aa.cons ?_ ?_)
theorem Zc [Wd] (m:aD):aq prog 218 [.agg (aC {m with kind:=5})] (.agg (aC (aH {m with kind:=5}))):=by
 refine ak 146 [] func218 ?_
 repeat' (conv=>arg 2;whnf);first|refine j5 rfl (aa.eU ?_)
 all_goals simp[aH,bW,aC,aE,dx,me,nk,oJ]
 all_goals (repeat' first|exact aa.nil|exact Co.refl _|exact Co.nil _|refine aa.cons ?_ ?_)
theorem Zd [Wd] (m:aD):aq prog 218 [.agg (aC {m with kind:=6})] (.agg (aC (aH {m with kind:=6}))):=by
 refine ak 146 [] func218 ?_
 repeat' (conv=>arg 2;whnf);first|refine j5 rfl (aa.eU ?_)
 all_goals simp[aH,bW,aC,aE,dx,me,nk,oJ]
 all_goals (repeat' first|exact aa.nil|exact Co.refl _|exact Co.nil _|refine aa.cons ?_ ?_)
theorem Ze [Wd] (m:aD):aq prog 218 [.agg (aC {m with kind:=7})] (.agg (aC (aH {m with kind:=7}))):=by
 refine ak 146 [] func218 ?_
 repeat' (conv=>arg 2;whnf);first|refine j5 rfl (aa.eU ?_)
 all_goals simp[aH,bW,aC,aE,dx,me,nk,oJ]
 all_goals (repeat' first|exact aa.nil|exact Co.refl _|exact Co.nil _|refine aa.cons ?_ ?_)
theorem Zf [Wd] (m:aD):aq prog 218 [.agg (aC {m with kind:=8})] (.agg (aC (aH {m with kind:=8}))):=by
 refine ak 146 [] func218 ?_
 repeat' (conv=>arg 2;whnf);first|refine j5 rfl (aa.eU ?_)
 all_goals simp[aH,bW,aC,aE,dx,me,nk,oJ]
 all_goals (repeat' first|exact aa.nil|exact Co.refl _|exact Co.nil _|refine aa.cons ?_ ?_)
theorem Zg [Wd] (m:aD):aq prog 218 [.agg (aC {m with kind:=9})] (.agg (aC (aH {m with kind:=9}))):=by
 refine ak 146 [] func218 ?_
 repeat' (conv=>arg 2;whnf);first|refine j5 rfl (aa.eU ?_)
 all_goals simp[aH,bW,aC,aE,dx,me,nk,oJ]
 all_goals (repeat' first|exact aa.nil|exact Co.refl _|exact Co.nil _|refine aa.cons ?_ ?_)
theorem Xt [Wd] (m:aD):aq prog 218 [.agg (aC {m with kind:=10})] (.agg (aC (aH {m with kind:=10}))):=by
 refine ak 146 [] func218 ?_
 repeat' (conv=>arg 2;whnf);first|refine j5 rfl (aa.eU ?_)
 all_goals simp[aH,bW,aC,aE,dx,me,nk,oJ]
 all_goals (repeat' first|exact aa.nil|exact Co.refl _|exact Co.nil _|refine aa.cons ?_ ?_)
theorem Xu [Wd] (m:aD):aq prog 218 [.agg (aC {m with kind:=11})] (.agg (aC (aH {m with kind:=11}))):=by
 refine ak 146 [] func218 ?_
 repeat' (conv=>arg 2;whnf);first|refine j5 rfl (aa.eU ?_)
 all_goals simp[aH,bW,aC,aE,dx,me,nk,oJ]
 all_goals (repeat' first|exact aa.nil|exact Co.refl _|exact Co.nil _|refine aa.cons ?_ ?_)
theorem Xv [Wd] (m:aD):aq prog 218 [.agg (aC {m with kind:=12})] (.agg (aC (aH {m with kind:=12}))):=by
 refine ak 146 [] func218 ?_
 repeat' (conv=>arg 2;whnf);first|refine j5 rfl (aa.eU ?_)
 all_goals simp[aH,bW,aC,aE,dx,me,nk,oJ]
 all_goals (repeat' first|exact aa.nil|exact Co.refl _|exact Co.nil _|refine aa.cons ?_ ?_)
theorem J4 [Wd] (m:aD) (e:Int):aq prog 266 [.agg (aC m),.int .i64 e] (.int .i64 (bG id [ke m.src,cP m.view,gd m.seq,gd m.ah,e,dw m.sign])):=by
 refine ak 23 [(1,⟨[(0,false),(1,false),(3,false),(4,false),(6,false),(7,false),(9,false),(10,false),(12,false),(13,false),(14,false),(2,true),(5,true),(8,true),(11,true),(15,true),(16,true),(17,true),(18,false)],[]⟩)] func266 ?_
 repeat' (conv=>arg 2;whnf);first|refine okF (yh _) ?_|refine okF (rD _) ?_|refine okF (zU _) ?_|refine okF (lu m.sign) ?_|refine okF (mY [ke m.src,cP m.view,gd m.seq,gd m.ah,e,dw m.sign] (by simp)) ?_|refine cF rfl
def qK:List (Nat×tE):=[(13,⟨[(0,false),(1,false),(3,false),(4,false),(6,false),(7,false),(9,false),(10,false),(12,false),(13,false),(14,false),(16,false),(17,false),(18,false),(20,false),(2,true),(5,true),(8,true),(11,true),(15,true),(19,true),(21,true),(22,true),(23,false)],[]⟩),(15,⟨[(0,false),(1,false),(3,false),(4,false),(6,false),(7,false),(9,false),(2,true),(5,true),(8,true),(10,true),(11,true),(12,false)],[]⟩),(28,⟨[(0,false),(1,false),(3,false),(4,false),(6,false),(2,true),(5,true),(7,true),(8,true),(9,false)],[]⟩),(30,⟨[(0,false),(1,false),(3,false),(4,false),(6,false),(7,false),(8,false),(2,true),(5,true),(9,true),(10,true),(11,true),(12,false)],[]⟩),(32,⟨[(0,false),(1,false),(3,false),(4,false),(6,false),(7,false),(2,true),(5,true),(8,true),(9,true),(10,true),(11,false)],[]⟩),(34,⟨[(0,false),(1,false),(3,false),(4,false),(2,true),(5,true),(6,true),(7,true),(8,false)],[]⟩)]
theorem Xw [Wd] (m:aD) (hm:bh.ok m):aq prog 217 [.agg (aC {m with kind:=1})] (.int .i64 (eX {m with kind:=1})):=by
 refine ak 154 qK func217 ?_
 repeat' (conv=>arg 2;whnf);first|apply an<;>intro h|refine okF (lu m.sign) ?_|refine okF (vB m.batch hm.2.2.2.2.2.2.2.2.1) ?_|(refine cF ?_;simp_all [eX,bP,bW,cQ,aF];done)|(refine cF ?_;simp_all [eX,bP,bW,cQ,aF];omega)
theorem Xx [Wd] (m:aD) (hm:bh.ok m):aq prog 217 [.agg (aC {m with kind:=2})] (.int .i64 (eX {m with kind:=2})):=by
 refine ak 154 qK func217 ?_
 repeat' (conv=>arg 2;whnf);first|refine okF (lu m.sign) ?_|refine okF (vB m.batch hm.2.2.2.2.2.2.2.2.1) ?_|refine okF (J4 {m with kind:=2} (fA m.batch)) ?_|(refine cF ?_;simp[eX,bP,bW,bG,eZ,gH,gI];done)
theorem Xy [Wd] (m:aD) (hm:bh.ok m):aq prog 217 [.agg (aC {m with kind:=3})] (.int .i64 (eX {m with kind:=3})):=by
 refine ak 154 qK func217 ?_
 repeat' (conv=>arg 2;whnf);first|refine okF (lu m.sign) ?_|refine okF (J4 {m with kind:=3} 0) ?_|(refine cF ?_;simp[eX,bP,bW,bG,eZ,gH,gu,gI];done)
theorem Xz [Wd] (m:aD) (hm:bh.ok m):aq prog 217 [.agg (aC {m with kind:=4})] (.int .i64 (eX {m with kind:=4})):=by
 refine ak 154 qK func217 ?_
 repeat' (conv=>arg 2;whnf);first|refine okF (lu m.sign) ?_|refine okF (J4 {m with kind:=4} 0) ?_|(refine cF ?_;simp[eX,bP,bW,bG,eZ,gH,gu,gI];done)
theorem XA [Wd] (m:aD) (hm:bh.ok m):aq prog 217 [.agg (aC {m with kind:=5})] (.int .i64 (eX {m with kind:=5})):=by
 refine ak 154 qK func217 ?_
 repeat' (conv=>arg 2;whnf);first|refine okF (lu m.sign) ?_|refine okF (yh _) ?_|refine okF (rD _) ?_|refine okF (wj _ _ _) ?_|refine okF (mY [ke m.src,cP m.view,cQ m.bD 0 7,cP m.time,cQ m.result.err 0 65536,cP m.result.offset,dw m.sign] (by simp)) ?_|(refine cF ?_;simp[eX,bP,bW,bG,eZ,gH];done)
theorem XB [Wd] (m:aD) (hm:bh.ok m):aq prog 217 [.agg (aC {m with kind:=6})] (.int .i64 (eX {m with kind:=6})):=by
 refine ak 154 qK func217 ?_
 repeat' (conv=>arg 2;whnf);first|refine okF (lu m.sign) ?_|refine okF (yh _) ?_|refine okF (zU _) ?_|refine okF (mY [ke m.src,gd m.seq,gd m.ah,dw m.sign] (by simp)) ?_|(refine cF ?_;simp[eX,bP,bW,bG,eZ,gH];done)
theorem XC [Wd] (m:aD) (hm:bh.ok m):aq prog 217 [.agg (aC {m with kind:=8})] (.int .i64 (eX {m with kind:=8})):=by
 have hk:bh.ok {m with kind:=8}:=by
  rw[ym] at hm ⊢
  exact⟨(show-9223372036854775808<=(8:Int)/\(8:Int)<=9223372036854775807 by omega),hm.2⟩
 refine ak 154 qK func217 ?_
 repeat' (conv=>arg 2;whnf);first|refine okF (lu m.sign) ?_|refine okF (acO {m with kind:=8} hk) ?_|(refine cF ?_;simp[eX,bP,bW,eZ,iP];done)
theorem XD [Wd] (m:aD) (hm:bh.ok m):aq prog 217 [.agg (aC {m with kind:=9})] (.int .i64 (eX {m with kind:=9})):=by
 refine ak 154 qK func217 ?_
 repeat' (conv=>arg 2;whnf);first|refine okF (lu m.sign) ?_|refine okF (yh _) ?_|refine okF (rD _) ?_|refine okF (mY [ke m.src,cP m.seq,dw m.sign] (by simp)) ?_|(refine cF ?_;simp[eX,bP,bW,bG,eZ,gH];done)
theorem Wl [Wd] (m:aD) (hm:bh.ok m):aq prog 217 [.agg (aC {m with kind:=10})] (.int .i64 (eX {m with kind:=10})):=by
 refine ak 154 qK func217 ?_
 repeat' (conv=>arg 2;whnf);first|refine okF (lu m.sign) ?_|refine okF (yh _) ?_|refine okF (J3 m.cert hm.2.2.2.2.2.2.2.2.2.1) ?_|refine okF (wj _ _ _) ?_|refine okF (mY [ke m.src,jl m.cert,cQ ((m.state.map af).length:Int) 0 262144] (by simp)) ?_|(refine cF ?_;simp[eX,bP,bW,bG,gH,jd];done)
theorem Wm [Wd] (m:aD) (hm:bh.ok m):aq prog 217 [.agg (aC {m with kind:=11})] (.int .i64 (eX {m with kind:=11})):=by
 refine ak 154 qK func217 ?_
 repeat' (conv=>arg 2;whnf);first|refine okF (lu m.sign) ?_|refine okF (wj _ _ _) ?_|refine okF (Qr m.av hm.2.2.2.2.2.2.2.2.2.2.2.2.2.1) ?_|refine okF (rD _) ?_|refine okF (mY [cQ m.bD 0 7,mh m.av,cP m.offset] (by simp)) ?_|(refine cF ?_;simp[eX,bP,bW,bG,gH];done)
theorem Wn [Wd] (m:aD) (hm:bh.ok m):aq prog 217 [.agg (aC {m with kind:=12})] (.int .i64 (eX {m with kind:=12})):=by
 refine ak 154 qK func217 ?_
 repeat' (conv=>arg 2;whnf);first|refine okF (lu m.sign) ?_|refine okF (yh _) ?_|refine okF (Y7 m.proof hm.2.2.2.2.2.2.2.2.2.2.2.2.2.2.2.1) ?_|refine okF (mY [ke m.src,mB m.proof] (by simp)) ?_|(refine cF ?_;simp[eX,bP,bW,bG,gH];done)
theorem Wo [Wd] (m:aD) (hm:bh.ok m) (hc:¬m.changes.length=1):aq prog 217 [.agg (aC {m with kind:=7})] (.int .i64 (eX {m with kind:=7})):=by
 refine ak 154 qK func217 ?_
 repeat' (conv=>arg 2;whnf);first|apply an<;>intro h|refine okF (lu m.sign) ?_|(refine cF ?_;have e:cQ (m.changes.length:Int) 1 1=100:=(by unfold cQ;rw[if_pos (by omega)]);simp[eX,bP,e,aF];done)|(exfalso;simp at*;omega)
theorem Wp [Wd] (m:aD) (hm:bh.ok m) (c:cX) (hc:m.changes=[c]):aq prog 217 [.agg (aC {m with kind:=7})] (.int .i64 (eX {m with kind:=7})):=by
 have LM:fP.ok c:=hm.2.2.2.2.2.2.2.2.2.2.1.2 c (by show c∈m.changes;rw[hc];simp)
 have sh:eX {m with kind:=7}=aF (ir c) (if c.src≠m.src\/c.view≠m.view then 100 else 0):=by
  simp[eX,bP,bW,gH,hc,bG,rK,cQ,gu]
 refine ak 154 qK func217 ?_
 repeat' (conv=>arg 2;whnf);first|apply an<;>intro h|refine okF (lu m.sign) ?_|refine eT (bU c) (by decide) (by simp[hc]) ?_|refine okF (Ou c LM) ?_|(refine cF ?_;rw[sh];simp_all [aF];done)|(refine cF ?_;rw[sh];simp_all [aF];omega)
theorem XE [Wd] (m:aD) (hm:bh.ok m):aq prog 217 [.agg (aC {m with kind:=7})] (.int .i64 (eX {m with kind:=7})):=by
 by_cases hc:m.changes.length=1
 ·obtain⟨c,hc⟩:=sM hc
  exact Wp m hm c hc
 ·exact Wo m hm hc
theorem XF [Wd] (m:aD) (hm:bh.ok m) (hk:m.kind<1\/12<m.kind):aq prog 217 [.agg (aC m)] (.int .i64 (eX m)):=by
 have e:eX m=100:=by
  have h:bP m=100:=by
   unfold bP
   rw[if_neg (by omega),if_neg (by omega),if_neg (by omega),if_neg (by omega),if_neg (by omega),if_neg (by omega),if_neg (by omega),if_neg (by omega),if_neg (by omega),if_neg (by omega),if_neg (by omega),if_neg (by omega)]
  unfold eX
  rw[h]
  rfl
 refine ak 154 qK func217 ?_
 repeat' (conv=>arg 2;whnf);first|apply an<;>intro h|refine okF (lu m.sign) ?_|refine cF e.symm|(exfalso;simp at h;omega)|(exfalso;simp at*;omega)
theorem Pk [Wd] (m:aD) (hm:bh.ok m):aq prog 217 [.agg (aC m)] (.int .i64 (eX m)):=by
 by_cases k1:m.kind=1
 ·have h:=Xw m hm;rw[eP k1] at h;exact h
 by_cases k2:m.kind=2
 ·have h:=Xx m hm;rw[eP k2] at h;exact h
 by_cases k3:m.kind=3
 ·have h:=Xy m hm;rw[eP k3] at h;exact h
 by_cases k4:m.kind=4
 ·have h:=Xz m hm;rw[eP k4] at h;exact h
 by_cases k5:m.kind=5
 ·have h:=XA m hm;rw[eP k5] at h;exact h
 by_cases k6:m.kind=6
 ·have h:=XB m hm;rw[eP k6] at h;exact h
 by_cases k7:m.kind=7
 ·have h:=XE m hm;rw[eP k7] at h;exact h
 by_cases k8:m.kind=8
 ·have h:=XC m hm;rw[eP k8] at h;exact h
 by_cases k9:m.kind=9
 ·have h:=XD m hm;rw[eP k9] at h;exact h
 by_cases ud:m.kind=10
 ·have h:=Wl m hm;rw[eP ud] at h;exact h
 by_cases oU:m.kind=11
 ·have h:=Wm m hm;rw[eP oU] at h;exact h
 by_cases ue:m.kind=12
 ·have h:=Wn m hm;rw[eP ue] at h;exact h
 exact XF m hm (by omega)
theorem abg [Wd] (m:aD) (hk:1<=m.kind/\m.kind<=12):aq prog 218 [.agg (aC m)] (.agg (aC (aH m))):=by
 by_cases k1:m.kind=1
 ·have h:=Y8 m;rw[eP k1] at h;exact h
 by_cases k2:m.kind=2
 ·have h:=Y9 m;rw[eP k2] at h;exact h
 by_cases k3:m.kind=3
 ·have h:=Za m;rw[eP k3] at h;exact h
 by_cases k4:m.kind=4
 ·have h:=Zb m;rw[eP k4] at h;exact h
 by_cases k5:m.kind=5
 ·have h:=Zc m;rw[eP k5] at h;exact h
 by_cases k6:m.kind=6
 ·have h:=Zd m;rw[eP k6] at h;exact h
 by_cases k7:m.kind=7
 ·have h:=Ze m;rw[eP k7] at h;exact h
 by_cases k8:m.kind=8
 ·have h:=Zf m;rw[eP k8] at h;exact h
 by_cases k9:m.kind=9
 ·have h:=Zg m;rw[eP k9] at h;exact h
 by_cases ud:m.kind=10
 ·have h:=Xt m;rw[eP ud] at h;exact h
 by_cases oU:m.kind=11
 ·have h:=Xu m;rw[eP oU] at h;exact h
 by_cases ue:m.kind=12
 ·have h:=Xv m;rw[eP ue] at h;exact h
 omega
theorem zA [Wd] (m:aD) (hm:bh.ok m):aq prog 161 [.agg (aC m)] (.int .i64 (eC m)):=by
 by_cases h0:eX m=0
 ·have hk:1<=m.kind/\m.kind<=12:=yd (nG h0)
  refine ak 14 [] func161 ?_
  repeat' (conv=>arg 2;whnf);first|apply an<;>intro h|refine okF (Pk m hm) ?_|refine okF (abg m hk) ?_|refine okF (Rp m (aH m) hm (Qn hm)) ?_|(refine cF ?_;rw[Jp];simp_all;done)
 ·refine ak 14 [] func161 ?_
  repeat' (conv=>arg 2;whnf);first|apply an<;>intro h|refine okF (Pk m hm) ?_|(refine cF ?_;rw[Jp];simp_all;done)|(exfalso;simp[h0] at h;done)
theorem gW (l:List Int):(aN l).length<=10*l.length:=by
 have:=lz (f:=aJ) (K:=10) l (fun x _=>fG x)
 unfold aN
 omega
theorem ij [Wd] (bs:List UInt8) (l:List Int) (h9:l.length<=9) (hl:bs.length+1000<=aL):aq prog 164 [.list 1 (bs.map af),.list 1 (l.map eD)] (.list 1 ((bs++aN l).map af)):=by
 have HL:l.length<=4194304:=by omega
 refine ak 20 [] func164 ?_
 repeat' (conv=>arg 2;whnf);first|refine aY ?_
 refine bE (α:=Nat×List UInt8) (fun a=>⟨[(5,.int .i64 a.1),(1,.list 1 (l.map eD)),(0,.list 1 (a.2.map af))],[]⟩) (fun a=>a.1<=l.length/\a.2=bs++(l.take a.1).flatMap (aJ)) (fun a=>l.length-a.1) (0,bs) ⟨Nat.zero_le _,by simp⟩ (Sv.aK []) ?_
 rintro⟨q,b2⟩ ⟨hq,he⟩
 replace hq:q<=l.length:=hq
 replace he:b2=bs++(l.take q).flatMap (aJ):=he
 have p6:=lz (f:=aJ) (K:=10) (l.take q) (fun x _=>fG x)
 have p7:(l.take q).length<=9:=by rw[List.length_take];omega
 have eJ:b2.length+200<=aL:=by rw[he,List.length_append];omega
 repeat' (conv=>arg 2;whnf);first|apply an<;>intro h|refine cK (l:=l) (by simp at h;omega) (fun x hx=>?_)|refine bw (cj (by simp at h hq;omega) (by have:=HL;simp at h hq;omega)) ?_|refine lD ?_|refine okF (mI b2 x (by omega)) ?_|refine aZ (q+1,b2++aJ x) (Sv.aK []) ⟨by have:=(List.getElem?_eq_some_iff.1 hx).1;show q+1<=l.length;omega,by show b2++aJ x=_;rw[sH hx,<-List.append_assoc,<-he]⟩ (by have:=(List.getElem?_eq_some_iff.1 hx).1;show l.length-(q+1)<l.length-q;omega)|refine bq ?_|(refine kf (.inr rfl) rfl ?_;rw[he,show l.take q=l from List.take_of_length_le (by simp at h;omega)];rfl)
theorem acP {l:List bJ} (h:lQ l=0):l.length<=13:=by
 have:=pL (bQ.1 h).1
 omega
theorem ad6 {c:gX} (h:jl c=0):lQ c.cM=0:=by
 unfold jl at h
 exact(bQ.1 (bQ.1 (bQ.1 h).2).2).2
theorem NJ [Wd] (bs:List UInt8) (l:List bJ) (h0:lQ l=0) (hl:bs.length+3000<=aL):aq prog 222 [.list 1 (bs.map af),.list 2 (l.map bL)] (.list 1 ((bs++rB l).map af)):=by
 have rS:=acP h0
 have HL:l.length<=4194304:=by omega
 have n1:=gW [((l.map bL).length:Int)]
 simp only[List.length_cons,List.length_nil] at n1
 refine ak 24 [] func222 ?_
 repeat' (conv=>arg 2;whnf);first|refine okF (ij _ [((l.map bL).length:Int)] (by simp) (by(try simp only[List.length_append,List.length_nil]);omega)) ?_
 refine bE (α:=Nat×List UInt8) (fun a=>⟨[(5,.int .i64 a.1),(1,.list 2 (l.map bL)),(0,.list 1 (a.2.map af))],[]⟩) (fun a=>a.1<=l.length/\a.2=bs++aN [((l.map bL).length:Int)]++(l.take a.1).flatMap (cG)) (fun a=>l.length-a.1) (0,bs++aN [((l.map bL).length:Int)]) ⟨Nat.zero_le _,by simp⟩ (Sv.aK []) ?_
 rintro⟨q,b2⟩ ⟨hq,he⟩
 replace hq:q<=l.length:=hq
 replace he:b2=bs++aN [((l.map bL).length:Int)]++(l.take q).flatMap (cG):=he
 have p6:=lz (f:=cG) (K:=20) (l.take q) (fun s _=>vE s)
 have p7:(l.take q).length<=13:=by rw[List.length_take];omega
 have eJ:b2.length+300<=aL:=by rw[he];simp only[List.length_append];omega
 repeat' (conv=>arg 2;whnf);first|apply an<;>intro h|refine cK (l:=l) (by simp at h;omega) (fun x hx=>?_)|refine bw (cj (by simp at h hq;omega) (by have:=HL;simp at h hq;omega)) ?_|refine okF (wN b2 x (by omega)) ?_|refine aZ (q+1,b2++cG x) (Sv.aK []) ⟨by have:=(List.getElem?_eq_some_iff.1 hx).1;show q+1<=l.length;omega,by show b2++cG x=_;rw[sH hx,<-List.append_assoc,<-he]⟩ (by have:=(List.getElem?_eq_some_iff.1 hx).1;show l.length-(q+1)<l.length-q;omega)|refine bq ?_|(refine kf (.inr rfl) rfl ?_;rw[he,show l.take q=l from List.take_of_length_le (by simp at h;omega)];simp[rB,aN,List.append_assoc];done)
theorem II [Wd] (bs:List UInt8) (c:gX) (h0:jl c=0) (hl:bs.length+4000<=aL):aq prog 169 [.list 1 (bs.map af),.agg (mj c)] (.list 1 ((bs++lR c).map af)):=by
 have n1:=gW [c.seq,c.ah]
 simp only[List.length_cons,List.length_nil] at n1
 refine ak 15 [(1,⟨[(0,false),(1,false),(2,false),(3,false),(4,false),(7,false),(8,false),(5,true),(6,true),(9,true),(10,false)],[]⟩)] func169 ?_
 repeat' (conv=>arg 2;whnf);first|refine okF (ij _ [c.seq,c.ah] (by simp) (by(try simp only[List.length_append,List.length_nil]);omega)) ?_|refine okF (NJ _ c.cM (ad6 h0) (by(try simp only[List.length_append]);omega)) ?_|(refine kf (.inr rfl) rfl ?_;rw[lR,List.append_assoc];done)
theorem ad7 {c:cX} (h:qJ c=0):jl c.cert=0/\c.cD.length<=8/\∀p∈c.cD,jQ p=0:=by
 unfold qJ at h
 simp only[bQ,bG,id] at h
 refine⟨h.1.2.2.1,?_,gV.1 h.2.2⟩
 have:=h.2.1
 split at this
 ·cases this
 ·omega
theorem GL {p:jt} (h:jQ p=0):lQ p.cM=0:=by
 unfold jQ at h
 simp only[bQ] at h
 exact h.2.2.2.2.1
theorem NY [Wd] (bs:List UInt8) (c:cX) (hc:fP.ok c) (h0:qJ c=0) (hl:bs.length+400000000<=aL):aq prog 167 [.list 1 (bs.map af),.agg (bU c)] (.list 1 ((bs++jy c).map af)):=by
 obtain⟨z1,z2,z3⟩:=ad7 h0
 have HL:c.cD.length<=4194304:=by omega
 have n1:=gW [c.view,c.src]
 have n2:=CV z1
 have n3:=gW [((c.cD.map fk).length:Int)]
 simp only[List.length_cons,List.length_nil] at n1 n3
 refine ak 55 [(1,⟨[(0,false),(1,false),(2,false),(3,false),(4,false),(7,false),(8,false),(5,true),(6,true),(9,true),(10,false)],[]⟩),(7,⟨[(0,false),(1,false),(2,false),(3,false),(4,false),(5,false),(6,false),(9,false),(10,false),(7,true),(8,true),(11,true),(12,false)],[]⟩),(8,⟨[(0,false),(1,false),(2,false),(4,false),(5,false),(3,true),(6,true),(7,false)],[]⟩)] func167 ?_
 repeat' (conv=>arg 2;whnf);first|refine okF (ij _ [c.view,c.src] (by simp) (by(try simp only[List.length_append,List.length_nil]);omega)) ?_|refine okF (ij _ [((c.cD.map fk).length:Int)] (by simp) (by(try simp only[List.length_append]);omega)) ?_|refine okF (II _ c.cert z1 (by(try simp only[List.length_append]);omega)) ?_
 refine bE (α:=Nat×List UInt8) (fun a=>⟨[(5,.int .i64 a.1),(3,.ptr 0 0),(0,.list 1 (a.2.map af))],[.cells 145 (bU c)]⟩) (fun a=>a.1<=c.cD.length/\a.2=bs++aN [c.view,c.src]++lR c.cert++aN [((c.cD.map fk).length:Int)]++(c.cD.take a.1).flatMap (iJ)) (fun a=>c.cD.length-a.1) (0,bs++aN [c.view,c.src]++lR c.cert++aN [((c.cD.map fk).length:Int)]) ⟨Nat.zero_le _,by simp⟩ (Sv.aK [0]) ?_
 rintro⟨q,b2⟩ ⟨hq,he⟩
 replace hq:q<=c.cD.length:=hq
 replace he:b2=bs++aN [c.view,c.src]++lR c.cert++aN [((c.cD.map fk).length:Int)]++(c.cD.take q).flatMap (iJ):=he
 have p6:=lz (f:=iJ) (K:=5000) (c.cD.take q) (fun p hp=>Ov (z3 p (List.mem_of_mem_take hp)))
 have p7:(c.cD.take q).length<=8:=by rw[List.length_take];omega
 have eJ:b2.length+300010000<=aL:=by rw[he];simp only[List.length_append];omega
 repeat' (conv=>arg 2;whnf);first|apply an<;>intro h|refine cK (l:=c.cD) (by simp at h;omega) (fun x hx=>?_)|refine bw (cj (by simp at h hq;omega) (by have:=HL;simp at h hq;omega)) ?_|refine okF (ij b2 [x.view,x.seq,x.ah] (by simp) (by omega)) ?_|refine okF (wN _ x.kG (by have m1:=gW [x.view,x.seq,x.ah];have m2:=vE x.kG;have m3:=CS (GL (z3 x (List.mem_of_getElem? hx)));simp only[List.length_cons,List.length_nil] at m1;(try simp only[List.length_append]);omega)) ?_|refine okF (NJ _ x.cM (GL (z3 x (List.mem_of_getElem? hx))) (by have m1:=gW [x.view,x.seq,x.ah];have m2:=vE x.kG;have m3:=CS (GL (z3 x (List.mem_of_getElem? hx)));simp only[List.length_cons,List.length_nil] at m1;(try simp only[List.length_append]);omega)) ?_|refine okF (EX _ x.batch (hc.2.2.2.1.2 x (List.mem_of_getElem? hx)).2.2.2.2.2 (by have m1:=gW [x.view,x.seq,x.ah];have m2:=vE x.kG;have m3:=CS (GL (z3 x (List.mem_of_getElem? hx)));simp only[List.length_cons,List.length_nil] at m1;(try simp only[List.length_append]);omega)) ?_|refine aZ (q+1,b2++aN [x.view,x.seq,x.ah]++cG x.kG++rB x.cM++jM x.batch) (Sv.aK [0]) ⟨by have:=(List.getElem?_eq_some_iff.1 hx).1;show q+1<=c.cD.length;omega,by show b2++aN [x.view,x.seq,x.ah]++cG x.kG++rB x.cM++jM x.batch=_;rw[sH hx,<-List.append_assoc,<-he];simp[iJ]⟩ (by have:=(List.getElem?_eq_some_iff.1 hx).1;show c.cD.length-(q+1)<c.cD.length-q;omega)|refine bq ?_|(refine kf (.inr rfl) rfl ?_;rw[he,show c.cD.take q=c.cD from List.take_of_length_le (by simp at h;omega)];simp[jy,aN,List.append_assoc];done)
theorem Vc [Wd] (bs:List UInt8) (c:cX) (hc:fP.ok c) (h0:qJ c=0) (hl:bs.length+400100000<=aL) (h4:(jy c).length<=41000):aq prog 168 [.list 1 (bs.map af),.agg (bU c)] (.list 1 ((bs++fq c).map af)):=by
 refine ak 11 [(1,⟨[(0,false),(1,false),(3,false),(4,false),(2,true),(5,true),(6,false)],[]⟩)] func168 ?_
 repeat' (conv=>arg 2;whnf);first|refine okF (NY bs c hc h0 (by omega)) ?_|refine okF (wN _ c.sign (by rw[List.length_append];omega)) ?_|(refine kf (.inr rfl) rfl ?_;rw[fq,List.append_assoc];done)
theorem acQ {p:jX} (h:mB p=0):p.av.length<=64/\p.record.length<=64/\p.headers.length<=64/\p.path.length<=8/\jl p.cert=0:=by
 unfold mB at h
 simp only[bQ] at h
 obtain⟨h1,_,h3,h4,_,_,_,_,h9,_,iG⟩:=h
 have n3:=pL h3
 have n4:=pL h4
 have n9:=pL h9
 exact⟨zV h1,by omega,by omega,by omega,iG⟩
theorem abh (x:j7):(gZ x).length<=50:=by
 have:=gW [x.seq,x.prev,x.batch,x.root,x.state]
 simp at this
 unfold gZ
 omega
theorem VG [Wd] (bs:List UInt8) (p:jX) (hp:jY.ok p) (h0:mB p=0) (hl:bs.length+100000<=aL):aq prog 170 [.list 1 (bs.map af),.agg (jv p)] (.list 1 ((bs++jw p).map af)):=by
 obtain⟨z1,z2,z3,z4,z5⟩:=acQ h0
 have HL:p.headers.length<=4194304:=by omega
 have n1:=lE p.av (by omega)
 have n2:=lE p.record (by omega)
 have n3:=gW [p.offset]
 have n4:=gW [((p.headers.map eO).length:Int)]
 have n5:=gW [p.index,p.count,((p.path.map eD).length:Int)]
 simp only[List.length_cons,List.length_nil] at n3 n4 n5
 refine iV 80 [(1,⟨(.one 0 false (.one 1 false (.one 2 false (.one 5 false (.one 6 false (.alt 3 (.alt 4 (.one 7 true (.one 8 true (.one 9 false .done))) (.one 7 true (.one 4 true (.one 8 true (.one 9 false .done))))) (.one 7 true (.one 3 true (.one 4 true (.one 8 true (.one 9 false .done))))))))))),[]⟩),(2,⟨(.one 0 false (.one 1 false (.one 2 false (.one 4 false (.one 5 false (.one 6 false (.alt 3 (.one 7 true (.one 8 true (.one 9 false .done))) (.one 7 true (.one 3 true (.one 8 true (.one 9 false .done))))))))))),[]⟩)] func170 ?_
 repeat' (conv=>arg 2;whnf);first|refine aT (show p.av.length<=140737488355328 by omega) ?_|refine aV ?_ ?_|refine okF (uq _ p.av (by omega) (by(try simp only[List.length_append]);omega)) ?_|refine okF (uq _ p.record (by omega) (by(try simp only[List.length_append]);omega)) ?_|refine okF (ij _ [p.offset] (by simp) (by(try simp only[List.length_append]);omega)) ?_|refine okF (ij _ [((p.headers.map eO).length:Int)] (by simp) (by(try simp only[List.length_append]);omega)) ?_
 all_goals
  refine bE (α:=Nat×List UInt8) (fun a=>⟨[(5,.int .i64 a.1),(3,.ptr 0 0),(0,.list 1 (a.2.map af))],[.cells 55 (jv p)]⟩) (fun a=>a.1<=p.headers.length/\a.2=bs++cB p.av++aN [p.offset]++cB p.record++aN [((p.headers.map eO).length:Int)]++(p.headers.take a.1).flatMap (gZ)) (fun a=>p.headers.length-a.1) (0,bs++cB p.av++aN [p.offset]++cB p.record++aN [((p.headers.map eO).length:Int)]) ⟨Nat.zero_le _,by simp⟩ (Sv.aK [0]) ?_
  rintro⟨q,b2⟩ ⟨hq,he⟩
  replace hq:q<=p.headers.length:=hq
  replace he:b2=bs++cB p.av++aN [p.offset]++cB p.record++aN [((p.headers.map eO).length:Int)]++(p.headers.take q).flatMap (gZ):=he
  have p6:=lz (f:=gZ) (K:=50) (p.headers.take q) (fun x _=>abh x)
  have p7:(p.headers.take q).length<=64:=by rw[List.length_take];omega
  have eJ:b2.length+90000<=aL:=by rw[he];simp only[List.length_append];omega
  repeat' (conv=>arg 2;whnf);first|apply an<;>intro h|refine cK (l:=p.headers) (by simp at h;omega) (fun x hx=>?_)|refine bw (cj (by simp at h hq;omega) (by have:=HL;simp at h hq;omega)) ?_|refine okF (ij b2 [x.seq,x.prev,x.batch,x.root,x.state] (by simp) (by omega)) ?_|refine okF (ij b2 [p.index,p.count,((p.path.map eD).length:Int)] (by simp) (by omega)) ?_|refine aZ (q+1,b2++gZ x) (Sv.aK [0]) ⟨by have:=(List.getElem?_eq_some_iff.1 hx).1;show q+1<=p.headers.length;omega,by show b2++gZ x=_;rw[sH hx,<-List.append_assoc,<-he]⟩ (by have:=(List.getElem?_eq_some_iff.1 hx).1;show p.headers.length-(q+1)<p.headers.length-q;omega)
  have hE:b2=bs++cB p.av++aN [p.offset]++cB p.record++aN [((p.headers.map eO).length:Int)]++p.headers.flatMap gZ:=by rw[he,show p.headers.take q=p.headers from List.take_of_length_le (by simp at h;omega)]
  clear he h hq p6 p7
  generalize uV:b2=b0 at hE eJ ⊢
  clear uV b2
  have HL:p.path.length<=4194304:=by omega
  refine bE (α:=Nat×List UInt8) (fun a=>⟨[(7,.int .i64 a.1),(3,.ptr 0 0),(0,.list 1 (a.2.map af))],[.cells 55 (jv p)]⟩) (fun a=>a.1<=p.path.length/\a.2=b0++aN [p.index,p.count,((p.path.map eD).length:Int)]++(p.path.take a.1).flatMap (aJ)) (fun a=>p.path.length-a.1) (0,b0++aN [p.index,p.count,((p.path.map eD).length:Int)]) ⟨Nat.zero_le _,by simp⟩ (Sv.aK [0]) ?_
  rintro⟨q,b2⟩ ⟨hq,he⟩
  replace hq:q<=p.path.length:=hq
  replace he:b2=b0++aN [p.index,p.count,((p.path.map eD).length:Int)]++(p.path.take q).flatMap (aJ):=he
  have p6:=lz (f:=aJ) (K:=10) (p.path.take q) (fun x _=>fG x)
  have p7:(p.path.take q).length<=8:=by rw[List.length_take];omega
  have rU:b2.length+80000<=aL:=by rw[he];simp only[List.length_append];omega
  repeat' (conv=>arg 2;whnf);first|apply an<;>intro h|refine cK (l:=p.path) (by simp at h;omega) (fun x hx=>?_)|refine bw (cj (by simp at h hq;omega) (by have:=HL;simp at h hq;omega)) ?_|refine okF (ij b2 [x] (by simp) (by omega)) ?_|refine okF (II b2 p.cert z5 (by omega)) ?_|refine aZ (q+1,b2++aN [x]) (Sv.aK [0]) ⟨by have:=(List.getElem?_eq_some_iff.1 hx).1;show q+1<=p.path.length;omega,by show b2++aN [x]=_;rw[sH hx,<-List.append_assoc,<-he];simp[aN]⟩ (by have:=(List.getElem?_eq_some_iff.1 hx).1;show p.path.length-(q+1)<p.path.length-q;omega)|(refine kf (.inr rfl) rfl ?_;rw[he,show p.path.take q=p.path from List.take_of_length_le (by simp at h;omega),hE];simp[jw,aN,List.append_assoc];done)
theorem ad8 {m:aD} {c:cX} (h:rK m c=0):qJ c=0:=by
 unfold rK at h
 have h1:=(bQ.1 h).1
 rw[Kr] at h1
 simp only[bG,id,bQ] at h1
 exact h1.1
theorem afd {c:cX} (h:ir c=0):qJ c=0:=by
 rw[Kr] at h
 simp only[bG,id,bQ] at h
 exact h.1
def uG:List (Nat×mD):=[(6,⟨(.one 0 false (.one 1 false (.one 2 false (.one 3 false (.one 4 false (.one 5 false (.one 6 false (.one 7 false (.one 8 false (.one 11 false (.one 12 false (.one 9 true (.one 10 true (.one 13 true (.one 14 false (.one 15 false .done)))))))))))))))),[]⟩),(11,⟨(.one 0 false (.one 1 false (.one 2 false (.one 3 false (.one 4 false (.one 5 false (.one 6 false (.one 7 false (.one 8 false (.one 11 false (.one 12 false (.one 9 true (.one 10 true (.one 13 true (.one 14 false (.one 15 false .done)))))))))))))))),[]⟩),(27,⟨(.one 0 false (.one 1 false (.one 2 false (.one 3 false (.one 4 false (.one 7 false (.one 8 false (.one 10 false (.one 11 false (.one 5 true (.one 6 true (.one 9 true (.one 12 true (.one 13 false .done)))))))))))))),[]⟩),(32,⟨(.one 0 false (.one 1 false (.one 2 false (.one 5 false (.one 6 false (.one 8 false (.one 9 false (.one 3 true (.one 4 true (.one 7 true (.one 10 true (.one 11 false (.one 12 false .done))))))))))))),[]⟩),(34,⟨(.one 0 false (.one 1 false (.one 2 false (.one 5 false (.one 6 false (.one 9 false (.one 10 false (.alt 3 (.alt 4 (.alt 7 (.alt 8 (.one 11 true (.one 12 true (.one 13 false (.one 14 false .done)))) (.one 11 true (.one 8 true (.one 12 true (.one 13 false (.one 14 false .done)))))) (.one 11 true (.one 7 true (.one 8 true (.one 12 true (.one 13 false (.one 14 false .done))))))) (.alt 7 (.alt 4 (.alt 8 (.one 11 true (.one 12 true (.one 13 false (.one 14 false .done)))) (.one 11 true (.one 8 true (.one 12 true (.one 13 false (.one 14 false .done)))))) (.one 11 true (.one 4 true (.one 8 true (.one 12 true (.one 13 false (.one 14 false .done))))))) (.one 11 true (.alt 4 (.one 7 true (.one 8 true (.one 12 true (.one 13 false (.one 14 false .done))))) (.one 7 true (.one 4 true (.one 8 true (.one 12 true (.one 13 false (.one 14 false .done)))))))))) (.alt 7 (.alt 3 (.alt 4 (.alt 8 (.one 11 true (.one 12 true (.one 13 false (.one 14 false .done)))) (.one 11 true (.one 8 true (.one 12 true (.one 13 false (.one 14 false .done)))))) (.one 11 true (.one 4 true (.one 8 true (.one 12 true (.one 13 false (.one 14 false .done))))))) (.one 11 true (.one 3 true (.one 4 true (.one 8 true (.one 12 true (.one 13 false (.one 14 false .done)))))))) (.one 11 true (.alt 3 (.alt 4 (.one 7 true (.one 8 true (.one 12 true (.one 13 false (.one 14 false .done))))) (.one 7 true (.one 4 true (.one 8 true (.one 12 true (.one 13 false (.one 14 false .done))))))) (.one 7 true (.one 3 true (.one 4 true (.one 8 true (.one 12 true (.one 13 false (.one 14 false .done)))))))))))))))))),[]⟩),(35,⟨(.one 0 false (.one 1 false (.one 2 false (.one 5 false (.one 6 false (.one 3 true (.one 4 true (.one 7 true (.one 8 false (.one 9 false .done)))))))))),[]⟩)]
theorem Zh [Wd] (m:aD) (hm:bh.ok m) (h0:bP {m with kind:=1}=0):aq prog 117 [.agg (aC {m with kind:=1})] (.aj [.list 1 ((aO {m with kind:=1}).map af),.bool false]):=by
 have n0:([]++aN [(1:Int)]).length<=10:=gW [1]
 have hx:∀z:Nat,z<=10->z+300000000<=aL:=fun z hz=>by unfold aL;omega
 refine iV 188 uG func117 ?_
 repeat' (conv=>arg 2;whnf);first|refine iQ (ij [] [1] (by simp) (by simp[aL])) rfl (aa.cons (Co.nil _) (.refl _)) ?_|refine okF (EX _ m.batch hm.2.2.2.2.2.2.2.2.1 (hx _ n0)) ?_|(refine pK (.inr rfl) rfl ?_ rfl;simp[aO,cT,aN];done)
theorem Zi [Wd] (m:aD) (hm:bh.ok m) (h0:bP {m with kind:=2}=0):aq prog 117 [.agg (aC {m with kind:=2})] (.aj [.list 1 ((aO {m with kind:=2}).map af),.bool true]):=by
 have n0:=gW [(2:Int)]
 have n1:=gW [m.src,m.view,m.seq,m.ah]
 simp only[List.length_cons,List.length_nil] at n0 n1
 have mu:aL=140737488355328:=rfl
 refine iV 188 uG func117 ?_
 repeat' (conv=>arg 2;whnf);first|refine iQ (ij [] [2] (by simp) (by simp[aL])) rfl (aa.cons (Co.nil _) (.refl _)) ?_|refine okF (ij _ [m.src,m.view,m.seq,m.ah] (by simp) (by(try simp only[List.length_append,List.length_nil]);omega)) ?_|refine okF (EX _ m.batch hm.2.2.2.2.2.2.2.2.1 (by(try simp only[List.length_append,List.length_nil]);omega)) ?_|(refine pK (.inr rfl) rfl ?_ rfl;simp[aO,cT,aN,List.append_assoc];done)
theorem Zj [Wd] (m:aD) (hm:bh.ok m) (h0:bP {m with kind:=3}=0):aq prog 117 [.agg (aC {m with kind:=3})] (.aj [.list 1 ((aO {m with kind:=3}).map af),.bool true]):=by
 have n0:=gW [(3:Int)]
 have n1:=gW [m.src,m.view,m.seq,m.ah]
 simp only[List.length_cons,List.length_nil] at n0 n1
 have mu:aL=140737488355328:=rfl
 refine iV 188 uG func117 ?_
 repeat' (conv=>arg 2;whnf);first|refine iQ (ij [] [3] (by simp) (by simp[aL])) rfl (aa.cons (Co.nil _) (.refl _)) ?_|refine okF (ij _ [m.src,m.view,m.seq,m.ah] (by simp) (by(try simp only[List.length_append,List.length_nil]);omega)) ?_|(refine pK (.inr rfl) rfl ?_ rfl;simp[aO,cT,aN];done)
theorem Zk [Wd] (m:aD) (hm:bh.ok m) (h0:bP {m with kind:=4}=0):aq prog 117 [.agg (aC {m with kind:=4})] (.aj [.list 1 ((aO {m with kind:=4}).map af),.bool true]):=by
 have n0:=gW [(4:Int)]
 have n1:=gW [m.src,m.view,m.seq,m.ah]
 simp only[List.length_cons,List.length_nil] at n0 n1
 have mu:aL=140737488355328:=rfl
 refine iV 188 uG func117 ?_
 repeat' (conv=>arg 2;whnf);first|refine iQ (ij [] [4] (by simp) (by simp[aL])) rfl (aa.cons (Co.nil _) (.refl _)) ?_|refine okF (ij _ [m.src,m.view,m.seq,m.ah] (by simp) (by(try simp only[List.length_append,List.length_nil]);omega)) ?_|(refine pK (.inr rfl) rfl ?_ rfl;simp[aO,cT,aN];done)
theorem Zl [Wd] (m:aD) (hm:bh.ok m) (h0:bP {m with kind:=5}=0):aq prog 117 [.agg (aC {m with kind:=5})] (.aj [.list 1 ((aO {m with kind:=5}).map af),.bool true]):=by
 have n0:=gW [(5:Int)]
 have n1:=gW [m.src,m.view,m.bD,m.time]
 simp only[List.length_cons,List.length_nil] at n0 n1
 have mu:aL=140737488355328:=rfl
 have z5:0<=m.result.err/\m.result.err<=65536/\0<=m.result.offset/\m.result.offset<=9007199254740992:=by
  simp[bP,bQ] at h0
  have a:=uy h0.2.2.2.2.1
  have b:=uy h0.2.2.2.2.2
  exact⟨a.1,a.2,b.1,b.2⟩
 refine iV 188 uG func117 ?_
 repeat' (conv=>arg 2;whnf);first|refine iQ (ij [] [5] (by simp) (by simp[aL])) rfl (aa.cons (Co.nil _) (.refl _)) ?_|refine okF (ij _ [m.src,m.view,m.bD,m.time] (by simp) (by(try simp only[List.length_append,List.length_nil]);omega)) ?_|refine okF (U9 _ m.result ⟨z5.1,by omega⟩ ⟨z5.2.2.1,by omega⟩ (by(try simp only[List.length_append,List.length_nil]);omega)) ?_|(refine pK (.inr rfl) rfl ?_ rfl;simp[aO,cT,aN,List.append_assoc];done)
theorem Zm [Wd] (m:aD) (hm:bh.ok m) (h0:bP {m with kind:=6}=0):aq prog 117 [.agg (aC {m with kind:=6})] (.aj [.list 1 ((aO {m with kind:=6}).map af),.bool true]):=by
 have n0:=gW [(6:Int)]
 have n1:=gW [m.src,m.seq,m.ah]
 simp only[List.length_cons,List.length_nil] at n0 n1
 have mu:aL=140737488355328:=rfl
 refine iV 188 uG func117 ?_
 repeat' (conv=>arg 2;whnf);first|refine iQ (ij [] [6] (by simp) (by simp[aL])) rfl (aa.cons (Co.nil _) (.refl _)) ?_|refine okF (ij _ [m.src,m.seq,m.ah] (by simp) (by(try simp only[List.length_append,List.length_nil]);omega)) ?_|(refine pK (.inr rfl) rfl ?_ rfl;simp[aO,cT,aN];done)
theorem Zn [Wd] (m:aD) (hm:bh.ok m) (h0:bP {m with kind:=9}=0):aq prog 117 [.agg (aC {m with kind:=9})] (.aj [.list 1 ((aO {m with kind:=9}).map af),.bool true]):=by
 have n0:=gW [(9:Int)]
 have n1:=gW [m.src,m.seq]
 simp only[List.length_cons,List.length_nil] at n0 n1
 have mu:aL=140737488355328:=rfl
 refine iV 188 uG func117 ?_
 repeat' (conv=>arg 2;whnf);first|refine iQ (ij [] [9] (by simp) (by simp[aL])) rfl (aa.cons (Co.nil _) (.refl _)) ?_|refine okF (ij _ [m.src,m.seq] (by simp) (by(try simp only[List.length_append,List.length_nil]);omega)) ?_|(refine pK (.inr rfl) rfl ?_ rfl;simp[aO,cT,aN];done)
theorem XG [Wd] (m:aD) (hm:bh.ok m) (h0:bP {m with kind:=10}=0):aq prog 117 [.agg (aC {m with kind:=10})] (.aj [.list 1 ((aO {m with kind:=10}).map af),.bool false]):=by
 have n0:=gW [(10:Int)]
 have n1:=gW [m.src]
 simp only[List.length_cons,List.length_nil] at n0 n1
 have mu:aL=140737488355328:=rfl
 have iW:jl m.cert=0/\m.state.length<=262144:=by
  simp[bP,bQ] at h0
  have a:=pL h0.2.2
  exact⟨h0.2.1,by omega⟩
 have n2:=CV iW.1
 have n3:=lE m.state (by omega)
 refine iV 188 uG func117 ?_
 repeat' (conv=>arg 2;whnf);first|refine iQ (ij [] [10] (by simp) (by simp[aL])) rfl (aa.cons (Co.nil _) (.refl _)) ?_|refine okF (ij _ [m.src] (by simp) (by(try simp only[List.length_append,List.length_nil]);omega)) ?_|refine okF (II _ m.cert iW.1 (by(try simp only[List.length_append,List.length_nil]);omega)) ?_|refine okF (uq _ m.state (by omega) (by(try simp only[List.length_append,List.length_nil]);omega)) ?_|(refine pK (.inr rfl) rfl ?_ rfl;simp[aO,cT,aN,List.append_assoc];done)
theorem XH [Wd] (m:aD) (hm:bh.ok m) (h0:bP {m with kind:=11}=0):aq prog 117 [.agg (aC {m with kind:=11})] (.aj [.list 1 ((aO {m with kind:=11}).map af),.bool false]):=by
 have n0:=gW [(11:Int)]
 have n1:=gW [m.bD]
 simp only[List.length_cons,List.length_nil] at n0 n1
 have mu:aL=140737488355328:=rfl
 have nY:m.av.length<=64:=by
  simp[bP,bQ] at h0
  exact zV h0.2.1
 have n2:=lE m.av (by omega)
 refine iV 188 uG func117 ?_
 repeat' (conv=>arg 2;whnf);first|refine aV ?_ ?_|refine iQ (ij [] [11] (by simp) (by simp[aL])) rfl (aa.cons (Co.nil _) (.refl _)) ?_|refine okF (ij _ [m.bD] (by simp) (by(try simp only[List.length_append,List.length_nil]);omega)) ?_|refine okF (uq _ m.av (by omega) (by(try simp only[List.length_append,List.length_nil]);omega)) ?_|refine okF (ij _ [m.offset] (by simp) (by(try simp only[List.length_append,List.length_nil]);omega)) ?_|refine aT (show m.av.length<=140737488355328 by omega) ?_|(refine pK (.inr rfl) rfl ?_ rfl;simp[aO,cT,aN,List.append_assoc];done)
theorem XI [Wd] (m:aD) (hm:bh.ok m) (h0:bP {m with kind:=12}=0):aq prog 117 [.agg (aC {m with kind:=12})] (.aj [.list 1 ((aO {m with kind:=12}).map af),.bool false]):=by
 have n0:=gW [(12:Int)]
 have n1:=gW [m.src]
 simp only[List.length_cons,List.length_nil] at n0 n1
 have mu:aL=140737488355328:=rfl
 have z12:mB m.proof=0:=by
  simp[bP,bQ] at h0
  exact h0.2
 refine iV 188 uG func117 ?_
 repeat' (conv=>arg 2;whnf);first|refine iQ (ij [] [12] (by simp) (by simp[aL])) rfl (aa.cons (Co.nil _) (.refl _)) ?_|refine okF (ij _ [m.src] (by simp) (by(try simp only[List.length_append,List.length_nil]);omega)) ?_|refine okF (VG _ m.proof hm.2.2.2.2.2.2.2.2.2.2.2.2.2.2.2.1 z12 (by(try simp only[List.length_append,List.length_nil]);omega)) ?_|(refine pK (.inr rfl) rfl ?_ rfl;simp[aO,cT,aN,List.append_assoc];done)
theorem Zo [Wd] (m:aD) (hm:bh.ok m) (c:cX) (hc:m.changes=[c]) (h0:bP {m with kind:=7}=0):aq prog 117 [.agg (aC {m with kind:=7})] (.aj [.list 1 ((aO {m with kind:=7}).map af),.bool true]):=by
 have LM:fP.ok c:=hm.2.2.2.2.2.2.2.2.2.2.1.2 c (by show c∈m.changes;rw[hc];simp)
 have hz:qJ c=0:=by
  simp[bP,bQ,hc,bG] at h0
  exact ad8 h0.2
 have n0:([]++aN [(7:Int)]).length<=10:=gW [7]
 have hx:∀z:Nat,z<=10->z+400000000<=aL:=fun z hz=>by unfold aL;omega
 refine iV 188 uG func117 ?_
 repeat' (conv=>arg 2;whnf);first|refine iQ (ij [] [7] (by simp) (by simp[aL])) rfl (aa.cons (Co.nil _) (.refl _)) ?_|refine eT (bU c) (by decide) (by simp[hc]) ?_|refine okF (NY _ c LM hz (hx _ n0)) ?_|(refine pK (.inr rfl) rfl ?_ rfl;simp[aO,cT,aN,hc];done)
theorem afe {m:aD} (h:iP m=0):m.changes.length<=13/\(∀c∈m.changes,ir c=0)/\m.entries.length<=8:=by
 unfold iP at h
 simp only[bQ] at h
 obtain⟨_,_,h3,h4,h5,_⟩:=h
 have a:=pL h3
 have b:=pL h5
 exact⟨by omega,gV.1 h4,by omega⟩
theorem Lg {z:Nat} (h:z<=1000000):z+500000000<=aL:=by unfold aL;omega
theorem Zp [Wd] (m:aD) (hm:bh.ok m) (h0:bP {m with kind:=8}=0):aq prog 117 [.agg (aC {m with kind:=8})] (.aj [.list 1 ((aO {m with kind:=8}).map af),.bool true]):=by
 have hz:iP {m with kind:=8}=0:=by
  simpa[bP] using h0
 obtain⟨z1,z2,z3⟩:=afe hz
 replace z1:m.changes.length<=13:=z1
 replace z2:∀c∈m.changes,ir c=0:=z2
 replace z3:m.entries.length<=8:=z3
 have HL:m.changes.length<=4194304:=by omega
 have n0:([]++aN [(8:Int)]).length<=10:=gW [8]
 have n1:=gW [m.src,m.view,((m.changes.map bU).length:Int)]
 have nX:([]++aN [8]++aN [m.src,m.view,((m.changes.map bU).length:Int)]).length<=40:=by
  rw[List.length_append]
  simp only[List.length_cons,List.length_nil] at n1
  omega
 refine iV 188 [(6,⟨(.one 0 false (.one 1 false (.one 2 false (.one 3 false (.one 4 false (.one 5 false (.one 6 false (.one 7 false (.one 8 false (.one 11 false (.one 12 false (.one 9 true (.one 10 true (.one 13 true (.one 14 false (.one 15 false .done)))))))))))))))),[]⟩),(11,⟨(.one 0 false (.one 1 false (.one 2 false (.one 3 false (.one 4 false (.one 5 false (.one 6 false (.one 7 false (.one 8 false (.one 11 false (.one 12 false (.one 9 true (.one 10 true (.one 13 true (.one 14 false (.one 15 false .done)))))))))))))))),[]⟩),(27,⟨(.one 0 false (.one 1 false (.one 2 false (.one 3 false (.one 4 false (.one 7 false (.one 8 false (.one 10 false (.one 11 false (.one 5 true (.one 6 true (.one 9 true (.one 12 true (.one 13 false .done)))))))))))))),[]⟩),(32,⟨(.one 0 false (.one 1 false (.one 2 false (.one 5 false (.one 6 false (.one 8 false (.one 9 false (.one 3 true (.one 4 true (.one 7 true (.one 10 true (.one 11 false (.one 12 false .done))))))))))))),[]⟩),(34,⟨(.one 0 false (.one 1 false (.one 2 false (.one 5 false (.one 6 false (.one 9 false (.one 10 false (.alt 3 (.alt 4 (.alt 7 (.alt 8 (.one 11 true (.one 12 true (.one 13 false (.one 14 false .done)))) (.one 11 true (.one 8 true (.one 12 true (.one 13 false (.one 14 false .done)))))) (.one 11 true (.one 7 true (.one 8 true (.one 12 true (.one 13 false (.one 14 false .done))))))) (.alt 7 (.alt 4 (.alt 8 (.one 11 true (.one 12 true (.one 13 false (.one 14 false .done)))) (.one 11 true (.one 8 true (.one 12 true (.one 13 false (.one 14 false .done)))))) (.one 11 true (.one 4 true (.one 8 true (.one 12 true (.one 13 false (.one 14 false .done))))))) (.one 11 true (.alt 4 (.one 7 true (.one 8 true (.one 12 true (.one 13 false (.one 14 false .done))))) (.one 7 true (.one 4 true (.one 8 true (.one 12 true (.one 13 false (.one 14 false .done)))))))))) (.alt 7 (.alt 3 (.alt 4 (.alt 8 (.one 11 true (.one 12 true (.one 13 false (.one 14 false .done)))) (.one 11 true (.one 8 true (.one 12 true (.one 13 false (.one 14 false .done)))))) (.one 11 true (.one 4 true (.one 8 true (.one 12 true (.one 13 false (.one 14 false .done))))))) (.one 11 true (.one 3 true (.one 4 true (.one 8 true (.one 12 true (.one 13 false (.one 14 false .done)))))))) (.one 11 true (.alt 3 (.alt 4 (.one 7 true (.one 8 true (.one 12 true (.one 13 false (.one 14 false .done))))) (.one 7 true (.one 4 true (.one 8 true (.one 12 true (.one 13 false (.one 14 false .done))))))) (.one 7 true (.one 3 true (.one 4 true (.one 8 true (.one 12 true (.one 13 false (.one 14 false .done)))))))))))))))))),[]⟩),(35,⟨(.one 0 false (.one 1 false (.one 2 false (.one 5 false (.one 6 false (.one 3 true (.one 4 true (.one 7 true (.one 8 false (.one 9 false .done)))))))))),[]⟩)] func117 ?_
 repeat' (conv=>arg 2;whnf);first|refine iQ (ij [] [8] (by simp) (by simp[aL])) rfl (aa.cons (Co.nil _) (.refl _)) ?_|refine okF (ij _ [m.src,m.view,((m.changes.map bU).length:Int)] (by simp) (Nat.le_trans (Nat.add_le_add_left (by decide:1000<=500000000) _) (Lg (Nat.le_trans n0 (by decide))))) ?_
 refine bE (α:=Nat×List UInt8) (fun a=>⟨[(5,.int .i64 a.1),(1,.ptr 0 0),(4,.list 1 (a.2.map af))],[.cells 59 (aC {m with kind:=8})]⟩) (fun a=>a.1<=m.changes.length/\a.2=[]++aN [8]++aN [m.src,m.view,((m.changes.map bU).length:Int)]++(m.changes.take a.1).flatMap (fq)) (fun a=>m.changes.length-a.1) (0,[]++aN [8]++aN [m.src,m.view,((m.changes.map bU).length:Int)]) ⟨Nat.zero_le _,by simp⟩ (Sv.aK [0]) ?_
 rintro⟨q,b2⟩ ⟨hq,he⟩
 replace hq:q<=m.changes.length:=hq
 replace he:b2=[]++aN [8]++aN [m.src,m.view,((m.changes.map bU).length:Int)]++(m.changes.take q).flatMap (fq):=he
 have eJ:b2.length<=540000:=by
  obtain⟨X0,Cp,PU⟩:∃z,z=[]++aN [8]++aN [m.src,m.view,((m.changes.map bU).length:Int)]/\z.length<=40:=⟨_,rfl,nX⟩
  rw[<-Cp] at he
  have p6:=lz (f:=fq) (K:=41100) (m.changes.take q) (fun c hc=>Pm (z2 c (List.mem_of_mem_take hc)))
  have p7:(m.changes.take q).length<=13:=by rw[List.length_take];omega
  rw[he,List.length_append]
  omega
 have S5:=Lg (z:=b2.length) (by omega)
 repeat' (conv=>arg 2;whnf);first|apply an<;>intro h|refine cK (l:=m.changes) (by simp at h;omega) (fun x hx=>?_)|refine bw (cj (by simp at h hq;omega) (by have:=HL;simp at h hq;omega)) ?_|refine okF (Vc b2 x (hm.2.2.2.2.2.2.2.2.2.2.1.2 x (List.mem_of_getElem? hx)) (afd (z2 x (List.mem_of_getElem? hx))) (by omega) (IW (z2 x (List.mem_of_getElem? hx)))) ?_|refine okF (ij b2 [((m.entries.map dV).length:Int)] (by simp) (by omega)) ?_|refine aZ (q+1,b2++fq x) (Sv.aK [0]) ⟨by have:=(List.getElem?_eq_some_iff.1 hx).1;show q+1<=m.changes.length;omega,by show b2++fq x=_;rw[sH hx,<-List.append_assoc,<-he]⟩ (by have:=(List.getElem?_eq_some_iff.1 hx).1;show m.changes.length-(q+1)<m.changes.length-q;omega)
 have hE:b2=[]++aN [8]++aN [m.src,m.view,((m.changes.map bU).length:Int)]++m.changes.flatMap fq:=by rw[he,show m.changes.take q=m.changes from List.take_of_length_le (by simp at h;omega)]
 clear he h hq S5
 generalize uV:b2=b0 at hE eJ ⊢
 clear uV b2
 have HL:m.entries.length<=4194304:=by omega
 have n2:=gW [((m.entries.map dV).length:Int)]
 have Q0:(b0++aN [((m.entries.map dV).length:Int)]).length<=540010:=by
  rw[List.length_append]
  simp only[List.length_cons,List.length_nil] at n2
  omega
 refine bE (α:=Nat×List UInt8) (fun a=>⟨[(6,.int .i64 a.1),(1,.ptr 0 0),(4,.list 1 (a.2.map af))],[.cells 59 (aC {m with kind:=8})]⟩) (fun a=>a.1<=m.entries.length/\a.2=b0++aN [((m.entries.map dV).length:Int)]++(m.entries.take a.1).flatMap (gG)) (fun a=>m.entries.length-a.1) (0,b0++aN [((m.entries.map dV).length:Int)]) ⟨Nat.zero_le _,by simp⟩ (Sv.aK [0]) ?_
 rintro⟨q,b2⟩ ⟨hq,he⟩
 replace hq:q<=m.entries.length:=hq
 replace he:b2=b0++aN [((m.entries.map dV).length:Int)]++(m.entries.take q).flatMap (gG):=he
 have rU:b2.length<=580000:=by
  obtain⟨X0,Cp,PU⟩:∃z,z=b0++aN [((m.entries.map dV).length:Int)]/\z.length<=540010:=⟨_,rfl,Q0⟩
  rw[<-Cp] at he
  have p6:=lz (f:=gG) (K:=4400) (m.entries.take q) (fun c hc=>NZ c)
  have p7:(m.entries.take q).length<=8:=by rw[List.length_take];omega
  rw[he,List.length_append]
  omega
 have S5:=Lg (z:=b2.length) (by omega)
 repeat' (conv=>arg 2;whnf);first|apply an<;>intro h|refine cK (l:=m.entries) (by simp at h;omega) (fun x hx=>?_)|refine bw (cj (by simp at h hq;omega) (by have:=HL;simp at h hq;omega)) ?_|refine okF (ij b2 [x.view,x.seq] (by simp) (by omega)) ?_|refine okF (EX _ x.batch (hm.2.2.2.2.2.2.2.2.2.2.2.1.2 x (List.mem_of_getElem? hx)).2.2.1 (by have m1:=gW [x.view,x.seq];have m2:=Bb x.batch;simp only[List.length_cons,List.length_nil] at m1;(try simp only[List.length_append]);omega)) ?_|refine okF (wN _ x.sign (by have m1:=gW [x.view,x.seq];have m2:=Bb x.batch;simp only[List.length_cons,List.length_nil] at m1;(try simp only[List.length_append]);omega)) ?_|refine aZ (q+1,b2++aN [x.view,x.seq]++jM x.batch++cG x.sign) (Sv.aK [0]) ⟨by have:=(List.getElem?_eq_some_iff.1 hx).1;show q+1<=m.entries.length;omega,by show b2++aN [x.view,x.seq]++jM x.batch++cG x.sign=_;rw[sH hx,<-List.append_assoc,<-he];simp[gG]⟩ (by have:=(List.getElem?_eq_some_iff.1 hx).1;show m.entries.length-(q+1)<m.entries.length-q;omega)|refine bq ?_|(refine pK (.inr rfl) rfl ?_ rfl;rw[he,show m.entries.take q=m.entries from List.take_of_length_le (by simp at h;omega),hE];simp[aO,cT,aN,List.append_assoc];done)
theorem vI [Wd] (m:aD) (hm:bh.ok m) (h0:bP m=0):aq prog 117 [.agg (aC m)] (.aj [.list 1 ((aO m).map af),.bool (bW m.kind||(m.kind==7))]):=by
 have hk:=yd h0
 by_cases k1:m.kind=1
 ·have h:=Zh m hm (by rw[eP k1];exact h0);rw[eP k1] at h;rw[k1];exact h
 by_cases k2:m.kind=2
 ·have h:=Zi m hm (by rw[eP k2];exact h0);rw[eP k2] at h;rw[k2];exact h
 by_cases k3:m.kind=3
 ·have h:=Zj m hm (by rw[eP k3];exact h0);rw[eP k3] at h;rw[k3];exact h
 by_cases k4:m.kind=4
 ·have h:=Zk m hm (by rw[eP k4];exact h0);rw[eP k4] at h;rw[k4];exact h
 by_cases k5:m.kind=5
 ·have h:=Zl m hm (by rw[eP k5];exact h0);rw[eP k5] at h;rw[k5];exact h
 by_cases k6:m.kind=6
 ·have h:=Zm m hm (by rw[eP k6];exact h0);rw[eP k6] at h;rw[k6];exact h
 by_cases k7:m.kind=7
 ·have hc:m.changes.length=1:=by
   have h:=h0
   rw[<-eP k7] at h
   simp[bP,bQ] at h
   have:=uy h.1
   omega
  obtain⟨c,hc⟩:=sM hc
  have h:=Zo m hm c hc (by rw[eP k7];exact h0);rw[eP k7] at h;rw[k7];exact h
 by_cases k8:m.kind=8
 ·have h:=Zp m hm (by rw[eP k8];exact h0);rw[eP k8] at h;rw[k8];exact h
 by_cases k9:m.kind=9
 ·have h:=Zn m hm (by rw[eP k9];exact h0);rw[eP k9] at h;rw[k9];exact h
 by_cases ud:m.kind=10
 ·have h:=XG m hm (by rw[eP ud];exact h0);rw[eP ud] at h;rw[ud];exact h
 by_cases oU:m.kind=11
 ·have h:=XH m hm (by rw[eP oU];exact h0);rw[eP oU] at h;rw[oU];exact h
 by_cases ue:m.kind=12
 ·have h:=XI m hm (by rw[eP ue];exact h0);rw[eP ue] at h;rw[ue];exact h
 omega
theorem XJ [Wd] (k:Int):aq prog 115 [.int .i64 k] (.bool (decide (2<=k)&&decide (k<=9)&&!(k==7))):=by
 refine ak 13 [] func115 ?_
 repeat' (conv=>arg 2;whnf);first|apply an<;>intro h|(refine cL ?_;simp_all;omega)|(refine cL ?_;rw[show decide (2<=k)=true from by simp at*;omega,show decide (k<=9)=true from by simp at*;omega];rfl)
theorem yf [Wd] (k:Int):aq prog 115 [.int .i64 k] (.bool (bW k)):=by
 have h:=XJ k
 rwa [show(decide (2<=k)&&decide (k<=9)&&!(k==7))=bW k from by rw[Bool.eq_iff_iff];simp[bW];omega] at h
theorem IX [Wd] (bs:List UInt8) (hb:¬262144<bs.length):aq prog 163 [.list 1 (bs.map af),.int .i64 0] (.aj [.list 1 (bs.map af),.int .i64 0]):=by
 refine ak 13 [] func163 ?_
 repeat' (conv=>arg 2;whnf);first|apply an<;>intro h|refine cg|(exfalso;simp at h;omega)
theorem IY [Wd] (bs:List UInt8) (hb:262144<bs.length):aq prog 163 [.list 1 (bs.map af),.int .i64 0] (.aj [.nils,.int .i64 3]):=by
 refine ak 13 [] func163 ?_
 repeat' (conv=>arg 2;whnf);first|apply an<;>intro h|refine cg|(exfalso;simp at h;omega)
theorem XK [Wd] (m:aD) (hm:bh.ok m) (h0:¬eC m=0):aq prog 116 [.agg (aC m)] (.aj [.nils,.int .i64 (eC m)]):=by
 refine ak 36 [] func116 ?_
 repeat' (conv=>arg 2;whnf);first|apply an<;>intro h|refine okF (zA m hm) ?_|refine cg|(exfalso;simp[h0] at h;done)
theorem XL [Wd] (m:aD) (hm:bh.ok m) (h0:eC m=0) (cm:bP m=0) (c:cX) (hc:m.changes=[c]) (h7:(m.kind==7)=true) (hb:¬262144<(aO m++cG c.sign).length):aq prog 116 [.agg (aC m)] (.aj [.list 1 ((aO m++cG c.sign).map af),.int .i64 0]):=by
 have hl:(aO m).length+200<=aL:=by have:=so cm;unfold aL;omega
 refine ak 36 [] func116 ?_
 repeat' (conv=>arg 2;whnf);first|apply an<;>intro h|refine okF (zA m hm) ?_|refine okF (vI m hm cm) ?_|refine eT (bU c) (by decide) (by simp[hc]) ?_|refine okF (wN _ c.sign hl) ?_|refine okF (IX _ hb) ?_|refine cg|(exfalso;simp_all;done)
theorem XM [Wd] (m:aD) (hm:bh.ok m) (h0:eC m=0) (cm:bP m=0) (h7:(m.kind==7)=false) (hs:bW m.kind=true) (hb:¬262144<(aO m++cG m.sign).length):aq prog 116 [.agg (aC m)] (.aj [.list 1 ((aO m++cG m.sign).map af),.int .i64 0]):=by
 have hl:(aO m).length+200<=aL:=by have:=so cm;unfold aL;omega
 refine ak 36 [] func116 ?_
 repeat' (conv=>arg 2;whnf);first|apply an<;>intro h|refine okF (zA m hm) ?_|refine okF (vI m hm cm) ?_|refine okF (wN _ m.sign hl) ?_|refine okF (IX _ hb) ?_|refine cg|(exfalso;simp_all;done)
theorem XN [Wd] (m:aD) (hm:bh.ok m) (h0:eC m=0) (cm:bP m=0) (h7:(m.kind==7)=false) (hs:bW m.kind=false) (hb:¬262144<(aO m).length):aq prog 116 [.agg (aC m)] (.aj [.list 1 ((aO m).map af),.int .i64 0]):=by
 have hl:(aO m).length+200<=aL:=by have:=so cm;unfold aL;omega
 refine ak 36 [] func116 ?_
 repeat' (conv=>arg 2;whnf);first|apply an<;>intro h|refine okF (zA m hm) ?_|refine okF (vI m hm cm) ?_|refine okF (IX _ hb) ?_|refine cg|(exfalso;simp_all;done)
theorem Wq [Wd] (m:aD) (hm:bh.ok m) (h0:eC m=0) (cm:bP m=0) (c:cX) (hc:m.changes=[c]) (h7:(m.kind==7)=true) (hb:262144<(aO m++cG c.sign).length):aq prog 116 [.agg (aC m)] (.aj [.nils,.int .i64 3]):=by
 have hl:(aO m).length+200<=aL:=by have:=so cm;unfold aL;omega
 refine ak 36 [] func116 ?_
 repeat' (conv=>arg 2;whnf);first|apply an<;>intro h|refine okF (zA m hm) ?_|refine okF (vI m hm cm) ?_|refine eT (bU c) (by decide) (by simp[hc]) ?_|refine okF (wN _ c.sign hl) ?_|refine okF (IY _ hb) ?_|refine cg|(exfalso;simp_all;done)
theorem Wr [Wd] (m:aD) (hm:bh.ok m) (h0:eC m=0) (cm:bP m=0) (h7:(m.kind==7)=false) (hs:bW m.kind=true) (hb:262144<(aO m++cG m.sign).length):aq prog 116 [.agg (aC m)] (.aj [.nils,.int .i64 3]):=by
 have hl:(aO m).length+200<=aL:=by have:=so cm;unfold aL;omega
 refine ak 36 [] func116 ?_
 repeat' (conv=>arg 2;whnf);first|apply an<;>intro h|refine okF (zA m hm) ?_|refine okF (vI m hm cm) ?_|refine okF (wN _ m.sign hl) ?_|refine okF (IY _ hb) ?_|refine cg|(exfalso;simp_all;done)
theorem Ws [Wd] (m:aD) (hm:bh.ok m) (h0:eC m=0) (cm:bP m=0) (h7:(m.kind==7)=false) (hs:bW m.kind=false) (hb:262144<(aO m).length):aq prog 116 [.agg (aC m)] (.aj [.nils,.int .i64 3]):=by
 have hl:(aO m).length+200<=aL:=by have:=so cm;unfold aL;omega
 refine ak 36 [] func116 ?_
 repeat' (conv=>arg 2;whnf);first|apply an<;>intro h|refine okF (zA m hm) ?_|refine okF (vI m hm cm) ?_|refine okF (IY _ hb) ?_|refine cg|(exfalso;simp_all;done)
noncomputable def Gf (m:aD):D:=if ig m=0 then .aj [.list 1 ((kg m).map af),.int .i64 0] else .aj [.nils,.int .i64 (ig m)]
theorem Pn [Wd] (m:aD) (hm:bh.ok m):aq prog 116 [.agg (aC m)] (Gf m):=by
 unfold Gf ig
 by_cases h0:eC m=0
 ·have cm:=nG (oA h0)
  cases h7:m.kind==7 with
  |true=>
   have k7:m.kind=7:=by simpa using h7
   have hc:m.changes.length=1:=by
    have h:=cm
    rw[<-eP k7] at h
    simp[bP,bQ] at h
    have:=uy h.1
    omega
   obtain⟨c,hc⟩:=sM hc
   have ef:kg m=aO m++cG c.sign:=by unfold kg;rw[if_pos k7,hc]
   rw[ef]
   by_cases hb:262144<(aO m++cG c.sign).length
   ·rw[if_pos h0,if_pos hb,if_neg (by decide)];exact Wq m hm h0 cm c hc h7 hb
   ·rw[if_pos h0,if_neg hb,if_pos rfl];exact XL m hm h0 cm c hc h7 hb
  |false=>
   have k7:¬m.kind=7:=by simpa using h7
   cases hs:bW m.kind with
   |true=>
    have ef:kg m=aO m++cG m.sign:=by unfold kg;rw[if_neg k7,if_pos hs]
    rw[ef]
    by_cases hb:262144<(aO m++cG m.sign).length
    ·rw[if_pos h0,if_pos hb,if_neg (by decide)];exact Wr m hm h0 cm h7 hs hb
    ·rw[if_pos h0,if_neg hb,if_pos rfl];exact XM m hm h0 cm h7 hs hb
   |false=>
    have ef:kg m=aO m:=by unfold kg;rw[if_neg k7,if_neg (by rw[hs];simp),List.append_nil]
    rw[ef]
    by_cases hb:262144<(aO m).length
    ·rw[if_pos h0,if_pos hb,if_neg (by decide)];exact Ws m hm h0 cm h7 hs hb
    ·rw[if_pos h0,if_neg hb,if_pos rfl];exact XN m hm h0 cm h7 hs hb
 ·rw[if_neg h0,if_neg h0];exact XK m hm h0
theorem Fa [Wd] (m:aD) (hm:bh.ok m) (h:ig m=0):aq prog 116 [.agg (aC m)] (.aj [.list 1 ((kg m).map af),.int .i64 0]):=by
 have:=Pn m hm
 unfold Gf at this
 rwa [if_pos h] at this
theorem Fb [Wd] (m:aD) (hm:bh.ok m) (h:¬ig m=0):aq prog 116 [.agg (aC m)] (.aj [.nils,.int .i64 (ig m)]):=by
 have:=Pn m hm
 unfold Gf at this
 rwa [if_neg h] at this
theorem abi [Wd] (m:aD) (h7:(m.kind==7)=false) (hs:bW m.kind=true) (hm:bh.ok {m with sign:=cq}) (hB:ig {m with sign:=cq}=0):aq prog 70 [.agg (aC m)] (.aj [.list 1 ((aO {m with sign:=cq}).map af),.int .i64 0]):=by
 have cm:=nG (oA (wY.1 hB).1)
 refine ak 48 [] func70 ?_
 repeat' (conv=>arg 2;whnf);first|apply an<;>intro h|refine okF (yf m.kind) ?_|refine okF (Fa {m with sign:=cq} hm hB) ?_|refine okF (vI {m with sign:=cq} hm cm) ?_|refine cg|(exfalso;simp_all;done)
theorem Zq [Wd] (m:aD) (h7:(m.kind==7)=false) (hs:bW m.kind=true) (hm:bh.ok {m with sign:=cq}) (hB:¬ig {m with sign:=cq}=0):aq prog 70 [.agg (aC m)] (.aj [.nils,.int .i64 (ig {m with sign:=cq})]):=by
 refine ak 48 [] func70 ?_
 repeat' (conv=>arg 2;whnf);first|apply an<;>intro h|refine okF (yf m.kind) ?_|refine okF (Fb {m with sign:=cq} hm hB) ?_|refine cg|(exfalso;simp_all;done)
theorem abj [Wd] (m:aD) (h7:(m.kind==7)=false) (hs:bW m.kind=false) (hm:bh.ok m) (hB:ig m=0):aq prog 70 [.agg (aC m)] (.aj [.list 1 ((aO m).map af),.int .i64 0]):=by
 have cm:=nG (oA (wY.1 hB).1)
 refine ak 48 [] func70 ?_
 repeat' (conv=>arg 2;whnf);first|apply an<;>intro h|refine okF (yf m.kind) ?_|refine okF (Fa m hm hB) ?_|refine okF (vI m hm cm) ?_|refine cg|(exfalso;simp_all;done)
theorem Zr [Wd] (m:aD) (h7:(m.kind==7)=false) (hs:bW m.kind=false) (hm:bh.ok m) (hB:¬ig m=0):aq prog 70 [.agg (aC m)] (.aj [.nils,.int .i64 (ig m)]):=by
 refine ak 48 [] func70 ?_
 repeat' (conv=>arg 2;whnf);first|apply an<;>intro h|refine okF (yf m.kind) ?_|refine okF (Fb m hm hB) ?_|refine cg|(exfalso;simp_all;done)
theorem abk [Wd] (m:aD) (c:cX) (hc:m.changes=[c]) (h7:(m.kind==7)=true) (hm:bh.ok {m with changes:=[{c with sign:=cq}]}) (hB:ig {m with changes:=[{c with sign:=cq}]}=0):aq prog 70 [.agg (aC m)] (.aj [.list 1 ((aO {m with changes:=[{c with sign:=cq}]}).map af),.int .i64 0]):=by
 have cm:=nG (oA (wY.1 hB).1)
 refine ak 48 [] func70 ?_
 repeat' (conv=>arg 2;whnf);first|apply an<;>intro h|refine eT (bU c) (by decide) (by simp[hc]) ?_|refine okF (yf m.kind) ?_|refine okF (Fa {m with changes:=[{c with sign:=cq}]} hm hB) ?_|refine okF (vI {m with changes:=[{c with sign:=cq}]} hm cm) ?_|refine cg|(exfalso;simp_all;done)
theorem Zs [Wd] (m:aD) (c:cX) (hc:m.changes=[c]) (h7:(m.kind==7)=true) (hm:bh.ok {m with changes:=[{c with sign:=cq}]}) (hB:¬ig {m with changes:=[{c with sign:=cq}]}=0):aq prog 70 [.agg (aC m)] (.aj [.nils,.int .i64 (ig {m with changes:=[{c with sign:=cq}]})]):=by
 refine ak 48 [] func70 ?_
 repeat' (conv=>arg 2;whnf);first|apply an<;>intro h|refine eT (bU c) (by decide) (by simp[hc]) ?_|refine okF (yf m.kind) ?_|refine okF (Fb {m with changes:=[{c with sign:=cq}]} hm hB) ?_|refine cg|(exfalso;simp_all;done)
theorem abl [Wd] (m:aD) (h7:(m.kind==7)=true) (hc:((m.changes.length:Int)==1)=false) (hs:bW m.kind=false) (hm:bh.ok m) (hB:ig m=0):aq prog 70 [.agg (aC m)] (.aj [.list 1 ((aO m).map af),.int .i64 0]):=by
 have cm:=nG (oA (wY.1 hB).1)
 refine ak 48 [] func70 ?_
 repeat' (conv=>arg 2;whnf);first|apply an<;>intro h|refine okF (yf m.kind) ?_|refine okF (Fa m hm hB) ?_|refine okF (vI m hm cm) ?_|refine cg|(exfalso;simp_all;done)
theorem Zt [Wd] (m:aD) (h7:(m.kind==7)=true) (hc:((m.changes.length:Int)==1)=false) (hs:bW m.kind=false) (hm:bh.ok m) (hB:¬ig m=0):aq prog 70 [.agg (aC m)] (.aj [.nils,.int .i64 (ig m)]):=by
 refine ak 48 [] func70 ?_
 repeat' (conv=>arg 2;whnf);first|apply an<;>intro h|refine okF (yf m.kind) ?_|refine okF (Fb m hm hB) ?_|refine cg|(exfalso;simp_all;done)
theorem Is [Wd] (m:aD) (hm:bh.ok m):aq prog 70 [.agg (aC m)] (uR m):=by
 have hU:=wM m
 unfold uR
 cases h7:m.kind==7 with
 |false=>
  have k7:¬m.kind=7:=by simpa using h7
  cases hs:bW m.kind with
  |true=>
   have ew:eu m={m with sign:=cq}:=by unfold eu;rw[if_neg (fun h=>k7 h.1),if_pos hs]
   rw[ew] at hU ⊢
   by_cases h:ig {m with sign:=cq}=0
   ·rw[if_pos h,<-hU];exact abi m h7 hs (JW hm) h
   ·rw[if_neg h];exact Zq m h7 hs (JW hm) h
  |false=>
   have ew:eu m=m:=by unfold eu;rw[if_neg (fun h=>k7 h.1),if_neg (by rw[hs];simp)]
   rw[ew]
   by_cases h:ig m=0
   ·rw[if_pos h];exact abj m h7 hs hm h
   ·rw[if_neg h];exact Zr m h7 hs hm h
 |true=>
  have k7:m.kind=7:=by simpa using h7
  have hs:bW m.kind=false:=by rw[k7];rfl
  by_cases hc:m.changes.length=1
  ·obtain⟨c,hc⟩:=sM hc
   have ew:eu m={m with changes:=[{c with sign:=cq}]}:=by unfold eu;rw[if_pos ⟨k7,by rw[hc];rfl⟩,hc];rfl
   rw[ew] at hU ⊢
   by_cases h:ig {m with changes:=[{c with sign:=cq}]}=0
   ·rw[if_pos h,<-hU];exact abk m c hc h7 (Kp hm hc) h
   ·rw[if_neg h];exact Zs m c hc h7 (Kp hm hc) h
  ·have ew:eu m=m:=by unfold eu;rw[if_neg (fun h=>hc h.2),if_neg (by rw[hs];simp)]
   have Ar:((m.changes.length:Int)==1)=false:=by rw[beq_eq_false_iff_ne];omega
   rw[ew]
   by_cases h:ig m=0
   ·rw[if_pos h];exact abl m h7 Ar hs hm h
   ·rw[if_neg h];exact Zt m h7 Ar hs hm h
section
open Go.RowKit Go.Deep
theorem aee (y:Nat) (h:y<256):bits BinOp.and IntKind.u8 (y:Int) 15=((y%16:Nat):Int):=by
 have h':∀k:Fin 256,bits BinOp.and IntKind.u8 ((k.val:Int)) 15=((k.val%16:Nat):Int):=by decide+kernel
 exact h' ⟨y,h⟩
theorem FQ (l:List UInt8) (n:Nat) (h:l.length<=4194304):(gw l).length<=8388610:=by
 have:∀l:List UInt8,(l.flatMap fun c=>[kX (c.toNat/16),kX (c.toNat%16)]).length=2*l.length:=by
  intro l
  induction l with
  |nil=>rfl
  |cons x r ih=>simp only[List.flatMap_cons,List.length_append,ih,List.length_cons];simp;omega
 unfold gw
 rw[List.length_cons,this]
 omega
end
section
open Go.RowKit Go.Deep
section
variable {P:Program} {ops:Array Oper} {Q:Exit->Act->World->Prop} {md:Region.Mode} {S:World->Prop}
theorem qm {i:Nat} {oi:Oper} {d:Option Tmp} {v:Value} {fuel:Nat} {listed:Array Bool} {a:Act} {w:World} (hi:ops[i]?=some oi) (hd:oi.dst=d)
 (hs:Region.noSelect ops=true) (hf:Region.free md ops listed i=true) (hr:(Region.ready md ops listed).contains i=true)
 (hQ:∀c a w,Q (.panic c) (a.put oi.dst v) w->Q (.panic c) a w) (hw:Region.wanted oi (yielded ops a.tmps)=true) (hv:∀w,S w->(execOp a.eval oi).run P w=.ok (.value v) w) (hS:S w)
 (h:wpAnyH P md ops Q S fuel (listed.setIfInBounds i true) (a.put d v) w):wpAnyH P md ops Q S (fuel+1) listed a w:=by
 subst hd
 exact wpAnyH_take hi hs hf hr hQ (.inl ⟨hw,hv⟩) hS h
theorem C3 {i:Nat} {o:Oper} {d:Option Tmp} {f:FuncId} {vs:Array Value} {v:Value} {fuel:Nat} {listed:Array Bool} {a:Act} {w:World} (hr:Region.ready md ops listed=[i]) (ho:ops[i]?=some o) (hd:o.dst=d)
 (hw:Region.wanted o (yielded ops a.tmps)=true) (he:(execOp a.eval o).run P w=.ok (.enter f vs) w) (hc:Calls P f vs w (fun e w'=>e=.returned v/\B w w')) (hB:∀w',B w w'->S w')
 (h:∀w',S w'->wpAnyH P md ops Q S fuel (listed.setIfInBounds i true) (a.put d v) w'):wpAnyH P md ops Q S (fuel+1) listed a w:=by
 subst hd
 refine wpAnyH_all hr (by simp) (fun j hj=>?_)
 simp only[List.mem_singleton] at hj
 subst hj
 unfold Go.wpOp
 simp only[ho,hw,if_true]
 refine Or.inl ?_
 unfold Oper.wp
 rw[he]
 simp only[Oper.upon]
 refine hc.mono ?_
 rintro e w' ⟨rfl,hb⟩
 exact⟨hB _ hb,h _ (hB _ hb)⟩
theorem CQ {op:Oper} {a:Act} {ty:TypeId} {x:Operand} {p v:Value} {w:World} (ho:op.op=.load ty x) (hx:a.eval x=p) (hl:(Instr.loadAt ty p).run P w=.ok v w):
 (execOp a.eval op).run P w=.ok (.value v) w:=by
 unfold execOp
 simp only[ho,hx,Sem.run_bind,Sem.run_pure,Result.andThen_ok,hl]
theorem DR {w:World} {b o:Nat} {ty:TypeId} {v:Value} {d:TypeDesc} (hc:w.cell? ⟨b,o,none⟩=some v) (hu:P.underlying ty=some d) (hd:d.isRow=false):
 (Instr.loadAt ty (.pointer (some ⟨b,o,none⟩))).run P w=.ok v w:=by
 have afE:(isAgg ty).run P w=.ok false w:=by
  unfold isAgg
  rw[Sem.run_bind,run_underlying hu w]
  cases d<;>simp_all
 simp[Instr.loadAt,Instr.sureAddr,loadVar,Sem.run_bind,afE,run_load,hc]
end
end
section
open Go.RowKit Go.Deep
section
variable {P:Program} {ops:Array Oper} {Q:Exit->Act->World->Prop} {rest:List Oper} {o:Oper} {a:Act} {w:World} {d:Option Tmp} {v:Value}
end
end
section
open Go.RowKit Go.Deep
theorem jE.rL {aG:Nat->Prop} {w:World} {cs:List Value} {x:aD} (hx:jE.rd aG w cs x):(-9223372036854775808<=x.sign.key/\x.sign.key<=9223372036854775807)/\(-9223372036854775808<=x.sign.ah/\x.sign.ah<=9223372036854775807):=by
 obtain⟨Ms,Mt,Mu,Mv,Mw,Mx,My,Mz,MA,rfl,MC,Tt,Tu,Tv,Tw,Tx,Tz,TA,TB,MD,SF,SG,Lt,D6,Lu,G8,SH,SI,SJ,SK,G9,Lv,SL,SM,Lw,SN,SO,Lx,Ly,Lz⟩:=jE.parts hx
 exact⟨Ly,Lz⟩
theorem ady {aG:Nat->Prop} {w:World} {cs:List Value} {x:aD} (hx:jE.rd aG w cs x):(-9223372036854775808<=(cI x).key/\(cI x).key<=9223372036854775807)/\(-9223372036854775808<=(cI x).ah/\(cI x).ah<=9223372036854775807):=by
 unfold cI
 split
 ·split
  ·rename_i c hc
   obtain⟨a,n,_,hq⟩:=jE.WS hx
   obtain⟨_,b,off,ds,rfl,r1,k1⟩:=tL.at (i:=0) (x:=c) hq (by rw[hc];rfl)
   obtain⟨bv1,bv2,rfl,bf0,bf1,bf2,bf3,bf4,bf5,X4,ZW⟩:=vU.parts r1
   exact⟨X4,ZW⟩
  ·exact jE.rL hx
 ·exact jE.rL hx
end
def digits:List UInt8:=[48,49,50,51,52,53,54,55,56,57,97,98,99,100,101,102]
theorem Fc:∀n,n<16->digits[n]?=some (kX n):=by decide
theorem Qs (x:UInt8):(0:Int)<=(x.toNat:Int).tdiv 16/\digits[((x.toNat:Int).tdiv 16).toNat]?=some (kX (x.toNat/16)):=by
 have h:=x.toNat_lt
 have e:(x.toNat:Int).tdiv 16=((x.toNat/16:Nat):Int):=rfl
 rw[e]
 exact⟨by omega,Fc _ (by omega)⟩
theorem Qt (x:UInt8):(0:Int)<=(x.toNat:Int).tmod 16/\digits[((x.toNat:Int).tmod 16).toNat]?=some (kX (x.toNat%16)):=by
 have e:(x.toNat:Int).tmod 16=((x.toNat%16:Nat):Int):=rfl
 rw[e]
 exact⟨by omega,Fc _ (by omega)⟩
theorem u8_quo (x:UInt8):IntKind.u8.wrap ((x.toNat:Int).tdiv 16)=(x.toNat:Int).tdiv 16:=by
 have h:=x.toNat_lt
 have e:(x.toNat:Int).tdiv 16=((x.toNat/16:Nat):Int):=rfl
 rw[e]
 simp only[IntKind.wrap,IntKind.signed,IntKind.bits]
 simp
 omega
def qR (b:List UInt8):List UInt8:=120::b.flatMap fun c=>[kX (c.toNat/16),kX (c.toNat%16)]
theorem yB (b:List UInt8):(qR b).length<=1+2*b.length:=by
 have:=lz (f:=fun c:UInt8=>[kX (c.toNat/16),kX (c.toNat%16)]) (K:=2) b (fun _ _=>by simp)
 unfold qR
 rw[List.length_cons]
 omega
theorem Su {b:List UInt8} (h:b.length<=50000000):(gw b).length<=140737488355328:=by
 have:=yB b
 show(qR b).length<=_
 omega
theorem Qu {b:List UInt8} {q:Nat} {x:UInt8} (h:b[q]?=some x):(qR (b.take (q+1))).map af=(qR (b.take q)).map af++[[.int .u8 ((kX (x.toNat/16)).toNat:Int)],[.int .u8 ((kX (x.toNat%16)).toNat:Int)]]:=by
 unfold qR
 rw[sH h]
 simp[af]
theorem Gg [Wd] (b:List UInt8) (hl:b.length<=50000000):aq prog 15 [.list 1 (b.map af)] (.str (gw b)):=by
 refine kK false 32 [(6,⟨[(0,false),(1,false),(2,false),(3,false),(4,false),(5,false),(6,false),(7,false),(8,false),(9,false),(10,false),(11,false),(12,false),(13,false),(14,false),(15,true),(16,true),(17,false)],[0]⟩)] func15 ?_
 repeat' (conv=>arg 2;whnf);first|refine aY ?_
 refine bE (α:=Nat×List (List D)) (fun a=>⟨[(5,.int .i64 a.1),(0,.list 1 (b.map af)),(3,.str digits),(4,.row 0)],[.row 5 1 a.2]⟩) (fun a=>a.1<=b.length/\a.2=(qR (b.take a.1)).map af) (fun a=>b.length-a.1) (0,[[.int .u8 120]]) ⟨Nat.zero_le _,rfl⟩ (Sv.aK [0]) ?_
 rintro⟨q,xs⟩ ⟨hq,he⟩
 replace hq:q<=b.length:=hq
 replace he:xs=(qR (b.take q)).map af:=he
 have nC:xs.length<=100000001:=by
  have:=yB (b.take q)
  have:(b.take q).length<=q:=by rw[List.length_take];omega
  rw[he,List.length_map]
  omega
 repeat' (conv=>arg 2;whnf);first|refine aT (by decide) ?_|refine aT ⟨(by simp[maxLen];omega),(by simp;omega)⟩ ?_|apply an<;>intro h|refine wX hx ?_|refine cK (l:=b) (by simp at h;omega) (fun x hx=>?_)|refine bw (u8_quo x) ?_|refine dK _ (Qs x).1 (Qs x).2 ?_|refine dK _ (Qt x).1 (Qt x).2 ?_|refine bZ (by simp at h hq;omega) ?_|refine aZ (q+1,xs++[[.int .u8 ((kX (x.toNat/16)).toNat:Int)],[.int .u8 ((kX (x.toNat%16)).toNat:Int)]]) (Sv.aK [2]) ⟨by have:=(List.getElem?_eq_some_iff.1 hx).1;show q+1<=b.length;omega,by show xs++_=_;rw[Qu hx,he]⟩ (by have:=(List.getElem?_eq_some_iff.1 hx).1;show b.length-(q+1)<b.length-q;omega)|refine bq ?_|refine j8 (gw b) (by rw[he,show b.take q=b from List.take_of_length_le (by simp at h;omega)];rfl) ?_|refine aT (Su hl) ?_|refine cg
theorem IZ [Wd] (m:aD):aq prog 71 [.agg (aC m)] (.agg (bL (cI m))):=by
 by_cases h7:m.kind=7
 ·by_cases hc:m.changes.length=1
  ·obtain⟨c,hc⟩:=sM hc
   have e:cI m=c.sign:=by unfold cI;rw[if_pos h7,hc]
   rw[e]
   refine ak 19 [] func71 ?_
   repeat' (conv=>arg 2;whnf);first|apply an<;>intro h|refine eT (bU c) (by decide) (by simp[hc]) ?_|refine cg|(exfalso;simp_all;done)
  ·have e:cI m=m.sign:=by
    unfold cI
    rw[if_pos h7]
    split
    ·rename_i c rV;rw[rV] at hc;exact absurd rfl hc
    ·rfl
   rw[e]
   refine ak 19 [] func71 ?_
   repeat' (conv=>arg 2;whnf);first|apply an<;>intro h|refine cg|(exfalso;simp at*;omega)
 ·have e:cI m=m.sign:=by unfold cI;rw[if_neg h7]
  rw[e]
  refine ak 19 [] func71 ?_
  repeat' (conv=>arg 2;whnf);first|apply an<;>intro h|refine cg|(exfalso;simp_all;done)
theorem I1 [Wd] (k:Int):aq prog 72 [.int .i64 k] (.bool (mO k)):=by
 refine ak 17 [] func72 ?_
 repeat' (conv=>arg 2;whnf);first|apply an<;>intro h|(refine cL ?_;simp_all [mO];done)|(refine cL ?_;rw[Bool.eq_iff_iff];simp[mO] at*;omega)
theorem Rt (s:bJ):s=dx<->s.key=0/\s.ah=0:=by
 cases s
 simp[dx]
theorem Bk (m:aD):qt m<->ig (eu m)=0/\0<=(cI m).key/\0<=(cI m).ah/\(mO m.kind=true->(cI m).key=0/\(cI m).ah=0)/\(m.kind=7->m.sign.key=0/\m.sign.ah=0):=by
 unfold qt
 rw[abm,Rt,Rt]
theorem Sw [Wd] {P:Program} {tb:TT} {rs:List ResultVar} {e:Exit} {s:S} {xs ys:List UInt8} {d:D} (he:e=.normal\/e=.ret) (hr:iD tb s rs=some [.str xs,d]) (h:xs=ys) (hp:ga d=true):(T.leaf e s).ok P (Lf tb rs [] (fun r' h'=>r'=.aj [.str ys,d]/\h'=[])):=by
 subst h
 exact qB he hr (.refl _) (by simp[ga,ga.pl,hp])
def KV:List (Nat×tE):=[(6,⟨[(0,false),(3,false),(4,false),(5,false),(7,false),(8,false),(9,false),(1,true),(2,false),(6,true),(10,true),(11,true),(12,false),(13,false),(14,false)],[]⟩)]
theorem VH [Wd] (m:aD) (hm:bh.ok m) (hB:¬ig (eu m)=0):aq prog 45 [.agg (aC m)] (.aj [.str [],.bool false]):=by
 have hu:=Is m hm
 unfold uR at hu
 rw[if_neg hB] at hu
 have hS:=IZ m
 refine ak 62 KV func45 ?_
 repeat' (conv=>arg 2;whnf);first|apply an<;>intro h|refine okF hu ?_|refine okF hS ?_|refine okF (I1 m.kind) ?_|refine cg|(exfalso;simp_all;done)
theorem VI [Wd] (m:aD) (hm:bh.ok m) (hB:ig (eu m)=0) (hw:¬qt m):aq prog 45 [.agg (aC m)] (.aj [.str [],.bool false]):=by
 rw[Bk] at hw
 have hu:=Is m hm
 unfold uR at hu
 rw[if_pos hB] at hu
 have hS:=IZ m
 generalize cI m=s at*
 replace hw:=fun h=>hw ⟨hB,h⟩
 refine ak 62 KV func45 ?_
 repeat' (conv=>arg 2;whnf);first|apply an<;>intro h|refine okF hu ?_|refine okF hS ?_|refine okF (I1 m.kind) ?_|refine cg|(exfalso;simp_all;done)
theorem VJ [Wd] (m:aD) (hm:bh.ok m) (hw:qt m) (hb:((cI m).key<=9223372036854775807)/\(cI m).ah<=9223372036854775807):aq prog 45 [.agg (aC m)] (.aj [.str (gw (aO m)++[32]++nu (cI m)),.bool true]):=by
 have hi:=(Bk m).1 hw
 obtain⟨hB,w1,w2,w3,w4⟩:=hi
 have hu:=Is m hm
 unfold uR at hu
 rw[if_pos hB] at hu
 have hS:=IZ m
 have l1:=so (nG (oA (wY.1 hB).1))
 rw[wM] at l1
 generalize cI m=s at*
 have e1:aJ s.key=enc s.key.toNat:=eK w1 (by omega)
 have e2:aJ s.ah=enc s.ah.toNat:=eK w2 (by omega)
 have p1:=fG s.key
 have p2:=fG s.ah
 have l2:([]++aJ s.key++aJ s.ah).length<=20:=by simp only[List.length_append,List.length_nil];omega
 have q1:(gw (aO m)).length<=2000001:=by have:=yB (aO m);show(qR (aO m)).length<=_;omega
 have q2:(gw ([]++aJ s.key++aJ s.ah)).length<=41:=by have:=yB ([]++aJ s.key++aJ s.ah);show(qR _).length<=_;omega
 have cm:([]++aJ s.key).length+100<=aL:=Nat.le_trans (Nat.add_le_add_right (show([]++aJ s.key).length<=10 from p1) 100) (by decide)
 refine ak 62 KV func45 ?_
 repeat' (conv=>arg 2;whnf);first|apply an<;>intro h|refine okF hu ?_|refine okF hS ?_|refine okF (I1 m.kind) ?_|refine aT (by simp only[List.length_append,List.length_cons,List.length_nil];omega) ?_|refine lD ?_|refine okF (Gg (aO m) (by omega)) ?_|refine iQ (mI [] (s.key) (by simp[aL])) rfl (aa.cons (Co.nil _) (.refl _)) ?_|refine okF (mI _ s.ah cm) ?_|refine okF (Gg _ (Nat.le_trans l2 (by decide))) ?_|(refine Sw (.inr rfl) rfl ?_ rfl;simp[nu,e1,e2];done)|(exfalso;simp_all;done)|(exfalso;simp_all;omega)
theorem abn {a:bK} {k:Int} (h:a.kind=k):{a with kind:=k}=a:=by subst h;rfl
theorem Qv [Wd] (a:bK) (h:1<=a.kind/\a.kind<=12):aq prog 43 [.agg (cr a)] (.str (pZ a.kind.toNat a.jN)):=by
 obtain⟨k,w,n,o,b,m,s⟩:=a
 replace h:1<=k/\k<=12:=h
 have hk:k=1\/k=2\/k=3\/k=4\/k=5\/k=6\/k=7\/k=8\/k=9\/k=10\/k=11\/k=12:=by omega
 rcases hk with rfl|rfl|rfl|rfl|rfl|rfl|rfl|rfl|rfl|rfl|rfl|rfl<;>cases s
 all_goals
  refine ak 27 [] func43 ?_
  repeat' (conv=>arg 2;whnf);first|refine eT _ (of_decide_eq_true rfl) rfl ?_|exact cg
theorem Zu [Wd] (a:bK) (hk:¬(1<=a.kind/\a.kind<=12)):aq prog 43 [.agg (cr a)] (.str []):=by
 refine ak 27 [] func43 ?_
 repeat' (conv=>arg 2;whnf);first|apply an<;>intro h|refine cg|(exfalso;simp at*;omega)
section
open Go.RowKit Go.Deep
def xF (k wh n:Int) (oc:List Value) (b:Value) (mc:List Value) (s:Bool):List Value:=[.int .i64 k,.int .i64 wh,.int .i64 n]++oc++[b]++mc++[.bool s]
def LA:List Value:=[.int .i64 0,.string ⟨#[]⟩,.string ⟨#[]⟩,.int .i64 0,.slice none 0 0]
def GO:List Value:=[.int .i64 0,.int .i64 0,.int .i64 0,.int .i64 0,.int .i64 0,.int .i64 0,.int .i64 0,.int .i64 0,.int .i64 0,.slice none 0 0,.int .i64 0,.int .i64 0,.slice none 0 0,.slice none 0 0,.slice none 0 0,.slice none 0 0,.string ⟨#[]⟩,.int .i64 0,.string ⟨#[]⟩,.int .i64 0,.slice none 0 0,.slice none 0 0,.int .i64 0,.int .i64 0,.slice none 0 0,.int .i64 0,.int .i64 0,.slice none 0 0,.int .i64 0,.int .i64 0]
theorem iF.mk' {aG:Nat->Prop} {w:World} {oc mc:List Value} {b:Value} {s:bK} (h1:(-9223372036854775808<=s.kind/\s.kind<=9223372036854775807)) (h2:(-9223372036854775808<=s.bA/\s.bA<=9223372036854775807)) (h3:(-9223372036854775808<=s.num/\s.num<=9223372036854775807))
 (ho:mW.rd aG w oc s.op) (hb:tY.rd aG w [b] s.bytes) (hm:jE.rd aG w mc s.msg):iF.rd aG w (xF s.kind s.bA s.num oc b mc s.jN) s:=
 ⟨[.int .i64 s.kind],_,by simp[xF],⟨rfl,h1⟩,[.int .i64 s.bA],_,rfl,⟨rfl,h2⟩,[.int .i64 s.num],_,rfl,⟨rfl,h3⟩,oc,_,rfl,ho,[b],_,rfl,hb,mc,[.bool s.jN],rfl,hm,rfl⟩
theorem iF.Sd {aG:Nat->Prop} {w:World} {cs:List Value} {s:bK} (h:iF.rd aG w cs s):∃oc b mc,cs=xF s.kind s.bA s.num oc b mc s.jN/\((-9223372036854775808<=s.kind/\s.kind<=9223372036854775807)/\(-9223372036854775808<=s.bA/\s.bA<=9223372036854775807)/\(-9223372036854775808<=s.num/\s.num<=9223372036854775807))/\mW.rd aG w oc s.op/\tY.rd aG w [b] s.bytes/\jE.rd aG w mc s.msg:=by
 obtain⟨c0,e1,rfl,h0,c1,e2,rfl,h1,c2,e3,rfl,h2,c3,e4,rfl,h3,c4,e5,rfl,h4,c5,c6,rfl,h5,h6⟩:=h
 obtain⟨rfl,b0⟩:=h0
 obtain⟨rfl,b1⟩:=h1
 obtain⟨rfl,b2⟩:=h2
 obtain⟨u4,rfl⟩:=uN (tY.len h4)
 have yZ:c6=[.bool s.jN]:=h6
 subst yZ
 exact⟨c3,u4,c5,by simp[xF],⟨b0,b1,b2⟩,h3,h4,h5⟩
theorem tL.nil {α:Type} (T:Ty α) (aG:Nat->Prop) (w:World):(tL T).rd aG w [.slice none 0 0] []:=
 ⟨none,0,rfl,Nat.le_refl _,by unfold maxLen;omega,fun _=>⟨rfl,rfl⟩,by simp,fun h=>by simp at h⟩
theorem tY.nil (aG:Nat->Prop) (w:World):tY.rd aG w [.slice none 0 0] []:=
 ⟨_,rfl,Bs.nil w,fun g hg cu=>absurd rfl cu,by simp⟩
theorem RD (aG:Nat->Prop) (w:World):mW.rd aG w LA za:=
 mW.mk (s:=za) (by simp[za]) (by simp[za]) (by simp[za]) (by simp[za]) (tL.nil _ _ _)
theorem Kc (aG:Nat->Prop) (w:World):jE.rd aG w GO aE:=by
 refine jE.mk (s:=aE) ?_ ?_ ?_ ?_ ?_ ?_ ?_ ?_ ?_ (tL.nil _ _ _) ?_ ?_ (tL.nil _ _ _) (tL.nil _ _ _) (tL.nil _ _ _) (tY.nil _ _) ?_ ?_ ?_ ?_ (tY.nil _ _) (tL.nil _ _ _) ?_ ?_ (tL.nil _ _ _) ?_ ?_ (tL.nil _ _ _) ?_ ?_
 all_goals simp[aE,me,nk,oJ,dx]
def qy:Array Value->Nat->List Value->Array Value
 |cs,_,[]=>cs
 |cs,o,v::r=>qy (cs.setIfInBounds o v) (o+1) r
theorem gK.setCells {W:World} {L:List gi} {g:Nat} {t:TypeId}:∀(vs:List Value) {w:World} {cs:Array Value} (o:Nat),St W w (gK g t cs::L)->St W (w.setCells g o vs) (gK g t (qy cs o vs)::L)
 |[],_,_,_,h=>h
 |v::r,w,cs,o,h=>by
  rw[World.setCells]
  exact gK.setCells r (o+1) (gK.set h o v)
theorem NB:∀(new old a b:List Value),old.length=new.length->qy (a++old++b).toArray a.length new=(a++new++b).toArray
 |[],[],a,b,_=>by simp[qy]
 |[],_::_,_,_,h=>by simp at h
 |v::r,[],_,_,h=>by simp at h
 |v::r,u::s,a,b,h=>by
  have:=NB r s (a++[v]) b (by simpa using h)
  unfold qy
  rw[show((a++u::s++b).toArray.setIfInBounds a.length v)=(a++[v]++s++b).toArray from by simp]
  rw[List.length_append] at this
  rw[show a.length+1=a.length+[v].length from rfl,this]
  simp
theorem Z3 {W w:World} {L:List gi} {g:Nat} {t:TypeId} {cs:Array Value} (h:St W w (gK g t cs::L)) (o n:Nat) (hn:o+n<=cs.size):w.there g o n:=by
 intro j hj
 have hb:=gK.get h
 exact⟨by rw[hb.cell];simp;omega,hb.frozen _⟩
theorem K2:(prog.info? 61).map (·.size)=some 40:=by kernel_rfl
end
section
open Go.RowKit Go.Deep
section
variable {P:Program} {ops:Array Oper} {Q:Exit->Act->World->Prop} {md:Region.Mode} {S:World->Prop}
theorem acd {i:Nat} {o:Oper} {d:Option Tmp} {v:Value} {fuel:Nat} {listed:Array Bool} {a:Act} {w w':World} (hr:Region.ready md ops listed=[i]) (ho:ops[i]?=some o) (hd:o.dst=d)
 (hw:Region.wanted o (yielded ops a.tmps)=true) (he:(execOp a.eval o).run P w=.ok (.value v) w') (hS:S w') (h:wpAnyH P md ops Q S fuel (listed.setIfInBounds i true) (a.put d v) w'):wpAnyH P md ops Q S (fuel+1) listed a w:=by
 subst hd
 refine wpAnyH_all hr (by simp) (fun j hj=>?_)
 simp only[List.mem_singleton] at hj
 subst hj
 unfold Go.wpOp
 simp only[ho,hw,if_true]
 refine Or.inl ?_
 unfold Oper.wp
 rw[he]
 exact⟨hS,h⟩
end
end
section
open Go.RowKit Go.Deep
theorem VZ {old new:Array Value} (h:old.size=new.size):qy old 0 new.toList=new:=by
 have:=NB new.toList old.toList [] [] (by simpa using h)
 simpa using this
theorem gK.adz {W w:World} {L:List gi} {g:Nat} {t:TypeId} {old:Array Value} (h:St W w (gK g t old::L)) {new:Array Value} (hs:old.size=new.size):St W (w.setCells g 0 new.toList) (gK g t new::L):=by
 have:=gK.setCells new.toList 0 h
 rwa [VZ hs] at this
theorem mW.one {aG:Nat->Prop} {w:World} {cs:List Value} {o:bt} (h:mW.rd aG w cs o):∀v∈cs,v.oneCell'=true:=by
 obtain⟨v5,rfl,a1,a2,a3,a4,a5⟩:=mW.parts h
 obtain⟨A5,c5,e5,l5⟩:=tL.slice a5
 injection e5 with e5 _
 subst e5
 intro v hv
 simp only[List.mem_cons,List.not_mem_nil,or_false] at hv
 rcases hv with rfl|rfl|rfl|rfl|rfl<;>rfl
theorem jE.one {aG:Nat->Prop} {w:World} {cs:List Value} {x:aD} (hx:jE.rd aG w cs x):∀v∈cs,v.oneCell'=true:=by
 obtain⟨Ms,Mt,Mu,Mv,Mw,Mx,My,Mz,MA,rfl,MC,Tt,Tu,Tv,Tw,Tx,Tz,TA,TB,MD,SF,SG,Lt,D6,Lu,G8,SH,SI,SJ,SK,G9,Lv,SL,SM,Lw,SN,SO,Lx,Ly,Lz⟩:=jE.parts hx
 obtain⟨aA1,ac1,ME,al1⟩:=tL.slice MD
 injection ME with ME _
 subst ME
 obtain⟨aA2,ac2,MF,al2⟩:=tL.slice Lt
 injection MF with MF _
 subst MF
 obtain⟨aA3,ac3,MG,al3⟩:=tL.slice D6
 injection MG with MG _
 subst MG
 obtain⟨aA4,ac4,MH,al4⟩:=tL.slice Lu
 injection MH with MH _
 subst MH
 obtain⟨aA5,ac5,rfl⟩:=(tY.bs G8).rd.slice
 have al5:=tY.le G8
 obtain⟨aA6,ac6,rfl⟩:=(tY.bs G9).rd.slice
 have al6:=tY.le G9
 obtain⟨aA7,ac7,MI,al7⟩:=tL.slice Lv
 injection MI with MI _
 subst MI
 obtain⟨aA8,ac8,MJ,al8⟩:=tL.slice Lw
 injection MJ with MJ _
 subst MJ
 obtain⟨aA9,ac9,MK,al9⟩:=tL.slice Lx
 injection MK with MK _
 subst MK
 intro v hv
 simp only[List.mem_cons,List.not_mem_nil,or_false] at hv
 rcases hv with rfl|rfl|rfl|rfl|rfl|rfl|rfl|rfl|rfl|rfl|rfl|rfl|rfl|rfl|rfl|rfl|rfl|rfl|rfl|rfl|rfl|rfl|rfl|rfl|rfl|rfl|rfl|rfl|rfl|rfl<;>rfl
end
end Go.Proofs.YtafomdobfmmleaaGreatDoor
