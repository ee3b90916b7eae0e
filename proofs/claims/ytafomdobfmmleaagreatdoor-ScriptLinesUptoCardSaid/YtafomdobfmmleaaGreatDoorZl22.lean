/- Lemmas and contracts, part 22. -/
import Derived.Test.YtafomdobfmmleaaGreatDoorZl21
import Derived.Deep.RegionLaw
import Derived.Deep.QuietTactic
import Derived.BigQuiet
namespace Go.Proofs.YtafomdobfmmleaaGreatDoor
set_option linter.unusedVariables false
open Go.RowKit
open Go.Proofs.Tryz
set_option maxRecDepth 20000
set_option maxHeartbeats 20000000
def tG (s:List UInt8):Option Int:=match Lib.atoiAll s with
 |.ok n=>if Lib.itoa n=s then some n else none
 |_=>none
theorem abD {n:Int} (h:-9223372036854775808<=n/\n<=9223372036854775807):tG (Lib.itoa n)=some n:=by
 unfold tG
 rw[OB n h.1 h.2]
 exact if_pos rfl
theorem J6 {s:List UInt8} {n:Int} (h:tG s=some n):s=Lib.itoa n/\-9223372036854775808<=n/\n<=9223372036854775807:=by
 unfold tG at h
 split at h
 ·rename_i v hv
  split at h
  ·rename_i e
   injection h with h
   subst h
   exact⟨e.symm,IM hv⟩
  ·cases h
 ·cases h
abbrev lW (α:Type):=List (List UInt8)->Option (α×List (List UInt8))
def tH {α:Type} (p:List UInt8->Option α):lW α
 |[]=>none
 |s::r=>(p s).map fun x=>(x,r)
def fC {α β:Type} (p:lW α) (q:α->lW β):lW β:=fun ws=>match p ws with
 |some z=>q z.1 z.2
 |none=>none
def kr {α:Type} (x:α):lW α:=fun ws=>some (x,ws)
def uL {α:Type} (x:Option α):lW α:=fun ws=>x.map fun y=>(y,ws)
theorem fO {α β:Type} {p:lW α} {q:α->lW β} {ws r:List (List UInt8)} {x:α} (h:p ws=some (x,r)):fC p q ws=q x r:=by unfold fC;rw[h]
theorem lN {α β:Type} {p:lW α} {q:α->lW β} {ws:List (List UInt8)} (h:p ws=none):fC p q ws=none:=by unfold fC;rw[h]
def jD:lW Int:=tH tG
def mF:lW (List UInt8):=tH dU
def MB:Nat:=9223372036854775807
def nV (c:List UInt8):Option bJ:=if dA (nR MB (nR MB (c,0)).2).2=0 then some ⟨(nR MB (c,0)).1,(nR MB (nR MB (c,0)).2).1⟩ else none
def kJ (m:aD) (s:bJ):aD:=if m.kind=7 then(match m.changes with
 |[c]=>{m with changes:=[{c with sign:=s}]}
 |_=>{m with sign:=s}) else{m with sign:=s}
def pT (b:List UInt8):List UInt8:=if mO (nR 65536 (b,0)).1 then b else b++[0,1]
def uM (b:List UInt8) (s:bJ):Option aD:=if(cS aU aE (pT b)).2=0 then some (kJ (cS aU aE (pT b)).1 s) else none
def xE:lW aD:=fC mF fun b=>fC mF fun c=>fC (uL (nV c)) fun s=>uL (uM b s)
def qX (b:List UInt8):Option bt:=if dA (eF (b,0)).2=0 then some (eF (b,0)).1 else none
def Cu:lW bt:=fC mF fun b=>uL (qX b)
def dN (w:List UInt8):lW bK:=
 if w=pF then fC jD fun n=>kr {aR with kind:=1,num:=n}
 else if w=pQ then fC jD fun n=>kr {aR with kind:=2,num:=n}
 else if w=pG then fC jD fun n=>kr {aR with kind:=3,num:=n}
 else if w=pR then fC jD fun n=>kr {aR with kind:=4,bA:=n}
 else if w=pM then fC jD fun n=>kr {aR with kind:=5,bA:=n}
 else if w=mR then fC jD fun n=>fC Cu fun o=>kr {aR with kind:=6,bA:=n,op:=o}
 else if w=pS then fC jD fun n=>kr {aR with kind:=7,bA:=n}
 else if w=nL then fC jD fun n=>fC jD fun k=>kr {aR with kind:=8,bA:=n,num:=k}
 else if w=pN then fC jD fun n=>kr {aR with kind:=9,bA:=n}
 else if w=nP then fC mF fun b=>kr {aR with kind:=10,bytes:=b}
 else if w=mP then fC jD fun n=>fC xE fun m=>kr {aR with kind:=11,bA:=n,msg:=m}
 else if w=nQ then fC jD fun n=>fC xE fun m=>kr {aR with kind:=11,bA:=n,msg:=m,jN:=true}
 else if w=ni then kr {aR with kind:=12}
 else fun _=>none
theorem EV:dN pF=fC jD fun n=>kr {aR with kind:=1,num:=n}:=by unfold dN;rw[if_pos rfl]
theorem Fi:dN pQ=fC jD fun n=>kr {aR with kind:=2,num:=n}:=by unfold dN;rw[if_neg (by decide),if_pos rfl]
theorem EY:dN pG=fC jD fun n=>kr {aR with kind:=3,num:=n}:=by unfold dN;rw[if_neg (by decide),if_neg (by decide),if_pos rfl]
theorem Fj:dN pR=fC jD fun n=>kr {aR with kind:=4,bA:=n}:=by unfold dN;rw[if_neg (by decide),if_neg (by decide),if_neg (by decide),if_pos rfl]
theorem E1:dN pM=fC jD fun n=>kr {aR with kind:=5,bA:=n}:=by unfold dN;rw[if_neg (by decide),if_neg (by decide),if_neg (by decide),if_neg (by decide),if_pos rfl]
theorem FM:dN mR=fC jD fun n=>fC Cu fun o=>kr {aR with kind:=6,bA:=n,op:=o}:=by unfold dN;rw[if_neg (by decide),if_neg (by decide),if_neg (by decide),if_neg (by decide),if_neg (by decide),if_pos rfl]
theorem Fk:dN pS=fC jD fun n=>kr {aR with kind:=7,bA:=n}:=by unfold dN;rw[if_neg (by decide),if_neg (by decide),if_neg (by decide),if_neg (by decide),if_neg (by decide),if_neg (by decide),if_pos rfl]
theorem E2:dN nL=fC jD fun n=>fC jD fun k=>kr {aR with kind:=8,bA:=n,num:=k}:=by unfold dN;rw[if_neg (by decide),if_neg (by decide),if_neg (by decide),if_neg (by decide),if_neg (by decide),if_neg (by decide),if_neg (by decide),if_pos rfl]
theorem E3:dN pN=fC jD fun n=>kr {aR with kind:=9,bA:=n}:=by unfold dN;rw[if_neg (by decide),if_neg (by decide),if_neg (by decide),if_neg (by decide),if_neg (by decide),if_neg (by decide),if_neg (by decide),if_neg (by decide),if_pos rfl]
theorem Fl:dN nP=fC mF fun b=>kr {aR with kind:=10,bytes:=b}:=by unfold dN;rw[if_neg (by decide),if_neg (by decide),if_neg (by decide),if_neg (by decide),if_neg (by decide),if_neg (by decide),if_neg (by decide),if_neg (by decide),if_neg (by decide),if_pos rfl]
theorem Fm:dN mP=fC jD fun n=>fC xE fun m=>kr {aR with kind:=11,bA:=n,msg:=m}:=by unfold dN;rw[if_neg (by decide),if_neg (by decide),if_neg (by decide),if_neg (by decide),if_neg (by decide),if_neg (by decide),if_neg (by decide),if_neg (by decide),if_neg (by decide),if_neg (by decide),if_pos rfl]
theorem Fo:dN nQ=fC jD fun n=>fC xE fun m=>kr {aR with kind:=11,bA:=n,msg:=m,jN:=true}:=by unfold dN;rw[if_neg (by decide),if_neg (by decide),if_neg (by decide),if_neg (by decide),if_neg (by decide),if_neg (by decide),if_neg (by decide),if_neg (by decide),if_neg (by decide),if_neg (by decide),if_neg (by decide),if_pos rfl]
theorem E4:dN ni=kr {aR with kind:=12}:=by unfold dN;rw[if_neg (by decide),if_neg (by decide),if_neg (by decide),if_neg (by decide),if_neg (by decide),if_neg (by decide),if_neg (by decide),if_neg (by decide),if_neg (by decide),if_neg (by decide),if_neg (by decide),if_neg (by decide),if_pos rfl]
def ku:lW bK:=fC (tH some) dN
def fE (line:List UInt8) (a:bK):Prop:=gh.ok a/\kH a/\line=j0 a
theorem ru {n:Int} {r:List (List UInt8)} (h:-9223372036854775808<=n/\n<=9223372036854775807):jD (Lib.itoa n::r)=some (n,r):=by
 show(tG (Lib.itoa n)).map _=_
 rw[abD h]
 rfl
theorem F1 (b:List UInt8) (r:List (List UInt8)):mF (gw b::r)=some (b,r):=by
 show(dU (gw b)).map _=_
 rw[Fp]
 rfl
theorem QJ {s:bJ} (h1:0<=s.key/\s.key<=9223372036854775807) (h2:0<=s.ah/\s.ah<=9223372036854775807):nV (enc s.key.toNat++enc s.ah.toNat)=some s:=by
 have e1:=(j3 MB (by decide)).there s.key (enc s.ah.toNat) h1
 rw[eK h1.1 (by omega)] at e1
 have e2:=(j3 MB (by decide)).there s.ah [] h2
 rw[eK h2.1 (by omega),List.append_nil] at e2
 unfold nV
 rw[e1]
 simp only
 rw[e2]
 cases s
 rfl
theorem NM {m:aD} (hk:bP (eu m)=0):kg (eu m)=if mO m.kind then aO m else aO m++[0,1]:=by
 have hr:=yd hk
 rw[Bd] at hr
 have hs:=N5 hr
 have hz:cG cq=[0,1]:=by
  show(if dw cq=0 then rL cq else[])=_
  rw[if_pos (by decide)]
  show enc 0++enc 1=_
  rw[sN (by decide),sN (by decide)]
  rfl
 unfold kg
 rw[wM,Bd]
 by_cases h7:m.kind=7
 ·have hf:mO m.kind=false:=by unfold mO;rw[h7];rfl
  rw[if_pos h7,hf]
  have hc:m.changes.length=1:=by
   unfold bP at hk
   rw[Bd,h7] at hk
   simp only[show ¬((7:Int)=1) by decide,show ¬((7:Int)=2) by decide,show ¬((7:Int)=3) by decide,show ¬((7:Int)=4) by decide,show ¬((7:Int)=5) by decide,show ¬((7:Int)=6) by decide,if_false,if_true,bQ] at hk
   have h1:=hk.1
   have hl:(eu m).changes.length=m.changes.length:=by
    unfold eu
    split
    ·simp
    ·split<;>rfl
   rw[hl] at h1
   unfold cQ at h1
   split at h1
   ·cases h1
   ·omega
  obtain⟨c,hc⟩:=sM hc
  have:eu m={m with changes:=[{c with sign:=cq}]}:=by unfold eu;rw[if_pos ⟨h7,by rw[hc];rfl⟩,hc];rfl
  rw[this]
  simp[hz]
 ·rw[if_neg h7,hs]
  have hd:decide (m.kind=7)=false:=by simpa using h7
  rw[hd,Bool.or_false]
  have:mO m.kind=false->(eu m).sign=cq:=fun hf=>by
   unfold eu
   rw[if_neg (fun h=>h7 h.1),hs,hd,hf]
   rfl
  cases hf:mO m.kind
  ·simp[this hf,hz]
  ·simp
theorem Iu {m:aD} (hr:1<=m.kind/\m.kind<=12):kJ (eu m) (cI m)=m:=by
 have hs:=N5 hr
 unfold kJ
 rw[Bd]
 by_cases h7:m.kind=7
 ·rw[if_pos h7]
  by_cases hc:m.changes.length=1
  ·obtain⟨c,hc⟩:=sM hc
   have:eu m={m with changes:=[{c with sign:=cq}]}:=by unfold eu;rw[if_pos ⟨h7,by rw[hc];rfl⟩,hc];rfl
   rw[this]
   have ho:cI m=c.sign:=by unfold cI;rw[if_pos h7,hc]
   simp only[ho]
   cases m
   simp_all
  ·have hw:eu m=m:=by
    unfold eu
    rw[if_neg (fun h=>hc h.2),hs,h7]
    rfl
   rw[hw]
   have ho:cI m=m.sign:=by
    unfold cI
    rw[if_pos h7]
    split
    ·rename_i c rV;rw[rV] at hc;exact absurd rfl hc
    ·rfl
   rw[ho]
   split
   ·rename_i c rV;rw[rV] at hc;exact absurd rfl hc
   ·cases m;rfl
 ·rw[if_neg h7]
  have ho:cI m=m.sign:=by unfold cI;rw[if_neg h7]
  rw[ho]
  unfold eu
  rw[if_neg (fun h=>h7 h.1)]
  split
  ·cases m;rfl
  ·cases m;rfl
theorem abE {m:aD} (h:1<=m.kind/\m.kind<=12):(nR 65536 (aO m,0)).1=m.kind:=by
 have e:=(j3 65536 (by decide)).there m.kind (cT m) ⟨by omega,by omega⟩
 show(nR 65536 (aJ m.kind++cT m,0)).1=_
 rw[e]
theorem abF {m:aD} (h:KY m):uM (aO m) (cI m)=some m:=by
 obtain⟨h1,h2⟩:=h
 have hk:=nG (oA h1)
 have hr:=yd hk
 rw[Bd] at hr
 have hb:pT (aO m)=kg (eu m):=by
  unfold pT
  rw[abE hr,NM hk]
 have e:=Bz.there (eu m) [] h1
 rw[List.append_nil] at e
 have e2:cS aU aE (kg (eu m))=(eu m,0):=FK (by omega) e rfl
 unfold uM
 rw[hb,e2,if_pos rfl,Iu hr]
theorem abG {m:aD} (h:qt m) (hd:(cI m).key<=9223372036854775807/\(cI m).ah<=9223372036854775807) (r:List (List UInt8)):xE (ny m++r)=some (m,r):=by
 obtain⟨h1,h2,h3,_,_⟩:=h
 unfold xE ny nu
 show fC mF _ (gw (aO m)::gw (enc (cI m).key.toNat++enc (cI m).ah.toNat)::r)=_
 rw[fO (F1 _ _),fO (F1 _ _),QJ ⟨h2,hd.1⟩ ⟨h3,hd.2⟩]
 show uL (uM (aO m) (cI m)) r=_
 rw[abF h1]
 rfl
theorem acY {o:bt} (h:bS o=0):qX (iy o)=some o:=by
 have e:=Kz.there o [] h
 rw[List.append_nil] at e
 unfold qX
 rw[e]
 rfl
theorem acZ {o:bt} (h:bS o=0) (r:List (List UInt8)):Cu (gw (iy o)::r)=some (o,r):=by
 unfold Cu
 rw[fO (F1 _ _),acY h]
 rfl
theorem OE {m:aD} (hm:bh.ok m):(cI m).key<=9223372036854775807/\(cI m).ah<=9223372036854775807:=by
 have hs:∀s:bJ,iO.ok s->s.key<=9223372036854775807/\s.ah<=9223372036854775807:=fun s h=>⟨h.1.2,h.2.2⟩
 rw[ym] at hm
 obtain⟨h1,h2,h3,h4,h5,h6,h7,h8,h9,kN,iG,rR,rS,tT,tU,nW,tV⟩:=hm
 unfold cI
 split
 ·split
  ·rename_i c hc
   have h:=iG.2 c (by rw[hc];simp)
   rw[Ba] at h
   exact hs _ h.2.2.2.2
  ·exact hs _ tV
 ·exact hs _ tV
theorem abH {a:bK} (ha:gh.ok a) (h:kH a):ku (jf a)=some (a,[]):=by
 obtain⟨⟨hr,h6,iG⟩,hk⟩:=h
 have hb:dI.ok a.bA/\dI.ok a.num/\bh.ok a.msg:=⟨ha.2.1,ha.2.2.1,ha.2.2.2.2.2.1⟩
 have b2:-9223372036854775808<=a.bA/\a.bA<=9223372036854775807:=hb.1
 have b3:-9223372036854775808<=a.num/\a.num<=9223372036854775807:=hb.2.1
 have b6:=OE hb.2.2
 have key:dN (pZ a.kind.toNat a.jN) (pX a)=some (nv a,[]):=by
  unfold pX nv
  obtain⟨i,hi⟩:∃i,a.kind=i:=⟨_,rfl⟩
  rw[hi] at hr h6 iG ⊢
  have hii:i=1\/i=2\/i=3\/i=4\/i=5\/i=6\/i=7\/i=8\/i=9\/i=10\/i=11\/i=12:=by omega
  rcases hii with rfl|rfl|rfl|rfl|rfl|rfl|rfl|rfl|rfl|rfl|rfl|rfl
  ·show dN pF [Lib.itoa a.num]=_;rw[EV,fO (ru b3)];rfl
  ·show dN pQ [Lib.itoa a.num]=_;rw[Fi,fO (ru b3)];rfl
  ·show dN pG [Lib.itoa a.num]=_;rw[EY,fO (ru b3)];rfl
  ·show dN pR [Lib.itoa a.bA]=_;rw[Fj,fO (ru b2)];rfl
  ·show dN pM [Lib.itoa a.bA]=_;rw[E1,fO (ru b2)];rfl
  ·show dN mR [Lib.itoa a.bA,gw (iy a.op)]=_;rw[FM,fO (ru b2),fO (acZ (h6 rfl) [])];rfl
  ·show dN pS [Lib.itoa a.bA]=_;rw[Fk,fO (ru b2)];rfl
  ·show dN nL [Lib.itoa a.bA,Lib.itoa a.num]=_;rw[E2,fO (ru b2),fO (ru b3)];rfl
  ·show dN pN [Lib.itoa a.bA]=_;rw[E3,fO (ru b2)];rfl
  ·show dN nP [gw a.bytes]=_;rw[Fl,fO (F1 _ _)];rfl
  ·have e:=abG (iG rfl) b6 []
   rw[List.append_nil] at e
   cases hs:a.jN
   ·show dN mP (Lib.itoa a.bA::ny a.msg)=_;rw[Fm,fO (ru b2),fO e];rfl
   ·show dN nQ (Lib.itoa a.bA::ny a.msg)=_;rw[Fo,fO (ru b2),fO e];rfl
  ·show dN ni []=_;rw[E4];rfl
 unfold ku jf
 rw[fO (show tH some (pZ a.kind.toNat a.jN::pX a)=some (pZ a.kind.toNat a.jN,pX a) from rfl),key,<-hk]
theorem N6 {a:bK} (h:kH a):fc (j0 a)=jf a:=N7 _ (by simp[jf]) (WB a h.1.1)
theorem Dn {m:aD} {s:bJ} (hm:bh.ok m) (hs:iO.ok s):bh.ok (kJ m s):=by
 have uf:=hm
 rw[ym] at hm
 obtain⟨h1,h2,h3,h4,h5,h6,h7,h8,h9,kN,iG,rR,rS,tT,tU,nW,tV⟩:=hm
 have hx:bh.ok {m with sign:=s}:=by rw[ym];exact⟨h1,h2,h3,h4,h5,h6,h7,h8,h9,kN,iG,rR,rS,tT,tU,nW,hs⟩
 unfold kJ
 split
 ·split
  ·rename_i c hc
   rw[ym]
   refine⟨h1,h2,h3,h4,h5,h6,h7,h8,h9,kN,⟨by simp,fun d hd=>?_⟩,rR,rS,tT,tU,nW,tV⟩
   have k:=iG.2 c (by rw[hc];simp)
   rw[Ba] at k
   obtain rfl:=List.mem_singleton.1 hd
   rw[Ba]
   exact⟨k.1,k.2.1,k.2.2.1,k.2.2.2.1,hs⟩
  ·exact hx
 ·exact hx
theorem Sa {most:Nat} (h:most<=9223372036854775807) (s:RS):dI.ok (nR most s).1:=by
 have:=yp most s
 exact⟨by show(-9223372036854775808:Int)<=((cy most s).1:Int);omega,by show((cy most s).1:Int)<=9223372036854775807;omega⟩
theorem ac0 {c:List UInt8} {s:bJ} (h:nV c=some s):iO.ok s:=by
 unfold nV at h
 split at h
 ·injection h with h
  subst h
  exact⟨Sa (by decide) _,Sa (by decide) _⟩
 ·cases h
theorem zR {b:List UInt8} (h:(cS aU aE b).2=0):bh.ok (cS aU aE b).1:=by
 unfold cS at h ⊢
 split at h
 ·cases h
 ·rename_i h1
  rw[if_neg h1]
  split at h
  ·rename_i h2
   rw[if_pos h2]
   refine aef (Bz.back b ?_).1
   unfold dA at h2
   split at h2
   ·assumption
   ·assumption
  ·rename_i h2
   exact absurd h h2
theorem ada {b:List UInt8} {s:bJ} {m:aD} (hs:iO.ok s) (h:uM b s=some m):bh.ok m:=by
 unfold uM at h
 split at h
 ·rename_i h0
  injection h with h
  subst h
  exact Dn (zR h0) hs
 ·cases h
theorem aeg {b:List UInt8} {o:bt} (h:qX b=some o):fD.ok o:=by
 unfold qX at h
 split at h
 ·rename_i h0
  injection h with h
  subst h
  refine SC (Kz.back b ?_).1
  unfold dA at h0
  split at h0
  ·assumption
  ·assumption
 ·cases h
theorem jO:bh.ok aE:=⟨bu,bu,bu,bu,bu,bu,bu,rE,dO,ry,dO,dO,Nat.zero_le _,Nat.zero_le _,bu,sB,F2⟩
theorem tj:fD.ok dW:=⟨bu,Nat.zero_le _,Nat.zero_le _,bu,dO⟩
theorem fM {n:Int} (h:-9223372036854775808<=n/\n<=9223372036854775807):dI.ok n:=h
theorem mq (k:Int) {s0 s1 s2 s3:RS} {m:aD} {g:bJ} (a0:au (nR MX) s0 k s1) (hb:au (cR k) s1 m s2) (hs:au (jS k) s2 g s3):au aU s0 {m with sign:=g} s3:=
 (a0.bind (q:=fun k=>bg (cR k) (jS k)) (hb.pair hs (zG k)) (fun k=>(C0 k).pair (zG k))).map (fun z:Int×aD×bJ=>({z.2.1 with sign:=z.2.2}:aD))
theorem Es (k:Int) (h:bW k=false) {s0 s1 s2:RS} {m:aD} (a0:au (nR MX) s0 k s1) (hb:au (cR k) s1 m s2):au aU s0 {m with sign:=dx} s2:=
 mq k a0 hb (by unfold jS;rw[h];exact au.pure _ _)
theorem Cy (k:Int) (h:bW k=true) {s0 s1 s2 s3:RS} {m:aD} {g:bJ} (a0:au (nR MX) s0 k s1) (hb:au (cR k) s1 m s2) (hs:au cO s2 g s3):au aU s0 {m with sign:=g} s3:=
 mq k a0 hb (by unfold jS;rw[h];exact hs)
theorem SD {k:Int} (h:¬(1<=k/\k<=12)):cR k=fZ (qM {aE with kind:=k}) fun _=>100:=by
 unfold cR
 rw[if_neg (by omega),if_neg (by omega),if_neg (by omega),if_neg (by omega),if_neg (by omega),if_neg (by omega),if_neg (by omega),if_neg (by omega),if_neg (by omega),if_neg (by omega),if_neg (by omega),if_neg (by omega)]
theorem KC {s0 s1 u:RS} {l:List bX} (a0:au (nR MX) s0 1 s1) (hb:au (fZ jZ fun l=>if l.length=1 then 0 else 100) s1 l u):au aU s0 {aE with kind:=1,batch:=l} u:=
 Es 1 (by decide) a0 ((hb.map (fun l:List bX=>({aE with kind:=1,batch:=l}:aD))).to (by unfold cR;rw[if_pos rfl]) rfl)
theorem adg {s0 s1 s2:RS} {l:List bX} (a0:au (nR MX) s0 1 s1) (a1:au jZ s1 l s2) (h:¬l.length=1):au aU s0 {aE with kind:=1,batch:=l} ([],100):=by
 refine KC a0 (a1.nM (f:=fun l=>if l.length=1 then 0 else 100) (fun _=>?_) (show ¬(100:Int)=0 by decide) (Nat.zero_le _))
 show ¬(if l.length=1 then(0:Int) else 100)=0
 rw[if_neg h]
 decide
theorem adh {s0 s1 s2 s3 s4:RS} {x:Int×Int×Int×Int} {l:List bX} {g:bJ} (a0:au (nR MX) s0 2 s1) (a1:au qF s1 x s2) (a2:au jZ s2 l s3) (aS:au cO s3 g s4):au aU s0 {aE with kind:=2,src:=x.1,view:=x.2.1,seq:=x.2.2.1,ah:=x.2.2.2,batch:=l,sign:=g} s4:=
 Cy 2 (by decide) a0 (((a1.pair a2 oD).map (fun z:(Int×Int×Int×Int)×List bX=>({aE with kind:=2,src:=z.1.1,view:=z.1.2.1,seq:=z.1.2.2.1,ah:=z.1.2.2.2,batch:=z.2}:aD))).to (by unfold cR;rw[if_neg (by decide),if_pos rfl]) rfl) aS
theorem adi {s0 s1 s2 s3:RS} {x:Int×Int×Int×Int} {g:bJ} (a0:au (nR MX) s0 3 s1) (a1:au qF s1 x s2) (aS:au cO s2 g s3):au aU s0 {aE with kind:=3,src:=x.1,view:=x.2.1,seq:=x.2.2.1,ah:=x.2.2.2,sign:=g} s3:=
 Cy 3 (by decide) a0 ((a1.map (fun z:Int×Int×Int×Int=>({aE with kind:=3,src:=z.1,view:=z.2.1,seq:=z.2.2.1,ah:=z.2.2.2}:aD))).to (by unfold cR;rw[if_neg (by decide),if_neg (by decide),if_pos rfl]) rfl) aS
theorem adj {s0 s1 s2 s3:RS} {x:Int×Int×Int×Int} {g:bJ} (a0:au (nR MX) s0 4 s1) (a1:au qF s1 x s2) (aS:au cO s2 g s3):au aU s0 {aE with kind:=4,src:=x.1,view:=x.2.1,seq:=x.2.2.1,ah:=x.2.2.2,sign:=g} s3:=
 Cy 4 (by decide) a0 ((a1.map (fun z:Int×Int×Int×Int=>({aE with kind:=4,src:=z.1,view:=z.2.1,seq:=z.2.2.1,ah:=z.2.2.2}:aD))).to (by unfold cR;rw[if_neg (by decide),if_neg (by decide),if_neg (by decide),if_pos rfl]) rfl) aS
theorem adk {s0 s1 s2 s3 s4 s5 s6 s7:RS} {a b c d:Int} {e:nH} {g:bJ} (a0:au (nR MX) s0 5 s1) (a1:au (nR 12) s1 a s2) (a2:au (bF 0) s2 b s3) (a3:au (nR 7) s3 c s4) (a4:au (bF 0) s4 d s5) (a5:au rz s5 e s6) (aS:au cO s6 g s7):au aU s0 {aE with kind:=5,src:=a,view:=b,bD:=c,time:=d,result:=e,sign:=g} s7:=
 Cy 5 (by decide) a0 (((a1.pair (a2.pair (a3.pair (a4.pair a5 Be) ((bV _).pair Be)) ((dD _).pair ((bV _).pair Be))) ((bV _).pair ((dD _).pair ((bV _).pair Be)))).map (fun z:Int×Int×Int×Int×nH=>({aE with kind:=5,src:=z.1,view:=z.2.1,bD:=z.2.2.1,time:=z.2.2.2.1,result:=z.2.2.2.2}:aD))).to (by unfold cR;rw[if_neg (by decide),if_neg (by decide),if_neg (by decide),if_neg (by decide),if_pos rfl]) rfl) aS
theorem adl {s0 s1 s2 s3 s4 s5:RS} {a b c:Int} {g:bJ} (a0:au (nR MX) s0 6 s1) (a1:au (nR 12) s1 a s2) (a2:au (bF 1) s2 b s3) (a3:au (bF 1) s3 c s4) (aS:au cO s4 g s5):au aU s0 {aE with kind:=6,src:=a,seq:=b,ah:=c,sign:=g} s5:=
 Cy 6 (by decide) a0 (((a1.pair (a2.pair a3 (bV _)) ((bV _).pair (bV _))).map (fun z:Int×Int×Int=>({aE with kind:=6,src:=z.1,seq:=z.2.1,ah:=z.2.2}:aD))).to (by unfold cR;rw[if_neg (by decide),if_neg (by decide),if_neg (by decide),if_neg (by decide),if_neg (by decide),if_pos rfl]) rfl) aS
theorem RA {s0 s1 s2:RS} {c:cX} (a0:au (nR MX) s0 7 s1) (a1:au iE s1 c s2):au aU s0 {aE with kind:=7,src:=c.src,view:=c.view,changes:=[c]} s2:=
 Es 7 (by decide) a0 ((a1.map (fun c:cX=>({aE with kind:=7,src:=c.src,view:=c.view,changes:=[c]}:aD))).to (by unfold cR;rw[if_neg (by decide),if_neg (by decide),if_neg (by decide),if_neg (by decide),if_neg (by decide),if_neg (by decide),if_pos rfl]) rfl)
theorem adm {s0 s1 u:RS} {z:(Int×Int×List cX×List gq)×bJ} (a0:au (nR MX) s0 8 s1) (a1:au Hw s1 z u):au aU s0 {aE with kind:=8,src:=z.1.1,view:=z.1.2.1,changes:=z.1.2.2.1,entries:=z.1.2.2.2,sign:=z.2} u:=by
 have e:bg (cR 8) (jS 8)=bN (fun z:(Int×Int×List cX×List gq)×bJ=>(({aE with kind:=8,src:=z.1.1,view:=z.1.2.1,changes:=z.1.2.2.1,entries:=z.1.2.2.2}:aD),z.2)) Hw:=by
  unfold cR
  rw[if_neg (by decide),if_neg (by decide),if_neg (by decide),if_neg (by decide),if_neg (by decide),if_neg (by decide),if_neg (by decide),if_pos rfl]
  rfl
 have a2:au (bg (cR 8) (jS 8)) s1 (({aE with kind:=8,src:=z.1.1,view:=z.1.2.1,changes:=z.1.2.2.1,entries:=z.1.2.2.2}:aD),z.2) u:=
  (a1.map (fun z:(Int×Int×List cX×List gq)×bJ=>(({aE with kind:=8,src:=z.1.1,view:=z.1.2.1,changes:=z.1.2.2.1,entries:=z.1.2.2.2}:aD),z.2))).to e rfl
 exact(a0.bind (q:=fun k=>bg (cR k) (jS k)) a2 (fun k=>(C0 k).pair (zG k))).map (fun z:Int×aD×bJ=>({z.2.1 with sign:=z.2.2}:aD))
theorem adn {s0 s1 s2 s3 s4:RS} {a b:Int} {g:bJ} (a0:au (nR MX) s0 9 s1) (a1:au (nR 12) s1 a s2) (a2:au (bF 0) s2 b s3) (aS:au cO s3 g s4):au aU s0 {aE with kind:=9,src:=a,seq:=b,sign:=g} s4:=
 Cy 9 (by decide) a0 (((a1.pair a2 (bV _)).map (fun z:Int×Int=>({aE with kind:=9,src:=z.1,seq:=z.2}:aD))).to (by unfold cR;rw[if_neg (by decide),if_neg (by decide),if_neg (by decide),if_neg (by decide),if_neg (by decide),if_neg (by decide),if_neg (by decide),if_neg (by decide),if_pos rfl]) rfl) aS
theorem abQ {s0 s1 s2 s3 s4:RS} {a:Int} {b:gX} {c:List UInt8} (a0:au (nR MX) s0 10 s1) (a1:au (nR 12) s1 a s2) (a2:au lT s2 b s3) (a3:au (fB 262144) s3 c s4):au aU s0 {aE with kind:=10,src:=a,cert:=b,state:=c} s4:=
 Es 10 (by decide) a0 (((a1.pair (a2.pair a3 (iB _)) (uw.pair (iB _))).map (fun z:Int×gX×List UInt8=>({aE with kind:=10,src:=z.1,cert:=z.2.1,state:=z.2.2}:aD))).to (by unfold cR;rw[if_neg (by decide),if_neg (by decide),if_neg (by decide),if_neg (by decide),if_neg (by decide),if_neg (by decide),if_neg (by decide),if_neg (by decide),if_neg (by decide),if_pos rfl]) rfl)
theorem abR {s0 s1 s2 s3 s4:RS} {a c:Int} {b:List UInt8} (a0:au (nR MX) s0 11 s1) (a1:au (nR 7) s1 a s2) (a2:au nS s2 b s3) (a3:au (bF 0) s3 c s4):au aU s0 {aE with kind:=11,bD:=a,av:=b,offset:=c} s4:=
 Es 11 (by decide) a0 (((a1.pair (a2.pair a3 (bV _)) (C9.pair (bV _))).map (fun z:Int×List UInt8×Int=>({aE with kind:=11,bD:=z.1,av:=z.2.1,offset:=z.2.2}:aD))).to (by unfold cR;rw[if_neg (by decide),if_neg (by decide),if_neg (by decide),if_neg (by decide),if_neg (by decide),if_neg (by decide),if_neg (by decide),if_neg (by decide),if_neg (by decide),if_neg (by decide),if_pos rfl]) rfl)
theorem abS {s0 s1 s2 s3:RS} {a:Int} {b:jX} (a0:au (nR MX) s0 12 s1) (a1:au (nR 12) s1 a s2) (a2:au uD s2 b s3):au aU s0 {aE with kind:=12,src:=a,proof:=b} s3:=
 Es 12 (by decide) a0 (((a1.pair a2 Jb).map (fun z:Int×jX=>({aE with kind:=12,src:=z.1,proof:=z.2}:aD))).to (by unfold cR;rw[if_neg (by decide),if_neg (by decide),if_neg (by decide),if_neg (by decide),if_neg (by decide),if_neg (by decide),if_neg (by decide),if_neg (by decide),if_neg (by decide),if_neg (by decide),if_neg (by decide),if_pos rfl]) rfl)
theorem QS {k:Int} {s0 s1 u:RS} (h:¬(1<=k/\k<=12)) (a0:au (nR MX) s0 k s1) (hu:¬u.2=0) (hl:u.1=[]):au aU s0 {aE with kind:=k} u:=by
 have hb:au (cR k) s1 {aE with kind:=k} u:=by
  rw[SD h]
  exact au.guard (f:=fun _:aD=>(100:Int)) (u:=u) (au.pure {aE with kind:=k} s1) (fun _ e=>absurd e (by decide)) (fun _ _=>hu) (fun _=>hu) (by rw[hl];exact Nat.zero_le _)
 have hs:au (jS k) u dx u:=.xu ((zG k).stay u hu) hu (Nat.le_refl _)
 exact mq k a0 hb hs
theorem ado [Wd]:lX 126 [] aU bh.ok (fun m=>.agg (aC m)):=by
 intro b0 e0 h0
 obtain⟨z1,z2,z3,z4,z5,z6,z7,z8,z9,iW,nY,z12,nZ,og,oh,om,uU⟩:=vS
 refine ak 147 [] func126 ?_
 repeat' (conv=>arg 2;whnf);first|refine aY ?_|refine aV ?_ ?_
 conv=>arg 2;whnf
 refine aW 0 (mg MX (by decide)) b0 e0 h0 fun x1 b1 e1 a1 o1 l1=>?_
 have h1:b1.length<=8388609:=by omega
 have Ep:0<=x1/\x1<=9007199254740992:=o1
 have d1:=bM Ep (by decide)
 have hk:x1=1\/x1=2\/x1=3\/x1=4\/x1=5\/x1=6\/x1=7\/x1=8\/x1=9\/x1=10\/x1=11\/x1=12\/¬(1<=x1/\x1<=12):=by omega
 rcases hk with rfl|rfl|rfl|rfl|rfl|rfl|rfl|rfl|rfl|rfl|rfl|rfl|hk
 ·repeat'
   (conv=>arg 2;whnf)
   first|refine bw (by first|rfl|exact cj (by omega) (by omega)) ?_
  conv=>arg 2;whnf
  refine aW 0 (zk) b1 e1 h1 fun x2 b2 e2 a2 o2 l2=>?_
  have h2:b2.length<=8388609:=by omega
  by_cases he:e2=0
  ·subst he
   by_cases hl:x2.length=1
   ·repeat' (conv=>arg 2;whnf);first|refine bB (by simp[hl]) ?_|exact bf (r:=.agg (aC {aE with kind:=1,batch:=x2})) (h':=bz (b2,0)) [0] (.inr rfl) rfl rfl ⟨⟨rfl,rfl⟩,trivial⟩ ⟨⟨rfl,rfl⟩,trivial⟩ .z ⟨_,_,_,KC a1 (a2.gQ (fun _=>if_pos hl)),⟨d1,z2,z3,z4,z5,z6,z7,z8,o2,iW,nY,z12,nZ,og,oh,om,uU⟩,rfl,rfl⟩
   ·repeat' (conv=>arg 2;whnf);first|refine bY (by simp;omega) ?_|refine cV [0] (kF (k:=100) (by decide) b2) ?_|exact bf (r:=.agg (aC {aE with kind:=1,batch:=x2})) (h':=bz ([],100)) [0] (.inr rfl) rfl rfl ⟨⟨rfl,rfl⟩,trivial⟩ ⟨⟨rfl,rfl⟩,trivial⟩ .z ⟨_,_,_,adg a1 a2 hl,⟨d1,z2,z3,z4,z5,z6,z7,z8,o2,iW,nY,z12,nZ,og,oh,om,uU⟩,rfl,rfl⟩
  ·repeat' (conv=>arg 2;whnf);first|refine bB (by simpa using he) ?_|exact bf (r:=.agg (aC {aE with kind:=1,batch:=x2})) (h':=bz (b2,e2)) [0] (.inr rfl) rfl rfl ⟨⟨rfl,rfl⟩,trivial⟩ ⟨⟨rfl,rfl⟩,trivial⟩ .z ⟨_,_,_,KC a1 (a2.gQ (fun e=>absurd e he)),⟨d1,z2,z3,z4,z5,z6,z7,z8,o2,iW,nY,z12,nZ,og,oh,om,uU⟩,rfl,rfl⟩
 ·repeat'
   (conv=>arg 2;whnf)
   first|refine bw (by first|rfl|exact cj (by omega) (by omega)) ?_
  conv=>arg 2;whnf
  refine wG 0 (J8 ({aE with kind:=2})) b1 e1 h1 ⟨⟨rfl,rfl⟩,trivial⟩ (aa.cons (.refl _) (.cons .z .nil)) rfl fun x2 b2 e2 a2 o2 l2=>?_
  have h2:b2.length<=8388609:=by omega
  repeat' (conv=>arg 2;whnf);first|refine bw (by first|rfl|exact cj (by omega) (by omega)) ?_|refine aY ?_|refine aV ?_ ?_
  conv=>arg 2;whnf
  refine aW 0 (zk) b2 e2 h2 fun x3 b3 e3 a3 o3 l3=>?_
  have h3:b3.length<=8388609:=by omega
  repeat' (conv=>arg 2;whnf);first|refine bw (by first|rfl|exact cj (by omega) (by omega)) ?_|refine aY ?_|refine aV ?_ ?_
  conv=>arg 2;whnf
  refine aW 0 (kE) b3 e3 h3 fun x4 b4 e4 a4 o4 l4=>?_
  have h4:b4.length<=8388609:=by omega
  repeat' (conv=>arg 2;whnf);first|exact bf (r:=.agg (aC {aE with kind:=2,src:=x2.1,view:=x2.2.1,seq:=x2.2.2.1,ah:=x2.2.2.2,batch:=x3,sign:=x4})) (h':=bz (b4,e4)) [0] (.inr rfl) rfl rfl ⟨⟨rfl,rfl⟩,trivial⟩ ⟨⟨rfl,rfl⟩,trivial⟩ .z ⟨_,_,_,adh a1 a2 a3 a4,⟨d1,(bM o2.1 (by decide)),(bM o2.2.1 (by decide)),(bM o2.2.2.1 (by decide)),(bM o2.2.2.2 (by decide)),z6,z7,z8,o3,iW,nY,z12,nZ,og,oh,om,o4⟩,rfl,rfl⟩
 ·repeat'
   (conv=>arg 2;whnf)
   first|refine bw (by first|rfl|exact cj (by omega) (by omega)) ?_
  conv=>arg 2;whnf
  refine wG 0 (J8 ({aE with kind:=3})) b1 e1 h1 ⟨⟨rfl,rfl⟩,trivial⟩ (aa.cons (.refl _) (.cons .z .nil)) rfl fun x2 b2 e2 a2 o2 l2=>?_
  have h2:b2.length<=8388609:=by omega
  repeat' (conv=>arg 2;whnf);first|refine bw (by first|rfl|exact cj (by omega) (by omega)) ?_|refine aY ?_|refine aV ?_ ?_
  conv=>arg 2;whnf
  refine aW 0 (kE) b2 e2 h2 fun x3 b3 e3 a3 o3 l3=>?_
  have h3:b3.length<=8388609:=by omega
  repeat' (conv=>arg 2;whnf);first|exact bf (r:=.agg (aC {aE with kind:=3,src:=x2.1,view:=x2.2.1,seq:=x2.2.2.1,ah:=x2.2.2.2,sign:=x3})) (h':=bz (b3,e3)) [0] (.inr rfl) rfl rfl ⟨⟨rfl,rfl⟩,trivial⟩ ⟨⟨rfl,rfl⟩,trivial⟩ .z ⟨_,_,_,adi a1 a2 a3,⟨d1,(bM o2.1 (by decide)),(bM o2.2.1 (by decide)),(bM o2.2.2.1 (by decide)),(bM o2.2.2.2 (by decide)),z6,z7,z8,z9,iW,nY,z12,nZ,og,oh,om,o3⟩,rfl,rfl⟩
 ·repeat'
   (conv=>arg 2;whnf)
   first|refine bw (by first|rfl|exact cj (by omega) (by omega)) ?_
  conv=>arg 2;whnf
  refine wG 0 (J8 ({aE with kind:=4})) b1 e1 h1 ⟨⟨rfl,rfl⟩,trivial⟩ (aa.cons (.refl _) (.cons .z .nil)) rfl fun x2 b2 e2 a2 o2 l2=>?_
  have h2:b2.length<=8388609:=by omega
  repeat' (conv=>arg 2;whnf);first|refine bw (by first|rfl|exact cj (by omega) (by omega)) ?_|refine aY ?_|refine aV ?_ ?_
  conv=>arg 2;whnf
  refine aW 0 (kE) b2 e2 h2 fun x3 b3 e3 a3 o3 l3=>?_
  have h3:b3.length<=8388609:=by omega
  repeat' (conv=>arg 2;whnf);first|exact bf (r:=.agg (aC {aE with kind:=4,src:=x2.1,view:=x2.2.1,seq:=x2.2.2.1,ah:=x2.2.2.2,sign:=x3})) (h':=bz (b3,e3)) [0] (.inr rfl) rfl rfl ⟨⟨rfl,rfl⟩,trivial⟩ ⟨⟨rfl,rfl⟩,trivial⟩ .z ⟨_,_,_,adj a1 a2 a3,⟨d1,(bM o2.1 (by decide)),(bM o2.2.1 (by decide)),(bM o2.2.2.1 (by decide)),(bM o2.2.2.2 (by decide)),z6,z7,z8,z9,iW,nY,z12,nZ,og,oh,om,o3⟩,rfl,rfl⟩
 ·repeat'
   (conv=>arg 2;whnf)
   first|refine bw (by first|rfl|exact cj (by omega) (by omega)) ?_
  conv=>arg 2;whnf
  refine aW 0 (zw) b1 e1 h1 fun x2 b2 e2 a2 o2 l2=>?_
  have h2:b2.length<=8388609:=by omega
  repeat' (conv=>arg 2;whnf);first|refine bw (by first|rfl|exact cj (by omega) (by omega)) ?_|refine aY ?_|refine aV ?_ ?_
  conv=>arg 2;whnf
  refine aW 0 (gO 0) b2 e2 h2 fun x3 b3 e3 a3 o3 l3=>?_
  have h3:b3.length<=8388609:=by omega
  repeat' (conv=>arg 2;whnf);first|refine bw (by first|rfl|exact cj (by omega) (by omega)) ?_|refine aY ?_|refine aV ?_ ?_
  conv=>arg 2;whnf
  refine aW 0 (mg 7 (by decide)) b3 e3 h3 fun x4 b4 e4 a4 o4 l4=>?_
  have h4:b4.length<=8388609:=by omega
  repeat' (conv=>arg 2;whnf);first|refine bw (by first|rfl|exact cj (by omega) (by omega)) ?_
  conv=>arg 2;whnf
  refine aW 0 (gO 0) b4 e4 h4 fun x5 b5 e5 a5 o5 l5=>?_
  have h5:b5.length<=8388609:=by omega
  repeat' (conv=>arg 2;whnf);first|refine bw (by first|rfl|exact cj (by omega) (by omega)) ?_|refine aY ?_|refine aV ?_ ?_
  conv=>arg 2;whnf
  refine aW 0 (US) b5 e5 h5 fun x6 b6 e6 a6 o6 l6=>?_
  have h6:b6.length<=8388609:=by omega
  repeat' (conv=>arg 2;whnf);first|refine bw (by first|rfl|exact cj (by omega) (by omega)) ?_|refine aY ?_|refine aV ?_ ?_
  conv=>arg 2;whnf
  refine aW 0 (kE) b6 e6 h6 fun x7 b7 e7 a7 o7 l7=>?_
  have h7:b7.length<=8388609:=by omega
  repeat' (conv=>arg 2;whnf);first|exact bf (r:=.agg (aC {aE with kind:=5,src:=x2,view:=x3,bD:=x4,time:=x5,result:=x6,sign:=x7})) (h':=bz (b7,e7)) [0] (.inr rfl) rfl rfl ⟨⟨rfl,rfl⟩,trivial⟩ ⟨⟨rfl,rfl⟩,trivial⟩ .z ⟨_,_,_,adk a1 a2 a3 a4 a5 a6 a7,⟨d1,(bM o2 (by decide)),(bM o3 (by decide)),z4,z5,(bM o4 (by decide)),(bM o5 (by decide)),o6,z9,iW,nY,z12,nZ,og,oh,om,o7⟩,rfl,rfl⟩
 ·repeat'
   (conv=>arg 2;whnf)
   first|refine bw (by first|rfl|exact cj (by omega) (by omega)) ?_
  conv=>arg 2;whnf
  refine aW 0 (zw) b1 e1 h1 fun x2 b2 e2 a2 o2 l2=>?_
  have h2:b2.length<=8388609:=by omega
  repeat' (conv=>arg 2;whnf);first|refine bw (by first|rfl|exact cj (by omega) (by omega)) ?_|refine aY ?_|refine aV ?_ ?_
  conv=>arg 2;whnf
  refine aW 0 (gO 1) b2 e2 h2 fun x3 b3 e3 a3 o3 l3=>?_
  have h3:b3.length<=8388609:=by omega
  repeat' (conv=>arg 2;whnf);first|refine bw (by first|rfl|exact cj (by omega) (by omega)) ?_|refine aY ?_|refine aV ?_ ?_
  conv=>arg 2;whnf
  refine aW 0 (gO 1) b3 e3 h3 fun x4 b4 e4 a4 o4 l4=>?_
  have h4:b4.length<=8388609:=by omega
  repeat' (conv=>arg 2;whnf);first|refine bw (by first|rfl|exact cj (by omega) (by omega)) ?_|refine aY ?_|refine aV ?_ ?_
  conv=>arg 2;whnf
  refine aW 0 (kE) b4 e4 h4 fun x5 b5 e5 a5 o5 l5=>?_
  have h5:b5.length<=8388609:=by omega
  repeat' (conv=>arg 2;whnf);first|exact bf (r:=.agg (aC {aE with kind:=6,src:=x2,seq:=x3,ah:=x4,sign:=x5})) (h':=bz (b5,e5)) [0] (.inr rfl) rfl rfl ⟨⟨rfl,rfl⟩,trivial⟩ ⟨⟨rfl,rfl⟩,trivial⟩ .z ⟨_,_,_,adl a1 a2 a3 a4 a5,⟨d1,(bM o2 (by decide)),z3,(bM o3 (by decide)),(bM o4 (by decide)),z6,z7,z8,z9,iW,nY,z12,nZ,og,oh,om,o5⟩,rfl,rfl⟩
 ·repeat'
   (conv=>arg 2;whnf)
   first|refine bw (by first|rfl|exact cj (by omega) (by omega)) ?_
  conv=>arg 2;whnf
  refine aW 0 (Ft) b1 e1 h1 fun x2 b2 e2 a2 o2 l2=>?_
  have h2:b2.length<=8388609:=by omega
  repeat' (conv=>arg 2;whnf);first|exact bf (r:=.agg (aC {aE with kind:=7,src:=x2.src,view:=x2.view,changes:=[x2]})) (h':=bz (b2,e2)) [0] (.inr rfl) rfl rfl ⟨⟨rfl,rfl⟩,trivial⟩ ⟨⟨rfl,rfl⟩,trivial⟩ .z ⟨_,_,_,RA a1 a2,⟨d1,o2.2.1,o2.1,z4,z5,z6,z7,z8,z9,iW,⟨show 1<=4194304 by decide,fun z hz=>by rw[List.mem_singleton.1 hz];exact o2⟩,z12,nZ,og,oh,om,uU⟩,rfl,rfl⟩
 ·repeat'
   (conv=>arg 2;whnf)
   first|refine bw (by first|rfl|exact cj (by omega) (by omega)) ?_
  conv=>arg 2;whnf
  refine aW 0 (WG) b1 e1 h1 fun x2 b2 e2 a2 o2 l2=>?_
  have h2:b2.length<=8388609:=by omega
  repeat' (conv=>arg 2;whnf);first|exact bf (r:=.agg (aC {aE with kind:=8,src:=x2.1.1,view:=x2.1.2.1,changes:=x2.1.2.2.1,entries:=x2.1.2.2.2,sign:=x2.2})) (h':=bz (b2,e2)) [0] (.inr rfl) rfl rfl ⟨⟨rfl,rfl⟩,trivial⟩ ⟨⟨rfl,rfl⟩,trivial⟩ .z ⟨_,_,_,adm a1 a2,⟨d1,(bM o2.1 (by decide)),(bM o2.2.1 (by decide)),z4,z5,z6,z7,z8,z9,iW,o2.2.2.1,o2.2.2.2.1,nZ,og,oh,om,o2.2.2.2.2⟩,rfl,rfl⟩
 ·repeat'
   (conv=>arg 2;whnf)
   first|refine bw (by first|rfl|exact cj (by omega) (by omega)) ?_
  conv=>arg 2;whnf
  refine aW 0 (zw) b1 e1 h1 fun x2 b2 e2 a2 o2 l2=>?_
  have h2:b2.length<=8388609:=by omega
  repeat' (conv=>arg 2;whnf);first|refine bw (by first|rfl|exact cj (by omega) (by omega)) ?_|refine aY ?_|refine aV ?_ ?_
  conv=>arg 2;whnf
  refine aW 0 (gO 0) b2 e2 h2 fun x3 b3 e3 a3 o3 l3=>?_
  have h3:b3.length<=8388609:=by omega
  repeat' (conv=>arg 2;whnf);first|refine bw (by first|rfl|exact cj (by omega) (by omega)) ?_|refine aY ?_|refine aV ?_ ?_
  conv=>arg 2;whnf
  refine aW 0 (kE) b3 e3 h3 fun x4 b4 e4 a4 o4 l4=>?_
  have h4:b4.length<=8388609:=by omega
  repeat' (conv=>arg 2;whnf);first|exact bf (r:=.agg (aC {aE with kind:=9,src:=x2,seq:=x3,sign:=x4})) (h':=bz (b4,e4)) [0] (.inr rfl) rfl rfl ⟨⟨rfl,rfl⟩,trivial⟩ ⟨⟨rfl,rfl⟩,trivial⟩ .z ⟨_,_,_,adn a1 a2 a3 a4,⟨d1,(bM o2 (by decide)),z3,(bM o3 (by decide)),z5,z6,z7,z8,z9,iW,nY,z12,nZ,og,oh,om,o4⟩,rfl,rfl⟩
 ·repeat'
   (conv=>arg 2;whnf)
   first|refine bw (by first|rfl|exact cj (by omega) (by omega)) ?_
  conv=>arg 2;whnf
  refine aW 0 (zw) b1 e1 h1 fun x2 b2 e2 a2 o2 l2=>?_
  have h2:b2.length<=8388609:=by omega
  repeat' (conv=>arg 2;whnf);first|refine bw (by first|rfl|exact cj (by omega) (by omega)) ?_|refine aY ?_|refine aV ?_ ?_
  conv=>arg 2;whnf
  refine aW 0 (BA) b2 e2 h2 fun x3 b3 e3 a3 o3 l3=>?_
  have h3:b3.length<=8388609:=by omega
  repeat' (conv=>arg 2;whnf);first|refine bw (by first|rfl|exact cj (by omega) (by omega)) ?_|refine aY ?_|refine aV ?_ ?_
  conv=>arg 2;whnf
  refine aW 0 (sD 262144 (by decide)) b3 e3 h3 fun x4 b4 e4 a4 o4 l4=>?_
  have h4:b4.length<=8388609:=by omega
  repeat' (conv=>arg 2;whnf);first|exact bf (r:=.agg (aC {aE with kind:=10,src:=x2,cert:=x3,state:=x4})) (h':=bz (b4,e4)) [0] (.inr rfl) rfl rfl ⟨⟨rfl,rfl⟩,trivial⟩ ⟨⟨rfl,rfl⟩,trivial⟩ .z ⟨_,_,_,abQ a1 a2 a3 a4,⟨d1,(bM o2 (by decide)),z3,z4,z5,z6,z7,z8,z9,o3,nY,z12,(Nat.le_trans o4 (by decide)),og,oh,om,uU⟩,rfl,rfl⟩
 ·repeat'
   (conv=>arg 2;whnf)
   first|refine bw (by first|rfl|exact cj (by omega) (by omega)) ?_
  conv=>arg 2;whnf
  refine aW 0 (mg 7 (by decide)) b1 e1 h1 fun x2 b2 e2 a2 o2 l2=>?_
  have h2:b2.length<=8388609:=by omega
  repeat' (conv=>arg 2;whnf);first|refine bw (by first|rfl|exact cj (by omega) (by omega)) ?_
  conv=>arg 2;whnf
  refine aW 0 (QL) b2 e2 h2 fun x3 b3 e3 a3 o3 l3=>?_
  have h3:b3.length<=8388609:=by omega
  repeat' (conv=>arg 2;whnf);first|refine bw (by first|rfl|exact cj (by omega) (by omega)) ?_|refine aY ?_|refine aV ?_ ?_
  conv=>arg 2;whnf
  refine aW 0 (gO 0) b3 e3 h3 fun x4 b4 e4 a4 o4 l4=>?_
  have h4:b4.length<=8388609:=by omega
  repeat' (conv=>arg 2;whnf);first|exact bf (r:=.agg (aC {aE with kind:=11,bD:=x2,av:=x3,offset:=x4})) (h':=bz (b4,e4)) [0] (.inr rfl) rfl rfl ⟨⟨rfl,rfl⟩,trivial⟩ ⟨⟨rfl,rfl⟩,trivial⟩ .z ⟨_,_,_,abR a1 a2 a3 a4,⟨d1,z2,z3,z4,z5,(bM o2 (by decide)),z7,z8,z9,iW,nY,z12,nZ,(Nat.le_trans o3 (by decide)),(bM o4 (by decide)),om,uU⟩,rfl,rfl⟩
 ·repeat'
   (conv=>arg 2;whnf)
   first|refine bw (by first|rfl|exact cj (by omega) (by omega)) ?_
  conv=>arg 2;whnf
  refine aW 0 (zw) b1 e1 h1 fun x2 b2 e2 a2 o2 l2=>?_
  have h2:b2.length<=8388609:=by omega
  repeat' (conv=>arg 2;whnf);first|refine bw (by first|rfl|exact cj (by omega) (by omega)) ?_|refine aY ?_|refine aV ?_ ?_
  conv=>arg 2;whnf
  refine aW 0 (ZM) b2 e2 h2 fun x3 b3 e3 a3 o3 l3=>?_
  have h3:b3.length<=8388609:=by omega
  repeat' (conv=>arg 2;whnf);first|exact bf (r:=.agg (aC {aE with kind:=12,src:=x2,proof:=x3})) (h':=bz (b3,e3)) [0] (.inr rfl) rfl rfl ⟨⟨rfl,rfl⟩,trivial⟩ ⟨⟨rfl,rfl⟩,trivial⟩ .z ⟨_,_,_,abS a1 a2 a3,⟨d1,(bM o2 (by decide)),z3,z4,z5,z6,z7,z8,z9,iW,nY,z12,nZ,og,oh,o3,uU⟩,rfl,rfl⟩
 ·by_cases he:e1=0
  ·subst he
   repeat' (conv=>arg 2;whnf);first|refine bw (by first|rfl|exact cj (by omega) (by omega)) ?_|refine bB (by simp;omega) ?_|refine cV [0] (kF (k:=100) (by decide) b1) ?_|exact bf (r:=.agg (aC {aE with kind:=x1})) (h':=bz ([],100)) [0] (.inr rfl) rfl rfl ⟨⟨rfl,rfl⟩,trivial⟩ ⟨⟨rfl,rfl⟩,trivial⟩ .z ⟨_,_,_,QS hk a1 (show ¬(100:Int)=0 by decide) rfl,⟨d1,z2,z3,z4,z5,z6,z7,z8,z9,iW,nY,z12,nZ,og,oh,om,uU⟩,rfl,rfl⟩
  ·repeat' (conv=>arg 2;whnf);first|refine bw (by first|rfl|exact cj (by omega) (by omega)) ?_|refine bB (by simp;omega) ?_|refine cV [0] (JA he 100 b1) ?_|exact bf (r:=.agg (aC {aE with kind:=x1})) (h':=bz ([],e1)) [0] (.inr rfl) rfl rfl ⟨⟨rfl,rfl⟩,trivial⟩ ⟨⟨rfl,rfl⟩,trivial⟩ .z ⟨_,_,_,QS hk a1 he rfl,⟨d1,z2,z3,z4,z5,z6,z7,z8,z9,iW,nY,z12,nZ,og,oh,om,uU⟩,rfl,rfl⟩
theorem BC {α:Type} {p:RS->α×RS} {bs b:List UInt8} {e:Int} {x:α} (g:au p (bs,0) x (b,e)):(dA (b,e)=0->p (bs,0)=(x,(b,0))/\dA (b,0)=0)/\(¬dA (b,e)=0->¬dA (p (bs,0)).2=0):=by
 by_cases he:e=0
 ·subst he
  rw[g.kM rfl]
  exact⟨fun h=>⟨rfl,h⟩,fun h=>h⟩
 ·have hb:=g.bad he
  refine⟨fun h=>absurd (F3 h) he,fun _=>?_⟩
  rw[JE hb]
  exact hb
def Gn (bs:List UInt8) (x:aD) (k:Int):Prop:=bh.ok x/\(k=0->cS aU aE bs=(x,0))/\(¬k=0->¬(cS aU aE bs).2=0)
theorem abT {bs b:List UInt8} {e:Int} {x:aD} (hl:¬262144<bs.length) (g:au aU (bs,0) x (b,e)) (hx:bh.ok x):(dA (b,e)=0->Gn bs x 0)/\(¬dA (b,e)=0->Gn bs aE (dA (b,e))):=by
 obtain⟨q1,q2⟩:=BC g
 refine⟨fun h=>⟨hx,fun _=>FK hl (q1 h).1 (q1 h).2,fun k=>absurd rfl k⟩,fun h=>⟨vS,fun k=>absurd k h,fun _=>?_⟩⟩
 rw[OA (c:=(aU (bs,0)).1) (s:=(aU (bs,0)).2) hl rfl (q2 h)]
 exact q2 h
theorem ZN {bs:List UInt8} (hl:262144<bs.length):Gn bs aE 3:=⟨vS,fun h=>absurd h (by decide),fun _=>by rw[Oz hl];decide⟩
def GN (bs:List UInt8) (x:bt) (k:Int):Prop:=fD.ok x/\(k=0->qX bs=some x)/\(¬k=0->qX bs=none)
theorem adp {bs b:List UInt8} {e:Int} {x:bt} (g:au eF (bs,0) x (b,e)) (hx:fD.ok x):(dA (b,e)=0->GN bs x 0)/\(¬dA (b,e)=0->GN bs dW (dA (b,e))):=by
 obtain⟨q1,q2⟩:=BC g
 refine⟨fun h=>⟨hx,fun _=>?_,fun k=>absurd rfl k⟩,fun h=>⟨jh,fun k=>absurd k h,fun _=>?_⟩⟩
 ·unfold qX
  rw[(q1 h).1,if_pos (q1 h).2]
 ·unfold qX
  rw[if_neg (q2 h)]
theorem PB [Wd] (bs:List UInt8) (kC:bs.length<=8388609):bC prog 81 [.list 1 (bs.map af)] [] (fun r h=>(∃x k,Gn bs x k/\r=.aj [.agg (aC x),.int .i64 k])/\h=[]):=by
 by_cases hl:262144<bs.length
 ·refine ak 22 [] func81 ?_
  repeat' (conv=>arg 2;whnf);first|refine bY (by simp;omega) ?_|exact bf (r:=.aj [.agg (aC aE),.int .i64 3]) (h':=[]) [] (.inr rfl) rfl rfl trivial trivial .y ⟨⟨_,_,ZN hl,rfl⟩,rfl⟩
 ·refine ak 22 [] func81 ?_
  repeat' (conv=>arg 2;whnf);first|refine bB (by simp;omega) ?_|refine cV [] (Dq bs) ?_
  conv=>arg 2;whnf
  refine aW 1 (ado) bs 0 kC fun x1 b1 e1 a1 o1 l1=>?_
  have h1:b1.length<=8388609:=by omega
  obtain⟨q1,q2⟩:=abT hl a1 o1
  by_cases hD:dA (b1,e1)=0
  ·repeat' (conv=>arg 2;whnf);first|refine qG 1 b1 e1 ⟨⟨rfl,rfl⟩,trivial⟩ (aa.refl _) rfl ?_|refine bB (by simpa using hD) ?_|exact bf (r:=.aj [.agg (aC x1),.int .i64 0]) (h':=[]) [] (.inr rfl) rfl rfl trivial trivial .y ⟨⟨_,_,q1 hD,rfl⟩,rfl⟩
  ·repeat' (conv=>arg 2;whnf);first|refine qG 1 b1 e1 ⟨⟨rfl,rfl⟩,trivial⟩ (aa.refl _) rfl ?_|refine bY (by simpa using hD) ?_|exact bf (r:=.aj [.agg (aC aE),.int .i64 (dA (b1,e1))]) (h':=[]) [] (.inr rfl) rfl rfl trivial trivial .y ⟨⟨_,_,q2 hD,rfl⟩,rfl⟩
theorem WH [Wd] (bs:List UInt8) (kC:bs.length<=8388609):bC prog 49 [.list 1 (bs.map af)] [] (fun r h=>(∃x k,GN bs x k/\r=.aj [.agg (cC x),.int .i64 k])/\h=[]):=by
 refine ak 18 [] func49 ?_
 repeat' (conv=>arg 2;whnf);first|refine cV [] (Dq bs) ?_
 conv=>arg 2;whnf
 refine aW 1 (OJ) bs 0 kC fun x1 b1 e1 a1 o1 l1=>?_
 have h1:b1.length<=8388609:=by omega
 obtain⟨q1,q2⟩:=adp a1 o1
 by_cases hD:dA (b1,e1)=0
 ·repeat' (conv=>arg 2;whnf);first|refine qG 1 b1 e1 ⟨⟨rfl,rfl⟩,trivial⟩ (aa.refl _) rfl ?_|refine bB (by simpa using hD) ?_|exact bf (r:=.aj [.agg (cC x1),.int .i64 0]) (h':=[]) [] (.inr rfl) rfl rfl trivial trivial .y ⟨⟨_,_,q1 hD,rfl⟩,rfl⟩
 ·repeat' (conv=>arg 2;whnf);first|refine qG 1 b1 e1 ⟨⟨rfl,rfl⟩,trivial⟩ (aa.refl _) rfl ?_|refine bY (by simpa using hD) ?_|exact bf (r:=.aj [.agg (cC dW),.int .i64 (dA (b1,e1))]) (h':=[]) [] (.inr rfl) rfl rfl trivial trivial .y ⟨⟨_,_,q2 hD,rfl⟩,rfl⟩
theorem ade [Wd] {P:Program} {Q:Exit->S->Prop} {f:FuncId} {ar bR:List D} {h:List AO} {t:TypeId} {cs ds:List D} {c:D->List AO->T} {R:D->Prop} (fz:List Nat) (p:Nat) (ho:h[p]?=some (.cells t cs)) (hz:fz.elem p=false) (um:aa (D.dj.fl h fz cs) ds) (hp:ga.pl ds=true) (hF:bC P f ar [.cells t ds] (fun r h'=>R r)) (hc:aa bR (D.bO.rl [p] ar)) (hM:(jT h bR).elem p=true) (hb:∀r,R r->yL r=true) (k:∀r,R r->(c r (h.set p .gone)).ok P Q):(T.call f bR h c).ok P Q:=by
 have Em:p∈jT h bR:=by simpa using hM
 have oT:p∉fz:=by simpa using hz
 refine⟨fun r' h'=>R r'/\h'=h.set p .gone,⟨hF.1,fun w I g vs hW hd ha=>?_⟩,fun r' h' ⟨e1,e2⟩=>by subst e2;exact k r' e1⟩
 have iK:p<h.length:=(List.getElem?_eq_some_iff.1 ho).1
 obtain⟨q,hg⟩:∃q,g[p]?=some q:=⟨_,List.getElem?_eq_getElem (by rw[hd.len];exact iK)⟩
 obtain⟨b,us,L3,D2,kP,h1⟩:=hd.obj p _ _ ho hg
 have L4:∀x,I x->(I x\/gM fz g h x):=fun _ h=>.inl h
 have hA:∀b,Old.A b->I b:=Wd.aI hW
 have Ax:cJ (fun x=>I x\/gM fz g h x) g w us ds:=um.ok (by
  rw[rF]
  refine⟨by rw[List.length_map];exact kP.1,fun i v d h1 h2=>?_⟩
  rw[List.getElem?_map] at h2
  cases hq:cs[i]? with
  |none=>rw[hq] at h2;cases h2
  |some d0=>
   rw[hq] at h2
   injection h2 with h2
   subst h2
   exact(kP.2 i v d0 h1 hq).dj hd hA L4 (fun _ h=>.inr h))
 have Hu:AO.owns q (.cells t cs) b:=by rw[L3];rfl
 have Tg:¬(I b\/gM fz g h b):=by
  rintro(e|⟨o',cA,p',hm,q1,q2,q3⟩)
  ·exact hd.own p _ _ b ho hg Hu e
  ·have:=hd.sep p o' _ cA _ p' b ho q1 hg q2 Hu q3
   subst this
   exact oT hm
 have hσ:∀(i o:Nat),[p][i]?=some o->[q][i]?=g[o]?:=by
  intro i o e
  cases i with
  |zero=>simp at e;subst e;simp[hg]
  |succ i=>simp at e
 have eV:∀x,dF [q] [.cells t ds] x->x=b:=by
  rintro x ⟨o,ao,q',e1,e2,e3⟩
  cases o with
  |succ o=>simp at e1
  |zero=>
   simp at e1 e2
   subst e1 e2
   rw[L3] at e3
   injection e3 with e3
   exact e3.symm
 have LY:Den (fun x=>I x\/gM fz g h x) [q] w [.cells t ds]:=by
  refine⟨rfl,fun x hx=>hx.elim (hd.aG x) (fun e=>hd.lt e.owned),fun o ao q' e1 e2=>?_,fun o ao q' x e1 e2 e3 hx=>?_,fun o o' ao cA q q' x e1 y5 e2 y6 e3 L5=>?_⟩
  ·cases o with
   |succ o=>simp at e1
   |zero=>
    simp at e1 e2
    subst e1 e2
    exact⟨b,us,L3,D2,(ur Ax hp).Ay,h1⟩
  ·have:=eV x ⟨o,ao,q',e1,e2,e3⟩
   subst this
   exact Tg hx
  ·cases o with
   |succ o=>simp at e1
   |zero=>cases o' with
    |succ o=>simp at y5
    |zero=>rfl
 have hva:cJ (fun x=>I x\/gM fz g h x) [q] w vs ar:=(hc.ok (ha.mono L4 (fun _ _ h=>h))).down hσ
 refine(hF.2 w _ [q] vs (Wd.cl hW (fun _ _=>rfl) L4) LY hva).mono ?_
 have xS:∀x,x=b->gM (jT h bR) g h x:=by rintro x rfl;exact⟨p,_,_,Em,ho,hg,Hu⟩
 rintro e w' (⟨v,I',mV,r0,h0,rfl,hR,mU,rZ,hx,i1,i2,ow,ck⟩|⟨ch,rfl,hp,hx⟩)
 case inr=>exact .inr ⟨ch,rfl,hp,hx.mono (fun x _ ho=>xS x (eV x ho))⟩
 have kZ:Ext (fun x=>x=b) w w':=hx.mono (fun x _ ho=>eV x ho)
 have key:∀{i:Nat} {ao:AO},(h.set p .gone)[i]?=some ao->(h[i]?=some ao/\i≠p)\/ao=.gone:=by
  intro i ao hi
  rw[List.getElem?_set] at hi
  split at hi
  ·injection hi with e
   exact .inr e.symm
  ·rename_i cu
   exact .inl ⟨hi,fun e=>cu e.symm⟩
 have Az:∀x,dF g (h.set p .gone) x->¬x=b:=by
  rintro x ⟨o,ao,q',e1,e2,e3⟩ rfl
  rcases key e1 with⟨k1,k2⟩|rfl
  ·exact k2 (hd.sep o p _ _ _ _ x k1 ho e2 hg e3 Hu)
  ·exact e3.elim
 refine .inl ⟨v,I,g,r0,h.set p .gone,rfl,⟨hR,rfl⟩,⟨(hd.drop p).ext kZ (fun x hI (e:x=b)=>Tg (.inl (by rw[<-e];exact hI))) Az,kZ.mono (fun x _ (e:x=b)=>xS x e),fun _ h=>h,fun _ h=>.inl h,fun _ _ h=>h,fun o _ hn=>?_,fun o ao q' x _ e1 e2 e3=>?_,fun o ao q' x hl e1 _ _=>?_⟩,Jz (hb _ hR) rZ⟩
 ·rw[List.getElem?_set,if_neg (fun (e:p=o)=>hn (by rw[<-e];exact Em))]
 ·rcases key e1 with⟨k1,_⟩|rfl
  ·exact⟨ao,k1,e3⟩
  ·exact e3.elim
 ·have:=(List.getElem?_eq_some_iff.1 e1).1
  rw[List.length_set] at this
  omega
theorem QE:∀(r:List UInt8) (a:Nat),a<=r.foldl (fun n c=>n*10+(c.toNat-48)) a
 |[],a=>Nat.le_refl _
 |c::r,a=>Nat.le_trans (by omega) (QE r (a*10+(c.toNat-48)))
theorem XT {l:List UInt8} {i:Nat} {c:UInt8} (h:l[i]?=some c):sO (l.take i)*10<=sO l:=by
 have hi:=(List.getElem?_eq_some_iff.1 h).1
 have e:l=l.take i++l[i]::l.drop (i+1):=by rw[<-List.drop_eq_getElem_cons hi,List.take_append_drop]
 conv=>rhs;rw[e]
 unfold sO
 rw[List.foldl_append,List.foldl_cons]
 exact Nat.le_trans (by omega) (QE _ _)
theorem VN {l:List UInt8} {i:Nat} {c:UInt8} (h:l[i]?=some c):sO (l.take (i+1))=sO (l.take i)*10+(c.toNat-48):=by
 rw[List.take_add_one,h]
 exact NL _ _
theorem zu (n:Int):-9223372036854775808<=IntKind.i64.wrap n/\IntKind.i64.wrap n<=9223372036854775807:=by
 have e:IntKind.i64.wrap n=if 9223372036854775808<=n%18446744073709551616 then n%18446744073709551616-18446744073709551616 else n%18446744073709551616:=by simp[IntKind.wrap,IntKind.bits,IntKind.signed]
 rw[e]
 split<;>omega
theorem QF {m:Int} (h:-9223372036854775808<=m/\m<=9223372036854775807):(0<=m->IntKind.i64.wrap (m.natAbs:Int)=m)/\(m<0->IntKind.i64.wrap (-(IntKind.i64.wrap (m.natAbs:Int)))=m):=by
 have e:∀n,IntKind.i64.wrap n=if 9223372036854775808<=n%18446744073709551616 then n%18446744073709551616-18446744073709551616 else n%18446744073709551616:=fun n=>by simp[IntKind.wrap,IntKind.bits,IntKind.signed]
 constructor
 ·intro h0
  rw[e]
  split<;>omega
 ·intro h0
  rw[e,e]
  split<;>split<;>omega
def yU (d:List UInt8) (i n:Nat):Prop:=i<=d.length/\n=sO (d.take i)/\n<=11529215046068469769
def Cb (s d:List UInt8):Prop:=∀m:Int,-9223372036854775808<=m/\m<=9223372036854775807->s=Lib.itoa m->d=Lib.decDigits m.natAbs
theorem Cb.bad {s d:List UInt8} (h:Cb s d) {i n:Nat} {c:UInt8} (hn:yU d i n) (hc:d[i]?=some c) (hb:¬(48<=c.toNat/\c.toNat<=57/\n<=1152921504606846976)) {m:Int} (hm:-9223372036854775808<=m/\m<=9223372036854775807) (e:s=Lib.itoa m):False:=by
 have hd:=h m hm e
 have h1:=CP m.natAbs c (by rw[<-hd];exact List.mem_of_getElem? hc)
 have h2:=XT hc
 rw[hd,Ir,<-hd,<-hn.2.1] at h2
 exact hb ⟨h1.1,h1.2,by omega⟩
theorem yU.next {d:List UInt8} {i n:Nat} {c:UInt8} (h:yU d i n) (hc:d[i]?=some c) (hb:48<=c.toNat/\c.toNat<=57/\n<=1152921504606846976):yU d (i+1) (10*n+(c.toNat-48)):=
 ⟨by have:=(List.getElem?_eq_some_iff.1 hc).1;omega,by rw[VN hc,<-h.2.1];omega,by omega⟩
theorem ZC {r:List UInt8}:Cb (45::r) r/\∀m:Int,45::r=Lib.itoa m->m<0:=by
 have key:∀m:Int,45::r=Lib.itoa m->m<0/\r=Lib.decDigits m.natAbs:=fun m e=>by
  unfold Lib.itoa at e
  split at e
  ·rename_i h
   injection e with _ e
   exact⟨h,e⟩
  ·have:=CP m.toNat 45 (by rw[<-e];simp)
   exact absurd this.1 (by decide)
 exact⟨fun m _ e=>(key m e).2,fun m e=>(key m e).1⟩
theorem ZD {s:List UInt8} (h:∀r,s≠45::r):Cb s s/\∀m:Int,s=Lib.itoa m->0<=m:=by
 have key:∀m:Int,s=Lib.itoa m->0<=m/\s=Lib.decDigits m.natAbs:=fun m e=>by
  unfold Lib.itoa at e
  split at e
  ·exact absurd e (h _)
  ·exact⟨by omega,by rw[e];congr 1;omega⟩
 exact⟨fun m _ e=>(key m e).2,fun m e=>(key m e).1⟩
def Ll (s:List UInt8) (r:D):Prop:=∃n b,(-9223372036854775808<=n/\n<=9223372036854775807)/\r=.aj [.int .i64 n,.bool b]/\∀m:Int,-9223372036854775808<=m/\m<=9223372036854775807->s=Lib.itoa m->n=m
theorem aec [Wd] {P:Program} {Q:Exit->S->Prop} {b:Bool} {t f:T} (hb:b=true) (h:t.ok P Q):(bT b t f).ok P Q:=by subst hb;exact h
theorem aed [Wd] {P:Program} {Q:Exit->S->Prop} {b:Bool} {t f:T} (hb:b=false) (h:f.ok P Q):(bT b t f).ok P Q:=by subst hb;exact h
theorem G4 {n:Int} (h0:0<=n) (h1:n<=18446744073709551615):IntKind.u64.wrap n=n:=by
 simp[IntKind.wrap,IntKind.bits,IntKind.signed]
 omega
theorem uk {n:Int} (h0:0<=n) (h1:n<=255):IntKind.u8.wrap n=n:=by
 simp[IntKind.wrap,IntKind.bits,IntKind.signed]
 omega
theorem Wy [Wd] (iT:Ag) (c:UInt8) (r s:List UInt8) (hs:c::r=s) (hl:s.length<=4194304):bC prog 39 [.str s] [] (fun r h=>Ll s r/\h=[]):=by
 refine ak 59 [] func39 ?_
 have pY:0<s.length:=by rw[<-hs];simp
 have h0:s[0]?=some c:=by rw[<-hs];rfl
 have hps:decide ((s.length:Int)>0)=true:=by simp;omega
 repeat' (conv=>arg 2;whnf);first|(exfalso;rw[hps] at h;simp at h;done)|refine dK c (by omega) (by simpa using h0) ?_|refine aT (by constructor<;>(try constructor)<;>omega) ?_|apply an<;>intro h
 ·have Ct:=h
  have hw:Cb s r/\∀m:Int,s=Lib.itoa m->m<0:=by
   have hc:c=45:=UInt8.toNat_inj.1 (by have h5:c.toNat=45:=(by simp at h;omega);rw[h5];rfl)
   rw[<-hs,hc]
   exact ZC
  clear h
  have LL:r.length<=4194304:=by rw[<-hs] at hl;simp at hl;omega
  conv=>arg 2;whnf
  refine bE (α:=Nat×Nat) (fun a=>⟨[(7,.int .i64 a.1),(6,.int .u64 a.2),(5,.str r),(4,.bool (bif true then(c.toNat:Int)==45 else false)),(3,.bool false),(2,.int .i64 0),(0,.str s)],[]⟩) (fun a=>yU r a.1 a.2) (fun a=>r.length-a.1) (0,0) ⟨Nat.zero_le _,rfl,by decide⟩ (Sv.mk' [] rfl trivial ⟨rfl,rfl,(by show D.str _=D.str _;rw[<-hs];simp),rfl,rfl,rfl,rfl,trivial⟩) ?_
  rintro⟨i,n⟩ hJ
  replace hJ:yU r i n:=hJ
  have hi:=hJ.1
  have El:=hJ.2.2
  rcases Nat.lt_or_ge i r.length with hlt|dm
  ·obtain⟨x,hx⟩:∃x,r[i]?=some x:=⟨_,List.getElem?_eq_getElem hlt⟩
   have nC:=x.toNat_lt
   by_cases hb:48<=x.toNat/\x.toNat<=57/\n<=1152921504606846976
   ·have hN:=hJ.next hx hb
    have Lm:IntKind.u64.wrap (10*(n:Int))=10*(n:Int):=G4 (by omega) (by omega)
    obtain⟨g1,g2,g3⟩:=hb
    repeat' (conv=>arg 2;whnf);first|(exfalso;simp at h;omega)|refine dK x (by omega) (by simpa using hx) ?_|apply an<;>intro h|refine bZ (by(try dsimp only);omega) ?_|refine bw (G4 (by(try dsimp only);omega) (by(try dsimp only);omega)) ?_|refine bw (uk (by(try dsimp only);omega) (by(try dsimp only);omega)) ?_|refine aZ (i+1,10*n+(x.toNat-48)) (Sv.mk' [] rfl trivial ⟨rfl,(by show D.int _ _=D.int _ _;congr 1;(try dsimp only);rw[Lm];omega),rfl,rfl,rfl,rfl,rfl,trivial⟩) hN (by show r.length-(i+1)<r.length-i;omega)
   ·have rU:x.toNat<48\/(48<=x.toNat/\57<x.toNat)\/(48<=x.toNat/\x.toNat<=57/\1152921504606846976<n):=by omega
    rcases rU with rU|rU|rU
    all_goals repeat' (conv=>arg 2;whnf);first|(exfalso;simp at h;omega)|refine dK x (by omega) (by simpa using hx) ?_|apply an<;>intro h|refine eG ?_|exact bf (r:=.aj [.int .i64 0,.bool false]) (h':=[]) [] (.inr rfl) rfl rfl trivial trivial (.refl _) ⟨⟨0,false,by decide,rfl,fun m hm e=>(hw.1.bad hJ hx hb hm e).elim⟩,rfl⟩
  ·have hN:n=sO r:=by rw[hJ.2.1,List.take_of_length_le dm]
   repeat' (conv=>arg 2;whnf);first|(exfalso;simp at h;omega)|refine aec Ct ?_|apply an<;>intro h|refine lD ?_|refine okF (iT _ (zu _)) ?_|exact bf (r:=.aj [.int .i64 (IntKind.i64.wrap _),.bool _]) (h':=[]) [] (.inr rfl) rfl rfl trivial trivial (.refl _) ⟨⟨_,_,zu _,rfl,fun m hm e=>by have hd:=hw.1 m hm e;have hv:n=m.natAbs:=(by rw[hN,hd,Ir]);subst hv;exact(by have q:=(QF hm).2 (hw.2 m e);rw[<-Int.zero_sub] at q;exact q)⟩,rfl⟩
 ·have Ct:=h
  have hw:Cb s s/\∀m:Int,s=Lib.itoa m->0<=m:=by
   have cu:∀q,s≠45::q:=fun q e=>by rw[<-hs] at e;injection e with e _;subst e;simp at h
   exact(ZD cu)
  clear h
  have LL:s.length<=4194304:=by exact hl
  conv=>arg 2;whnf
  refine bE (α:=Nat×Nat) (fun a=>⟨[(7,.int .i64 a.1),(6,.int .u64 a.2),(5,.str s),(4,.bool (bif true then(c.toNat:Int)==45 else false)),(3,.bool false),(2,.int .i64 0),(0,.str s)],[]⟩) (fun a=>yU s a.1 a.2) (fun a=>s.length-a.1) (0,0) ⟨Nat.zero_le _,rfl,by decide⟩ (Sv.aK []) ?_
  rintro⟨i,n⟩ hJ
  replace hJ:yU s i n:=hJ
  have hi:=hJ.1
  have El:=hJ.2.2
  rcases Nat.lt_or_ge i s.length with hlt|dm
  ·obtain⟨x,hx⟩:∃x,s[i]?=some x:=⟨_,List.getElem?_eq_getElem hlt⟩
   have nC:=x.toNat_lt
   by_cases hb:48<=x.toNat/\x.toNat<=57/\n<=1152921504606846976
   ·have hN:=hJ.next hx hb
    have Lm:IntKind.u64.wrap (10*(n:Int))=10*(n:Int):=G4 (by omega) (by omega)
    obtain⟨g1,g2,g3⟩:=hb
    repeat' (conv=>arg 2;whnf);first|(exfalso;simp at h;omega)|refine dK x (by omega) (by simpa using hx) ?_|apply an<;>intro h|refine bZ (by(try dsimp only);omega) ?_|refine bw (G4 (by(try dsimp only);omega) (by(try dsimp only);omega)) ?_|refine bw (uk (by(try dsimp only);omega) (by(try dsimp only);omega)) ?_|refine aZ (i+1,10*n+(x.toNat-48)) (Sv.mk' [] rfl trivial ⟨rfl,(by show D.int _ _=D.int _ _;congr 1;(try dsimp only);rw[Lm];omega),rfl,rfl,rfl,rfl,rfl,trivial⟩) hN (by show s.length-(i+1)<s.length-i;omega)
   ·have rU:x.toNat<48\/(48<=x.toNat/\57<x.toNat)\/(48<=x.toNat/\x.toNat<=57/\1152921504606846976<n):=by omega
    rcases rU with rU|rU|rU
    all_goals repeat' (conv=>arg 2;whnf);first|(exfalso;simp at h;omega)|refine dK x (by omega) (by simpa using hx) ?_|apply an<;>intro h|refine eG ?_|exact bf (r:=.aj [.int .i64 0,.bool false]) (h':=[]) [] (.inr rfl) rfl rfl trivial trivial (.refl _) ⟨⟨0,false,by decide,rfl,fun m hm e=>(hw.1.bad hJ hx hb hm e).elim⟩,rfl⟩
  ·have hN:n=sO s:=by rw[hJ.2.1,List.take_of_length_le dm]
   repeat' (conv=>arg 2;whnf);first|(exfalso;simp at h;omega)|refine aed Ct ?_|apply an<;>intro h|refine okF (iT _ (zu _)) ?_|exact bf (r:=.aj [.int .i64 (IntKind.i64.wrap _),.bool _]) (h':=[]) [] (.inr rfl) rfl rfl trivial trivial (.refl _) ⟨⟨_,_,zu _,rfl,fun m hm e=>by have hd:=hw.1 m hm e;have hv:n=m.natAbs:=(by rw[hN,hd,Ir]);subst hv;exact(QF hm).1 (hw.2 m e)⟩,rfl⟩
theorem abB (m:Int):Lib.itoa m≠[]:=by
 unfold Lib.itoa
 split
 ·simp
 ·exact I8 _
theorem Wz [Wd] (iT:Ag):bC prog 39 [.str []] [] (fun r h=>Ll [] r/\h=[]):=by
 refine ak 59 [] func39 ?_
 repeat' (conv=>arg 2;whnf);first|refine okF (iT _ (zu _)) ?_|refine bE (α:=Unit) (fun a=>⟨[(7,.int .i64 0),(6,.int .u64 0),(5,.str []),(4,.bool false),(3,.bool false),(2,.int .i64 0),(0,.str [])],[]⟩) (fun a=>True) (fun a=>0) () trivial (Sv.aK []) (fun _ _=>?_)|exact bf (r:=.aj [.int .i64 (IntKind.i64.wrap _),.bool _]) (h':=[]) [] (.inr rfl) rfl rfl trivial trivial (.refl _) ⟨⟨_,_,zu _,rfl,fun m hm e=>absurd e.symm (abB m)⟩,rfl⟩
theorem pz [Wd] (iT:Ag) (s:List UInt8) (hl:s.length<=4194304):bC prog 39 [.str s] [] (fun r h=>Ll s r/\h=[]):=by
 cases s with
 |nil=>exact Wz iT
 |cons c r=>exact Wy iT c r _ rfl hl
section
open Go.RowKit Go.Deep
theorem N3:∀r:List UInt8,r.length%2=1->pO r=none
 |[],h=>by simp at h
 |[_],_=>rfl
 |x::y::r,h=>by
  simp only[List.length_cons] at h
  simp only[pO]
  rw[N3 r (by omega)]
  split<;>rfl
theorem Ht (h l:Nat) (hh:h<16) (hl:l<16):bits BinOp.or IntKind.u8 ((h:Int)*16) (l:Int)=((16*h+l:Nat):Int):=by
 have h':∀x:Fin 16,∀y:Fin 16,bits BinOp.or IntKind.u8 ((x.val:Int)*16) (y.val:Int)=((16*x.val+y.val:Nat):Int):=by decide+kernel
 exact h' ⟨h,hh⟩ ⟨l,hl⟩
theorem WA {r:List UInt8} {q:Nat} {a b:UInt8} (ha:r[2*q]?=some a) (hb:r[2*q+1]?=some b):r.drop (2*q)=a::b::r.drop (2*(q+1)):=by
 obtain⟨h1,h2⟩:=List.getElem?_eq_some_iff.1 ha
 obtain⟨h3,h4⟩:=List.getElem?_eq_some_iff.1 hb
 rw[List.drop_eq_getElem_cons h1,h2,List.drop_eq_getElem_cons h3,h4]
 rfl
end
theorem OD (c:Nat):(48<=c/\c<=57/\aQ c=c-48)\/(97<=c/\c<=102/\aQ c=c-87)\/(¬(48<=c/\c<=57)/\¬(97<=c/\c<=102)/\aQ c=16):=by
 unfold aQ
 split
 ·rename_i h;exact .inl ⟨h.1,h.2,rfl⟩
 ·rename_i h
  split
  ·rename_i k;exact .inr (.inl ⟨k.1,k.2,rfl⟩)
  ·rename_i k;exact .inr (.inr ⟨h,k,rfl⟩)
theorem kS [Wd] (c:UInt8):aq prog 40 [.int .u8 (c.toNat:Int)] (.int .u8 (aQ c.toNat:Int)):=by
 have hc:=c.toNat_lt
 have hd:=OD c.toNat
 generalize aQ c.toNat=d at*
 generalize c.toNat=x at*
 have hx:(x<48)\/(48<=x/\x<=57)\/(57<x/\x<97)\/(97<=x/\x<=102)\/102<x:=by omega
 rcases hx with hx|hx|hx|hx|hx
 all_goals
  have LY:(d:Int)=if(48<=x/\x<=57) then(x:Int)-48 else if(97<=x/\x<=102) then(x:Int)-97+10 else 16:=by split<;>(try split)<;>omega
  refine ak 22 [] func40 ?_
  repeat' (conv=>arg 2;whnf);first|(exfalso;simp at h;omega)|apply an<;>intro h|refine bw (uk (by omega) (by omega)) ?_|(refine cF ?_;rw[LY];(first|rw[if_pos (by omega)]|rw[if_neg (by omega),if_pos (by omega)]|rw[if_neg (by omega),if_neg (by omega)]);done)
theorem sA [Wd] (c:UInt8):aq prog 41 [.int .u8 (c.toNat:Int)] (.aj [.int .u8 (if aQ c.toNat<16 then(aQ c.toNat:Int) else 0),.bool (decide (aQ c.toNat<16))]):=by
 have hc:=c.toNat_lt
 have hd:=OD c.toNat
 generalize aQ c.toNat=d at*
 generalize c.toNat=x at*
 have hx:(x<48)\/(48<=x/\x<=57)\/(57<x/\x<97)\/(97<=x/\x<=102)\/102<x:=by omega
 rcases hx with hx|hx|hx|hx|hx
 all_goals
  refine ak 21 [] func41 ?_
  repeat' (conv=>arg 2;whnf);first|(exfalso;simp at h;omega)|apply an<;>intro h|refine bw (uk (by omega) (by omega)) ?_|(refine j5 rfl (Co.of_eq ?_);show D.aj [.int .u8 _,.bool _]=D.aj [.int .u8 _,.bool _];(first|rw[if_pos (by omega),decide_eq_true (by omega)]|rw[if_neg (by omega),decide_eq_false (by omega)]);congr 3;omega)|(refine j5 rfl (Co.of_eq ?_);show D.aj [.int .u8 _,.bool _]=D.aj [.int .u8 _,.bool _];(first|rw[if_pos (by omega),decide_eq_true (by omega)]|rw[if_neg (by omega),decide_eq_false (by omega)]);done)
def tF (s:List UInt8):D:=match dU s with
 |some bs=>.aj [.list 1 (bs.map af),.bool true]
 |none=>.aj [.nils,.bool false]
def nA (r:List UInt8) (q:Nat) (out:List UInt8):Prop:=2*q<=r.length/\out.length=q/\pO r=(pO (r.drop (2*q))).map (out++·)
theorem nA.zero (r:List UInt8):nA r 0 []:=⟨by omega,rfl,by simp⟩
theorem Px {r:List UInt8} {q:Nat} {a b:UInt8} (ha:r[2*q]?=some a) (hb:r[2*q+1]?=some b):r.drop (2*q)=a::b::r.drop (2*(q+1)):=WA ha hb
theorem nA.next {r:List UInt8} {q:Nat} {out:List UInt8} {a b:UInt8} (h:nA r q out) (ha:r[2*q]?=some a) (hb:r[2*q+1]?=some b) (h1:aQ a.toNat<16) (h2:aQ b.toNat<16):nA r (q+1) (out++[UInt8.ofNat (16*aQ a.toNat+aQ b.toNat)]):=by
 have hl:=(List.getElem?_eq_some_iff.1 hb).1
 refine⟨by omega,by simp[h.2.1],?_⟩
 rw[h.2.2,Px ha hb]
 simp only[pO]
 rw[if_pos ⟨h1,h2⟩,Option.map_map]
 congr 1
 funext l
 simp
theorem nA.bad {r:List UInt8} {q:Nat} {out:List UInt8} {a b:UInt8} (h:nA r q out) (ha:r[2*q]?=some a) (hb:r[2*q+1]?=some b) (h1:¬(aQ a.toNat<16/\aQ b.toNat<16)):pO r=none:=by
 rw[h.2.2,Px ha hb]
 simp only[pO]
 rw[if_neg h1]
 rfl
theorem nA.fin {r:List UInt8} {q:Nat} {out:List UInt8} (h:nA r q out) (hq:r.length<=2*q):pO r=some out:=by
 rw[h.2.2,List.drop_of_length_le hq]
 simp[pO]
theorem Fg {s bs:List UInt8} (h:dU s=some bs):tF s=.aj [.list 1 (bs.map af),.bool true]:=by unfold tF;rw[h]
theorem vF {s:List UInt8} (h:dU s=none):tF s=.aj [.nils,.bool false]:=by unfold tF;rw[h]
theorem Jy {s:List UInt8} (h:s.length%2=0):dU s=none:=by
 cases s with
 |nil=>rfl
 |cons x r=>
  simp only[dU]
  split
  ·exact N3 r (by simp at h;omega)
  ·rfl
theorem J5 (d:D):Co (.aj [.nils,d]) (.aj [.list 1 [],d]):=.aj _ _ rfl (fun i a b h1 h2=>by
 match i with
 |0=>simp at h1 h2;subst h1 h2;exact .nil 1
 |1=>simp at h1 h2;subst h1 h2;exact .refl _
 |i+2=>simp at h1)
theorem Vd [Wd] (s:List UInt8) (hl:s.length<=4194304) (he:s.length%2=0):aq prog 13 [.str s] (.aj [.nils,.bool false]):=by
 have hr:((s.length:Int).tmod 2)=0:=by rw[Int.tmod_eq_emod_of_nonneg (by omega)];omega
 refine kK false 54 [] func13 ?_
 repeat' (conv=>arg 2;whnf);first|refine aT (by decide) ?_|(exfalso;simp[hr] at h;done)|exact cg|apply an<;>intro h
theorem Ve [Wd] (s:List UInt8) (x:UInt8) (hl:s.length<=4194304) (he:s.length%2=1) (hx:s[0]?=some x) (Ln:x≠120):aq prog 13 [.str s] (.aj [.nils,.bool false]):=by
 have hr:((s.length:Int).tmod 2)=1:=by rw[Int.tmod_eq_emod_of_nonneg (by omega)];omega
 have Ek:¬(x.toNat=120):=fun e=>Ln (UInt8.toNat_inj.1 (by rw[e];rfl))
 refine kK false 54 [] func13 ?_
 repeat' (conv=>arg 2;whnf);first|refine aT (by decide) ?_|refine dK x (by omega) (by simpa using hx) ?_|(exfalso;simp[hr] at h;done)|(exfalso;simp[hr] at h;exact Ek (by omega))|exact cg|apply an<;>intro h
theorem Vf [Wd] (r:List UInt8) (hl:(120::r).length<=4194304) (he:r.length%2=0):aq prog 13 [.str (120::r)] (tF (120::r)):=by
 have hlen:(120::r).length=r.length+1:=rfl
 have hr:(((120::r:List UInt8).length:Int).tmod 2)=1:=by rw[Int.tmod_eq_emod_of_nonneg (by omega)];omega
 refine kK false 54 [] func13 ?_
 repeat' (conv=>arg 2;whnf);first|refine aT (by decide) ?_|refine dK 120 (by omega) rfl ?_|(exfalso;rw[hr] at h;revert h;decide)|apply an<;>intro h
 ·refine bE (α:=Nat×List UInt8) (fun a=>match a.2 with
   |[]=>⟨[(5,.int .i64 ((1+2*a.1:Nat):Int)),(4,.nils),(3,.bool false),(2,.nils),(0,.str (120::r))],[]⟩
   |x::k=>⟨[(5,.int .i64 ((1+2*a.1:Nat):Int)),(4,.row 0),(3,.bool false),(2,.nils),(0,.str (120::r))],[.row 5 1 ((x::k).map af)]⟩) (fun a=>nA r a.1 a.2) (fun a=>r.length-a.1) (0,[]) (nA.zero r) (Sv.aK []) ?_
  rintro⟨q,out⟩ hJ
  replace hJ:nA r q out:=hJ
  have ho:=hJ.2.1
  have hq:=hJ.1
  cases out with
  |nil=>
   rcases Nat.lt_or_ge (2*q) r.length with hlt|dm
   ·obtain⟨a,ha⟩:∃a,r[2*q]?=some a:=⟨_,List.getElem?_eq_getElem hlt⟩
    obtain⟨b,hb⟩:∃b,r[2*q+1]?=some b:=⟨_,List.getElem?_eq_getElem (by omega)⟩
    have sa:(120::r)[1+2*q]?=some a:=by rw[Nat.add_comm];exact ha
    have sb:(120::r)[1+2*q+1]?=some b:=by rw[show 1+2*q+1=(2*q+1)+1 by omega];exact hb
    have Av:=a.toNat_lt
    have dJ:=b.toNat_lt
    by_cases g:aQ a.toNat<16/\aQ b.toNat<16
    ·have HA:aq prog 41 [.int .u8 (a.toNat:Int)] (.aj [.int .u8 (aQ a.toNat:Int),.bool true]):=by
      have:=sA a
      rw[if_pos g.1,decide_eq_true g.1] at this
      exact this
     have HB:aq prog 41 [.int .u8 (b.toNat:Int)] (.aj [.int .u8 (aQ b.toNat:Int),.bool true]):=by
      have:=sA b
      rw[if_pos g.2,decide_eq_true g.2] at this
      exact this
     have hN:=hJ.next ha hb g.1 g.2
     have hv:((UInt8.ofNat (16*aQ a.toNat+aQ b.toNat)).toNat:Int)=16*(aQ a.toNat:Int)+(aQ b.toNat:Int):=by rw[UInt8.toNat_ofNat'];omega
     have xD:IntKind.u8.wrap ((aQ a.toNat:Int)*16)=(aQ a.toNat:Int)*16:=uk (by omega) (by omega)
     have uZ:af (UInt8.ofNat (16*aQ a.toNat+aQ b.toNat))=[.int .u8 ((aQ a.toNat:Int)*16+(aQ b.toNat:Int))]:=by unfold af;rw[hv,Int.mul_comm]
     repeat' (conv=>arg 2;whnf);first|(exfalso;simp at h;omega)|refine dK a (Int.natCast_nonneg _) sa ?_|refine dK b (by(try dsimp only);omega) sb ?_|refine okF HA ?_|refine okF HB ?_|refine bZ (by(try dsimp only);omega) ?_|refine bw (uk (by(try dsimp only);omega) (by(try dsimp only);omega)) ?_|refine aT (by constructor<;>(simp only[List.length_cons,List.length_nil,maxLen] at ho ⊢;omega)) ?_|apply an<;>intro h|refine aZ (q+1,[UInt8.ofNat (16*aQ a.toNat+aQ b.toNat)]) (Sv.mk' [1] rfl ⟨⟨rfl,by show AO.row _ 1 ([]++[[D.int .u8 ((aQ a.toNat:Int)*16+(aQ b.toNat:Int))]])=AO.row _ 1 (List.map af [UInt8.ofNat (16*aQ a.toNat+aQ b.toNat)]);rw[List.map_cons,uZ];rfl⟩,trivial⟩ ⟨(by show D.int _ _=D.int _ _;exact congrArg (D.int _) (by(try dsimp only);omega)),rfl,rfl,rfl,rfl,trivial⟩) hN (by show r.length-(q+1)<r.length-q;omega)
    ·have hN:=hJ.bad ha hb g
     rw[vF (show dU (120::r)=none by simp only[dU,if_true];exact hN)]
     rcases(show ¬aQ a.toNat<16\/(aQ a.toNat<16/\¬aQ b.toNat<16) by omega) with g1|g1
     ·skip
      have HA:aq prog 41 [.int .u8 (a.toNat:Int)] (.aj [.int .u8 0,.bool false]):=by
       have:=sA a
       rw[if_neg g1,decide_eq_false g1] at this
       exact this
      have HB:=sA b
      repeat' (conv=>arg 2;whnf);first|(exfalso;simp at h;omega)|refine dK a (Int.natCast_nonneg _) sa ?_|refine dK b (by(try dsimp only);omega) sb ?_|refine okF HA ?_|refine okF HB ?_|refine bZ (by(try dsimp only);omega) ?_|refine eG ?_|exact cg|apply an<;>intro h
     ·skip
      have HA:aq prog 41 [.int .u8 (a.toNat:Int)] (.aj [.int .u8 (aQ a.toNat:Int),.bool true]):=by
       have:=sA a
       rw[if_pos g1.1,decide_eq_true g1.1] at this
       exact this
      have HB:aq prog 41 [.int .u8 (b.toNat:Int)] (.aj [.int .u8 0,.bool false]):=by
       have:=sA b
       rw[if_neg g1.2,decide_eq_false g1.2] at this
       exact this
      repeat' (conv=>arg 2;whnf);first|(exfalso;simp at h;omega)|refine dK a (Int.natCast_nonneg _) sa ?_|refine dK b (by(try dsimp only);omega) sb ?_|refine okF HA ?_|refine okF HB ?_|refine bZ (by(try dsimp only);omega) ?_|refine eG ?_|exact cg|apply an<;>intro h
   ·have hN:=hJ.fin dm
    rw[Fg (show dU (120::r)=some [] by simp only[dU,if_true];exact hN)]
    repeat' (conv=>arg 2;whnf);first|(exfalso;simp at h;omega)|refine bq ?_|exact j5 rfl (J5 _)|apply an<;>intro h
  |cons z out=>
   rcases Nat.lt_or_ge (2*q) r.length with hlt|dm
   ·obtain⟨a,ha⟩:∃a,r[2*q]?=some a:=⟨_,List.getElem?_eq_getElem hlt⟩
    obtain⟨b,hb⟩:∃b,r[2*q+1]?=some b:=⟨_,List.getElem?_eq_getElem (by omega)⟩
    have sa:(120::r)[1+2*q]?=some a:=by rw[Nat.add_comm];exact ha
    have sb:(120::r)[1+2*q+1]?=some b:=by rw[show 1+2*q+1=(2*q+1)+1 by omega];exact hb
    have Av:=a.toNat_lt
    have dJ:=b.toNat_lt
    by_cases g:aQ a.toNat<16/\aQ b.toNat<16
    ·have HA:aq prog 41 [.int .u8 (a.toNat:Int)] (.aj [.int .u8 (aQ a.toNat:Int),.bool true]):=by
      have:=sA a
      rw[if_pos g.1,decide_eq_true g.1] at this
      exact this
     have HB:aq prog 41 [.int .u8 (b.toNat:Int)] (.aj [.int .u8 (aQ b.toNat:Int),.bool true]):=by
      have:=sA b
      rw[if_pos g.2,decide_eq_true g.2] at this
      exact this
     have hN:=hJ.next ha hb g.1 g.2
     have hv:((UInt8.ofNat (16*aQ a.toNat+aQ b.toNat)).toNat:Int)=16*(aQ a.toNat:Int)+(aQ b.toNat:Int):=by rw[UInt8.toNat_ofNat'];omega
     have xD:IntKind.u8.wrap ((aQ a.toNat:Int)*16)=(aQ a.toNat:Int)*16:=uk (by omega) (by omega)
     have uZ:af (UInt8.ofNat (16*aQ a.toNat+aQ b.toNat))=[.int .u8 ((aQ a.toNat:Int)*16+(aQ b.toNat:Int))]:=by unfold af;rw[hv,Int.mul_comm]
     repeat' (conv=>arg 2;whnf);first|(exfalso;simp at h;omega)|refine dK a (Int.natCast_nonneg _) sa ?_|refine dK b (by(try dsimp only);omega) sb ?_|refine okF HA ?_|refine okF HB ?_|refine bZ (by(try dsimp only);omega) ?_|refine bw (uk (by(try dsimp only);omega) (by(try dsimp only);omega)) ?_|refine aT (by constructor<;>(simp only[List.length_cons,List.length_nil,List.length_map,maxLen] at ho ⊢;omega)) ?_|apply an<;>intro h|refine aZ (q+1,(z::out)++[UInt8.ofNat (16*aQ a.toNat+aQ b.toNat)]) (Sv.mk' [2] rfl ⟨⟨rfl,by show AO.row _ 1 ((z::out).map af++[[D.int .u8 ((aQ a.toNat:Int)*16+(aQ b.toNat:Int))]])=AO.row _ 1 (List.map af ((z::out)++[UInt8.ofNat (16*aQ a.toNat+aQ b.toNat)]));simp only[List.map_append,List.map_cons,List.map_nil,uZ]⟩,trivial⟩ ⟨(by show D.int _ _=D.int _ _;exact congrArg (D.int _) (by(try dsimp only);omega)),rfl,rfl,rfl,rfl,trivial⟩) hN (by show r.length-(q+1)<r.length-q;omega)
    ·have hN:=hJ.bad ha hb g
     rw[vF (show dU (120::r)=none by simp only[dU,if_true];exact hN)]
     rcases(show ¬aQ a.toNat<16\/(aQ a.toNat<16/\¬aQ b.toNat<16) by omega) with g1|g1
     ·skip
      have HA:aq prog 41 [.int .u8 (a.toNat:Int)] (.aj [.int .u8 0,.bool false]):=by
       have:=sA a
       rw[if_neg g1,decide_eq_false g1] at this
       exact this
      have HB:=sA b
      repeat' (conv=>arg 2;whnf);first|(exfalso;simp at h;omega)|refine dK a (Int.natCast_nonneg _) sa ?_|refine dK b (by(try dsimp only);omega) sb ?_|refine okF HA ?_|refine okF HB ?_|refine bZ (by(try dsimp only);omega) ?_|refine eG ?_|exact cg|apply an<;>intro h
     ·skip
      have HA:aq prog 41 [.int .u8 (a.toNat:Int)] (.aj [.int .u8 (aQ a.toNat:Int),.bool true]):=by
       have:=sA a
       rw[if_pos g1.1,decide_eq_true g1.1] at this
       exact this
      have HB:aq prog 41 [.int .u8 (b.toNat:Int)] (.aj [.int .u8 0,.bool false]):=by
       have:=sA b
       rw[if_neg g1.2,decide_eq_false g1.2] at this
       exact this
      repeat' (conv=>arg 2;whnf);first|(exfalso;simp at h;omega)|refine dK a (Int.natCast_nonneg _) sa ?_|refine dK b (by(try dsimp only);omega) sb ?_|refine okF HA ?_|refine okF HB ?_|refine bZ (by(try dsimp only);omega) ?_|refine eG ?_|exact cg|apply an<;>intro h
   ·have hN:=hJ.fin dm
    rw[Fg (show dU (120::r)=some (z::out) by simp only[dU,if_true];exact hN)]
    repeat' (conv=>arg 2;whnf);first|(exfalso;simp at h;omega)|refine bq ?_|exact mE [0] (.inr rfl) rfl (.refl _) rfl|apply an<;>intro h
def KX:List (Nat×tE):=[(7,⟨[(0,false),(1,false),(2,false),(4,false),(5,false),(6,false),(7,false),(3,true),(8,true),(9,false),(10,false)],[]⟩)]
theorem Ny [Wd] (s:List UInt8) (hl:s.length<=4194304) (he:s.length%2=0):aq prog 12 [.str s] (.aj [.nils,.bool false]):=by
 have hr:((s.length:Int).tmod 2)=0:=by rw[Int.tmod_eq_emod_of_nonneg (by omega)];omega
 refine kK false 46 KX func12 ?_
 repeat' (conv=>arg 2;whnf);first|refine aT (by decide) ?_|(exfalso;simp[hr] at h;done)|exact cg|apply an<;>intro h
theorem Nz [Wd] (s:List UInt8) (x:UInt8) (hl:s.length<=4194304) (he:s.length%2=1) (hx:s[0]?=some x) (Ln:x≠120):aq prog 12 [.str s] (.aj [.nils,.bool false]):=by
 have hr:((s.length:Int).tmod 2)=1:=by rw[Int.tmod_eq_emod_of_nonneg (by omega)];omega
 have Ek:¬(x.toNat=120):=fun e=>Ln (UInt8.toNat_inj.1 (by rw[e];rfl))
 refine kK false 46 KX func12 ?_
 repeat' (conv=>arg 2;whnf);first|refine aT (by decide) ?_|refine dK x (by omega) (by simpa using hx) ?_|(exfalso;simp[hr] at h;done)|(exfalso;simp[hr] at h;exact Ek (by omega))|exact cg|apply an<;>intro h
theorem Vg [Wd] (r:List UInt8) (hl:(120::r).length<=4194304) (he:r.length%2=0):aq prog 12 [.str (120::r)] (tF (120::r)):=by
 have hlen:(120::r).length=r.length+1:=rfl
 have hr:(((120::r:List UInt8).length:Int).tmod 2)=1:=by rw[Int.tmod_eq_emod_of_nonneg (by omega)];omega
 refine kK false 46 KX func12 ?_
 repeat' (conv=>arg 2;whnf);first|refine aT (by decide) ?_|refine dK 120 (by omega) rfl ?_|(exfalso;rw[hr] at h;revert h;decide)|apply an<;>intro h
 ·refine bE (α:=Nat×List UInt8) (fun a=>match a.2 with
   |[]=>⟨[(5,.int .i64 ((1+2*a.1:Nat):Int)),(4,.nils),(3,.bool false),(2,.nils),(0,.str (120::r))],[]⟩
   |x::k=>⟨[(5,.int .i64 ((1+2*a.1:Nat):Int)),(4,.row 0),(3,.bool false),(2,.nils),(0,.str (120::r))],[.row 5 1 ((x::k).map af)]⟩) (fun a=>nA r a.1 a.2) (fun a=>r.length-a.1) (0,[]) (nA.zero r) (Sv.aK []) ?_
  rintro⟨q,out⟩ hJ
  replace hJ:nA r q out:=hJ
  have ho:=hJ.2.1
  have hq:=hJ.1
  cases out with
  |nil=>
   rcases Nat.lt_or_ge (2*q) r.length with hlt|dm
   ·obtain⟨a,ha⟩:∃a,r[2*q]?=some a:=⟨_,List.getElem?_eq_getElem hlt⟩
    obtain⟨b,hb⟩:∃b,r[2*q+1]?=some b:=⟨_,List.getElem?_eq_getElem (by omega)⟩
    have sa:(120::r)[1+2*q]?=some a:=by rw[Nat.add_comm];exact ha
    have sb:(120::r)[1+2*q+1]?=some b:=by rw[show 1+2*q+1=(2*q+1)+1 by omega];exact hb
    have Av:=a.toNat_lt
    have dJ:=b.toNat_lt
    by_cases g:aQ a.toNat<16/\aQ b.toNat<16
    ·have HA:=kS a
     have HB:=kS b
     have hN:=hJ.next ha hb g.1 g.2
     have hv:((UInt8.ofNat (16*aQ a.toNat+aQ b.toNat)).toNat:Int)=16*(aQ a.toNat:Int)+(aQ b.toNat:Int):=by rw[UInt8.toNat_ofNat'];omega
     have xD:IntKind.u8.wrap ((aQ a.toNat:Int)*16)=(aQ a.toNat:Int)*16:=uk (by omega) (by omega)
     have uZ:af (UInt8.ofNat (16*aQ a.toNat+aQ b.toNat))=[.int .u8 (bits BinOp.or IntKind.u8 (IntKind.u8.wrap ((aQ a.toNat:Int)*2^min (Int.toNat 4) IntKind.u8.bits)) (aQ b.toNat:Int))]:=by unfold af;rw[hv,show(2:Int)^min (Int.toNat 4) IntKind.u8.bits=16 from by decide,xD,Ht _ _ g.1 g.2];rfl
     repeat' (conv=>arg 2;whnf);first|(exfalso;simp at h;omega)|refine dK a (Int.natCast_nonneg _) sa ?_|refine dK b (by(try dsimp only);omega) sb ?_|refine okF HA ?_|refine okF HB ?_|refine bZ (by(try dsimp only);omega) ?_|refine aT (by constructor<;>(simp only[List.length_cons,List.length_nil,maxLen] at ho ⊢;omega)) ?_|apply an<;>intro h|refine aZ (q+1,[UInt8.ofNat (16*aQ a.toNat+aQ b.toNat)]) (Sv.mk' [1] rfl ⟨⟨rfl,by show AO.row _ 1 ([]++[[D.int .u8 (bits BinOp.or IntKind.u8 (IntKind.u8.wrap ((aQ a.toNat:Int)*2^min (Int.toNat 4) IntKind.u8.bits)) (aQ b.toNat:Int))]])=AO.row _ 1 (List.map af [UInt8.ofNat (16*aQ a.toNat+aQ b.toNat)]);rw[List.map_cons,uZ];rfl⟩,trivial⟩ ⟨(by show D.int _ _=D.int _ _;exact congrArg (D.int _) (by(try dsimp only);omega)),rfl,rfl,rfl,rfl,trivial⟩) hN (by show r.length-(q+1)<r.length-q;omega)
    ·have hN:=hJ.bad ha hb g
     rw[vF (show dU (120::r)=none by simp only[dU,if_true];exact hN)]
     rcases(show ¬aQ a.toNat<16\/(aQ a.toNat<16/\¬aQ b.toNat<16) by omega) with g1|g1
     ·skip
      have HA:=kS a
      have HB:=kS b
      repeat' (conv=>arg 2;whnf);first|(exfalso;simp at h;omega)|refine dK a (Int.natCast_nonneg _) sa ?_|refine dK b (by(try dsimp only);omega) sb ?_|refine okF HA ?_|refine okF HB ?_|refine bZ (by(try dsimp only);omega) ?_|refine eG ?_|exact cg|apply an<;>intro h
     ·skip
      have HA:=kS a
      have HB:=kS b
      repeat' (conv=>arg 2;whnf);first|(exfalso;simp at h;omega)|refine dK a (Int.natCast_nonneg _) sa ?_|refine dK b (by(try dsimp only);omega) sb ?_|refine okF HA ?_|refine okF HB ?_|refine bZ (by(try dsimp only);omega) ?_|refine eG ?_|exact cg|apply an<;>intro h
   ·have hN:=hJ.fin dm
    rw[Fg (show dU (120::r)=some [] by simp only[dU,if_true];exact hN)]
    repeat' (conv=>arg 2;whnf);first|(exfalso;simp at h;omega)|refine bq ?_|exact j5 rfl (J5 _)|apply an<;>intro h
  |cons z out=>
   rcases Nat.lt_or_ge (2*q) r.length with hlt|dm
   ·obtain⟨a,ha⟩:∃a,r[2*q]?=some a:=⟨_,List.getElem?_eq_getElem hlt⟩
    obtain⟨b,hb⟩:∃b,r[2*q+1]?=some b:=⟨_,List.getElem?_eq_getElem (by omega)⟩
    have sa:(120::r)[1+2*q]?=some a:=by rw[Nat.add_comm];exact ha
    have sb:(120::r)[1+2*q+1]?=some b:=by rw[show 1+2*q+1=(2*q+1)+1 by omega];exact hb
    have Av:=a.toNat_lt
    have dJ:=b.toNat_lt
    by_cases g:aQ a.toNat<16/\aQ b.toNat<16
    ·have HA:=kS a
     have HB:=kS b
     have hN:=hJ.next ha hb g.1 g.2
     have hv:((UInt8.ofNat (16*aQ a.toNat+aQ b.toNat)).toNat:Int)=16*(aQ a.toNat:Int)+(aQ b.toNat:Int):=by rw[UInt8.toNat_ofNat'];omega
     have xD:IntKind.u8.wrap ((aQ a.toNat:Int)*16)=(aQ a.toNat:Int)*16:=uk (by omega) (by omega)
     have uZ:af (UInt8.ofNat (16*aQ a.toNat+aQ b.toNat))=[.int .u8 (bits BinOp.or IntKind.u8 (IntKind.u8.wrap ((aQ a.toNat:Int)*2^min (Int.toNat 4) IntKind.u8.bits)) (aQ b.toNat:Int))]:=by unfold af;rw[hv,show(2:Int)^min (Int.toNat 4) IntKind.u8.bits=16 from by decide,xD,Ht _ _ g.1 g.2];rfl
     repeat' (conv=>arg 2;whnf);first|(exfalso;simp at h;omega)|refine dK a (Int.natCast_nonneg _) sa ?_|refine dK b (by(try dsimp only);omega) sb ?_|refine okF HA ?_|refine okF HB ?_|refine bZ (by(try dsimp only);omega) ?_|refine aT (by constructor<;>(simp only[List.length_cons,List.length_nil,List.length_map,maxLen] at ho ⊢;omega)) ?_|apply an<;>intro h|refine aZ (q+1,(z::out)++[UInt8.ofNat (16*aQ a.toNat+aQ b.toNat)]) (Sv.mk' [2] rfl ⟨⟨rfl,by show AO.row _ 1 ((z::out).map af++[[D.int .u8 (bits BinOp.or IntKind.u8 (IntKind.u8.wrap ((aQ a.toNat:Int)*2^min (Int.toNat 4) IntKind.u8.bits)) (aQ b.toNat:Int))]])=AO.row _ 1 (List.map af ((z::out)++[UInt8.ofNat (16*aQ a.toNat+aQ b.toNat)]));simp only[List.map_append,List.map_cons,List.map_nil,uZ]⟩,trivial⟩ ⟨(by show D.int _ _=D.int _ _;exact congrArg (D.int _) (by(try dsimp only);omega)),rfl,rfl,rfl,rfl,trivial⟩) hN (by show r.length-(q+1)<r.length-q;omega)
    ·have hN:=hJ.bad ha hb g
     rw[vF (show dU (120::r)=none by simp only[dU,if_true];exact hN)]
     rcases(show ¬aQ a.toNat<16\/(aQ a.toNat<16/\¬aQ b.toNat<16) by omega) with g1|g1
     ·skip
      have HA:=kS a
      have HB:=kS b
      repeat' (conv=>arg 2;whnf);first|(exfalso;simp at h;omega)|refine dK a (Int.natCast_nonneg _) sa ?_|refine dK b (by(try dsimp only);omega) sb ?_|refine okF HA ?_|refine okF HB ?_|refine bZ (by(try dsimp only);omega) ?_|refine eG ?_|exact cg|apply an<;>intro h
     ·skip
      have HA:=kS a
      have HB:=kS b
      repeat' (conv=>arg 2;whnf);first|(exfalso;simp at h;omega)|refine dK a (Int.natCast_nonneg _) sa ?_|refine dK b (by(try dsimp only);omega) sb ?_|refine okF HA ?_|refine okF HB ?_|refine bZ (by(try dsimp only);omega) ?_|refine eG ?_|exact cg|apply an<;>intro h
   ·have hN:=hJ.fin dm
    rw[Fg (show dU (120::r)=some (z::out) by simp only[dU,if_true];exact hN)]
    repeat' (conv=>arg 2;whnf);first|(exfalso;simp at h;omega)|refine bq ?_|exact mE [0] (.inr rfl) rfl (.refl _) rfl|apply an<;>intro h
theorem VO [Wd] (s:List UInt8) (hl:s.length<=4194304):aq prog 13 [.str s] (tF s):=by
 by_cases he:s.length%2=0
 ·rw[vF (Jy he)]
  exact Vd s hl he
 ·match s,he with
  |x::r,he=>
   by_cases h:x=120
   ·subst h
    exact Vf r hl (by simp at he;omega)
   ·rw[vF (by simp only[dU];rw[if_neg h])]
    exact Ve _ x hl (by omega) rfl h
theorem VP [Wd] (s:List UInt8) (hl:s.length<=4194304):aq prog 12 [.str s] (tF s):=by
 by_cases he:s.length%2=0
 ·rw[vF (Jy he)]
  exact Ny s hl he
 ·match s,he with
  |x::r,he=>
   by_cases h:x=120
   ·subst h
    exact Vg r hl (by simp at he;omega)
   ·rw[vF (by simp only[dU];rw[if_neg h])]
    exact Nz _ x hl (by omega) rfl h
theorem QG (x:UInt8):(0:Int)<=(x.toNat:Int).fdiv (2^min (Int.toNat 4) IntKind.u8.bits)/\digits[((x.toNat:Int).fdiv (2^min (Int.toNat 4) IntKind.u8.bits)).toNat]?=some (kX (x.toNat/16)):=by
 have hx:=x.toNat_lt
 rw[show(2:Int)^min (Int.toNat 4) IntKind.u8.bits=16 from by decide,Int.fdiv_eq_ediv_of_nonneg _ (by decide)]
 have e:((x.toNat:Int)/16).toNat=x.toNat/16:=by omega
 rw[e]
 exact⟨by omega,Fc _ (by omega)⟩
theorem QH (x:UInt8):(0:Int)<=bits BinOp.and IntKind.u8 (x.toNat:Int) 15/\digits[(bits BinOp.and IntKind.u8 (x.toNat:Int) 15).toNat]?=some (kX (x.toNat%16)):=by
 have hx:=x.toNat_lt
 rw[aee _ hx]
 exact⟨by omega,Fc _ (by omega)⟩
theorem DB [Wd] (b:List UInt8) (hl:b.length<=50000000):aq prog 14 [.list 1 (b.map af)] (.str (gw b)):=by
 refine kK false 25 [(5,⟨[(0,false),(1,false),(2,false),(3,false),(4,false),(5,false),(6,false),(7,true),(8,true),(9,false)],[0]⟩)] func14 ?_
 repeat' (conv=>arg 2;whnf);first|refine aY ?_
 refine bE (α:=Nat×List (List D)) (fun a=>⟨[(9,.int .i64 a.1),(8,.int .i64 (b.map af).length),(7,.list 1 (b.map af)),(3,.row 0),(2,.str []),(0,.list 1 (b.map af))],[.row 5 1 a.2]⟩) (fun a=>a.1<=b.length/\a.2=(qR (b.take a.1)).map af) (fun a=>b.length-a.1) (0,[[.int .u8 120]]) ⟨Nat.zero_le _,rfl⟩ (Sv.aK [0]) ?_
 rintro⟨q,xs⟩ ⟨hq,he⟩
 replace hq:q<=b.length:=hq
 replace he:xs=(qR (b.take q)).map af:=he
 have nC:xs.length<=100000001:=by
  have:=yB (b.take q)
  have:(b.take q).length<=q:=by rw[List.length_take];omega
  rw[he,List.length_map]
  omega
 repeat' (conv=>arg 2;whnf);first|refine aT (by decide) ?_|refine aT ⟨(by simp[maxLen];omega),(by simp;omega)⟩ ?_|apply an<;>intro h|refine cK (l:=b) (by simp at h;omega) (fun x hx=>?_)|refine dK _ (QG x).1 (QG x).2 ?_|refine dK _ (QH x).1 (QH x).2 ?_|refine bZ (by simp at h hq;omega) ?_|refine aZ (q+1,xs++[[.int .u8 ((kX (x.toNat/16)).toNat:Int)],[.int .u8 ((kX (x.toNat%16)).toNat:Int)]]) (Sv.aK [2]) ⟨by have:=(List.getElem?_eq_some_iff.1 hx).1;show q+1<=b.length;omega,by show xs++_=_;rw[Qu hx,he]⟩ (by have:=(List.getElem?_eq_some_iff.1 hx).1;show b.length-(q+1)<b.length-q;omega)|refine bq ?_|refine j8 (gw b) (by rw[he,show b.take q=b from List.take_of_length_le (by simp at h;omega)];rfl) ?_|refine aT (Su hl) ?_|refine cg
def yV (s:List UInt8):D->List AO->Prop:=fun r h=>match dU s with
 |none=>r=.aj [.nils,.bool false]/\h=[]
 |some []=>r=.aj [.nils,.bool true]/\h=[]
 |some (x::k)=>r=.aj [.row 0,.bool true]/\h=[.row 5 1 ((x::k).map af)]
theorem CY {s:List UInt8} (h:dU s=none):yV s=fun r h=>r=.aj [.nils,.bool false]/\h=[]:=by unfold yV;rw[h]
theorem PA {s:List UInt8} (h:dU s=some []):yV s=fun r h=>r=.aj [.nils,.bool true]/\h=[]:=by unfold yV;rw[h]
theorem OG {s:List UInt8} {x:UInt8} {k:List UInt8} (h:dU s=some (x::k)):yV s=fun r h=>r=.aj [.row 0,.bool true]/\h=[.row 5 1 ((x::k).map af)]:=by unfold yV;rw[h]
theorem UR [Wd] (r:List UInt8) (hl:(120::r).length<=4194304) (he:r.length%2=0):bC prog 12 [.str (120::r)] [] (yV (120::r)):=by
 have hlen:(120::r).length=r.length+1:=rfl
 have hr:(((120::r:List UInt8).length:Int).tmod 2)=1:=by rw[Int.tmod_eq_emod_of_nonneg (by omega)];omega
 refine kK false 46 [(7,⟨[(0,false),(1,false),(2,false),(4,false),(5,false),(6,false),(7,false),(3,true),(8,true),(9,false),(10,false)],[]⟩)] func12 ?_
 repeat' (conv=>arg 2;whnf);first|refine aT (by decide) ?_|refine dK 120 (by omega) rfl ?_|(exfalso;rw[hr] at h;revert h;decide)|apply an<;>intro h
 ·refine bE (α:=Nat×List UInt8) (fun a=>match a.2 with
   |[]=>⟨[(5,.int .i64 ((1+2*a.1:Nat):Int)),(4,.nils),(3,.bool false),(2,.nils),(0,.str (120::r))],[]⟩
   |x::k=>⟨[(5,.int .i64 ((1+2*a.1:Nat):Int)),(4,.row 0),(3,.bool false),(2,.nils),(0,.str (120::r))],[.row 5 1 ((x::k).map af)]⟩) (fun a=>nA r a.1 a.2) (fun a=>r.length-a.1) (0,[]) (nA.zero r) (Sv.aK []) ?_
  rintro⟨q,out⟩ hJ
  replace hJ:nA r q out:=hJ
  have ho:=hJ.2.1
  have hq:=hJ.1
  cases out with
  |nil=>
   rcases Nat.lt_or_ge (2*q) r.length with hlt|dm
   ·obtain⟨a,ha⟩:∃a,r[2*q]?=some a:=⟨_,List.getElem?_eq_getElem hlt⟩
    obtain⟨b,hb⟩:∃b,r[2*q+1]?=some b:=⟨_,List.getElem?_eq_getElem (by omega)⟩
    have sa:(120::r)[1+2*q]?=some a:=by rw[Nat.add_comm];exact ha
    have sb:(120::r)[1+2*q+1]?=some b:=by rw[show 1+2*q+1=(2*q+1)+1 by omega];exact hb
    have Av:=a.toNat_lt
    have dJ:=b.toNat_lt
    by_cases g:aQ a.toNat<16/\aQ b.toNat<16
    ·have HA:=kS a
     have HB:=kS b
     have hN:=hJ.next ha hb g.1 g.2
     have hv:((UInt8.ofNat (16*aQ a.toNat+aQ b.toNat)).toNat:Int)=16*(aQ a.toNat:Int)+(aQ b.toNat:Int):=by rw[UInt8.toNat_ofNat'];omega
     have xD:IntKind.u8.wrap ((aQ a.toNat:Int)*16)=(aQ a.toNat:Int)*16:=uk (by omega) (by omega)
     have uZ:af (UInt8.ofNat (16*aQ a.toNat+aQ b.toNat))=[.int .u8 (bits BinOp.or IntKind.u8 (IntKind.u8.wrap ((aQ a.toNat:Int)*2^min (Int.toNat 4) IntKind.u8.bits)) (aQ b.toNat:Int))]:=by unfold af;rw[hv,show(2:Int)^min (Int.toNat 4) IntKind.u8.bits=16 from by decide,xD,Ht _ _ g.1 g.2];rfl
     repeat' (conv=>arg 2;whnf);first|(exfalso;simp at h;omega)|refine dK a (Int.natCast_nonneg _) sa ?_|refine dK b (by(try dsimp only);omega) sb ?_|refine okF HA ?_|refine okF HB ?_|refine bZ (by(try dsimp only);omega) ?_|refine aT (by constructor<;>(simp only[List.length_cons,List.length_nil,maxLen] at ho ⊢;omega)) ?_|apply an<;>intro h|refine aZ (q+1,[UInt8.ofNat (16*aQ a.toNat+aQ b.toNat)]) (Sv.mk' [1] rfl ⟨⟨rfl,by show AO.row _ 1 ([]++[[D.int .u8 (bits BinOp.or IntKind.u8 (IntKind.u8.wrap ((aQ a.toNat:Int)*2^min (Int.toNat 4) IntKind.u8.bits)) (aQ b.toNat:Int))]])=AO.row _ 1 (List.map af [UInt8.ofNat (16*aQ a.toNat+aQ b.toNat)]);rw[List.map_cons,uZ];rfl⟩,trivial⟩ ⟨(by show D.int _ _=D.int _ _;exact congrArg (D.int _) (by(try dsimp only);omega)),rfl,rfl,rfl,rfl,trivial⟩) hN (by show r.length-(q+1)<r.length-q;omega)
    ·have hN:=hJ.bad ha hb g
     rw[CY (show dU (120::r)=none by simp only[dU,if_true];exact hN)]
     rcases(show ¬aQ a.toNat<16\/(aQ a.toNat<16/\¬aQ b.toNat<16) by omega) with g1|g1
     ·skip
      have HA:=kS a
      have HB:=kS b
      repeat' (conv=>arg 2;whnf);first|(exfalso;simp at h;omega)|refine dK a (Int.natCast_nonneg _) sa ?_|refine dK b (by(try dsimp only);omega) sb ?_|refine okF HA ?_|refine okF HB ?_|refine bZ (by(try dsimp only);omega) ?_|refine eG ?_|exact cg|apply an<;>intro h
     ·skip
      have HA:=kS a
      have HB:=kS b
      repeat' (conv=>arg 2;whnf);first|(exfalso;simp at h;omega)|refine dK a (Int.natCast_nonneg _) sa ?_|refine dK b (by(try dsimp only);omega) sb ?_|refine okF HA ?_|refine okF HB ?_|refine bZ (by(try dsimp only);omega) ?_|refine eG ?_|exact cg|apply an<;>intro h
   ·have hN:=hJ.fin dm
    rw[PA (show dU (120::r)=some [] by simp only[dU,if_true];exact hN)]
    repeat' (conv=>arg 2;whnf);first|(exfalso;simp at h;omega)|refine bq ?_|exact cg|apply an<;>intro h
  |cons z out=>
   rcases Nat.lt_or_ge (2*q) r.length with hlt|dm
   ·obtain⟨a,ha⟩:∃a,r[2*q]?=some a:=⟨_,List.getElem?_eq_getElem hlt⟩
    obtain⟨b,hb⟩:∃b,r[2*q+1]?=some b:=⟨_,List.getElem?_eq_getElem (by omega)⟩
    have sa:(120::r)[1+2*q]?=some a:=by rw[Nat.add_comm];exact ha
    have sb:(120::r)[1+2*q+1]?=some b:=by rw[show 1+2*q+1=(2*q+1)+1 by omega];exact hb
    have Av:=a.toNat_lt
    have dJ:=b.toNat_lt
    by_cases g:aQ a.toNat<16/\aQ b.toNat<16
    ·have HA:=kS a
     have HB:=kS b
     have hN:=hJ.next ha hb g.1 g.2
     have hv:((UInt8.ofNat (16*aQ a.toNat+aQ b.toNat)).toNat:Int)=16*(aQ a.toNat:Int)+(aQ b.toNat:Int):=by rw[UInt8.toNat_ofNat'];omega
     have xD:IntKind.u8.wrap ((aQ a.toNat:Int)*16)=(aQ a.toNat:Int)*16:=uk (by omega) (by omega)
     have uZ:af (UInt8.ofNat (16*aQ a.toNat+aQ b.toNat))=[.int .u8 (bits BinOp.or IntKind.u8 (IntKind.u8.wrap ((aQ a.toNat:Int)*2^min (Int.toNat 4) IntKind.u8.bits)) (aQ b.toNat:Int))]:=by unfold af;rw[hv,show(2:Int)^min (Int.toNat 4) IntKind.u8.bits=16 from by decide,xD,Ht _ _ g.1 g.2];rfl
     repeat' (conv=>arg 2;whnf);first|(exfalso;simp at h;omega)|refine dK a (Int.natCast_nonneg _) sa ?_|refine dK b (by(try dsimp only);omega) sb ?_|refine okF HA ?_|refine okF HB ?_|refine bZ (by(try dsimp only);omega) ?_|refine aT (by constructor<;>(simp only[List.length_cons,List.length_nil,List.length_map,maxLen] at ho ⊢;omega)) ?_|apply an<;>intro h|refine aZ (q+1,(z::out)++[UInt8.ofNat (16*aQ a.toNat+aQ b.toNat)]) (Sv.mk' [2] rfl ⟨⟨rfl,by show AO.row _ 1 ((z::out).map af++[[D.int .u8 (bits BinOp.or IntKind.u8 (IntKind.u8.wrap ((aQ a.toNat:Int)*2^min (Int.toNat 4) IntKind.u8.bits)) (aQ b.toNat:Int))]])=AO.row _ 1 (List.map af ((z::out)++[UInt8.ofNat (16*aQ a.toNat+aQ b.toNat)]));simp only[List.map_append,List.map_cons,List.map_nil,uZ]⟩,trivial⟩ ⟨(by show D.int _ _=D.int _ _;exact congrArg (D.int _) (by(try dsimp only);omega)),rfl,rfl,rfl,rfl,trivial⟩) hN (by show r.length-(q+1)<r.length-q;omega)
    ·have hN:=hJ.bad ha hb g
     rw[CY (show dU (120::r)=none by simp only[dU,if_true];exact hN)]
     rcases(show ¬aQ a.toNat<16\/(aQ a.toNat<16/\¬aQ b.toNat<16) by omega) with g1|g1
     ·skip
      have HA:=kS a
      have HB:=kS b
      repeat' (conv=>arg 2;whnf);first|(exfalso;simp at h;omega)|refine dK a (Int.natCast_nonneg _) sa ?_|refine dK b (by(try dsimp only);omega) sb ?_|refine okF HA ?_|refine okF HB ?_|refine bZ (by(try dsimp only);omega) ?_|refine eG ?_|exact cg|apply an<;>intro h
     ·skip
      have HA:=kS a
      have HB:=kS b
      repeat' (conv=>arg 2;whnf);first|(exfalso;simp at h;omega)|refine dK a (Int.natCast_nonneg _) sa ?_|refine dK b (by(try dsimp only);omega) sb ?_|refine okF HA ?_|refine okF HB ?_|refine bZ (by(try dsimp only);omega) ?_|refine eG ?_|exact cg|apply an<;>intro h
   ·have hN:=hJ.fin dm
    rw[OG (show dU (120::r)=some (z::out) by simp only[dU,if_true];exact hN)]
    repeat' (conv=>arg 2;whnf);first|(exfalso;simp at h;omega)|refine bq ?_|exact mL (r:=.aj [.row 0,.bool true]) (h':=[.row 5 1 ((z::out).map af)]) [0] (.inr rfl) rfl rfl ⟨⟨rfl,rfl⟩,trivial⟩ trivial (.refl _)|apply an<;>intro h
theorem Vj [Wd] (s:List UInt8) (hl:s.length<=4194304):bC prog 12 [.str s] [] (yV s):=by
 by_cases he:s.length%2=0
 ·rw[CY (Jy he)]
  exact Ny s hl he
 ·match s,he with
  |x::r,he=>
   by_cases h:x=120
   ·subst h
    exact UR r hl (by simp at he;omega)
   ·rw[CY (by simp only[dU];rw[if_neg h])]
    exact Nz _ x hl (by omega) rfl h
abbrev Am [Wd] {α:Type} (f:FuncId) (p:lW α) (R:α->D):Prop:=∀ws,kO ws->(p ws=none->Wd.kY rq)->bC prog f [.ptr 0 0] (fj ws) (fun r h=>∃x rest,p ws=some (x,rest)/\r=R x/\h=fj rest)
theorem lB [Wd] (b:Bool) (hp:b=false->Wd.kY rq):bC prog 35 [.bool b] [] (fun r h=>(b=true/\r=.aj [])/\h=[]):=by
 cases b
 ·exact DA (hp rfl) false
 ·refine⟨Gl.1,fun w I g vs hW hd ha=>(Gl.2 w I g vs hW hd ha).mono ?_⟩
  rintro e w' (⟨v,I',g',r,h',e1,⟨e2,e3⟩,k⟩|k)
  ·exact .inl ⟨v,I',g',r,h',e1,⟨⟨rfl,e2⟩,e3⟩,k⟩
  ·exact .inr k
theorem KB [Wd]:Am 36 (tH some) D.str:=by
 intro ws hw hp
 cases ws with
 |nil=>
  refine ak 26 [] func36 ?_
  repeat' (conv=>arg 2;whnf);first|(refine eI (DA (hp rfl) _) rfl (aa.refl _) ?_;rintro r ⟨hr,rfl⟩)|(exfalso;simp[cW] at hr;done)
 |cons s rest=>
  have h:=Rx s rest (by have:=hw.1;simp at this;omega)
  refine⟨h.1,fun w I g vs hW hd ha=>(h.2 w I g vs hW hd ha).mono ?_⟩
  rintro e w' (⟨v,I',g',r,h',e1,⟨e2,e3⟩,k⟩|k)
  ·exact .inl ⟨v,I',g',r,h',e1,⟨s,rest,rfl,e2,e3⟩,k⟩
  ·exact .inr k
theorem kO.one {α:Type} {p:List UInt8->Option α} {ws r:List (List UInt8)} {x:α} (h:kO ws) (e:tH p ws=some (x,r)):kO r:=by
 cases ws with
 |nil=>cases e
 |cons s r'=>
  simp only[tH,Option.map_eq_some_iff] at e
  obtain⟨y,_,e⟩:=e
  injection e with _ e2
  subst e2
  exact h.tail
def GW:List (Nat×tE):=[(19,⟨[(0,false),(1,false),(2,false),(6,false),(7,false),(3,true),(4,false),(5,false),(8,true),(9,false),(10,false),(11,false)],[]⟩)]
theorem wZ (a:bK):gh.ok a=(dI.ok a.kind/\dI.ok a.bA/\dI.ok a.num/\fD.ok a.op/\dY.ok a.bytes/\bh.ok a.msg/\dB.ok a.jN):=rfl
theorem BJ:fD.ok dW:=by
 simp[fD,dM,dP,dI,dS,dY,dL,dW]
theorem BV:dY.ok []:=by simp[dY]
theorem Lh {n:Int} (h:-9223372036854775808<=n/\n<=9223372036854775807):dI.ok n:=h
theorem Qw {a:bK} (ha:gh.ok a):gh.ok (nv a):=by
 rw[wZ] at ha
 obtain⟨b1,b2,b3,b4,b5,b6,b7⟩:=ha
 have z:∀k:Int,dI.ok k->gh.ok {aR with kind:=k}:=fun k hk=>by rw[wZ];exact⟨hk,Lh (n:=0) (by omega),Lh (n:=0) (by omega),BJ,BV,vS,trivial⟩
 have iz:dI.ok 0:=Lh (by omega)
 unfold nv
 repeat' split
 ·rw[wZ];exact⟨b1,iz,b3,BJ,BV,vS,trivial⟩
 ·rw[wZ];exact⟨b1,b2,iz,BJ,BV,vS,trivial⟩
 ·rw[wZ];exact⟨b1,b2,iz,b4,BV,vS,trivial⟩
 ·rw[wZ];exact⟨b1,b2,b3,BJ,BV,vS,trivial⟩
 ·rw[wZ];exact⟨b1,iz,iz,BJ,b5,vS,trivial⟩
 ·rw[wZ];exact⟨b1,b2,iz,BJ,BV,b6,trivial⟩
 ·exact z _ b1
 ·exact z 0 iz
theorem Jv {m:aD} (hm:bh.ok m):(cI m).key<=9223372036854775807/\(cI m).ah<=9223372036854775807:=by
 have hs:∀s:bJ,iO.ok s->s.key<=9223372036854775807/\s.ah<=9223372036854775807:=fun s h=>⟨h.1.2,h.2.2⟩
 rw[ym] at hm
 obtain⟨h1,h2,h3,h4,h5,h6,h7,h8,h9,kN,iG,rR,rS,tT,tU,nW,tV⟩:=hm
 unfold cI
 split
 ·split
  ·rename_i c hc
   have h:=iG.2 c (by rw[hc];simp)
   rw[Ba] at h
   exact hs _ h.2.2.2.2
  ·exact hs _ tV
 ·exact hs _ tV
theorem yC (b:List UInt8):(gw b).length<=1+2*b.length:=yB b
theorem Zv [Wd] (a:bK) (hk:¬(1<=a.kind/\a.kind<=12)):aq prog 18 [.agg (cr a)] (.aj [.str [],.int .i64 1]):=by
 refine ak 137 GW func18 ?_
 repeat' (conv=>arg 2;whnf);first|refine an (fun h=>by exfalso;simp at h;omega) (fun h=>?_)|refine okF (Zu a hk) ?_|refine cg
open Classical in
noncomputable def xq (a:bK):D:=if kH a then .aj [.str (j0 a),.int .i64 0] else .aj [.str [],.int .i64 1]
theorem zP {a:bK} (h:kH a):xq a=.aj [.str (j0 a),.int .i64 0]:=by unfold xq;rw[if_pos h]
theorem w6 {a:bK} (h:¬kH a):xq a=.aj [.str [],.int .i64 1]:=by unfold xq;rw[if_neg h]
theorem abp [Wd] {m:aD} (hm:bh.ok m) (hw:qt m):aq prog 45 [.agg (aC m)] (.aj [.str (gw (aO m)++[32]++nu (cI m)),.bool true])/\(gw (aO m)).length<=2200000/\(nu (cI m)).length<=41:=by
 have ho:=Jv hm
 have hi:=(Bk m).1 hw
 have l1:=so (nG (oA (wY.1 hi.1).1))
 rw[wM] at l1
 have q1:=yC (aO m)
 have e1:=kV (cI m).key.toNat (by omega)
 have e2:=kV (cI m).ah.toNat (by omega)
 have q2:=yC (enc (cI m).key.toNat++enc (cI m).ah.toNat)
 rw[List.length_append] at q2
 have q3:(nu (cI m)).length<=41:=by unfold nu;omega
 exact⟨VJ m hm hw ho,by omega,q3⟩
theorem Qx [Wd] (iT:Ag) (a:bK) (ha:gh.ok a):aq prog 18 [.agg (cr a)] (xq a):=by
 by_cases hk:1<=a.kind/\a.kind<=12
 case neg=>
  rw[w6 (fun h=>hk h.1.1)]
  exact Zv a hk
 have hw:=Qv a hk
 have hO:=ha
 have hx:=Qw ha
 rw[wZ] at ha
 obtain⟨_,b2,b3,b4,b5,b6,_⟩:=ha
 replace b2:-9223372036854775808<=a.bA/\a.bA<=9223372036854775807:=b2
 replace b3:-9223372036854775808<=a.num/\a.num<=9223372036854775807:=b3
 replace b5:a.bytes.length<=4194304:=b5
 have cw:=Wj a.op b4
 by_cases yZ:a.kind=6/\¬bS a.op=0
 ·rw[w6 (fun h=>yZ.2 (h.1.2.1 yZ.1))]
  rw[if_neg yZ.2] at cw
  obtain⟨k,w,n,o,b,m,s⟩:=a
  obtain⟨rfl,h0⟩:k=6/\¬bS o=0:=yZ
  refine ak 137 GW func18 ?_
  repeat' (conv=>arg 2;whnf);first|refine okF hw ?_|refine okF cw ?_|refine okF (iT w b2) ?_|apply an<;>intro h|refine cg|(exfalso;simp[h0] at*;done)
 by_cases DZ:a.kind=11/\¬qt a.msg
 ·rw[w6 (fun h=>DZ.2 (h.1.2.2 DZ.1))]
  obtain⟨k,w,n,o,b,m,s⟩:=a
  obtain⟨rfl,h0⟩:k=11/\¬qt m:=DZ
  have Cq:aq prog 45 [.agg (aC m)] (.aj [.str [],.bool false]):=by
   by_cases hB:ig (eu m)=0
   ·exact VI m b6 hB h0
   ·exact VH m b6 hB
  refine ak 137 GW func18 ?_
  repeat' (conv=>arg 2;whnf);first|refine okF hw ?_|refine okF Cq ?_|refine cg
 have h6:a.kind=6->bS a.op=0:=fun e=>Classical.byContradiction fun q=>yZ ⟨e,q⟩
 have iG:a.kind=11->qt a.msg:=fun e=>Classical.byContradiction fun q=>DZ ⟨e,q⟩
 have hy:cx a (nv a)=true->xq a=.aj [.str (j0 a),.int .i64 0]:=fun h=>zP ⟨⟨hk,h6,iG⟩,kU.1 h⟩
 have hn:cx a (nv a)=false->xq a=.aj [.str [],.int .i64 1]:=fun h=>w6 (fun hl=>by rw[zz hl.2] at h;cases h)
 generalize xq a=r at*
 have i1:=Lib.itoa_length_le a.bA b2.1 b2.2
 have i2:=Lib.itoa_length_le a.num b3.1 b3.2
 have hm:=fun e=>abp b6 (iG e)
 have g1:a.kind=11->(gw (aO a.msg)).length<=2200000/\(nu (cI a.msg)).length<=41:=fun e=>(hm e).2
 have q5:=yC a.bytes
 have hb:a.kind=6->aq prog 44 [.agg (cC a.op)] (.aj [.list 1 ((iy a.op).map af),.int .i64 0]):=fun e=>by rw[if_pos (h6 e)] at cw;exact cw
 have g6:a.kind=6->(iy a.op).length<=1000:=fun e=>zo (h6 e)
 have q6:=yC (iy a.op)
 have hh:a.kind=6->aq prog 15 [.list 1 ((iy a.op).map af)] (.str (gw (iy a.op))):=fun e=>Gg (iy a.op) (by have:=g6 e;omega)
 clear cw yZ DZ
 obtain⟨k,w,n,o,b,m,s⟩:=a
 dsimp only at*
 have hc:k=1\/k=2\/k=3\/k=4\/k=5\/k=6\/k=7\/k=8\/k=9\/k=10\/k=11\/k=12:=by omega
 clear hk h6 iG
 rcases hc with rfl|rfl|rfl|rfl|rfl|rfl|rfl|rfl|rfl|rfl|rfl|rfl<;>cases s
 all_goals
  refine ak 137 GW func18 ?_
  repeat' (conv=>arg 2;whnf);first|refine an (b:=!cx _ (nv _)) (fun hE=>?_) (fun hE=>?_)|refine okF hw ?_|refine okF (iT n b3) ?_|refine okF (iT w b2) ?_|refine okF (hb rfl) ?_|refine okF (hh rfl) ?_|refine okF (Gg b (by omega)) ?_|refine okF (hm rfl).1 ?_|refine iU (Kq _ _ hO hx) (.cons (.refl _) (.cons .z .nil)) ?_|refine aT (by simp[pZ,pF,pQ,pG,pR,pM,mR,pS,nL,pN,nP,mP,nQ];omega) ?_|(obtain rfl:=hy (by simpa using hE);refine Sw (.inr rfl) rfl ?_ rfl;simp[j0,jf,pX,kW,ny];done)|(obtain rfl:=hn (by simpa using hE);refine cg)
theorem abI [Wd] (ws:List (List UInt8)) (hl:(kW ws).length<=140737488355328) (hn:ws.length<=140737488355328):aq prog 28 [.list 1 (cW ws),.str [32]] (.str (kW ws)):=
 bC.old (v:=.string (aA (kW ws))) (fun _ _=>.str _) (by kernel_rfl) (fun w I vs hv=>by
  obtain⟨v,u,rfl,h1,h2⟩:=hv.Dk
  cases h2
  generalize hx:cW ws=xs at h1
  cases h1 with
  |list A c _ l _ U dH iL hm fI hlen hA h1 hU=>
   subst hx
   have Cv:l=ws.length:=by rw[dH];simp[cW]
   subst Cv
   by_cases h0:0<ws.length
   ·obtain⟨g,off,rfl,hg,hI,fH⟩:=hA h0
    have hj:(ws.map aA).map (fun x=>x.data.toList)=ws:=by
     rw[List.map_map]
     conv=>rhs;rw[<-List.map_id ws]
     refine List.map_congr_left fun x _=>?_
     simp[aA]
    have rV:∀j x,(ws.map aA)[j]?=some x->w.cell? ⟨g,off+j,none⟩=some (.string x):=fun j x hx=>by
     rw[List.getElem?_map] at hx
     obtain⟨y,hy,rfl⟩:=Option.map_eq_some_iff.1 hx
     have e1:(cW ws)[j]?=some [.str y]:=by simp[cW,hy]
     have e2:=fH j [.str y] 0 (.str y) e1 rfl
     have e3:=hU j [.str y] 0 (.str y) e1 rfl
     simp only[Nat.mul_one,Nat.add_zero] at e2
     rw[e2]
     generalize U j 0=u at e3
     cases e3
     rfl
    have:=Tryz.strings_Join g off c (ws.map aA) (aA [32]) w rV hg (by simpa using hn) (by simpa using iL) (by rw[hj];rw[show(aA [32]).data.toList=[32] from rfl,join_eq];exact hl)
    rw[hj,show(aA [32]).data.toList=[32] from rfl,join_eq] at this
    simpa[aA] using this
   ·have hz:ws=[]:=List.eq_nil_of_length_eq_zero (by omega)
    subst hz
    refine(Tryz.strings_Join_none A c (aA [32]) w).mono ?_
    rintro e w' ⟨rfl,rfl⟩
    exact⟨rfl,Below.refl _ _⟩) rfl
theorem adb [Wd] (bs:List UInt8) (o:bt) (ho:fD.ok o) (hl:bs.length+200000000<=aL):aq prog 108 [.list 1 (bs.map af),.agg (cC o)] (.list 1 ((bs++if bS o=0 then iy o else[]).map af)):=Py bs o ho hl
theorem XV [Wd] (o:bt) (ho:fD.ok o) (h0:bS o=0):aq prog 66 [.agg (cC o)] (.aj [.list 1 ((iy o).map af),.int .i64 0]):=by
 have l1:=zo h0
 have hp:=adb [] o ho (by simp[aL])
 rw[if_pos h0,List.nil_append] at hp
 have hc:=sC o ho
 rw[h0] at hc
 refine ak 12 [] func66 ?_
 repeat' (conv=>arg 2;whnf);first|refine okF (hc) ?_|refine iQ hp rfl (aa.cons (Co.nil _) (.refl _)) ?_|refine cg
theorem XW [Wd] (o:bt) (ho:fD.ok o) (h0:¬bS o=0):aq prog 66 [.agg (cC o)] (.aj [.nils,.int .i64 (bS o)]):=by
 have hc:=sC o ho
 refine ak 12 [] func66 ?_
 repeat' (conv=>arg 2;whnf);first|refine okF (hc) ?_|apply an<;>intro h|refine cg|(exfalso;simp[h0] at*;done)
theorem KA [Wd] (m:aD):aq prog 110 [.agg (aC m)] (.agg (bL (cI m))):=by
 by_cases h7:m.kind=7
 ·by_cases hc:m.changes.length=1
  ·obtain⟨c,hc⟩:=sM hc
   have e:cI m=c.sign:=by unfold cI;rw[if_pos h7,hc]
   rw[e]
   refine ak 19 [] func110 ?_
   repeat' (conv=>arg 2;whnf);first|apply an<;>intro h|refine eT (bU c) (by decide) (by simp[hc]) ?_|refine cg|(exfalso;simp_all;done)
  ·have e:cI m=m.sign:=by
    unfold cI
    rw[if_pos h7]
    split
    ·rename_i c rV;rw[rV] at hc;exact absurd rfl hc
    ·rfl
   rw[e]
   refine ak 19 [] func110 ?_
   repeat' (conv=>arg 2;whnf);first|apply an<;>intro h|refine cg|(exfalso;simp at*;omega)
 ·have e:cI m=m.sign:=by unfold cI;rw[if_neg h7]
  rw[e]
  refine ak 19 [] func110 ?_
  repeat' (conv=>arg 2;whnf);first|apply an<;>intro h|refine cg|(exfalso;simp_all;done)
theorem CX [Wd] (k:Int):aq prog 111 [.int .i64 k] (.bool (!mO k)):=by
 refine ak 9 [] func111 ?_
 repeat' (conv=>arg 2;whnf);first|apply an<;>intro h|(refine cL ?_;simp_all [mO];done)
def KZ:List (Nat×mD):=[(5,⟨PT.of [(0,false),(1,false),(2,false),(4,false),(5,false),(6,false),(3,true),(7,true),(8,false)],[2]⟩)]
theorem WC [Wd] (m:aD) (hm:bh.ok m) (hB:¬ig (eu m)=0):aq prog 67 [.agg (aC m)] (.aj [.nils,.bool false]):=by
 have hu:=IA m hm
 unfold uR at hu
 rw[if_neg hB] at hu
 have hS:=KA m
 refine iV 62 KZ func67 ?_
 repeat' (conv=>arg 2;whnf);first|apply an<;>intro h|refine okF hu ?_|refine okF hS ?_|refine okF (CX m.kind) ?_|refine cg|(exfalso;simp_all;done)
theorem WD [Wd] (m:aD) (hm:bh.ok m) (hB:ig (eu m)=0) (hw:¬qt m):aq prog 67 [.agg (aC m)] (.aj [.nils,.bool false]):=by
 rw[Bk] at hw
 have hu:=IA m hm
 unfold uR at hu
 rw[if_pos hB] at hu
 have hS:=KA m
 generalize cI m=s at*
 replace hw:=fun h=>hw ⟨hB,h⟩
 refine iV 62 KZ func67 ?_
 repeat' (conv=>arg 2;whnf);first|apply an<;>intro h|refine okF hu ?_|refine okF hS ?_|refine okF (CX m.kind) ?_|refine cg|(exfalso;simp_all;done)
theorem WE [Wd] (m:aD) (hm:bh.ok m) (hw:qt m) (hb:((cI m).key<=9223372036854775807)/\(cI m).ah<=9223372036854775807):aq prog 67 [.agg (aC m)] (.aj [.list 1 (cW (ny m)),.bool true]):=by
 have hi:=(Bk m).1 hw
 obtain⟨hB,w1,w2,w3,w4⟩:=hi
 have hu:=IA m hm
 unfold uR at hu
 rw[if_pos hB] at hu
 have hS:=KA m
 have l1:=so (nG (oA (wY.1 hB).1))
 rw[wM] at l1
 rw[show ny m=[gw (aO m),nu (cI m)] from rfl]
 generalize cI m=s at*
 have e1:aJ s.key=enc s.key.toNat:=eK w1 (by omega)
 have e2:aJ s.ah=enc s.ah.toNat:=eK w2 (by omega)
 rw[show nu s=gw ([]++aJ s.key++aJ s.ah) from by simp[nu,e1,e2]]
 have p1:=fG s.key
 have p2:=fG s.ah
 have l2:([]++aJ s.key++aJ s.ah).length<=20:=by simp only[List.length_append,List.length_nil];omega
 have q1:(gw (aO m)).length<=2000001:=by have:=yB (aO m);show(qR (aO m)).length<=_;omega
 have q2:(gw ([]++aJ s.key++aJ s.ah)).length<=41:=by have:=yB ([]++aJ s.key++aJ s.ah);show(qR _).length<=_;omega
 have cm:([]++aJ s.key).length+100<=aL:=Nat.le_trans (Nat.add_le_add_right (show([]++aJ s.key).length<=10 from p1) 100) (by decide)
 refine iV 62 KZ func67 ?_
 repeat' (conv=>arg 2;whnf);first|apply an<;>intro h|refine okF hu ?_|refine okF hS ?_|refine okF (CX m.kind) ?_|refine lD ?_|refine okF (DB (aO m) (by omega)) ?_|refine iQ (sj [] (s.key) (by simp[aL])) rfl (aa.cons (Co.nil _) (.refl _)) ?_|refine okF (sj _ s.ah cm) ?_|refine okF (DB _ (Nat.le_trans l2 (by decide))) ?_|refine cg|(exfalso;simp_all;done)|(exfalso;simp_all;omega)
def DC:List (Nat×mD):=[(1,⟨PT.of [(0,false),(1,false),(3,false),(4,false),(2,true),(5,true),(6,false),(7,false)],[1]⟩),(17,⟨(.one 0 false (.one 1 false (.one 2 false (.one 5 false (.one 6 false (.one 3 true (.alt 4 (.one 7 true (.one 8 false (.one 9 false .done))) (.one 7 true (.one 4 true (.one 8 false (.one 9 false .done))))))))))),[1,1007]⟩),(26,⟨(.one 0 false (.one 1 false (.one 2 false (.one 3 false (.one 4 false (.one 5 false (.one 6 false (.one 7 true (.alt 8 (.one 9 true (.one 10 false (.one 11 false .done))) (.one 9 true (.one 8 true (.one 10 false (.one 11 false .done))))))))))))),[1,1009]⟩),(33,⟨PT.of [(0,false),(1,false),(2,false),(4,false),(6,false),(3,true),(5,true),(7,true),(8,false),(9,false)],[1,1005,1007]⟩)]
theorem XX [Wd] (iT:yE) (a:bK) (ha:gh.ok a) (h0:¬bS a.op=0):aq prog 42 [.agg (cr {a with kind:=6})] (.aj [.agg (cr (⟨6,a.bA,0,a.op,[],aE,false⟩:bK)),.list 1 (cW [mR,Lib.itoa a.bA,gw []]),.bool false]):=by
 have b2:-9223372036854775808<=a.bA/\a.bA<=9223372036854775807:=ha.2.1
 have b3:-9223372036854775808<=a.num/\a.num<=9223372036854775807:=ha.2.2.1
 have b5:a.bytes.length<=4194304:=ha.2.2.2.2.1
 have hb:=XW a.op ha.2.2.2.1 h0
 have he:(bS a.op==0)=false:=by simpa using h0
 refine iV 141 DC func42 ?_
 repeat' (conv=>arg 2;whnf);first|refine aV ?_ ?_|refine okF (iT a.num b3) ?_|refine okF (iT a.bA b2) ?_|refine okF (hb) ?_|refine iQ (DB [] (by simp)) rfl (aa.cons (Co.nil _) .nil) ?_|(rw[he];refine j5 rfl (aa.oO (aa.cons (aa.eU ?_) (aa.refl _)));(repeat' (first|exact aa.nil|exact Co.refl _|exact Co.nil _|refine aa.cons ?_ ?_));done)
theorem ZI [Wd] (iT:yE) (a:bK) (ha:gh.ok a) (hk:¬(1<=a.kind/\a.kind<=12)):aq prog 42 [.agg (cr a)] (.aj [.agg (cr aR),.list 1 (cW []),.bool false]):=by
 have b2:-9223372036854775808<=a.bA/\a.bA<=9223372036854775807:=ha.2.1
 have b3:-9223372036854775808<=a.num/\a.num<=9223372036854775807:=ha.2.2.1
 have b5:a.bytes.length<=4194304:=ha.2.2.2.2.1
 refine iV 141 DC func42 ?_
 repeat' (conv=>arg 2;whnf);first|refine okF (iT a.num b3) ?_|refine okF (iT a.bA b2) ?_|refine bB (by simp;omega) ?_|(refine qB (.inr rfl) rfl (aa.oO (aa.cons (aa.eU ?_) (aa.cons (Co.nil _) (aa.refl _)))) rfl;(repeat' (first|exact aa.nil|exact Co.refl _|exact Co.nil _|refine aa.cons ?_ ?_));done)
theorem abJ [Wd] (iT:yE) (a:bK) (ha:gh.ok a):∃(ws:List (List UInt8)) (b:Bool),aq prog 42 [.agg (cr a)] (.aj [.agg (cr (nv a)),.list 1 (cW ws),.bool b])/\(zX a->b=true/\ws=jf a)/\(¬zX a->b=false):=by
 have b2:-9223372036854775808<=a.bA/\a.bA<=9223372036854775807:=ha.2.1
 have b3:-9223372036854775808<=a.num/\a.num<=9223372036854775807:=ha.2.2.1
 have b4:=ha.2.2.2.1
 have b5:a.bytes.length<=4194304:=ha.2.2.2.2.1
 have b6:=ha.2.2.2.2.2.1
 by_cases hk:1<=a.kind/\a.kind<=12
 case neg=>
  have ek:nv a=aR:=by unfold nv;rw[if_neg (by omega),if_neg (by omega),if_neg (by omega),if_neg (by omega),if_neg (by omega),if_neg (by omega),if_neg (by omega)]
  have t:=ZI iT a ha hk
  rw[<-ek] at t
  exact⟨_,_,t,fun h=>absurd h.1 hk,fun _=>rfl⟩
 by_cases ok:zX a
 ·have hb:a.kind=6->aq prog 66 [.agg (cC a.op)] (.aj [.list 1 ((iy a.op).map af),.int .i64 0]):=fun e=>XV a.op b4 (ok.2.1 e)
  have hh:a.kind=6->aq prog 14 [.list 1 ((iy a.op).map af)] (.str (gw (iy a.op))):=fun e=>DB (iy a.op) (by have:=zo (ok.2.1 e);omega)
  have hm:=fun e=>WE a.msg b6 (ok.2.2 e) (Jv b6)
  refine⟨jf a,true,?_,fun _=>⟨rfl,rfl⟩,fun h=>absurd ok h⟩
  obtain⟨k,w,n,o,b,m,s⟩:=a
  dsimp only at*
  have hc:k=11\/k=1\/k=2\/k=3\/k=4\/k=5\/k=6\/k=7\/k=8\/k=9\/k=10\/k=12:=by omega
  clear hk ok
  rcases hc with rfl|rfl|rfl|rfl|rfl|rfl|rfl|rfl|rfl|rfl|rfl|rfl
  case inl=>
   cases s
   all_goals
    refine DX false 141 DC func42 ?_
    repeat' (conv=>arg 2;whnf);first|refine okF (iT n b3) ?_|refine okF (iT w b2) ?_|refine okF (hm rfl) ?_|refine aT (by simp[maxLen,ny,cW];done) ?_|(refine mE [4] (.inr rfl) rfl (aa.oO (aa.cons (aa.eU ?_) (aa.refl _))) rfl;(repeat' (first|exact aa.nil|exact Co.refl _|exact Co.nil _|refine aa.cons ?_ ?_));done)
  all_goals
   refine iV 141 DC func42 ?_
   repeat' (conv=>arg 2;whnf);first|refine aV ?_ ?_|refine okF (iT n b3) ?_|refine okF (iT w b2) ?_|refine okF (hb rfl) ?_|refine okF (hh rfl) ?_|refine okF (DB b (by omega)) ?_|(refine j5 rfl (aa.oO (aa.cons (aa.eU ?_) (aa.refl _)));(repeat' (first|exact aa.nil|exact Co.refl _|exact Co.nil _|refine aa.cons ?_ ?_));done)
 ·by_cases e6:a.kind=6/\¬bS a.op=0
  ·have ek:nv a=(⟨6,a.bA,0,a.op,[],aE,false⟩:bK):=by simp[nv,e6.1,aR]
   have t:=XX iT a ha e6.2
   rw[abn e6.1,<-ek] at t
   exact⟨_,_,t,fun h=>absurd h ok,fun _=>rfl⟩
  obtain⟨oU,hw⟩:a.kind=11/\¬qt a.msg:=Classical.byContradiction fun q=>ok ⟨hk,fun e=>Classical.byContradiction fun z=>e6 ⟨e,z⟩,fun e=>Classical.byContradiction fun z=>q ⟨e,z⟩⟩
  have hm:aq prog 67 [.agg (aC a.msg)] (.aj [.nils,.bool false]):=by
   by_cases hB:ig (eu a.msg)=0
   ·exact WD a.msg b6 hB hw
   ·exact WC a.msg b6 hB
  refine⟨[pZ 11 a.jN,Lib.itoa a.bA],false,?_,fun h=>absurd h ok,fun _=>rfl⟩
  obtain⟨k,w,n,o,b,m,s⟩:=a
  obtain rfl:k=11:=oU
  cases s
  all_goals
   refine DX false 141 DC func42 ?_
   repeat' (conv=>arg 2;whnf);first|refine okF (iT n b3) ?_|refine okF (iT w b2) ?_|refine okF hm ?_|refine aT (by simp[maxLen];done) ?_|(refine mE [4] (.inr rfl) rfl (aa.oO (aa.cons (aa.eU ?_) (aa.refl _))) rfl;(repeat' (first|exact aa.nil|exact Co.refl _|exact Co.nil _|refine aa.cons ?_ ?_));done)
theorem Pz:∀ws:List (List UInt8),(kW ws).length<=(ws.map fun w=>w.length+1).sum
 |[]=>Nat.le_refl _
 |[x]=>by simp[kW]
 |x::y::r=>by
  have:=Pz (y::r)
  rw[show kW (x::y::r)=x++32::kW (y::r) from rfl,List.length_append,List.length_cons,List.map_cons,List.sum_cons]
  omega
theorem kw7 (n:Nat) (s:Bool):(pZ n s).length<=7:=by
 unfold pZ
 split<;>first|decide|(cases s<;>decide)
theorem OF {a:bK} (ha:gh.ok a) (h:zX a):(kW (jf a)).length<=140737488355328/\(jf a).length<=140737488355328:=by
 have b2:-9223372036854775808<=a.bA/\a.bA<=9223372036854775807:=ha.2.1
 have b3:-9223372036854775808<=a.num/\a.num<=9223372036854775807:=ha.2.2.1
 have b5:a.bytes.length<=4194304:=ha.2.2.2.2.1
 have i1:=Lib.itoa_length_le a.bA b2.1 b2.2
 have i2:=Lib.itoa_length_le a.num b3.1 b3.2
 have k7:=kw7 a.kind.toNat a.jN
 have q1:=yC a.bytes
 have o1:a.kind=6->(gw (iy a.op)).length<=100000000:=fun e=>by
  have:=zo (h.2.1 e)
  have:=yC (iy a.op)
  omega
 have m1:a.kind=11->(gw (aO a.msg)).length<=100000000/\(nu (cI a.msg)).length<=41:=fun e=>by
  have hw:=h.2.2 e
  have ho:(cI a.msg).key<=9223372036854775807/\(cI a.msg).ah<=9223372036854775807:=Jv ha.2.2.2.2.2.1
  have hi:=(Bk a.msg).1 hw
  have l1:=so (nG (oA (wY.1 hi.1).1))
  rw[wM] at l1
  have q1:=yC (aO a.msg)
  have e1:=kV (cI a.msg).key.toNat (by omega)
  have e2:=kV (cI a.msg).ah.toNat (by omega)
  have q2:=yC (enc (cI a.msg).key.toNat++enc (cI a.msg).ah.toNat)
  rw[List.length_append] at q2
  exact⟨by omega,by unfold nu;omega⟩
 have hj:=Pz (jf a)
 have key:((jf a).map fun w=>w.length+1).sum<=140737488355328/\(jf a).length<=140737488355328:=by
  unfold jf pX
  repeat' split
  all_goals simp only[ny,List.map_cons,List.map_nil,List.sum_cons,List.sum_nil,List.length_cons,List.length_nil];constructor<;>omega
 exact⟨Nat.le_trans hj key.1,key.2⟩
theorem J7 [Wd] (iT:yE) (a:bK) (ha:gh.ok a):aq prog 17 [.agg (cr a)] (xq a):=by
 obtain⟨ws,b,hk,hY,hN⟩:=abJ iT a ha
 have hs:=JZ a (nv a) ha (Qw ha)
 by_cases h:kH a
 ·obtain⟨rfl,rfl⟩:=hY h.1
  have hj:=abI (jf a) (OF ha h.1).1 (OF ha h.1).2
  rw[zz h.2] at hs
  rw[zP h]
  refine ak 23 [] func17 ?_
  repeat' (conv=>arg 2;whnf);first|refine okF hk ?_|refine okF hs ?_|refine okF hj ?_|refine cg
 ·rw[w6 h]
  have hz:b=true->cx a (nv a)=false:=fun e=>Bi fun e2=>h ⟨Classical.byContradiction fun n=>(by rw[hN n] at e;cases e),e2⟩
  refine ak 23 [] func17 ?_
  repeat' (conv=>arg 2;whnf);first|refine okF hk ?_|refine okF hs ?_|apply an<;>intro h|refine cg|(exfalso;simp_all;done)
theorem vM [Wd] (l:List UInt8) (hl:l.length<=4194304):aq prog 153 [.list 1 (l.map af)] (.own 1 (l.map af)):=by
 refine kK false 8 [] func153 ?_
 repeat'
  (conv=>arg 2;whnf)
  first
  |refine aT (by simp[maxLen];omega) ?_
  |refine aV ?_ ?_
  |apply an<;>intro h
  |(have e:l=[]:=by simpa using h
    subst e
    refine j5 rfl (.rO _))
  |refine mE [1,1001] (.inr rfl) rfl (.refl _) rfl
theorem Qj [Wd] (l:List bJ) (hl:l.length<=4194304):aq prog 289 [.list 2 (l.map bL)] (.own 2 (l.map bL)):=by
 refine kK false 8 [] func289 ?_
 repeat'
  (conv=>arg 2;whnf)
  first
  |refine aT (by simp[maxLen];omega) ?_
  |refine aV ?_ ?_
  |apply an<;>intro h
  |(have e:l=[]:=by simpa using h
    subst e
    refine j5 rfl (.rO _))
  |refine mE [1,1001] (.inr rfl) rfl (.refl _) rfl
theorem Bf [Wd] (l:List j7) (hl:l.length<=4194304):aq prog 245 [.list 5 (l.map eO)] (.own 5 (l.map eO)):=by
 refine kK false 8 [] func245 ?_
 repeat'
  (conv=>arg 2;whnf)
  first
  |refine aT (by simp[maxLen];omega) ?_
  |refine aV ?_ ?_
  |apply an<;>intro h
  |(have e:l=[]:=by simpa using h
    subst e
    refine j5 rfl (.rO _))
  |refine mE [1,1001] (.inr rfl) rfl (.refl _) rfl
theorem Bg [Wd] (l:List Int) (hl:l.length<=4194304):aq prog 246 [.list 1 (l.map eD)] (.own 1 (l.map eD)):=by
 refine kK false 8 [] func246 ?_
 repeat'
  (conv=>arg 2;whnf)
  first
  |refine aT (by simp[maxLen];omega) ?_
  |refine aV ?_ ?_
  |apply an<;>intro h
  |(have e:l=[]:=by simpa using h
    subst e
    refine j5 rfl (.rO _))
  |refine mE [1,1001] (.inr rfl) rfl (.refl _) rfl
theorem Gc {α:Type} {l:List α} {i:Nat} {x:α} (hx:l[i]?=some x) {k:List α} (hk:k=l.take i):k++[x]=l.take (i+1):=by
 rw[List.take_add_one,hx,hk];rfl
theorem FX {α:Type} {l k:List α} {i:Nat} (hk:k=l.take i) (h:¬i<l.length):k=l:=by
 rw[hk,List.take_of_length_le (by omega)]
def D3 (b:List UInt8):List D:=[.own 1 (b.map af)]
def oOp (s:bt):List D:=[.int .i64 s.kind,.str s.av,.str s.group,.int .i64 s.offset,.own 1 (s.records.map D3)]
def yu (s:bX):List D:=[.int .i64 s.request.bD,.int .i64 s.request.time,.int .i64 s.request.op.kind,.str s.request.op.av,.str s.request.op.group,.int .i64 s.request.op.offset,.own 1 (s.request.op.records.map D3),.int .i64 s.sign.key,.int .i64 s.sign.ah]
theorem Qk [Wd] (o:bt) (ho:fD.ok o):aq prog 288 [.agg (cC o)] (.agg (oOp o)):=by
 obtain⟨k0,t0,g0,o0,r⟩:=o
 have hl:(dL dY).ok r:=ho.2.2.2.2
 clear ho
 have HL:r.length<=4194304:=hl.1
 refine ak 22 [] func288 ?_
 conv=>arg 2;whnf
 refine bE (α:=Nat×List (List UInt8)) (fun a=>match a.2 with
  |[]=>⟨[(9,.int .i64 a.1),(8,.int .i64 (r.map gS).length),(7,.list 1 (r.map gS)),(3,.nils),(2,.ptr 1 0),(1,.ptr 0 0)],[.cells 40 [.int .i64 k0,.str t0,.str g0,.int .i64 o0,.list 1 (r.map gS)],.cells 40 [.int .i64 0,.str [],.str [],.int .i64 0,.nils]]⟩
  |x::k=>⟨[(9,.int .i64 a.1),(8,.int .i64 (r.map gS).length),(7,.list 1 (r.map gS)),(3,.row 2),(2,.ptr 1 0),(1,.ptr 0 0)],[.cells 40 [.int .i64 k0,.str t0,.str g0,.int .i64 o0,.list 1 (r.map gS)],.cells 40 [.int .i64 0,.str [],.str [],.int .i64 0,.nils],.row 51 1 ((x::k).map D3)]⟩) (fun a=>a.1<=r.length/\a.2=r.take a.1) (fun a=>r.length-a.1) (0,[]) ⟨Nat.zero_le _,rfl⟩ (Sv.aK [0,1]) ?_
 rintro⟨i,out⟩ ⟨hi,ho⟩
 replace hi:i<=r.length:=hi
 replace ho:out=r.take i:=ho
 have oz:out.length=i:=by rw[ho,List.length_take];omega
 cases out with
 |nil=>
  repeat'
   (conv=>arg 2;whnf)
   first
   |apply an<;>intro h
   |refine cK (l:=r) (by simp at h;omega) (fun x (hx:r[i]?=some x)=>?_)
   |refine okF (vM x (hl.2 x (List.mem_of_getElem? hx))) ?_
   |refine aT (by have:=(List.getElem?_eq_some_iff.1 hx).1;constructor<;>(simp only[List.length_cons,List.length_nil,maxLen] at oz ⊢;omega)) ?_
   |refine bw (cj (by(try dsimp only);omega) (by have h9:=(List.getElem?_eq_some_iff.1 hx).1;(try dsimp only);omega)) ?_
   |refine aZ (i+1,([x]:List ((List UInt8)))) (Sv.aK [0,1,2]) ⟨by have:=(List.getElem?_eq_some_iff.1 hx).1;show i+1<=r.length;omega,Gc hx ho⟩ (by have:=(List.getElem?_eq_some_iff.1 hx).1;show r.length-(i+1)<r.length-i;omega)
   |refine bq ?_
   |(have e:=FX ho (by simp at h;omega)
     subst e
     refine j5 rfl (aa.eU (by repeat' first|exact aa.nil|refine aa.cons (.refl _) ?_|refine aa.cons (.rO _) ?_)))
 |cons z out=>
  repeat'
   (conv=>arg 2;whnf)
   first
   |apply an<;>intro h
   |refine cK (l:=r) (by simp at h;omega) (fun x (hx:r[i]?=some x)=>?_)
   |refine okF (vM x (hl.2 x (List.mem_of_getElem? hx))) ?_
   |refine aT (by have:=(List.getElem?_eq_some_iff.1 hx).1;constructor<;>(simp only[List.length_cons,List.length_nil,List.length_map,maxLen] at oz ⊢;omega)) ?_
   |refine bw (cj (by(try dsimp only);omega) (by have h9:=(List.getElem?_eq_some_iff.1 hx).1;(try dsimp only);omega)) ?_
   |refine aZ (i+1,((z::out)++[(x:(List UInt8))])) (Sv.mk' [0,1,3] rfl ⟨⟨rfl,rfl⟩,⟨rfl,rfl⟩,⟨rfl,by simp;rfl⟩,trivial⟩ ⟨rfl,rfl,rfl,rfl,rfl,rfl,trivial⟩) ⟨by have:=(List.getElem?_eq_some_iff.1 hx).1;show i+1<=r.length;omega,Gc hx ho⟩ (by have:=(List.getElem?_eq_some_iff.1 hx).1;show r.length-(i+1)<r.length-i;omega)
   |refine bq ?_
   |(have e:=FX ho (by simp at h;omega)
     subst e
     refine mE [2,1002] (.inr rfl) rfl (.refl _) rfl)
theorem Da [Wd] (l:List bX) (hs:(dL fX).ok l):aq prog 240 [.list 9 (l.map bI)] (.own 9 (l.map yu)):=by
 have hl:=hs
 have HL:l.length<=4194304:=hl.1
 refine ak 24 [] func240 ?_
 conv=>arg 2;whnf
 refine bE (α:=Nat×List bX) (fun a=>match a.2 with
  |[]=>⟨[(8,.int .i64 a.1),(7,.int .i64 (l.map bI).length),(6,.list 9 (l.map bI)),(3,.nils),(2,.nils)],[]⟩
  |x::k=>⟨[(8,.int .i64 a.1),(7,.int .i64 (l.map bI).length),(6,.list 9 (l.map bI)),(3,.row 0),(2,.nils)],[.row 183 9 ((x::k).map yu)]⟩) (fun a=>a.1<=l.length/\a.2=l.take a.1) (fun a=>l.length-a.1) (0,[]) ⟨Nat.zero_le _,rfl⟩ (Sv.aK []) ?_
 rintro⟨i,out⟩ ⟨hi,ho⟩
 replace hi:i<=l.length:=hi
 replace ho:out=l.take i:=ho
 have oz:out.length=i:=by rw[ho,List.length_take];omega
 cases out with
 |nil=>
  repeat'
   (conv=>arg 2;whnf)
   first
   |apply an<;>intro h
   |refine cK (l:=l) (by simp at h;omega) (fun x (hx:l[i]?=some x)=>?_)
   |refine okF (Qk x.request.op (hl.2 x (List.mem_of_getElem? hx)).1.2.2) ?_
   |refine aT (by have:=(List.getElem?_eq_some_iff.1 hx).1;constructor<;>(simp only[List.length_cons,List.length_nil,maxLen] at oz ⊢;omega)) ?_
   |refine bw (cj (by(try dsimp only);omega) (by have h9:=(List.getElem?_eq_some_iff.1 hx).1;(try dsimp only);omega)) ?_
   |refine aZ (i+1,([x]:List (bX))) (Sv.aK [1]) ⟨by have:=(List.getElem?_eq_some_iff.1 hx).1;show i+1<=l.length;omega,Gc hx ho⟩ (by have:=(List.getElem?_eq_some_iff.1 hx).1;show l.length-(i+1)<l.length-i;omega)
   |refine bq ?_
   |(have e:=FX ho (by simp at h;omega)
     subst e
     refine j5 rfl (.rO _))
 |cons z out=>
  repeat'
   (conv=>arg 2;whnf)
   first
   |apply an<;>intro h
   |refine cK (l:=l) (by simp at h;omega) (fun x (hx:l[i]?=some x)=>?_)
   |refine okF (Qk x.request.op (hl.2 x (List.mem_of_getElem? hx)).1.2.2) ?_
   |refine aT (by have:=(List.getElem?_eq_some_iff.1 hx).1;constructor<;>(simp only[List.length_cons,List.length_nil,List.length_map,maxLen] at oz ⊢;omega)) ?_
   |refine bw (cj (by(try dsimp only);omega) (by have h9:=(List.getElem?_eq_some_iff.1 hx).1;(try dsimp only);omega)) ?_
   |refine aZ (i+1,((z::out)++[(x:bX)])) (Sv.mk' [2] rfl ⟨⟨rfl,by simp;rfl⟩,trivial⟩ ⟨rfl,rfl,rfl,rfl,rfl,trivial⟩) ⟨by have:=(List.getElem?_eq_some_iff.1 hx).1;show i+1<=l.length;omega,Gc hx ho⟩ (by have:=(List.getElem?_eq_some_iff.1 hx).1;show l.length-(i+1)<l.length-i;omega)
   |refine bq ?_
   |(have e:=FX ho (by simp at h;omega)
     subst e
     refine mE [0,1000] (.inr rfl) rfl (.refl _) rfl)
def afb (s:gX):List D:=[.int .i64 s.seq,.int .i64 s.ah,.own 2 (s.cM.map bL)]
theorem wL [Wd] (s:gX) (hs:je.ok s):aq prog 241 [.agg (mj s)] (.agg (afb s)):=by
 refine ak 8 [] func241 ?_
 repeat' (conv=>arg 2;whnf);first|refine okF (Qj s.cM hs.2.2.1) ?_|refine cg
theorem pH [Wd] {P:Program} {Q:Exit->S->Prop} {f:FuncId} {ar bR:List D} {hs hb:List AO} {c:D->List AO->T} {cZ:D->List AO->Prop} (σ:List Nat) (hF:bC P f ar hs cZ) (V:View σ hb hs) (hc:aa bR (D.bO.rl σ ar)) (hM:(σ.all fun o=>(jT hb bR).elem o)=true) (k:∀r kD,cZ r kD->(c (r.bO (mz hb σ hs kD)) (lK hb σ hs kD)).ok P Q):(T.call f bR hb c).ok P Q:=
 ⟨_,hF.aL V hc (fun o ho=>by have:=List.all_eq_true.1 hM o ho;simpa using this),fun r' h' ⟨r0,h0,hp,e3,e4⟩=>by subst e3 e4;exact k r0 h0 hp⟩
theorem BG [Wd] {P:Program} {tb:TT} {rs:List ResultVar} {e:Exit} {s:S} {h:List AO} {r:D} {h':List AO} {ds:List D} {cZ:D->List AO->Prop} (σ:List Nat) (he:e=.normal\/e=.ret) (hr:iD tb s rs=some ds) (hn:nodupB σ=true) (hv:jF s.h σ σ h') (hk:tg 0 h σ h') (iw:Co (lI ds) (r.bO σ)) (hp:cZ r h'):
 (T.leaf e s).ok P (Lf tb rs h cZ):=
 ⟨he,[],ds,by rw[zQ];exact hr,σ,r,_,h',by rw[zQ];exact .mk' hn hv,iw,rfl,fun o t cs h1=>by have:=Bv hk o t cs h1;simpa using this,hp⟩
def Ko (t n:Nat) (xs:List (List D)) (r:D) (h':List AO):Prop:=(xs=[]/\r=.nils/\h'=[])\/(r=.row 0/\h'=[.row t n xs])
theorem Ob [Wd] (l:List cX) (hl:l.length<=4194304):bC prog 242 [.list 8 (l.map bU)] [] (Ko 145 8 (l.map bU)):=by
 refine kK false 8 [] func242 ?_
 repeat' (conv=>arg 2;whnf);first|refine aT (by simp[maxLen];omega) ?_|refine aV ?_ ?_|apply an<;>intro h|exact BG (r:=.nils) (h':=[]) [] (.inr rfl) rfl rfl trivial trivial (.refl _) (.inl ⟨by simpa using h,rfl,rfl⟩)|exact BG (r:=.row 0) (h':=[.row 145 8 (l.map bU)]) [1] (.inr rfl) rfl rfl ⟨⟨rfl,rfl⟩,trivial⟩ trivial (.refl _) (.inr ⟨rfl,rfl⟩)
theorem Jd [Wd] (l:List gq) (hl:l.length<=4194304):bC prog 243 [.list 5 (l.map dV)] [] (Ko 159 5 (l.map dV)):=by
 refine kK false 8 [] func243 ?_
 repeat' (conv=>arg 2;whnf);first|refine aT (by simp[maxLen];omega) ?_|refine aV ?_ ?_|apply an<;>intro h|exact BG (r:=.nils) (h':=[]) [] (.inr rfl) rfl rfl trivial trivial (.refl _) (.inl ⟨by simpa using h,rfl,rfl⟩)|exact BG (r:=.row 0) (h':=[.row 159 5 (l.map dV)]) [1] (.inr rfl) rfl rfl ⟨⟨rfl,rfl⟩,trivial⟩ trivial (.refl _) (.inr ⟨rfl,rfl⟩)
theorem Vt [Wd] (l:List jt) (hl:l.length<=4194304):bC prog 290 [.list 7 (l.map fk)] [] (Ko 190 7 (l.map fk)):=by
 refine kK false 8 [] func290 ?_
 repeat' (conv=>arg 2;whnf);first|refine aT (by simp[maxLen];omega) ?_|refine aV ?_ ?_|apply an<;>intro h|exact BG (r:=.nils) (h':=[]) [] (.inr rfl) rfl rfl trivial trivial (.refl _) (.inl ⟨by simpa using h,rfl,rfl⟩)|exact BG (r:=.row 0) (h':=[.row 190 7 (l.map fk)]) [1] (.inr rfl) rfl rfl ⟨⟨rfl,rfl⟩,trivial⟩ trivial (.refl _) (.inr ⟨rfl,rfl⟩)
section
theorem acK {α β:Type} {l:List α} {f g:α->β} {i:Nat} {x:α} (h:l[i]?=some x):((l.take i).map f++(l.drop i).map g)[i]?=some (g x):=by
 have hl:=(List.getElem?_eq_some_iff.1 h).1
 rw[List.getElem?_append_right (by simp;omega)]
 simp only[List.length_map,List.length_take,Nat.min_eq_left (Nat.le_of_lt hl),Nat.sub_self,List.getElem?_map,List.getElem?_drop,Nat.add_zero,h,Option.map_some]
theorem Du {α β:Type} {l:List α} {f g:α->β} {i:Nat} {x:α} (h:l[i]?=some x):((l.take i).map f++(l.drop i).map g).set i (f x)=(l.take (i+1)).map f++(l.drop (i+1)).map g:=by
 have hl:=(List.getElem?_eq_some_iff.1 h).1
 rw[List.set_append_right _ _ (by simp;omega)]
 simp only[List.length_map,List.length_take,Nat.min_eq_left (Nat.le_of_lt hl),Nat.sub_self]
 rw[List.drop_eq_getElem_cons hl,List.map_cons,List.set_cons_zero,List.take_add_one,h]
 have:l[i]=x:=(List.getElem?_eq_some_iff.1 h).2
 simp
theorem aaV {α β:Type} {l:List α} {f g:α->β} {i:Nat} {x:α} {y:β} (h:l[i]?=some x):(((l.take i).map f++(l.drop i).map g).set i y).set i (f x)=(l.take (i+1)).map f++(l.drop (i+1)).map g:=by
 rw[List.set_set];exact Du h
theorem BH {α β:Type} (l:List α) (f g:α->β) (i:Nat):((l.take i).map f++(l.drop i).map g).length=l.length:=by
 simp only[List.length_append,List.length_map,List.length_take,List.length_drop];omega
theorem zS {α β:Type} {l:List α} {f g:α->β} {i:Nat} (h0:i<=l.length) (h:¬i<l.length):(l.take i).map f++(l.drop i).map g=l.map f:=by
 rw[List.take_of_length_le (by omega),List.drop_of_length_le (by omega)];simp
section
variable [Wd] {P:Program} {Q:Exit->S->Prop}
theorem Dv {α:Type} {l:List α} {f g:α->List D} {i:Nat} {q:Int} {c:List D->T} {x:α} (hx:l[i]?=some x) (hq:q=(i:Int)) (h:(c (g x)).ok P Q):(T.nth ((l.take i).map f++(l.drop i).map g) q c).ok P Q:=by
 subst hq
 exact eT (g x) (by omega) (by rw[Int.toNat_natCast];exact acK hx) h
theorem aaW {xs:List (List D)} {i j:Nat} {q:Int} {c:List D->T} {y:List D} (hj:j=i) (hq:q=(i:Int)) (hi:i<xs.length) (h:(c y).ok P Q):(T.nth (xs.set j y) q c).ok P Q:=by
 subst hq hj
 exact eT y (by omega) (by rw[Int.toNat_natCast,List.getElem?_set_self hi]) h
end
def Fw (s:jt):List D:=[.int .i64 s.view,.int .i64 s.seq,.int .i64 s.ah,.int .i64 s.kG.key,.int .i64 s.kG.ah,.own 2 (s.cM.map bL),.own 9 (s.batch.map yu)]
def nh (s:cX):List D:=[.int .i64 s.view,.int .i64 s.src,.int .i64 s.cert.seq,.int .i64 s.cert.ah,.own 2 (s.cert.cM.map bL),.own 7 (s.cD.map Fw),.int .i64 s.sign.key,.int .i64 s.sign.ah]
def DF (s:gq):List D:=[.int .i64 s.view,.int .i64 s.seq,.own 9 (s.batch.map yu),.int .i64 s.sign.key,.int .i64 s.sign.ah]
theorem EU [Wd] (s:cX) (hs:fP.ok s):aq prog 244 [.agg (bU s)] (.agg (nh s)):=by
 obtain⟨vw,sr,ct,l,sg⟩:=s
 have hl:(dL oC).ok l:=hs.2.2.2.1
 have Nn:je.ok ct:=hs.2.2.1
 clear hs
 have HL:l.length<=4194304:=hl.1
 refine iV 44 [(6,⟨PT.of [(0,false),(1,false),(2,false),(3,false),(4,false),(5,false),(6,false),(7,false),(8,false),(9,true),(10,false),(11,false),(12,true)],[0,1,2,3,1012]⟩),(7,⟨PT.of [(0,false),(1,false),(2,false),(3,false),(4,false),(5,false),(6,false),(7,false),(8,false),(9,true),(10,false),(11,false),(12,true)],[0,1,2,3,1012]⟩)] func244 ?_
 repeat' (conv=>arg 2;whnf);first|refine okF (wL ct Nn) ?_|refine pH [] (Vt l hl.1) (.mk' rfl trivial) (aa.refl _) rfl (fun r kD hp=>?_)
 rcases hp with⟨e,rfl,rfl⟩|⟨rfl,rfl⟩
 ·replace e:l=[]:=List.map_eq_nil_iff.1 e
  subst e
  conv=>arg 2;whnf
  refine bE (α:=Unit) (fun a=>⟨[(15,.int .i64 0),(14,.int .i64 0),(2,.ptr 1 0),(1,.ptr 0 0)],[.cells 145 [.int .i64 vw,.int .i64 sr,.int .i64 ct.seq,.int .i64 ct.ah,.own 2 (ct.cM.map bL),.nils,.int .i64 sg.key,.int .i64 sg.ah],.cells 145 [.int .i64 0,.int .i64 0,.int .i64 0,.int .i64 0,.nils,.nils,.int .i64 0,.int .i64 0]]⟩) (fun a=>True) (fun a=>0) () trivial (Sv.aK [0,1]) ?_
  rintro a-
  repeat' (conv=>arg 2;whnf);first|refine bq ?_|refine j5 rfl (aa.eU (by repeat' first|exact aa.nil|refine aa.cons (.refl _) ?_|refine aa.cons (.rO _) ?_))
 ·conv=>arg 2;whnf
  refine bE (α:=Nat) (fun i=>⟨[(15,.int .i64 i),(14,.int .i64 (l.map fk).length),(2,.ptr 1 0),(1,.ptr 0 0)],[.cells 145 [.int .i64 vw,.int .i64 sr,.int .i64 ct.seq,.int .i64 ct.ah,.own 2 (ct.cM.map bL),.row 2,.int .i64 sg.key,.int .i64 sg.ah],.cells 145 [.int .i64 0,.int .i64 0,.int .i64 0,.int .i64 0,.nils,.nils,.int .i64 0,.int .i64 0],.row 190 7 ((l.take i).map Fw++(l.drop i).map fk)]⟩) (fun i=>i<=l.length) (fun i=>l.length-i) 0 (Nat.zero_le _) (Sv.aK [0,1,2]) ?_
  intro i (hi:i<=l.length)
  conv=>arg 2;whnf
  apply an<;>intro h
  ·obtain⟨x,hx⟩:∃x,l[i]?=some x:=⟨_,List.getElem?_eq_getElem (by simpa using h)⟩
   have h9:=(List.getElem?_eq_some_iff.1 hx).1
   repeat' (conv=>arg 2;whnf);first|refine aY ?_|refine aT (by simp only[List.length_set,BH];omega) ?_|refine Dv hx rfl ?_|refine aaW rfl rfl (by rw[BH];exact h9) ?_|refine okF (Qj x.cM (hl.2 x (List.mem_of_getElem? hx)).2.2.2.2.1.1) ?_|refine okF (Da x.batch (hl.2 x (List.mem_of_getElem? hx)).2.2.2.2.2) ?_|refine bZ (by(try dsimp only);omega) ?_|refine aZ (i+1) (Sv.mk' [0,1,2] rfl ⟨⟨rfl,rfl⟩,⟨rfl,rfl⟩,⟨rfl,congrArg (AO.row 190 7) (aaV hx)⟩,trivial⟩ ⟨rfl,rfl,rfl,rfl,trivial⟩) (by show i+1<=l.length;omega) (by show l.length-(i+1)<l.length-i;omega)
  ·rw[zS hi (by simpa using h)]
   repeat' (conv=>arg 2;whnf);first|refine bq ?_|refine mE [2,1002] (.inr rfl) rfl (.refl _) rfl
def wv (s:aD):List D:=[.int .i64 s.kind,.int .i64 s.src,.int .i64 s.view,.int .i64 s.seq,.int .i64 s.ah,.int .i64 s.bD,.int .i64 s.time,.int .i64 s.result.err,.int .i64 s.result.offset,.own 9 (s.batch.map yu),.int .i64 s.cert.seq,.int .i64 s.cert.ah,.own 2 (s.cert.cM.map bL),.own 8 (s.changes.map nh),.own 5 (s.entries.map DF),.own 1 (s.state.map af),.str s.av,.int .i64 s.offset,.str s.proof.av,.int .i64 s.proof.offset,.own 1 (s.proof.record.map af),.own 5 (s.proof.headers.map eO),.int .i64 s.proof.index,.int .i64 s.proof.count,.own 1 (s.proof.path.map eD),.int .i64 s.proof.cert.seq,.int .i64 s.proof.cert.ah,.own 2 (s.proof.cert.cM.map bL),.int .i64 s.sign.key,.int .i64 s.sign.ah]
def tK (s:aD) (c e:D):List D:=[.int .i64 s.kind,.int .i64 s.src,.int .i64 s.view,.int .i64 s.seq,.int .i64 s.ah,.int .i64 s.bD,.int .i64 s.time,.int .i64 s.result.err,.int .i64 s.result.offset,.own 9 (s.batch.map yu),.int .i64 s.cert.seq,.int .i64 s.cert.ah,.own 2 (s.cert.cM.map bL),c,e,.own 1 (s.state.map af),.str s.av,.int .i64 s.offset,.str s.proof.av,.int .i64 s.proof.offset,.list 1 (s.proof.record.map af),.list 5 (s.proof.headers.map eO),.int .i64 s.proof.index,.int .i64 s.proof.count,.list 1 (s.proof.path.map eD),.int .i64 s.proof.cert.seq,.int .i64 s.proof.cert.ah,.list 2 (s.proof.cert.cM.map bL),.int .i64 s.sign.key,.int .i64 s.sign.ah]
def tq:List D:=[.int .i64 0,.int .i64 0,.int .i64 0,.int .i64 0,.int .i64 0,.int .i64 0,.int .i64 0,.int .i64 0,.int .i64 0,.nils,.int .i64 0,.int .i64 0,.nils,.nils,.nils,.nils,.str [],.int .i64 0,.str [],.int .i64 0,.nils,.nils,.int .i64 0,.int .i64 0,.nils,.int .i64 0,.int .i64 0,.nils,.int .i64 0,.int .i64 0]
theorem ZQ [Wd] (s:aD) (hs:bh.ok s):aq prog 178 [.agg (aC s)] (.agg (wv s)):=by
 have hb:(dL fX).ok s.batch:=hs.2.2.2.2.2.2.2.2.1
 have Nn:je.ok s.cert:=hs.2.2.2.2.2.2.2.2.2.1
 have Hl:(dL fP).ok s.changes:=hs.2.2.2.2.2.2.2.2.2.2.1
 have Ed:(dL jx).ok s.entries:=hs.2.2.2.2.2.2.2.2.2.2.2.1
 have vu:s.state.length<=4194304:=hs.2.2.2.2.2.2.2.2.2.2.2.2.1
 have pg:jY.ok s.proof:=hs.2.2.2.2.2.2.2.2.2.2.2.2.2.2.2.1
 clear hs
 have HC:s.changes.length<=4194304:=Hl.1
 have HE:s.entries.length<=4194304:=Ed.1
 refine iV 86 [(1,⟨PT.of [(0,false),(1,false),(3,false),(4,false),(6,false),(7,false),(2,true),(9,false),(5,true),(8,true),(10,true),(11,false),(12,true),(13,false),(14,true)],[0,1,2,3,1010,1012,1014]⟩),(2,⟨PT.of [(0,false),(1,false),(3,false),(4,false),(2,true),(6,false),(5,true),(7,true),(8,false),(9,true)],[0,1,2,3,1007,1009]⟩),(6,⟨PT.of [(0,false),(1,false),(2,false),(3,false),(4,false),(5,false),(6,false),(7,false),(8,true),(9,false),(10,true)],[0,1,2,3,1010]⟩),(11,⟨PT.of [(0,false),(1,false),(2,false),(3,false),(4,false),(5,false),(6,false),(7,false),(8,false),(9,true),(10,false),(11,false),(12,true)],[0,1,2,3,1012]⟩),(13,⟨PT.of [(0,false),(1,false),(2,false),(4,false),(5,false),(6,false),(8,false),(9,false),(10,false),(3,true),(12,false),(13,false),(7,true),(11,true),(14,true),(15,false),(16,false),(17,true),(18,false),(19,false),(20,true)],[0,1,2,3,1014,1017,1020]⟩)] func178 ?_
 repeat' (conv=>arg 2;whnf);first|refine aY ?_|refine okF (Da s.batch hb) ?_|refine okF (wL s.cert Nn) ?_|refine okF (vM s.state vu) ?_|refine pH [] (Ob s.changes Hl.1) (.mk' rfl trivial) (aa.refl _) rfl (fun r kD hp=>?_)
 rcases hp with⟨Cz,rfl,rfl⟩|⟨rfl,rfl⟩
 ·skip
  repeat' (conv=>arg 2;whnf);first|refine pH [] (Jd s.entries Ed.1) (.mk' rfl trivial) (aa.refl _) rfl (fun r kD hp=>?_)
  rcases hp with⟨Hx,rfl,rfl⟩|⟨rfl,rfl⟩
  ·repeat'
    (conv=>arg 2;whnf)
    first|refine aY ?_|refine aV ?_ ?_
   conv=>arg 2;whnf
   refine bE (α:=Unit) (fun a=>⟨[(28,.int .i64 0),(27,.int .i64 0),(2,.ptr 1 0),(1,.ptr 0 0)],[.cells 59 (tK s (.nils) (.nils)),.cells 59 tq]⟩) (fun a=>True) (fun a=>0) () trivial (Sv.aK [0,1]) ?_
   rintro a-
   ·skip
    repeat' (conv=>arg 2;whnf);first|refine bq ?_
    conv=>arg 2;whnf
    refine bE (α:=Unit) (fun a=>⟨[(45,.int .i64 0),(44,.int .i64 0),(2,.ptr 1 0),(1,.ptr 0 0)],[.cells 59 (tK s (.nils) (.nils)),.cells 59 tq]⟩) (fun a=>True) (fun a=>0) () trivial (Sv.aK [0,1]) ?_
    rintro a-
    ·skip
     repeat' (conv=>arg 2;whnf);first|refine aY ?_|refine okF (vM s.proof.record pg.2.2.1) ?_|refine okF (Bf s.proof.headers pg.2.2.2.1.1) ?_|refine okF (Bg s.proof.path pg.2.2.2.2.2.2.1.1) ?_|refine okF (wL s.proof.cert pg.2.2.2.2.2.2.2) ?_|refine mE [] (.inr rfl) rfl (aa.eU (by unfold wv;rw[List.map_eq_nil_iff.1 Hx];rw[List.map_eq_nil_iff.1 Cz];repeat' first|exact aa.nil|refine aa.cons (.refl _) ?_|refine aa.cons (.rO _) ?_)) rfl
  ·repeat'
    (conv=>arg 2;whnf)
    first|refine aY ?_|refine aV ?_ ?_
   conv=>arg 2;whnf
   refine bE (α:=Unit) (fun a=>⟨[(28,.int .i64 0),(27,.int .i64 0),(2,.ptr 1 0),(1,.ptr 0 0)],[.cells 59 (tK s (.nils) (.row 2)),.cells 59 tq,.row 159 5 (s.entries.map dV)]⟩) (fun a=>True) (fun a=>0) () trivial (Sv.aK [0,1,2]) ?_
   rintro a-
   ·skip
    repeat' (conv=>arg 2;whnf);first|refine bq ?_
    conv=>arg 2;whnf
    refine bE (α:=Nat) (fun i=>⟨[(45,.int .i64 i),(44,.int .i64 (s.entries.map dV).length),(2,.ptr 1 0),(1,.ptr 0 0)],[.cells 59 (tK s (.nils) (.row 2)),.cells 59 tq,.row 159 5 ((s.entries.take i).map DF++(s.entries.drop i).map dV)]⟩) (fun i=>i<=s.entries.length) (fun i=>s.entries.length-i) 0 (Nat.zero_le _) (Sv.aK [0,1,2]) ?_
    intro i (hi:i<=s.entries.length)
    conv=>arg 2;whnf
    apply an<;>intro h
    ·obtain⟨x,hx⟩:∃x,s.entries[i]?=some x:=⟨_,List.getElem?_eq_getElem (by simpa using h)⟩
     have h9:=(List.getElem?_eq_some_iff.1 hx).1
     repeat' (conv=>arg 2;whnf);first|refine aY ?_|refine aT (by simp only[BH];omega) ?_|refine Dv hx rfl ?_|refine okF (Da x.batch (Ed.2 x (List.mem_of_getElem? hx)).2.2.1) ?_|refine bZ (by(try dsimp only);omega) ?_|refine aZ (i+1) (Sv.mk' [0,1,2] rfl ⟨⟨rfl,rfl⟩,⟨rfl,rfl⟩,⟨rfl,congrArg (AO.row 159 5) (Du hx)⟩,trivial⟩ ⟨rfl,rfl,rfl,rfl,trivial⟩) (by show i+1<=s.entries.length;omega) (by show s.entries.length-(i+1)<s.entries.length-i;omega)
    ·rw[zS hi (by simpa using h)]
     repeat' (conv=>arg 2;whnf);first|refine aY ?_|refine okF (vM s.proof.record pg.2.2.1) ?_|refine okF (Bf s.proof.headers pg.2.2.2.1.1) ?_|refine okF (Bg s.proof.path pg.2.2.2.2.2.2.1.1) ?_|refine okF (wL s.proof.cert pg.2.2.2.2.2.2.2) ?_|refine mE [2,1002] (.inr rfl) rfl (aa.eU (by unfold wv;rw[List.map_eq_nil_iff.1 Cz];repeat' first|exact aa.nil|refine aa.cons (.refl _) ?_|refine aa.cons (.rO _) ?_)) rfl
 ·skip
  repeat' (conv=>arg 2;whnf);first|refine pH [] (Jd s.entries Ed.1) (.mk' rfl trivial) (aa.refl _) rfl (fun r kD hp=>?_)
  rcases hp with⟨Hx,rfl,rfl⟩|⟨rfl,rfl⟩
  ·repeat'
    (conv=>arg 2;whnf)
    first|refine aY ?_|refine aV ?_ ?_
   conv=>arg 2;whnf
   refine bE (α:=Nat) (fun i=>⟨[(28,.int .i64 i),(27,.int .i64 (s.changes.map bU).length),(2,.ptr 1 0),(1,.ptr 0 0)],[.cells 59 (tK s (.row 2) (.nils)),.cells 59 tq,.row 145 8 ((s.changes.take i).map nh++(s.changes.drop i).map bU)]⟩) (fun i=>i<=s.changes.length) (fun i=>s.changes.length-i) 0 (Nat.zero_le _) (Sv.aK [0,1,2]) ?_
   intro i (hi:i<=s.changes.length)
   conv=>arg 2;whnf
   apply an<;>intro h
   ·obtain⟨x,hx⟩:∃x,s.changes[i]?=some x:=⟨_,List.getElem?_eq_getElem (by simpa using h)⟩
    have h9:=(List.getElem?_eq_some_iff.1 hx).1
    repeat' (conv=>arg 2;whnf);first|refine aY ?_|refine aT (by simp only[BH];omega) ?_|refine Dv hx rfl ?_|refine okF (EU x (Hl.2 x (List.mem_of_getElem? hx))) ?_|refine bZ (by(try dsimp only);omega) ?_|refine aZ (i+1) (Sv.mk' [0,1,2] rfl ⟨⟨rfl,rfl⟩,⟨rfl,rfl⟩,⟨rfl,congrArg (AO.row 145 8) (Du hx)⟩,trivial⟩ ⟨rfl,rfl,rfl,rfl,trivial⟩) (by show i+1<=s.changes.length;omega) (by show s.changes.length-(i+1)<s.changes.length-i;omega)
   ·rw[zS hi (by simpa using h)]
    repeat' (conv=>arg 2;whnf);first|refine bq ?_
    conv=>arg 2;whnf
    refine bE (α:=Unit) (fun a=>⟨[(45,.int .i64 0),(44,.int .i64 0),(2,.ptr 1 0),(1,.ptr 0 0)],[.cells 59 (tK s (.row 2) (.nils)),.cells 59 tq,.row 145 8 (s.changes.map nh)]⟩) (fun a=>True) (fun a=>0) () trivial (Sv.aK [0,1,2]) ?_
    rintro a-
    ·skip
     repeat' (conv=>arg 2;whnf);first|refine aY ?_|refine okF (vM s.proof.record pg.2.2.1) ?_|refine okF (Bf s.proof.headers pg.2.2.2.1.1) ?_|refine okF (Bg s.proof.path pg.2.2.2.2.2.2.1.1) ?_|refine okF (wL s.proof.cert pg.2.2.2.2.2.2.2) ?_|refine mE [2,1002] (.inr rfl) rfl (aa.eU (by unfold wv;rw[List.map_eq_nil_iff.1 Hx];repeat' first|exact aa.nil|refine aa.cons (.refl _) ?_|refine aa.cons (.rO _) ?_)) rfl
  ·repeat'
    (conv=>arg 2;whnf)
    first|refine aY ?_|refine aV ?_ ?_
   conv=>arg 2;whnf
   refine bE (α:=Nat) (fun i=>⟨[(28,.int .i64 i),(27,.int .i64 (s.changes.map bU).length),(2,.ptr 1 0),(1,.ptr 0 0)],[.cells 59 (tK s (.row 2) (.row 3)),.cells 59 tq,.row 145 8 ((s.changes.take i).map nh++(s.changes.drop i).map bU),.row 159 5 (s.entries.map dV)]⟩) (fun i=>i<=s.changes.length) (fun i=>s.changes.length-i) 0 (Nat.zero_le _) (Sv.aK [0,1,2,3]) ?_
   intro i (hi:i<=s.changes.length)
   conv=>arg 2;whnf
   apply an<;>intro h
   ·obtain⟨x,hx⟩:∃x,s.changes[i]?=some x:=⟨_,List.getElem?_eq_getElem (by simpa using h)⟩
    have h9:=(List.getElem?_eq_some_iff.1 hx).1
    repeat' (conv=>arg 2;whnf);first|refine aY ?_|refine aT (by simp only[BH];omega) ?_|refine Dv hx rfl ?_|refine okF (EU x (Hl.2 x (List.mem_of_getElem? hx))) ?_|refine bZ (by(try dsimp only);omega) ?_|refine aZ (i+1) (Sv.mk' [0,1,2,3] rfl ⟨⟨rfl,rfl⟩,⟨rfl,rfl⟩,⟨rfl,congrArg (AO.row 145 8) (Du hx)⟩,⟨rfl,rfl⟩,trivial⟩ ⟨rfl,rfl,rfl,rfl,trivial⟩) (by show i+1<=s.changes.length;omega) (by show s.changes.length-(i+1)<s.changes.length-i;omega)
   ·rw[zS hi (by simpa using h)]
    repeat' (conv=>arg 2;whnf);first|refine bq ?_
    conv=>arg 2;whnf
    refine bE (α:=Nat) (fun i=>⟨[(45,.int .i64 i),(44,.int .i64 (s.entries.map dV).length),(2,.ptr 1 0),(1,.ptr 0 0)],[.cells 59 (tK s (.row 2) (.row 3)),.cells 59 tq,.row 145 8 (s.changes.map nh),.row 159 5 ((s.entries.take i).map DF++(s.entries.drop i).map dV)]⟩) (fun i=>i<=s.entries.length) (fun i=>s.entries.length-i) 0 (Nat.zero_le _) (Sv.aK [0,1,2,3]) ?_
    intro i (hi:i<=s.entries.length)
    conv=>arg 2;whnf
    apply an<;>intro h
    ·obtain⟨x,hx⟩:∃x,s.entries[i]?=some x:=⟨_,List.getElem?_eq_getElem (by simpa using h)⟩
     have h9:=(List.getElem?_eq_some_iff.1 hx).1
     repeat' (conv=>arg 2;whnf);first|refine aY ?_|refine aT (by simp only[BH];omega) ?_|refine Dv hx rfl ?_|refine okF (Da x.batch (Ed.2 x (List.mem_of_getElem? hx)).2.2.1) ?_|refine bZ (by(try dsimp only);omega) ?_|refine aZ (i+1) (Sv.mk' [0,1,2,3] rfl ⟨⟨rfl,rfl⟩,⟨rfl,rfl⟩,⟨rfl,rfl⟩,⟨rfl,congrArg (AO.row 159 5) (Du hx)⟩,trivial⟩ ⟨rfl,rfl,rfl,rfl,trivial⟩) (by show i+1<=s.entries.length;omega) (by show s.entries.length-(i+1)<s.entries.length-i;omega)
    ·rw[zS hi (by simpa using h)]
     repeat' (conv=>arg 2;whnf);first|refine aY ?_|refine okF (vM s.proof.record pg.2.2.1) ?_|refine okF (Bf s.proof.headers pg.2.2.2.1.1) ?_|refine okF (Bg s.proof.path pg.2.2.2.2.2.2.1.1) ?_|refine okF (wL s.proof.cert pg.2.2.2.2.2.2.2) ?_|refine mE [2,1002,3,1003] (.inr rfl) rfl (.refl _) rfl
end
theorem FC [Wd]:gz 224 (.agg [.ptr 0 0]) [] (fun s=>.list 9 ((jZ s).1.map bI)) (fun s=>(jZ s).2):=by
 intro s hs
 refine ak 6 [] func224 ?_
 repeat' (conv=>arg 2;whnf);first|refine cE 0 s (jZ s).2 (.list 9 ((jZ s).1.map bI)) Vq hs rfl rfl ?_|refine mQ (d:=.list 9 ((jZ s).1.map bI)) (.inr rfl) rfl ⟨⟨rfl,rfl⟩,trivial⟩ rfl (.refl _) rfl rfl
theorem YF [Wd]:gz 315 (.agg [.ptr 0 0]) [] (fun s=>.list 2 ((uC s).1.map bL)) (fun s=>(uC s).2):=by
 intro s hs
 refine ak 5 [] func315 ?_
 repeat' (conv=>arg 2;whnf);first|refine cE 0 s (uC s).2 (.list 2 ((uC s).1.map bL)) (NK 13 (by decide) (by decide)) hs rfl rfl ?_|refine mQ (d:=.list 2 ((uC s).1.map bL)) (.inr rfl) rfl ⟨⟨rfl,rfl⟩,trivial⟩ rfl (.refl _) rfl rfl
theorem Qh [Wd]:gz 286 (.agg [.ptr 0 0]) [] (fun s=>.int .i64 ((bF 0) s).1) (fun s=>((bF 0) s).2):=by
 intro s hs
 refine ak 5 [] func286 ?_
 repeat' (conv=>arg 2;whnf);first|refine cE 0 s ((bF 0) s).2 (.int .i64 ((bF 0) s).1) (wP 0) hs rfl rfl ?_|refine mQ (d:=.int .i64 ((bF 0) s).1) (.inr rfl) rfl ⟨⟨rfl,rfl⟩,trivial⟩ rfl (.refl _) rfl rfl
theorem NF [Wd]:gz 280 (.agg [.ptr 0 0]) [] (fun s=>.agg (fk (jB s).1)) (fun s=>(jB s).2):=by
 rintro⟨b,e⟩ hs
 replace hs:b.length<=8388609:=hs
 obtain⟨v,b0,e0,q0,l0⟩:=Rd1.get (bV 0) (b,e)
 replace l0:b0.length<=b.length:=l0
 have h0:b0.length<=8388609:=by omega
 obtain⟨n,b1,e1,q1,l1⟩:=Rd1.get (bV 1) (b0,e0)
 replace l1:b1.length<=b0.length:=l1
 have h1:b1.length<=8388609:=by omega
 obtain⟨d,b2,e2,q2,l2⟩:=Rd1.get (bV 1) (b1,e1)
 replace l2:b2.length<=b1.length:=l2
 have h2:b2.length<=8388609:=by omega
 obtain⟨f,b3,e3,q3,l3⟩:=Rd1.get eM (b2,e2)
 replace l3:b3.length<=b2.length:=l3
 have h3:b3.length<=8388609:=by omega
 obtain⟨g,b4,e4,q4,l4⟩:=Rd1.get Bm (b3,e3)
 replace l4:b4.length<=b3.length:=l4
 have h4:b4.length<=8388609:=by omega
 obtain⟨t,b5,e5,q5,l5⟩:=Rd1.get oD (b4,e4)
 replace l5:b5.length<=b4.length:=l5
 have h5:b5.length<=8388609:=by omega
 have eR:jB (b,e)=(⟨v,n,d,f,g,t⟩,(b5,e5)):=by unfold jB bN bg cN;simp only[q0,q1,q2,q3,q4,q5]
 refine ak 23 [] func280 ?_
 repeat' (conv=>arg 2;whnf);first|refine aX 0 (fun x=>D.int .i64 x) q0 (mK 0) hs ?_|refine aX 0 (fun x=>D.int .i64 x) q1 (mK 1) h0 ?_|refine aX 0 (fun x=>D.int .i64 x) q2 (wP 1) h1 ?_|refine aX 0 (fun x=>D.agg (bL x)) q3 sy h2 ?_|refine aX 0 (fun x=>D.list 2 (List.map bL x)) q4 YF h3 ?_|refine aX 0 (fun x=>D.list 9 (List.map bI x)) q5 FC h4 ?_|refine cU (k:=fun x=>D.agg (fk x)) rfl eR (.refl _)
theorem UC [Wd] (most:Int) (uf:0<=most) (hm:most<=4096):gz 279 (.agg [.ptr 0 0]) [.int .i64 most,.fn 280 0 []] (fun s=>.list 7 ((cY jB most s).1.map fk)) (fun s=>(cY jB most s).2):=by
 intro s0 hs
 obtain⟨N,b0,e0,en,rW,hN,uV⟩:=zl most uf s0
 have eL:cY jB most s0=aP jB N.toNat (b0,e0):=by unfold cY;rw[en]
 refine ak 29 [] func279 ?_
 repeat' (conv=>arg 2;whnf);first|refine aX 0 (fun x=>D.int .i64 x) en (zE most) hs ?_
 conv=>arg 2;whnf
 refine bE (α:=Int×RS×List jt) (fun a=>match a.2.2 with
  |[]=>⟨[(8,.int .i64 a.1),(7,.nils),(3,.ptr 1 0),(2,.fn 280 0 [])],[.cells 235 [.list 1 (a.2.1.1.map af),.int .i64 a.2.1.2,.bool true],.cells 239 [.ptr 0 0]]⟩
  |x::l=>⟨[(8,.int .i64 a.1),(7,.row 2),(3,.ptr 1 0),(2,.fn 280 0 [])],[.cells 235 [.list 1 (a.2.1.1.map af),.int .i64 a.2.1.2,.bool true],.cells 239 [.ptr 0 0],.row 190 7 ((x::l).map fk)]⟩) (fun a=>0<=a.1/\a.1<=4096/\a.2.1.1.length<=8388609/\a.2.2.length+a.1.toNat<=4096/\aP jB N.toNat (b0,e0)=(a.2.2++(aP jB a.1.toNat a.2.1).1,(aP jB a.1.toNat a.2.1).2)) (fun a=>a.1.toNat) (N,(b0,e0),[]) ⟨rW,by omega,by show b0.length<=_;omega,by simp;omega,rfl⟩ (Sv.aK [0,1]) ?_
 rintro⟨n,⟨b,e⟩,out⟩ ⟨h0,h1,hl,ho,hg⟩
 replace h0:0<=n:=h0
 replace h1:n<=4096:=h1
 replace hl:b.length<=8388609:=hl
 replace ho:out.length+n.toNat<=4096:=ho
 replace hg:aP jB N.toNat (b0,e0)=(out++(aP jB n.toNat (b,e)).1,(aP jB n.toNat (b,e)).2):=hg
 obtain⟨x,b2,e2,ep⟩:∃(x:jt) (b2:List UInt8) (e2:Int),jB (b,e)=(x,(b2,e2)):=⟨_,_,_,rfl⟩
 have oo:b2.length<=8388609:=by
  have h:=uv.len (b,e)
  rw[ep] at h
  exact Nat.le_trans h hl
 have iq:(n<=0\/¬e=0)->cY jB most s0=(out,(b,e)):=fun h=>by
  rw[eL,hg]
  rcases h with h|h
  ·rw[show n.toNat=0 by omega];simp[aP]
  ·rw[vJ _ _ _ h];simp
 have lG:0<n->e=0->aP jB N.toNat (b0,e0)=((out++[x])++(aP jB (n-1).toNat (b2,e2)).1,(aP jB (n-1).toNat (b2,e2)).2):=fun hn h=>by
  rw[hg,Bu _ hn h,ep]
  simp
 cases out with
 |nil=>
  conv=>arg 2;whnf
  refine an (fun hn=>?_) (fun hn=>?_)
  ·replace hn:0<n:=by simpa using hn
   repeat' (conv=>arg 2;whnf);first|refine cE 0 (b,e) (b,e) (.int .i64 e) fY hl rfl rfl ?_|apply an<;>intro h|refine aX 0 (fun x=>D.agg (fk x)) ep NF hl ?_|refine aT (by constructor<;>(simp only[List.length_cons,List.length_nil];decide)) ?_|refine bw (cj (by show _<=n-1;omega) (by show n-1<=_;omega)) ?_|refine aZ (n-1,(b2,e2),[x]) (Sv.aK [0,1,4]) ⟨by show 0<=n-1;omega,by show n-1<=4096;omega,oo,by show([x]).length+(n-1).toNat<=4096;simp at ho ⊢;omega,lG hn (by simpa using h)⟩ (by show(n-1).toNat<n.toNat;omega)|refine bq ?_|refine cU (k:=fun x=>D.list 7 (List.map fk x)) rfl (iq (.inr (by simpa using h))) (.nil _)
  ·replace hn:n<=0:=by simpa using hn
   repeat' (conv=>arg 2;whnf);first|refine bq ?_|refine cU (k:=fun x=>D.list 7 (List.map fk x)) rfl (iq (.inl hn)) (.nil _)
 |cons y out=>
  conv=>arg 2;whnf
  refine an (fun hn=>?_) (fun hn=>?_)
  ·replace hn:0<n:=by simpa using hn
   repeat' (conv=>arg 2;whnf);first|refine cE 0 (b,e) (b,e) (.int .i64 e) fY hl rfl rfl ?_|apply an<;>intro h|refine aX 0 (fun x=>D.agg (fk x)) ep NF hl ?_|refine aT (by constructor<;>(simp only[List.length_cons,List.length_nil,List.length_map,maxLen] at ho ⊢;omega)) ?_|refine bw (cj (by show _<=n-1;omega) (by show n-1<=_;omega)) ?_|refine aZ (n-1,(b2,e2),(y::out)++[x]) (Sv.mk' [0,1,5] rfl ⟨⟨rfl,rfl⟩,⟨rfl,rfl⟩,⟨rfl,by simp;rfl⟩,trivial⟩ ⟨rfl,rfl,rfl,rfl,trivial⟩) ⟨by show 0<=n-1;omega,by show n-1<=4096;omega,oo,by show((y::out)++[x]).length+(n-1).toNat<=4096;simp at ho ⊢;omega,lG hn (by simpa using h)⟩ (by show(n-1).toNat<n.toNat;omega)|refine bq ?_|refine qD (k:=fun x=>D.list 7 (List.map fk x)) [2] rfl (iq (.inr (by simpa using h))) (.refl _)
  ·replace hn:n<=0:=by simpa using hn
   repeat' (conv=>arg 2;whnf);first|refine bq ?_|refine qD (k:=fun x=>D.list 7 (List.map fk x)) [2] rfl (iq (.inl hn)) (.refl _)
theorem IS [Wd]:gz 232 (.agg [.ptr 0 0]) [] (fun s=>.agg (bU (iE s).1)) (fun s=>(iE s).2):=by
 rintro⟨b,e⟩ hs
 replace hs:b.length<=8388609:=hs
 obtain⟨v,b0,e0,q0,l0⟩:=Rd1.get (bV 1) (b,e)
 replace l0:b0.length<=b.length:=l0
 have h0:b0.length<=8388609:=by omega
 obtain⟨r,b1,e1,q1,l1⟩:=Rd1.get (dD 12) (b0,e0)
 replace l1:b1.length<=b0.length:=l1
 have h1:b1.length<=8388609:=by omega
 obtain⟨c,b2,e2,q2,l2⟩:=Rd1.get uw (b1,e1)
 replace l2:b2.length<=b1.length:=l2
 have h2:b2.length<=8388609:=by omega
 obtain⟨a,b3,e3,q3,l3⟩:=Rd1.get (jL uv 8) (b2,e2)
 replace l3:b3.length<=b2.length:=l3
 have h3:b3.length<=8388609:=by omega
 obtain⟨g,b4,e4,q4,l4⟩:=Rd1.get eM (b3,e3)
 replace l4:b4.length<=b3.length:=l4
 have h4:b4.length<=8388609:=by omega
 have eR:iE (b,e)=(⟨v,r,c,a,g⟩,(b4,e4)):=by unfold iE bN bg cN;simp only[q0,q1,q2,q3,q4]
 refine ak 20 [] func232 ?_
 repeat' (conv=>arg 2;whnf);first|refine aX 0 (fun x=>D.int .i64 x) q0 (mK 1) hs ?_|refine aX 0 (fun x=>D.int .i64 x) q1 yg h0 ?_|refine aX 0 (fun x=>D.agg (mj x)) q2 Jw h1 ?_|refine aX 0 (fun x=>D.list 7 (List.map fk x)) q3 (UC 8 (by decide) (by decide)) h2 ?_|refine aX 0 (fun x=>D.agg (bL x)) q4 sy h3 ?_|refine cU (k:=fun x=>D.agg (bU x)) rfl eR (.refl _)
theorem U1 [Wd] (most:Int) (uf:0<=most) (hm:most<=4096):gz 233 (.agg [.ptr 0 0]) [.int .i64 most,.fn 232 0 []] (fun s=>.list 8 ((cY iE most s).1.map bU)) (fun s=>(cY iE most s).2):=by
 intro s0 hs
 obtain⟨N,b0,e0,en,rW,hN,uV⟩:=zl most uf s0
 have eL:cY iE most s0=aP iE N.toNat (b0,e0):=by unfold cY;rw[en]
 refine ak 29 [] func233 ?_
 repeat' (conv=>arg 2;whnf);first|refine aX 0 (fun x=>D.int .i64 x) en (zE most) hs ?_
 conv=>arg 2;whnf
 refine bE (α:=Int×RS×List cX) (fun a=>match a.2.2 with
  |[]=>⟨[(8,.int .i64 a.1),(7,.nils),(3,.ptr 1 0),(2,.fn 232 0 [])],[.cells 235 [.list 1 (a.2.1.1.map af),.int .i64 a.2.1.2,.bool true],.cells 239 [.ptr 0 0]]⟩
  |x::l=>⟨[(8,.int .i64 a.1),(7,.row 2),(3,.ptr 1 0),(2,.fn 232 0 [])],[.cells 235 [.list 1 (a.2.1.1.map af),.int .i64 a.2.1.2,.bool true],.cells 239 [.ptr 0 0],.row 145 8 ((x::l).map bU)]⟩) (fun a=>0<=a.1/\a.1<=4096/\a.2.1.1.length<=8388609/\a.2.2.length+a.1.toNat<=4096/\aP iE N.toNat (b0,e0)=(a.2.2++(aP iE a.1.toNat a.2.1).1,(aP iE a.1.toNat a.2.1).2)) (fun a=>a.1.toNat) (N,(b0,e0),[]) ⟨rW,by omega,by show b0.length<=_;omega,by simp;omega,rfl⟩ (Sv.aK [0,1]) ?_
 rintro⟨n,⟨b,e⟩,out⟩ ⟨h0,h1,hl,ho,hg⟩
 replace h0:0<=n:=h0
 replace h1:n<=4096:=h1
 replace hl:b.length<=8388609:=hl
 replace ho:out.length+n.toNat<=4096:=ho
 replace hg:aP iE N.toNat (b0,e0)=(out++(aP iE n.toNat (b,e)).1,(aP iE n.toNat (b,e)).2):=hg
 obtain⟨x,b2,e2,ep⟩:∃(x:cX) (b2:List UInt8) (e2:Int),iE (b,e)=(x,(b2,e2)):=⟨_,_,_,rfl⟩
 have oo:b2.length<=8388609:=by
  have h:=sI.len (b,e)
  rw[ep] at h
  exact Nat.le_trans h hl
 have iq:(n<=0\/¬e=0)->cY iE most s0=(out,(b,e)):=fun h=>by
  rw[eL,hg]
  rcases h with h|h
  ·rw[show n.toNat=0 by omega];simp[aP]
  ·rw[vJ _ _ _ h];simp
 have lG:0<n->e=0->aP iE N.toNat (b0,e0)=((out++[x])++(aP iE (n-1).toNat (b2,e2)).1,(aP iE (n-1).toNat (b2,e2)).2):=fun hn h=>by
  rw[hg,Bu _ hn h,ep]
  simp
 cases out with
 |nil=>
  conv=>arg 2;whnf
  refine an (fun hn=>?_) (fun hn=>?_)
  ·replace hn:0<n:=by simpa using hn
   repeat' (conv=>arg 2;whnf);first|refine cE 0 (b,e) (b,e) (.int .i64 e) fY hl rfl rfl ?_|apply an<;>intro h|refine aX 0 (fun x=>D.agg (bU x)) ep IS hl ?_|refine aT (by constructor<;>(simp only[List.length_cons,List.length_nil];decide)) ?_|refine bw (cj (by show _<=n-1;omega) (by show n-1<=_;omega)) ?_|refine aZ (n-1,(b2,e2),[x]) (Sv.aK [0,1,4]) ⟨by show 0<=n-1;omega,by show n-1<=4096;omega,oo,by show([x]).length+(n-1).toNat<=4096;simp at ho ⊢;omega,lG hn (by simpa using h)⟩ (by show(n-1).toNat<n.toNat;omega)|refine bq ?_|refine cU (k:=fun x=>D.list 8 (List.map bU x)) rfl (iq (.inr (by simpa using h))) (.nil _)
  ·replace hn:n<=0:=by simpa using hn
   repeat' (conv=>arg 2;whnf);first|refine bq ?_|refine cU (k:=fun x=>D.list 8 (List.map bU x)) rfl (iq (.inl hn)) (.nil _)
 |cons y out=>
  conv=>arg 2;whnf
  refine an (fun hn=>?_) (fun hn=>?_)
  ·replace hn:0<n:=by simpa using hn
   repeat' (conv=>arg 2;whnf);first|refine cE 0 (b,e) (b,e) (.int .i64 e) fY hl rfl rfl ?_|apply an<;>intro h|refine aX 0 (fun x=>D.agg (bU x)) ep IS hl ?_|refine aT (by constructor<;>(simp only[List.length_cons,List.length_nil,List.length_map,maxLen] at ho ⊢;omega)) ?_|refine bw (cj (by show _<=n-1;omega) (by show n-1<=_;omega)) ?_|refine aZ (n-1,(b2,e2),(y::out)++[x]) (Sv.mk' [0,1,5] rfl ⟨⟨rfl,rfl⟩,⟨rfl,rfl⟩,⟨rfl,by simp;rfl⟩,trivial⟩ ⟨rfl,rfl,rfl,rfl,trivial⟩) ⟨by show 0<=n-1;omega,by show n-1<=4096;omega,oo,by show((y::out)++[x]).length+(n-1).toNat<=4096;simp at ho ⊢;omega,lG hn (by simpa using h)⟩ (by show(n-1).toNat<n.toNat;omega)|refine bq ?_|refine qD (k:=fun x=>D.list 8 (List.map bU x)) [2] rfl (iq (.inr (by simpa using h))) (.refl _)
  ·replace hn:n<=0:=by simpa using hn
   repeat' (conv=>arg 2;whnf);first|refine bq ?_|refine qD (k:=fun x=>D.list 8 (List.map bU x)) [2] rfl (iq (.inl hn)) (.refl _)
theorem O7 [Wd]:gz 235 (.agg [.ptr 0 0]) [] (fun s=>.agg (dV (iC s).1)) (fun s=>(iC s).2):=by
 rintro⟨b,e⟩ hs
 replace hs:b.length<=8388609:=hs
 obtain⟨v,b0,e0,q0,l0⟩:=Rd1.get (bV 0) (b,e)
 replace l0:b0.length<=b.length:=l0
 have h0:b0.length<=8388609:=by omega
 obtain⟨n,b1,e1,q1,l1⟩:=Rd1.get (bV 1) (b0,e0)
 replace l1:b1.length<=b0.length:=l1
 have h1:b1.length<=8388609:=by omega
 obtain⟨t,b2,e2,q2,l2⟩:=Rd1.get oD (b1,e1)
 replace l2:b2.length<=b1.length:=l2
 have h2:b2.length<=8388609:=by omega
 obtain⟨g,b3,e3,q3,l3⟩:=Rd1.get eM (b2,e2)
 replace l3:b3.length<=b2.length:=l3
 have h3:b3.length<=8388609:=by omega
 have eR:iC (b,e)=(⟨v,n,t,g⟩,(b3,e3)):=by unfold iC bN bg cN;simp only[q0,q1,q2,q3]
 refine ak 17 [] func235 ?_
 repeat' (conv=>arg 2;whnf);first|refine aX 0 (fun x=>D.int .i64 x) q0 (mK 0) hs ?_|refine aX 0 (fun x=>D.int .i64 x) q1 (mK 1) h0 ?_|refine aX 0 (fun x=>D.list 9 (List.map bI x)) q2 FC h1 ?_|refine aX 0 (fun x=>D.agg (bL x)) q3 sy h2 ?_|refine cU (k:=fun x=>D.agg (dV x)) rfl eR (.refl _)
theorem Vs [Wd] (most:Int) (uf:0<=most) (hm:most<=4096):gz 234 (.agg [.ptr 0 0]) [.int .i64 most,.fn 235 0 []] (fun s=>.list 5 ((cY iC most s).1.map dV)) (fun s=>(cY iC most s).2):=by
 intro s0 hs
 obtain⟨N,b0,e0,en,rW,hN,uV⟩:=zl most uf s0
 have eL:cY iC most s0=aP iC N.toNat (b0,e0):=by unfold cY;rw[en]
 refine ak 29 [] func234 ?_
 repeat' (conv=>arg 2;whnf);first|refine aX 0 (fun x=>D.int .i64 x) en (zE most) hs ?_
 conv=>arg 2;whnf
 refine bE (α:=Int×RS×List gq) (fun a=>match a.2.2 with
  |[]=>⟨[(8,.int .i64 a.1),(7,.nils),(3,.ptr 1 0),(2,.fn 235 0 [])],[.cells 235 [.list 1 (a.2.1.1.map af),.int .i64 a.2.1.2,.bool true],.cells 239 [.ptr 0 0]]⟩
  |x::l=>⟨[(8,.int .i64 a.1),(7,.row 2),(3,.ptr 1 0),(2,.fn 235 0 [])],[.cells 235 [.list 1 (a.2.1.1.map af),.int .i64 a.2.1.2,.bool true],.cells 239 [.ptr 0 0],.row 159 5 ((x::l).map dV)]⟩) (fun a=>0<=a.1/\a.1<=4096/\a.2.1.1.length<=8388609/\a.2.2.length+a.1.toNat<=4096/\aP iC N.toNat (b0,e0)=(a.2.2++(aP iC a.1.toNat a.2.1).1,(aP iC a.1.toNat a.2.1).2)) (fun a=>a.1.toNat) (N,(b0,e0),[]) ⟨rW,by omega,by show b0.length<=_;omega,by simp;omega,rfl⟩ (Sv.aK [0,1]) ?_
 rintro⟨n,⟨b,e⟩,out⟩ ⟨h0,h1,hl,ho,hg⟩
 replace h0:0<=n:=h0
 replace h1:n<=4096:=h1
 replace hl:b.length<=8388609:=hl
 replace ho:out.length+n.toNat<=4096:=ho
 replace hg:aP iC N.toNat (b0,e0)=(out++(aP iC n.toNat (b,e)).1,(aP iC n.toNat (b,e)).2):=hg
 obtain⟨x,b2,e2,ep⟩:∃(x:gq) (b2:List UInt8) (e2:Int),iC (b,e)=(x,(b2,e2)):=⟨_,_,_,rfl⟩
 have oo:b2.length<=8388609:=by
  have h:=pE.len (b,e)
  rw[ep] at h
  exact Nat.le_trans h hl
 have iq:(n<=0\/¬e=0)->cY iC most s0=(out,(b,e)):=fun h=>by
  rw[eL,hg]
  rcases h with h|h
  ·rw[show n.toNat=0 by omega];simp[aP]
  ·rw[vJ _ _ _ h];simp
 have lG:0<n->e=0->aP iC N.toNat (b0,e0)=((out++[x])++(aP iC (n-1).toNat (b2,e2)).1,(aP iC (n-1).toNat (b2,e2)).2):=fun hn h=>by
  rw[hg,Bu _ hn h,ep]
  simp
 cases out with
 |nil=>
  conv=>arg 2;whnf
  refine an (fun hn=>?_) (fun hn=>?_)
  ·replace hn:0<n:=by simpa using hn
   repeat' (conv=>arg 2;whnf);first|refine cE 0 (b,e) (b,e) (.int .i64 e) fY hl rfl rfl ?_|apply an<;>intro h|refine aX 0 (fun x=>D.agg (dV x)) ep O7 hl ?_|refine aT (by constructor<;>(simp only[List.length_cons,List.length_nil];decide)) ?_|refine bw (cj (by show _<=n-1;omega) (by show n-1<=_;omega)) ?_|refine aZ (n-1,(b2,e2),[x]) (Sv.aK [0,1,4]) ⟨by show 0<=n-1;omega,by show n-1<=4096;omega,oo,by show([x]).length+(n-1).toNat<=4096;simp at ho ⊢;omega,lG hn (by simpa using h)⟩ (by show(n-1).toNat<n.toNat;omega)|refine bq ?_|refine cU (k:=fun x=>D.list 5 (List.map dV x)) rfl (iq (.inr (by simpa using h))) (.nil _)
  ·replace hn:n<=0:=by simpa using hn
   repeat' (conv=>arg 2;whnf);first|refine bq ?_|refine cU (k:=fun x=>D.list 5 (List.map dV x)) rfl (iq (.inl hn)) (.nil _)
 |cons y out=>
  conv=>arg 2;whnf
  refine an (fun hn=>?_) (fun hn=>?_)
  ·replace hn:0<n:=by simpa using hn
   repeat' (conv=>arg 2;whnf);first|refine cE 0 (b,e) (b,e) (.int .i64 e) fY hl rfl rfl ?_|apply an<;>intro h|refine aX 0 (fun x=>D.agg (dV x)) ep O7 hl ?_|refine aT (by constructor<;>(simp only[List.length_cons,List.length_nil,List.length_map,maxLen] at ho ⊢;omega)) ?_|refine bw (cj (by show _<=n-1;omega) (by show n-1<=_;omega)) ?_|refine aZ (n-1,(b2,e2),(y::out)++[x]) (Sv.mk' [0,1,5] rfl ⟨⟨rfl,rfl⟩,⟨rfl,rfl⟩,⟨rfl,by simp;rfl⟩,trivial⟩ ⟨rfl,rfl,rfl,rfl,trivial⟩) ⟨by show 0<=n-1;omega,by show n-1<=4096;omega,oo,by show((y::out)++[x]).length+(n-1).toNat<=4096;simp at ho ⊢;omega,lG hn (by simpa using h)⟩ (by show(n-1).toNat<n.toNat;omega)|refine bq ?_|refine qD (k:=fun x=>D.list 5 (List.map dV x)) [2] rfl (iq (.inr (by simpa using h))) (.refl _)
  ·replace hn:n<=0:=by simpa using hn
   repeat' (conv=>arg 2;whnf);first|refine bq ?_|refine qD (k:=fun x=>D.list 5 (List.map dV x)) [2] rfl (iq (.inl hn)) (.refl _)
theorem Om [Wd]:gz 284 (.agg [.ptr 0 0]) [] (fun s=>.agg (eO (jA s).1)) (fun s=>(jA s).2):=by
 rintro⟨b,e⟩ hs
 replace hs:b.length<=8388609:=hs
 obtain⟨v,b0,e0,q0,l0⟩:=Rd1.get (bV 1) (b,e)
 replace l0:b0.length<=b.length:=l0
 have h0:b0.length<=8388609:=by omega
 obtain⟨p,b1,e1,q1,l1⟩:=Rd1.get (bV 0) (b0,e0)
 replace l1:b1.length<=b0.length:=l1
 have h1:b1.length<=8388609:=by omega
 obtain⟨t,b2,e2,q2,l2⟩:=Rd1.get (bV 0) (b1,e1)
 replace l2:b2.length<=b1.length:=l2
 have h2:b2.length<=8388609:=by omega
 obtain⟨r,b3,e3,q3,l3⟩:=Rd1.get (bV 0) (b2,e2)
 replace l3:b3.length<=b2.length:=l3
 have h3:b3.length<=8388609:=by omega
 obtain⟨u,b4,e4,q4,l4⟩:=Rd1.get (bV 0) (b3,e3)
 replace l4:b4.length<=b3.length:=l4
 have h4:b4.length<=8388609:=by omega
 have eR:jA (b,e)=(⟨v,p,t,r,u⟩,(b4,e4)):=by unfold jA bN bg cN;simp only[q0,q1,q2,q3,q4]
 refine ak 20 [] func284 ?_
 repeat' (conv=>arg 2;whnf);first|refine aX 0 (fun x=>D.int .i64 x) q0 (mK 1) hs ?_|refine aX 0 (fun x=>D.int .i64 x) q1 (wP 0) h0 ?_|refine aX 0 (fun x=>D.int .i64 x) q2 (wP 0) h1 ?_|refine aX 0 (fun x=>D.int .i64 x) q3 (wP 0) h2 ?_|refine aX 0 (fun x=>D.int .i64 x) q4 (wP 0) h3 ?_|refine cU (k:=fun x=>D.agg (eO x)) rfl eR (.refl _)
theorem U2 [Wd] (most:Int) (uf:0<=most) (hm:most<=4096):gz 283 (.agg [.ptr 0 0]) [.int .i64 most,.fn 284 0 []] (fun s=>.list 5 ((cY jA most s).1.map eO)) (fun s=>(cY jA most s).2):=by
 intro s0 hs
 obtain⟨N,b0,e0,en,rW,hN,uV⟩:=zl most uf s0
 have eL:cY jA most s0=aP jA N.toNat (b0,e0):=by unfold cY;rw[en]
 refine ak 29 [] func283 ?_
 repeat' (conv=>arg 2;whnf);first|refine aX 0 (fun x=>D.int .i64 x) en (zE most) hs ?_
 conv=>arg 2;whnf
 refine bE (α:=Int×RS×List j7) (fun a=>match a.2.2 with
  |[]=>⟨[(8,.int .i64 a.1),(7,.nils),(3,.ptr 1 0),(2,.fn 284 0 [])],[.cells 235 [.list 1 (a.2.1.1.map af),.int .i64 a.2.1.2,.bool true],.cells 239 [.ptr 0 0]]⟩
  |x::l=>⟨[(8,.int .i64 a.1),(7,.row 2),(3,.ptr 1 0),(2,.fn 284 0 [])],[.cells 235 [.list 1 (a.2.1.1.map af),.int .i64 a.2.1.2,.bool true],.cells 239 [.ptr 0 0],.row 187 5 ((x::l).map eO)]⟩) (fun a=>0<=a.1/\a.1<=4096/\a.2.1.1.length<=8388609/\a.2.2.length+a.1.toNat<=4096/\aP jA N.toNat (b0,e0)=(a.2.2++(aP jA a.1.toNat a.2.1).1,(aP jA a.1.toNat a.2.1).2)) (fun a=>a.1.toNat) (N,(b0,e0),[]) ⟨rW,by omega,by show b0.length<=_;omega,by simp;omega,rfl⟩ (Sv.aK [0,1]) ?_
 rintro⟨n,⟨b,e⟩,out⟩ ⟨h0,h1,hl,ho,hg⟩
 replace h0:0<=n:=h0
 replace h1:n<=4096:=h1
 replace hl:b.length<=8388609:=hl
 replace ho:out.length+n.toNat<=4096:=ho
 replace hg:aP jA N.toNat (b0,e0)=(out++(aP jA n.toNat (b,e)).1,(aP jA n.toNat (b,e)).2):=hg
 obtain⟨x,b2,e2,ep⟩:∃(x:j7) (b2:List UInt8) (e2:Int),jA (b,e)=(x,(b2,e2)):=⟨_,_,_,rfl⟩
 have oo:b2.length<=8388609:=by
  have h:=ux.len (b,e)
  rw[ep] at h
  exact Nat.le_trans h hl
 have iq:(n<=0\/¬e=0)->cY jA most s0=(out,(b,e)):=fun h=>by
  rw[eL,hg]
  rcases h with h|h
  ·rw[show n.toNat=0 by omega];simp[aP]
  ·rw[vJ _ _ _ h];simp
 have lG:0<n->e=0->aP jA N.toNat (b0,e0)=((out++[x])++(aP jA (n-1).toNat (b2,e2)).1,(aP jA (n-1).toNat (b2,e2)).2):=fun hn h=>by
  rw[hg,Bu _ hn h,ep]
  simp
 cases out with
 |nil=>
  conv=>arg 2;whnf
  refine an (fun hn=>?_) (fun hn=>?_)
  ·replace hn:0<n:=by simpa using hn
   repeat' (conv=>arg 2;whnf);first|refine cE 0 (b,e) (b,e) (.int .i64 e) fY hl rfl rfl ?_|apply an<;>intro h|refine aX 0 (fun x=>D.agg (eO x)) ep Om hl ?_|refine aT (by constructor<;>(simp only[List.length_cons,List.length_nil];decide)) ?_|refine bw (cj (by show _<=n-1;omega) (by show n-1<=_;omega)) ?_|refine aZ (n-1,(b2,e2),[x]) (Sv.aK [0,1,4]) ⟨by show 0<=n-1;omega,by show n-1<=4096;omega,oo,by show([x]).length+(n-1).toNat<=4096;simp at ho ⊢;omega,lG hn (by simpa using h)⟩ (by show(n-1).toNat<n.toNat;omega)|refine bq ?_|refine cU (k:=fun x=>D.list 5 (List.map eO x)) rfl (iq (.inr (by simpa using h))) (.nil _)
  ·replace hn:n<=0:=by simpa using hn
   repeat' (conv=>arg 2;whnf);first|refine bq ?_|refine cU (k:=fun x=>D.list 5 (List.map eO x)) rfl (iq (.inl hn)) (.nil _)
 |cons y out=>
  conv=>arg 2;whnf
  refine an (fun hn=>?_) (fun hn=>?_)
  ·replace hn:0<n:=by simpa using hn
   repeat' (conv=>arg 2;whnf);first|refine cE 0 (b,e) (b,e) (.int .i64 e) fY hl rfl rfl ?_|apply an<;>intro h|refine aX 0 (fun x=>D.agg (eO x)) ep Om hl ?_|refine aT (by constructor<;>(simp only[List.length_cons,List.length_nil,List.length_map,maxLen] at ho ⊢;omega)) ?_|refine bw (cj (by show _<=n-1;omega) (by show n-1<=_;omega)) ?_|refine aZ (n-1,(b2,e2),(y::out)++[x]) (Sv.mk' [0,1,5] rfl ⟨⟨rfl,rfl⟩,⟨rfl,rfl⟩,⟨rfl,by simp;rfl⟩,trivial⟩ ⟨rfl,rfl,rfl,rfl,trivial⟩) ⟨by show 0<=n-1;omega,by show n-1<=4096;omega,oo,by show((y::out)++[x]).length+(n-1).toNat<=4096;simp at ho ⊢;omega,lG hn (by simpa using h)⟩ (by show(n-1).toNat<n.toNat;omega)|refine bq ?_|refine qD (k:=fun x=>D.list 5 (List.map eO x)) [2] rfl (iq (.inr (by simpa using h))) (.refl _)
  ·replace hn:n<=0:=by simpa using hn
   repeat' (conv=>arg 2;whnf);first|refine bq ?_|refine qD (k:=fun x=>D.list 5 (List.map eO x)) [2] rfl (iq (.inl hn)) (.refl _)
theorem U3 [Wd] (most:Int) (uf:0<=most) (hm:most<=4096):gz 285 (.agg [.ptr 0 0]) [.int .i64 most,.fn 286 0 []] (fun s=>.list 1 ((cY (bF 0) most s).1.map eD)) (fun s=>(cY (bF 0) most s).2):=by
 intro s0 hs
 obtain⟨N,b0,e0,en,rW,hN,uV⟩:=zl most uf s0
 have eL:cY (bF 0) most s0=aP (bF 0) N.toNat (b0,e0):=by unfold cY;rw[en]
 refine ak 29 [] func285 ?_
 repeat' (conv=>arg 2;whnf);first|refine aX 0 (fun x=>D.int .i64 x) en (zE most) hs ?_
 conv=>arg 2;whnf
 refine bE (α:=Int×RS×List Int) (fun a=>match a.2.2 with
  |[]=>⟨[(8,.int .i64 a.1),(7,.nils),(3,.ptr 1 0),(2,.fn 286 0 [])],[.cells 235 [.list 1 (a.2.1.1.map af),.int .i64 a.2.1.2,.bool true],.cells 239 [.ptr 0 0]]⟩
  |x::l=>⟨[(8,.int .i64 a.1),(7,.row 2),(3,.ptr 1 0),(2,.fn 286 0 [])],[.cells 235 [.list 1 (a.2.1.1.map af),.int .i64 a.2.1.2,.bool true],.cells 239 [.ptr 0 0],.row 41 1 ((x::l).map eD)]⟩) (fun a=>0<=a.1/\a.1<=4096/\a.2.1.1.length<=8388609/\a.2.2.length+a.1.toNat<=4096/\aP (bF 0) N.toNat (b0,e0)=(a.2.2++(aP (bF 0) a.1.toNat a.2.1).1,(aP (bF 0) a.1.toNat a.2.1).2)) (fun a=>a.1.toNat) (N,(b0,e0),[]) ⟨rW,by omega,by show b0.length<=_;omega,by simp;omega,rfl⟩ (Sv.aK [0,1]) ?_
 rintro⟨n,⟨b,e⟩,out⟩ ⟨h0,h1,hl,ho,hg⟩
 replace h0:0<=n:=h0
 replace h1:n<=4096:=h1
 replace hl:b.length<=8388609:=hl
 replace ho:out.length+n.toNat<=4096:=ho
 replace hg:aP (bF 0) N.toNat (b0,e0)=(out++(aP (bF 0) n.toNat (b,e)).1,(aP (bF 0) n.toNat (b,e)).2):=hg
 obtain⟨x,b2,e2,ep⟩:∃(x:Int) (b2:List UInt8) (e2:Int),(bF 0) (b,e)=(x,(b2,e2)):=⟨_,_,_,rfl⟩
 have oo:b2.length<=8388609:=by
  have h:=(bV 0).len (b,e)
  rw[ep] at h
  exact Nat.le_trans h hl
 have iq:(n<=0\/¬e=0)->cY (bF 0) most s0=(out,(b,e)):=fun h=>by
  rw[eL,hg]
  rcases h with h|h
  ·rw[show n.toNat=0 by omega];simp[aP]
  ·rw[vJ _ _ _ h];simp
 have lG:0<n->e=0->aP (bF 0) N.toNat (b0,e0)=((out++[x])++(aP (bF 0) (n-1).toNat (b2,e2)).1,(aP (bF 0) (n-1).toNat (b2,e2)).2):=fun hn h=>by
  rw[hg,Bu _ hn h,ep]
  simp
 cases out with
 |nil=>
  conv=>arg 2;whnf
  refine an (fun hn=>?_) (fun hn=>?_)
  ·replace hn:0<n:=by simpa using hn
   repeat' (conv=>arg 2;whnf);first|refine cE 0 (b,e) (b,e) (.int .i64 e) fY hl rfl rfl ?_|apply an<;>intro h|refine aX 0 (fun x=>D.int .i64 x) ep Qh hl ?_|refine aT (by constructor<;>(simp only[List.length_cons,List.length_nil];decide)) ?_|refine bw (cj (by show _<=n-1;omega) (by show n-1<=_;omega)) ?_|refine aZ (n-1,(b2,e2),[x]) (Sv.aK [0,1,4]) ⟨by show 0<=n-1;omega,by show n-1<=4096;omega,oo,by show([x]).length+(n-1).toNat<=4096;simp at ho ⊢;omega,lG hn (by simpa using h)⟩ (by show(n-1).toNat<n.toNat;omega)|refine bq ?_|refine cU (k:=fun x=>D.list 1 (List.map eD x)) rfl (iq (.inr (by simpa using h))) (.nil _)
  ·replace hn:n<=0:=by simpa using hn
   repeat' (conv=>arg 2;whnf);first|refine bq ?_|refine cU (k:=fun x=>D.list 1 (List.map eD x)) rfl (iq (.inl hn)) (.nil _)
 |cons y out=>
  conv=>arg 2;whnf
  refine an (fun hn=>?_) (fun hn=>?_)
  ·replace hn:0<n:=by simpa using hn
   repeat' (conv=>arg 2;whnf);first|refine cE 0 (b,e) (b,e) (.int .i64 e) fY hl rfl rfl ?_|apply an<;>intro h|refine aX 0 (fun x=>D.int .i64 x) ep Qh hl ?_|refine aT (by constructor<;>(simp only[List.length_cons,List.length_nil,List.length_map,maxLen] at ho ⊢;omega)) ?_|refine bw (cj (by show _<=n-1;omega) (by show n-1<=_;omega)) ?_|refine aZ (n-1,(b2,e2),(y::out)++[x]) (Sv.mk' [0,1,5] rfl ⟨⟨rfl,rfl⟩,⟨rfl,rfl⟩,⟨rfl,by simp;rfl⟩,trivial⟩ ⟨rfl,rfl,rfl,rfl,trivial⟩) ⟨by show 0<=n-1;omega,by show n-1<=4096;omega,oo,by show((y::out)++[x]).length+(n-1).toNat<=4096;simp at ho ⊢;omega,lG hn (by simpa using h)⟩ (by show(n-1).toNat<n.toNat;omega)|refine bq ?_|refine qD (k:=fun x=>D.list 1 (List.map eD x)) [2] rfl (iq (.inr (by simpa using h))) (.refl _)
  ·replace hn:n<=0:=by simpa using hn
   repeat' (conv=>arg 2;whnf);first|refine bq ?_|refine qD (k:=fun x=>D.list 1 (List.map eD x)) [2] rfl (iq (.inl hn)) (.refl _)
theorem RW [Wd] {P:Program} {Q:Exit->S->Prop} {e:Int} {t f:T} (h1:e=0->t.ok P Q) (h2:¬e=0->f.ok P Q):(bT ((e==0)==true) t f).ok P Q:=an (fun h=>h1 (by simpa using h)) (fun h=>h2 (by simpa using h))
theorem Qi [Wd]:gz 237 (.agg [.ptr 0 0]) [] (fun s=>.str (nS s).1) (fun s=>(nS s).2):=by
 rintro⟨b,e⟩ hs
 replace hs:b.length<=8388609:=hs
 obtain⟨x,b0,e0,q0,l0⟩:=Rd1.get (iB 64) (b,e)
 replace l0:b0.length<=b.length:=l0
 have h0:b0.length<=8388609:=by omega
 have hx:=zM q0
 have eR:nS (b,e)=(x,fF (mh x) (b0,e0)):=by unfold nS fZ;simp only[q0]
 have gC:¬e0=0->nS (b,e)=(x,(b0,e0)):=fun h=>by rw[eR,wU _ h]
 cases hn:jg x
 ·have qn:aq prog 27 [.str x] (.bool false):=by
   have:=Dw x (by omega)
   rwa [hn] at this
  have gA:e0=0->nS (b,e)=(x,(b0,61)):=fun h=>by
   rw[eR,h]
   unfold mh
   rw[hn]
   rfl
  refine ak 21 [] func237 ?_
  repeat' (conv=>arg 2;whnf);first|refine RW (fun h=>?_) (fun hz=>?_)|refine j8 _ rfl ?_|refine aT (by omega) ?_|refine aX 0 (fun x=>D.list 1 (List.map af x)) q0 vH hs ?_|refine cE 0 (b0,e0) (b0,e0) (.int .i64 e0) fY h0 rfl rfl ?_|refine okF qn ?_|refine cE 0 (b0,e0) (b0,61) (.aj []) (mJ 61) h0 (by rw[h];rfl) rfl ?_|refine cU (k:=fun x=>D.str x) rfl (gA h) (.refl _)|refine cU (k:=fun x=>D.str x) rfl (gC hz) (.refl _)
 ·have qn:aq prog 27 [.str x] (.bool true):=by
   have:=Dw x (by omega)
   rwa [hn] at this
  have gA:e0=0->nS (b,e)=(x,(b0,0)):=fun h=>by
   rw[eR,h]
   unfold mh
   rw[hn]
   rfl
  refine ak 21 [] func237 ?_
  repeat' (conv=>arg 2;whnf);first|refine RW (fun h=>?_) (fun hz=>?_)|refine j8 _ rfl ?_|refine aT (by omega) ?_|refine aX 0 (fun x=>D.list 1 (List.map af x)) q0 vH hs ?_|refine cE 0 (b0,e0) (b0,e0) (.int .i64 e0) fY h0 rfl rfl ?_|refine okF qn ?_|(subst h;refine cU (k:=fun x=>D.str x) rfl (gA rfl) (.refl _))|refine cU (k:=fun x=>D.str x) rfl (gC hz) (.refl _)
theorem YG [Wd]:gz 238 (.agg [.ptr 0 0]) [] (fun s=>.agg (jv (uD s).1)) (fun s=>(uD s).2):=by
 rintro⟨b,e⟩ hs
 replace hs:b.length<=8388609:=hs
 obtain⟨t,b0,e0,q0,l0⟩:=Rd1.get C9 (b,e)
 replace l0:b0.length<=b.length:=l0
 have h0:b0.length<=8388609:=by omega
 obtain⟨f,b1,e1,q1,l1⟩:=Rd1.get (bV 0) (b0,e0)
 replace l1:b1.length<=b0.length:=l1
 have h1:b1.length<=8388609:=by omega
 obtain⟨c,b2,e2,q2,l2⟩:=Rd1.get (iB 64) (b1,e1)
 replace l2:b2.length<=b1.length:=l2
 have h2:b2.length<=8388609:=by omega
 obtain⟨hd,b3,e3,q3,l3⟩:=Rd1.get (jL ux 64) (b2,e2)
 replace l3:b3.length<=b2.length:=l3
 have h3:b3.length<=8388609:=by omega
 obtain⟨i,b4,e4,q4,l4⟩:=Rd1.get (bV 0) (b3,e3)
 replace l4:b4.length<=b3.length:=l4
 have h4:b4.length<=8388609:=by omega
 obtain⟨n,b5,e5,q5,l5⟩:=Rd1.get (uu 16) (b4,e4)
 replace l5:b5.length<=b4.length:=l5
 have h5:b5.length<=8388609:=by omega
 obtain⟨em,ES⟩:∃em:Int,lS (decide (i<n)) (b5,e5)=(b5,em):=⟨(lS (decide (i<n)) (b5,e5)).2,Prod.ext (CW _ _) rfl⟩
 obtain⟨l,b6,e6,q6,l6⟩:=Rd1.get (jL (bV 0) 8) (b5,em)
 replace l6:b6.length<=b5.length:=l6
 have h6:b6.length<=8388609:=by omega
 obtain⟨k,b7,e7,q7,l7⟩:=Rd1.get uw (b6,e6)
 replace l7:b7.length<=b6.length:=l7
 have h7:b7.length<=8388609:=by omega
 have LJ:fF (if i<n then 0 else 100) (b5,e5)=(b5,em):=by
  rw[<-ES,FW]
  congr 1
  by_cases h:i<n<;>simp[h]
 have eR:uD (b,e)=(⟨t,f,c,hd,i,n,l,k⟩,(b7,e7)):=by unfold uD bN bg cN fZ;simp only[q0,q1,q2,q3,q4,q5,LJ,q6,q7]
 refine ak 37 [] func238 ?_
 repeat' (conv=>arg 2;whnf);first|refine aX 0 (fun x=>D.str x) q0 Qi hs ?_|refine aX 0 (fun x=>D.int .i64 x) q1 (mK 0) h0 ?_|refine aX 0 (fun x=>D.list 1 (List.map af x)) q2 vH h1 ?_|refine aX 0 (fun x=>D.list 5 (List.map eO x)) q3 (U2 64 (by decide) (by decide)) h2 ?_|refine aX 0 (fun x=>D.int .i64 x) q4 (mK 0) h3 ?_|refine aX 0 (fun x=>D.int .i64 x) q5 (zE 16) h4 ?_|refine cE 0 (b5,e5) (b5,em) (.aj []) (FJ (decide (i<n))) h5 ES.symm rfl ?_|refine aX 0 (fun x=>D.list 1 (List.map eD x)) q6 (U3 8 (by decide) (by decide)) h5 ?_|refine aX 0 (fun x=>D.agg (mj x)) q7 Jw h6 ?_|refine cU (k:=fun x=>D.agg (jv x)) rfl eR (.refl _)
theorem JU [Wd] (kd:Int) (b:List UInt8) (e:Int) (hs:b.length<=8388609) {r v n d:Int} {b3:List UInt8} {e3:Int} (q:qF (b,e)=((r,v,n,d),(b3,e3))):bC prog 226 [.agg [.ptr 0 0],.ptr 1 0] [.cells 235 [.list 1 (b.map af),.int .i64 e,.bool true],.cells 59 [.int .i64 kd,.int .i64 0,.int .i64 0,.int .i64 0,.int .i64 0,.int .i64 0,.int .i64 0,.int .i64 0,.int .i64 0,.nils,.int .i64 0,.int .i64 0,.nils,.nils,.nils,.nils,.str [],.int .i64 0,.str [],.int .i64 0,.nils,.nils,.int .i64 0,.int .i64 0,.nils,.int .i64 0,.int .i64 0,.nils,.int .i64 0,.int .i64 0]] (fun r' h=>r'=.aj []/\h=[.cells 235 [.list 1 (b3.map af),.int .i64 e3,.bool true],.cells 59 [.int .i64 kd,.int .i64 r,.int .i64 v,.int .i64 n,.int .i64 d,.int .i64 0,.int .i64 0,.int .i64 0,.int .i64 0,.nils,.int .i64 0,.int .i64 0,.nils,.nils,.nils,.nils,.str [],.int .i64 0,.str [],.int .i64 0,.nils,.nils,.int .i64 0,.int .i64 0,.nils,.int .i64 0,.int .i64 0,.nils,.int .i64 0,.int .i64 0]]):=by
 obtain⟨r',c0,e0,q0,l0⟩:=Rd1.get (dD 12) (b,e)
 replace l0:c0.length<=b.length:=l0
 have h0:c0.length<=8388609:=by omega
 obtain⟨v',c1,e1,q1,l1⟩:=Rd1.get (bV 0) (c0,e0)
 replace l1:c1.length<=c0.length:=l1
 have h1:c1.length<=8388609:=by omega
 obtain⟨n',c2,e2,q2,l2⟩:=Rd1.get (bV 1) (c1,e1)
 replace l2:c2.length<=c1.length:=l2
 have h2:c2.length<=8388609:=by omega
 obtain⟨d',c3,e3,q3,l3⟩:=Rd1.get (bV 1) (c2,e2)
 replace l3:c3.length<=c2.length:=l3
 have h3:c3.length<=8388609:=by omega
 unfold qF bg cN at q
 simp only[q0,q1,q2,q3] at q
 cases q
 refine ak 24 [] func226 ?_
 repeat' (conv=>arg 2;whnf);first|refine aX 0 (fun x=>D.int .i64 x) q0 yg hs ?_|refine aX 0 (fun x=>D.int .i64 x) q1 (mK 0) h0 ?_|refine aX 0 (fun x=>D.int .i64 x) q2 (mK 1) h1 ?_|refine aX 0 (fun x=>D.int .i64 x) q3 (wP 1) h2 ?_|refine mL [0,1] (.inl rfl) rfl rfl ⟨⟨rfl,rfl⟩,⟨rfl,rfl⟩,trivial⟩ ⟨⟨rfl,rfl⟩,⟨rfl,rfl⟩,trivial⟩ (.refl _)
theorem aaL [Wd] (b:List UInt8) (e:Int) (hs:b.length<=8388609) {b0:List UInt8} {e0:Int} (q0:nR MX (b,e)=(1,(b0,e0))) (h0:b0.length<=8388609):bC prog 177 [.agg [.ptr 0 0]] (dn (b,e)) (fun r h=>r=.agg (aC (aU (b,e)).1)/\h=dn (aU (b,e)).2):=by
 obtain⟨l,b1,e1,q1,l1⟩:=Rd1.get oD (b0,e0)
 replace l1:b1.length<=b0.length:=l1
 have h1:b1.length<=8388609:=by omega
 obtain⟨em,ES⟩:∃em:Int,lS ((((l.map bI).length:Nat):Int)==1) (b1,e1)=(b1,em):=⟨(lS ((((l.map bI).length:Nat):Int)==1) (b1,e1)).2,Prod.ext (CW _ _) rfl⟩
 have LJ:fF (if l.length=1 then 0 else 100) (b1,e1)=(b1,em):=by
  rw[<-ES,FW,List.length_map]
  congr 1
  by_cases h:l.length=1
  ·simp[h]
  ·rw[if_neg h,if_neg (by simp;omega)]
 have eB:cR 1 (b0,e0)=({aE with kind:=1,batch:=l},(b1,em)):=by
  show bN (fun l=>{aE with kind:=1,batch:=l}) (fZ jZ fun l=>if l.length=1 then 0 else 100) (b0,e0)=_
  unfold bN fZ
  simp only[q1,LJ]
 have eS:jS 1 (b1,em)=(dx,(b1,em)):=rfl
 have eR:aU (b,e)=({aE with kind:=1,batch:=l,sign:=dx},(b1,em)):=by
  unfold aU bN cN bg cN
  simp only[q0,eB,eS]
 have qs:aq prog 156 [.int .i64 1] (.bool false):=iZ 1
 refine ak 140 [(25,⟨[],[]⟩)] func177 ?_
 repeat' (conv=>arg 2;whnf);first|refine bZ (by decide) ?_|refine aX 0 (fun x=>D.int .u64 x) q0 (gF MX) hs ?_|refine aX 0 (fun x=>D.list 9 (List.map bI x)) q1 FC h0 ?_|refine cE 0 (b1,e1) (b1,em) (.aj []) (FJ ((((l.map bI).length:Nat):Int)==1)) h1 ES.symm rfl ?_|refine okF qs ?_|refine cU (k:=fun x=>D.agg (aC x)) rfl eR .z
theorem aaM [Wd] (b:List UInt8) (e:Int) (hs:b.length<=8388609) {b0:List UInt8} {e0:Int} (q0:nR MX (b,e)=(2,(b0,e0))) (h0:b0.length<=8388609):bC prog 177 [.agg [.ptr 0 0]] (dn (b,e)) (fun r h=>r=.agg (aC (aU (b,e)).1)/\h=dn (aU (b,e)).2):=by
 obtain⟨⟨r,v,n,d⟩,b1,e1,q1,l1⟩:=Rd1.get Bp (b0,e0)
 replace l1:b1.length<=b0.length:=l1
 have h1:b1.length<=8388609:=by omega
 obtain⟨l,b2,e2,q2,l2⟩:=Rd1.get oD (b1,e1)
 replace l2:b2.length<=b1.length:=l2
 have h2:b2.length<=8388609:=by omega
 have eB:cR 2 (b0,e0)=({aE with kind:=2,src:=r,view:=v,seq:=n,ah:=d,batch:=l},(b2,e2)):=by
  show bN (fun z=>{aE with kind:=2,src:=z.1.1,view:=z.1.2.1,seq:=z.1.2.2.1,ah:=z.1.2.2.2,batch:=z.2}) (bg qF jZ) (b0,e0)=_
  unfold bN bg cN
  simp only[q1,q2]
 obtain⟨g,b3,e3,q3,l3⟩:=Rd1.get eM (b2,e2)
 replace l3:b3.length<=b2.length:=l3
 have h3:b3.length<=8388609:=by omega
 have eS:jS 2 (b2,e2)=(g,(b3,e3)):=q3
 have eR:aU (b,e)=({aE with kind:=2,src:=r,view:=v,seq:=n,ah:=d,batch:=l,sign:=g},(b3,e3)):=by
  unfold aU bN cN bg cN
  simp only[q0,eB,eS]
 have qs:aq prog 156 [.int .i64 2] (.bool true):=iZ 2
 refine ak 140 [(25,⟨[],[]⟩)] func177 ?_
 repeat' (conv=>arg 2;whnf);first|refine bZ (by decide) ?_|refine aX 0 (fun x=>D.int .u64 x) q0 (gF MX) hs ?_|refine cV [0,4] (JU 2 b0 e0 h0 q1) ?_|refine aX 0 (fun x=>D.list 9 (List.map bI x)) q2 FC h1 ?_|refine aX 0 (fun x=>D.agg (bL x)) q3 sy h2 ?_|refine okF qs ?_|refine cU (k:=fun x=>D.agg (aC x)) rfl eR .z
theorem aaN [Wd] (b:List UInt8) (e:Int) (hs:b.length<=8388609) {b0:List UInt8} {e0:Int} (q0:nR MX (b,e)=(3,(b0,e0))) (h0:b0.length<=8388609):bC prog 177 [.agg [.ptr 0 0]] (dn (b,e)) (fun r h=>r=.agg (aC (aU (b,e)).1)/\h=dn (aU (b,e)).2):=by
 obtain⟨⟨r,v,n,d⟩,b1,e1,q1,l1⟩:=Rd1.get Bp (b0,e0)
 replace l1:b1.length<=b0.length:=l1
 have h1:b1.length<=8388609:=by omega
 have eB:cR 3 (b0,e0)=({aE with kind:=3,src:=r,view:=v,seq:=n,ah:=d},(b1,e1)):=by
  show bN (fun z=>{aE with kind:=3,src:=z.1,view:=z.2.1,seq:=z.2.2.1,ah:=z.2.2.2}) qF (b0,e0)=_
  unfold bN
  simp only[q1]
 obtain⟨g,b2,e2,q2,l2⟩:=Rd1.get eM (b1,e1)
 replace l2:b2.length<=b1.length:=l2
 have h2:b2.length<=8388609:=by omega
 have eS:jS 3 (b1,e1)=(g,(b2,e2)):=q2
 have eR:aU (b,e)=({aE with kind:=3,src:=r,view:=v,seq:=n,ah:=d,sign:=g},(b2,e2)):=by
  unfold aU bN cN bg cN
  simp only[q0,eB,eS]
 have qs:aq prog 156 [.int .i64 3] (.bool true):=iZ 3
 refine ak 140 [(25,⟨[],[]⟩)] func177 ?_
 repeat' (conv=>arg 2;whnf);first|refine bZ (by decide) ?_|refine aX 0 (fun x=>D.int .u64 x) q0 (gF MX) hs ?_|refine cV [0,4] (JU 3 b0 e0 h0 q1) ?_|refine aX 0 (fun x=>D.agg (bL x)) q2 sy h1 ?_|refine okF qs ?_|refine cU (k:=fun x=>D.agg (aC x)) rfl eR .z
theorem aaO [Wd] (b:List UInt8) (e:Int) (hs:b.length<=8388609) {b0:List UInt8} {e0:Int} (q0:nR MX (b,e)=(4,(b0,e0))) (h0:b0.length<=8388609):bC prog 177 [.agg [.ptr 0 0]] (dn (b,e)) (fun r h=>r=.agg (aC (aU (b,e)).1)/\h=dn (aU (b,e)).2):=by
 obtain⟨⟨r,v,n,d⟩,b1,e1,q1,l1⟩:=Rd1.get Bp (b0,e0)
 replace l1:b1.length<=b0.length:=l1
 have h1:b1.length<=8388609:=by omega
 have eB:cR 4 (b0,e0)=({aE with kind:=4,src:=r,view:=v,seq:=n,ah:=d},(b1,e1)):=by
  show bN (fun z=>{aE with kind:=4,src:=z.1,view:=z.2.1,seq:=z.2.2.1,ah:=z.2.2.2}) qF (b0,e0)=_
  unfold bN
  simp only[q1]
 obtain⟨g,b2,e2,q2,l2⟩:=Rd1.get eM (b1,e1)
 replace l2:b2.length<=b1.length:=l2
 have h2:b2.length<=8388609:=by omega
 have eS:jS 4 (b1,e1)=(g,(b2,e2)):=q2
 have eR:aU (b,e)=({aE with kind:=4,src:=r,view:=v,seq:=n,ah:=d,sign:=g},(b2,e2)):=by
  unfold aU bN cN bg cN
  simp only[q0,eB,eS]
 have qs:aq prog 156 [.int .i64 4] (.bool true):=iZ 4
 refine ak 140 [(25,⟨[],[]⟩)] func177 ?_
 repeat' (conv=>arg 2;whnf);first|refine bZ (by decide) ?_|refine aX 0 (fun x=>D.int .u64 x) q0 (gF MX) hs ?_|refine cV [0,4] (JU 4 b0 e0 h0 q1) ?_|refine aX 0 (fun x=>D.agg (bL x)) q2 sy h1 ?_|refine okF qs ?_|refine cU (k:=fun x=>D.agg (aC x)) rfl eR .z
theorem aaP [Wd] (b:List UInt8) (e:Int) (hs:b.length<=8388609) {b0:List UInt8} {e0:Int} (q0:nR MX (b,e)=(5,(b0,e0))) (h0:b0.length<=8388609):bC prog 177 [.agg [.ptr 0 0]] (dn (b,e)) (fun r h=>r=.agg (aC (aU (b,e)).1)/\h=dn (aU (b,e)).2):=by
 obtain⟨r,b1,e1,q1,l1⟩:=Rd1.get (dD 12) (b0,e0)
 replace l1:b1.length<=b0.length:=l1
 have h1:b1.length<=8388609:=by omega
 obtain⟨v,b2,e2,q2,l2⟩:=Rd1.get (bV 0) (b1,e1)
 replace l2:b2.length<=b1.length:=l2
 have h2:b2.length<=8388609:=by omega
 obtain⟨y,b3,e3,q3,l3⟩:=Rd1.get (dD 7) (b2,e2)
 replace l3:b3.length<=b2.length:=l3
 have h3:b3.length<=8388609:=by omega
 obtain⟨u,b4,e4,q4,l4⟩:=Rd1.get (bV 0) (b3,e3)
 replace l4:b4.length<=b3.length:=l4
 have h4:b4.length<=8388609:=by omega
 obtain⟨rs,b5,e5,q5,l5⟩:=Rd1.get Be (b4,e4)
 replace l5:b5.length<=b4.length:=l5
 have h5:b5.length<=8388609:=by omega
 have eB:cR 5 (b0,e0)=({aE with kind:=5,src:=r,view:=v,bD:=y,time:=u,result:=rs},(b5,e5)):=by
  show bN (fun z=>{aE with kind:=5,src:=z.1,view:=z.2.1,bD:=z.2.2.1,time:=z.2.2.2.1,result:=z.2.2.2.2}) (bg (nR 12) (bg (bF 0) (bg (nR 7) (bg (bF 0) rz)))) (b0,e0)=_
  unfold bN bg cN
  simp only[q1,q2,q3,q4,q5]
 obtain⟨g,b6,e6,q6,l6⟩:=Rd1.get eM (b5,e5)
 replace l6:b6.length<=b5.length:=l6
 have h6:b6.length<=8388609:=by omega
 have eS:jS 5 (b5,e5)=(g,(b6,e6)):=q6
 have eR:aU (b,e)=({aE with kind:=5,src:=r,view:=v,bD:=y,time:=u,result:=rs,sign:=g},(b6,e6)):=by
  unfold aU bN cN bg cN
  simp only[q0,eB,eS]
 have qs:aq prog 156 [.int .i64 5] (.bool true):=iZ 5
 refine ak 140 [(25,⟨[],[]⟩)] func177 ?_
 repeat' (conv=>arg 2;whnf);first|refine bZ (by decide) ?_|refine aX 0 (fun x=>D.int .u64 x) q0 (gF MX) hs ?_|refine aX 0 (fun x=>D.int .i64 x) q1 yg h0 ?_|refine aX 0 (fun x=>D.int .i64 x) q2 (mK 0) h1 ?_|refine aX 0 (fun x=>D.int .i64 x) q3 Ol h2 ?_|refine aX 0 (fun x=>D.int .i64 x) q4 (mK 0) h3 ?_|refine aX 0 (fun x=>D.agg (wV x)) q5 U0 h4 ?_|refine aX 0 (fun x=>D.agg (bL x)) q6 sy h5 ?_|refine okF qs ?_|refine cU (k:=fun x=>D.agg (aC x)) rfl eR .z
theorem aaQ [Wd] (b:List UInt8) (e:Int) (hs:b.length<=8388609) {b0:List UInt8} {e0:Int} (q0:nR MX (b,e)=(6,(b0,e0))) (h0:b0.length<=8388609):bC prog 177 [.agg [.ptr 0 0]] (dn (b,e)) (fun r h=>r=.agg (aC (aU (b,e)).1)/\h=dn (aU (b,e)).2):=by
 obtain⟨r,b1,e1,q1,l1⟩:=Rd1.get (dD 12) (b0,e0)
 replace l1:b1.length<=b0.length:=l1
 have h1:b1.length<=8388609:=by omega
 obtain⟨n,b2,e2,q2,l2⟩:=Rd1.get (bV 1) (b1,e1)
 replace l2:b2.length<=b1.length:=l2
 have h2:b2.length<=8388609:=by omega
 obtain⟨d,b3,e3,q3,l3⟩:=Rd1.get (bV 1) (b2,e2)
 replace l3:b3.length<=b2.length:=l3
 have h3:b3.length<=8388609:=by omega
 have eB:cR 6 (b0,e0)=({aE with kind:=6,src:=r,seq:=n,ah:=d},(b3,e3)):=by
  show bN (fun z=>{aE with kind:=6,src:=z.1,seq:=z.2.1,ah:=z.2.2}) (bg (nR 12) (bg (bF 1) (bF 1))) (b0,e0)=_
  unfold bN bg cN
  simp only[q1,q2,q3]
 obtain⟨g,b4,e4,q4,l4⟩:=Rd1.get eM (b3,e3)
 replace l4:b4.length<=b3.length:=l4
 have h4:b4.length<=8388609:=by omega
 have eS:jS 6 (b3,e3)=(g,(b4,e4)):=q4
 have eR:aU (b,e)=({aE with kind:=6,src:=r,seq:=n,ah:=d,sign:=g},(b4,e4)):=by
  unfold aU bN cN bg cN
  simp only[q0,eB,eS]
 have qs:aq prog 156 [.int .i64 6] (.bool true):=iZ 6
 refine ak 140 [(25,⟨[],[]⟩)] func177 ?_
 repeat' (conv=>arg 2;whnf);first|refine bZ (by decide) ?_|refine aX 0 (fun x=>D.int .u64 x) q0 (gF MX) hs ?_|refine aX 0 (fun x=>D.int .i64 x) q1 yg h0 ?_|refine aX 0 (fun x=>D.int .i64 x) q2 (mK 1) h1 ?_|refine aX 0 (fun x=>D.int .i64 x) q3 (wP 1) h2 ?_|refine aX 0 (fun x=>D.agg (bL x)) q4 sy h3 ?_|refine okF qs ?_|refine cU (k:=fun x=>D.agg (aC x)) rfl eR .z
theorem aaR [Wd] (b:List UInt8) (e:Int) (hs:b.length<=8388609) {b0:List UInt8} {e0:Int} (q0:nR MX (b,e)=(7,(b0,e0))) (h0:b0.length<=8388609):bC prog 177 [.agg [.ptr 0 0]] (dn (b,e)) (fun r h=>r=.agg (aC (aU (b,e)).1)/\h=dn (aU (b,e)).2):=by
 obtain⟨c,b1,e1,q1,l1⟩:=Rd1.get sI (b0,e0)
 replace l1:b1.length<=b0.length:=l1
 have h1:b1.length<=8388609:=by omega
 have eB:cR 7 (b0,e0)=({aE with kind:=7,src:=c.src,view:=c.view,changes:=[c]},(b1,e1)):=by
  show bN (fun c=>{aE with kind:=7,src:=c.src,view:=c.view,changes:=[c]}) iE (b0,e0)=_
  unfold bN
  simp only[q1]
 have eS:jS 7 (b1,e1)=(dx,(b1,e1)):=rfl
 have eR:aU (b,e)=({aE with kind:=7,src:=c.src,view:=c.view,changes:=[c],sign:=dx},(b1,e1)):=by
  unfold aU bN cN bg cN
  simp only[q0,eB,eS]
 have qs:aq prog 156 [.int .i64 7] (.bool false):=iZ 7
 refine iV 140 [(25,⟨(.one 0 false (.one 1 false (.one 2 false (.one 3 false (.one 4 false (.one 6 false (.alt 5 (.one 7 true (.one 8 false (.one 9 true (.one 10 false (.one 11 true .done))))) (.one 7 true (.one 8 false (.alt 5 (.one 9 true (.one 10 false (.one 11 true .done))) (.one 9 true (.one 5 true (.one 10 false (.one 11 true .done)))))))))))))),[4]⟩)] func177 ?_
 repeat' (conv=>arg 2;whnf);first|refine aV ?_ ?_|refine bZ (by decide) ?_|refine aX 0 (fun x=>D.int .u64 x) q0 (gF MX) hs ?_|refine aX 0 (fun x=>D.agg (bU x)) q1 IS h0 ?_|refine okF qs ?_|refine cU (k:=fun x=>D.agg (aC x)) rfl eR .z
theorem aaS [Wd] (b:List UInt8) (e:Int) (hs:b.length<=8388609) {b0:List UInt8} {e0:Int} (q0:nR MX (b,e)=(8,(b0,e0))) (h0:b0.length<=8388609):bC prog 177 [.agg [.ptr 0 0]] (dn (b,e)) (fun r h=>r=.agg (aC (aU (b,e)).1)/\h=dn (aU (b,e)).2):=by
 obtain⟨r,b1,e1,q1,l1⟩:=Rd1.get (dD 12) (b0,e0)
 replace l1:b1.length<=b0.length:=l1
 have h1:b1.length<=8388609:=by omega
 obtain⟨v,b2,e2,q2,l2⟩:=Rd1.get (bV 1) (b1,e1)
 replace l2:b2.length<=b1.length:=l2
 have h2:b2.length<=8388609:=by omega
 obtain⟨ch,b3,e3,q3,l3⟩:=Rd1.get (jL sI 13) (b2,e2)
 replace l3:b3.length<=b2.length:=l3
 have h3:b3.length<=8388609:=by omega
 obtain⟨en,b4,e4,q4,l4⟩:=Rd1.get (jL pE 8) (b3,e3)
 replace l4:b4.length<=b3.length:=l4
 have h4:b4.length<=8388609:=by omega
 have eB:cR 8 (b0,e0)=({aE with kind:=8,src:=r,view:=v,changes:=ch,entries:=en},(b4,e4)):=by
  show bN (fun z=>{aE with kind:=8,src:=z.1,view:=z.2.1,changes:=z.2.2.1,entries:=z.2.2.2}) (bg (nR 12) (bg (bF 1) (bg (cY iE 13) (cY iC 8)))) (b0,e0)=_
  unfold bN bg cN
  simp only[q1,q2,q3,q4]
 obtain⟨g,b5,e5,q5,l5⟩:=Rd1.get eM (b4,e4)
 replace l5:b5.length<=b4.length:=l5
 have h5:b5.length<=8388609:=by omega
 have eS:jS 8 (b4,e4)=(g,(b5,e5)):=q5
 have eR:aU (b,e)=({aE with kind:=8,src:=r,view:=v,changes:=ch,entries:=en,sign:=g},(b5,e5)):=by
  unfold aU bN cN bg cN
  simp only[q0,eB,eS]
 have qs:aq prog 156 [.int .i64 8] (.bool true):=iZ 8
 refine ak 140 [(25,⟨[],[]⟩)] func177 ?_
 repeat' (conv=>arg 2;whnf);first|refine bZ (by decide) ?_|refine aX 0 (fun x=>D.int .u64 x) q0 (gF MX) hs ?_|refine aX 0 (fun x=>D.int .i64 x) q1 yg h0 ?_|refine aX 0 (fun x=>D.int .i64 x) q2 (mK 1) h1 ?_|refine aX 0 (fun x=>D.list 8 (List.map bU x)) q3 (U1 13 (by decide) (by decide)) h2 ?_|refine aX 0 (fun x=>D.list 5 (List.map dV x)) q4 (Vs 8 (by decide) (by decide)) h3 ?_|refine aX 0 (fun x=>D.agg (bL x)) q5 sy h4 ?_|refine okF qs ?_|refine cU (k:=fun x=>D.agg (aC x)) rfl eR .z
theorem aaT [Wd] (b:List UInt8) (e:Int) (hs:b.length<=8388609) {b0:List UInt8} {e0:Int} (q0:nR MX (b,e)=(9,(b0,e0))) (h0:b0.length<=8388609):bC prog 177 [.agg [.ptr 0 0]] (dn (b,e)) (fun r h=>r=.agg (aC (aU (b,e)).1)/\h=dn (aU (b,e)).2):=by
 obtain⟨r,b1,e1,q1,l1⟩:=Rd1.get (dD 12) (b0,e0)
 replace l1:b1.length<=b0.length:=l1
 have h1:b1.length<=8388609:=by omega
 obtain⟨n,b2,e2,q2,l2⟩:=Rd1.get (bV 0) (b1,e1)
 replace l2:b2.length<=b1.length:=l2
 have h2:b2.length<=8388609:=by omega
 have eB:cR 9 (b0,e0)=({aE with kind:=9,src:=r,seq:=n},(b2,e2)):=by
  show bN (fun z=>{aE with kind:=9,src:=z.1,seq:=z.2}) (bg (nR 12) (bF 0)) (b0,e0)=_
  unfold bN bg cN
  simp only[q1,q2]
 obtain⟨g,b3,e3,q3,l3⟩:=Rd1.get eM (b2,e2)
 replace l3:b3.length<=b2.length:=l3
 have h3:b3.length<=8388609:=by omega
 have eS:jS 9 (b2,e2)=(g,(b3,e3)):=q3
 have eR:aU (b,e)=({aE with kind:=9,src:=r,seq:=n,sign:=g},(b3,e3)):=by
  unfold aU bN cN bg cN
  simp only[q0,eB,eS]
 have qs:aq prog 156 [.int .i64 9] (.bool true):=iZ 9
 refine ak 140 [(25,⟨[],[]⟩)] func177 ?_
 repeat' (conv=>arg 2;whnf);first|refine bZ (by decide) ?_|refine aX 0 (fun x=>D.int .u64 x) q0 (gF MX) hs ?_|refine aX 0 (fun x=>D.int .i64 x) q1 yg h0 ?_|refine aX 0 (fun x=>D.int .i64 x) q2 (mK 0) h1 ?_|refine aX 0 (fun x=>D.agg (bL x)) q3 sy h2 ?_|refine okF qs ?_|refine cU (k:=fun x=>D.agg (aC x)) rfl eR .z
theorem YH [Wd] (b:List UInt8) (e:Int) (hs:b.length<=8388609) {b0:List UInt8} {e0:Int} (q0:nR MX (b,e)=(10,(b0,e0))) (h0:b0.length<=8388609):bC prog 177 [.agg [.ptr 0 0]] (dn (b,e)) (fun r h=>r=.agg (aC (aU (b,e)).1)/\h=dn (aU (b,e)).2):=by
 obtain⟨r,b1,e1,q1,l1⟩:=Rd1.get (dD 12) (b0,e0)
 replace l1:b1.length<=b0.length:=l1
 have h1:b1.length<=8388609:=by omega
 obtain⟨k,b2,e2,q2,l2⟩:=Rd1.get uw (b1,e1)
 replace l2:b2.length<=b1.length:=l2
 have h2:b2.length<=8388609:=by omega
 obtain⟨c,b3,e3,q3,l3⟩:=Rd1.get (iB 262144) (b2,e2)
 replace l3:b3.length<=b2.length:=l3
 have h3:b3.length<=8388609:=by omega
 have eB:cR 10 (b0,e0)=({aE with kind:=10,src:=r,cert:=k,state:=c},(b3,e3)):=by
  show bN (fun z=>{aE with kind:=10,src:=z.1,cert:=z.2.1,state:=z.2.2}) (bg (nR 12) (bg lT (fB 262144))) (b0,e0)=_
  unfold bN bg cN
  simp only[q1,q2,q3]
 have eS:jS 10 (b3,e3)=(dx,(b3,e3)):=rfl
 have eR:aU (b,e)=({aE with kind:=10,src:=r,cert:=k,state:=c,sign:=dx},(b3,e3)):=by
  unfold aU bN cN bg cN
  simp only[q0,eB,eS]
 have qs:aq prog 156 [.int .i64 10] (.bool false):=iZ 10
 refine ak 140 [(25,⟨[],[]⟩)] func177 ?_
 repeat' (conv=>arg 2;whnf);first|refine bZ (by decide) ?_|refine aX 0 (fun x=>D.int .u64 x) q0 (gF MX) hs ?_|refine aX 0 (fun x=>D.int .i64 x) q1 yg h0 ?_|refine aX 0 (fun x=>D.agg (mj x)) q2 Jw h1 ?_|refine aX 0 (fun x=>D.list 1 (List.map af x)) q3 (Fe 262144 (by decide)) h2 ?_|refine okF qs ?_|refine cU (k:=fun x=>D.agg (aC x)) rfl eR .z
theorem YI [Wd] (b:List UInt8) (e:Int) (hs:b.length<=8388609) {b0:List UInt8} {e0:Int} (q0:nR MX (b,e)=(11,(b0,e0))) (h0:b0.length<=8388609):bC prog 177 [.agg [.ptr 0 0]] (dn (b,e)) (fun r h=>r=.agg (aC (aU (b,e)).1)/\h=dn (aU (b,e)).2):=by
 obtain⟨y,b1,e1,q1,l1⟩:=Rd1.get (dD 7) (b0,e0)
 replace l1:b1.length<=b0.length:=l1
 have h1:b1.length<=8388609:=by omega
 obtain⟨t,b2,e2,q2,l2⟩:=Rd1.get C9 (b1,e1)
 replace l2:b2.length<=b1.length:=l2
 have h2:b2.length<=8388609:=by omega
 obtain⟨f,b3,e3,q3,l3⟩:=Rd1.get (bV 0) (b2,e2)
 replace l3:b3.length<=b2.length:=l3
 have h3:b3.length<=8388609:=by omega
 have eB:cR 11 (b0,e0)=({aE with kind:=11,bD:=y,av:=t,offset:=f},(b3,e3)):=by
  show bN (fun z=>{aE with kind:=11,bD:=z.1,av:=z.2.1,offset:=z.2.2}) (bg (nR 7) (bg nS (bF 0))) (b0,e0)=_
  unfold bN bg cN
  simp only[q1,q2,q3]
 have eS:jS 11 (b3,e3)=(dx,(b3,e3)):=rfl
 have eR:aU (b,e)=({aE with kind:=11,bD:=y,av:=t,offset:=f,sign:=dx},(b3,e3)):=by
  unfold aU bN cN bg cN
  simp only[q0,eB,eS]
 have qs:aq prog 156 [.int .i64 11] (.bool false):=iZ 11
 refine ak 140 [(25,⟨[],[]⟩)] func177 ?_
 repeat' (conv=>arg 2;whnf);first|refine bZ (by decide) ?_|refine aX 0 (fun x=>D.int .u64 x) q0 (gF MX) hs ?_|refine aX 0 (fun x=>D.int .i64 x) q1 Ol h0 ?_|refine aX 0 (fun x=>D.str x) q2 Qi h1 ?_|refine aX 0 (fun x=>D.int .i64 x) q3 (mK 0) h2 ?_|refine okF qs ?_|refine cU (k:=fun x=>D.agg (aC x)) rfl eR .z
theorem YJ [Wd] (b:List UInt8) (e:Int) (hs:b.length<=8388609) {b0:List UInt8} {e0:Int} (q0:nR MX (b,e)=(12,(b0,e0))) (h0:b0.length<=8388609):bC prog 177 [.agg [.ptr 0 0]] (dn (b,e)) (fun r h=>r=.agg (aC (aU (b,e)).1)/\h=dn (aU (b,e)).2):=by
 obtain⟨r,b1,e1,q1,l1⟩:=Rd1.get (dD 12) (b0,e0)
 replace l1:b1.length<=b0.length:=l1
 have h1:b1.length<=8388609:=by omega
 obtain⟨p,b2,e2,q2,l2⟩:=Rd1.get Jb (b1,e1)
 replace l2:b2.length<=b1.length:=l2
 have h2:b2.length<=8388609:=by omega
 have eB:cR 12 (b0,e0)=({aE with kind:=12,src:=r,proof:=p},(b2,e2)):=by
  show bN (fun z=>{aE with kind:=12,src:=z.1,proof:=z.2}) (bg (nR 12) uD) (b0,e0)=_
  unfold bN bg cN
  simp only[q1,q2]
 have eS:jS 12 (b2,e2)=(dx,(b2,e2)):=rfl
 have eR:aU (b,e)=({aE with kind:=12,src:=r,proof:=p,sign:=dx},(b2,e2)):=by
  unfold aU bN cN bg cN
  simp only[q0,eB,eS]
 have qs:aq prog 156 [.int .i64 12] (.bool false):=iZ 12
 refine ak 140 [(25,⟨[],[]⟩)] func177 ?_
 repeat' (conv=>arg 2;whnf);first|refine bZ (by decide) ?_|refine aX 0 (fun x=>D.int .u64 x) q0 (gF MX) hs ?_|refine aX 0 (fun x=>D.int .i64 x) q1 yg h0 ?_|refine aX 0 (fun x=>D.agg (jv x)) q2 YG h1 ?_|refine okF qs ?_|refine cU (k:=fun x=>D.agg (aC x)) rfl eR .z
theorem aaU [Wd] (k:Int) (hk:¬(1<=k/\k<=12)) (b:List UInt8) (e:Int) (hs:b.length<=8388609) {b0:List UInt8} {e0:Int} (q0:nR MX (b,e)=(k,(b0,e0))) (h0:b0.length<=8388609):bC prog 177 [.agg [.ptr 0 0]] (dn (b,e)) (fun r h=>r=.agg (aC (aU (b,e)).1)/\h=dn (aU (b,e)).2):=by
 have hr:=qN q0
 rw[yK] at hr
 obtain⟨ef,jV⟩:∃ef:Int,fF 100 (b0,e0)=(b0,ef):=⟨(fF 100 (b0,e0)).2,Prod.ext (wS _ _) rfl⟩
 have eB:cR k (b0,e0)=({aE with kind:=k},(b0,ef)):=by
  unfold cR
  rw[if_neg (by omega),if_neg (by omega),if_neg (by omega),if_neg (by omega),if_neg (by omega),if_neg (by omega),if_neg (by omega),if_neg (by omega),if_neg (by omega),if_neg (by omega),if_neg (by omega),if_neg (by omega)]
  unfold fZ qM
  simp only[jV]
 have EJ:bW k=false:=by
  unfold bW
  simp only[Bool.or_eq_false_iff,decide_eq_false_iff_not]
  omega
 have eS:jS k (b0,ef)=(dx,(b0,ef)):=by
  unfold jS
  rw[EJ]
  rfl
 have eR:aU (b,e)=({aE with kind:=k,sign:=dx},(b0,ef)):=by
  unfold aU bN cN bg cN
  simp only[q0,eB,eS]
 have qs:aq prog 156 [.int .i64 k] (.bool false):=by
  have:=iZ k
  rwa [EJ] at this
 have hw:IntKind.i64.wrap k=k:=cj (by omega) (by omega)
 have n1:(k==1)=false:=by simp;omega
 have n2:(k==2)=false:=by simp;omega
 have n3:(k==3)=false:=by simp;omega
 have n4:(k==4)=false:=by simp;omega
 have n5:(k==5)=false:=by simp;omega
 have n6:(k==6)=false:=by simp;omega
 have n7:(k==7)=false:=by simp;omega
 have n8:(k==8)=false:=by simp;omega
 have n9:(k==9)=false:=by simp;omega
 have n10:(k==10)=false:=by simp;omega
 have n11:(k==11)=false:=by simp;omega
 have n12:(k==12)=false:=by simp;omega
 refine ak 140 [(25,⟨[],[]⟩)] func177 ?_
 repeat' (conv=>arg 2;whnf);first|refine bB (by rw[hw];exact n1) ?_|refine bB (by rw[hw];exact n2) ?_|refine bB (by rw[hw];exact n3) ?_|refine bB (by rw[hw];exact n4) ?_|refine bB (by rw[hw];exact n5) ?_|refine bB (by rw[hw];exact n6) ?_|refine bB (by rw[hw];exact n7) ?_|refine bB (by rw[hw];exact n8) ?_|refine bB (by rw[hw];exact n9) ?_|refine bB (by rw[hw];exact n10) ?_|refine bB (by rw[hw];exact n11) ?_|refine bB (by rw[hw];exact n12) ?_|refine aX 0 (fun x=>D.int .u64 x) q0 (gF MX) hs ?_|refine cE 0 (b0,e0) (b0,ef) (.aj []) (mJ 100) h0 jV.symm rfl ?_|refine iQ qs rfl (GZ (by rw[hw])) ?_|refine cU (k:=fun x=>D.agg (aC x)) rfl eR (aa.eU (by refine aa.cons (Co.of_eq (show D.int .i64 (IntKind.i64.wrap k)=D.int .i64 k by rw[hw])) ?_;repeat' first|exact aa.nil|refine aa.cons (.refl _) ?_|refine aa.cons (.nil _) ?_))
theorem V7 [Wd]:gz 177 (.agg [.ptr 0 0]) [] (fun s=>.agg (aC (aU s).1)) (fun s=>(aU s).2):=by
 rintro⟨b,e⟩ hs
 replace hs:b.length<=8388609:=hs
 obtain⟨k,b0,e0,q,l⟩:=Rd1.get (dD MX) (b,e)
 replace l:b0.length<=b.length:=l
 have h0:b0.length<=8388609:=by omega
 by_cases hk:1<=k/\k<=12
 ·have:k=1\/k=2\/k=3\/k=4\/k=5\/k=6\/k=7\/k=8\/k=9\/k=10\/k=11\/k=12:=by omega
  rcases this with rfl|rfl|rfl|rfl|rfl|rfl|rfl|rfl|rfl|rfl|rfl|rfl
  ·exact aaL b e hs q h0
  ·exact aaM b e hs q h0
  ·exact aaN b e hs q h0
  ·exact aaO b e hs q h0
  ·exact aaP b e hs q h0
  ·exact aaQ b e hs q h0
  ·exact aaR b e hs q h0
  ·exact aaS b e hs q h0
  ·exact aaT b e hs q h0
  ·exact YH b e hs q h0
  ·exact YI b e hs q h0
  ·exact YJ b e hs q h0
 ·exact aaU k hk b e hs q h0
theorem V8 [Wd] (bs:List UInt8) (hl:bs.length<=4194304):aq prog 176 [.list 1 (bs.map af),.fn 177 0 []] (.aj [.agg (aC (cS aU aE bs).1),.int .i64 (cS aU aE bs).2]):=by
 obtain⟨x,b,e,ec,hb⟩:=Rd1.get acF (bs,0)
 replace hb:b.length<=bs.length:=hb
 obtain⟨d,hd⟩:∃d,d=dA (b,e):=⟨_,rfl⟩
 have gL:262144<bs.length->cS aU aE bs=(aE,3):=Oz
 have gN:¬262144<bs.length->¬d=0->cS aU aE bs=(aE,d):=fun h k=>by rw[hd] at k ⊢;exact OA h ec k
 have gY:¬262144<bs.length->d=0->cS aU aE bs=(x,0):=fun h k=>by rw[hd] at k;exact FK h ec k
 have hlen:((bs.map af).length:Int)=bs.length:=by rw[List.length_map]
 by_cases mu:262144<bs.length
 ·have hz:decide (((bs.map af).length:Int)>262144)=true:=by rw[hlen];simp;omega
  rw[gL mu]
  refine ak 28 [] func176 ?_
  repeat' (conv=>arg 2;whnf);first|refine bY hz ?_|refine qB (.inr rfl) rfl (aa.oO (aa.cons .z (aa.cons (.refl _) .nil))) rfl
 ·have hz:decide (((bs.map af).length:Int)>262144)=false:=by rw[hlen];simp;omega
  refine ak 28 [] func176 ?_
  repeat' (conv=>arg 2;whnf);first|refine bB hz ?_|refine rJ (fun h=>?_) (fun h=>?_)|refine cV [] (zC bs (by omega)) ?_|refine aX 2 (fun x=>D.agg (aC x)) ec V7 (by show bs.length<=_;omega) ?_|refine GY 2 (b,e) (b,e) (.int .i64 d) Bt (by show b.length<=_;omega) rfl (by rw[hd]) ⟨⟨rfl,rfl⟩,trivial⟩ (aa.refl _) rfl ?_|(rw[gY mu h];refine cg)|(rw[gN mu h];refine qB (.inr rfl) rfl (aa.oO (aa.cons .z (aa.cons (.refl _) .nil))) rfl)
theorem FO [Wd] (bs:List UInt8) (hl:bs.length<=4194304):aq prog 122 [.list 1 (bs.map af)] (.aj [.agg (aC (cS aU aE bs).1),.int .i64 (cS aU aE bs).2]):=by
 refine ak 8 [] func122 ?_
 repeat' (conv=>arg 2;whnf);first|refine okF (V8 bs hl) ?_|refine cg
abbrev fV (x y:Int) (c:cX):aD:={aE with kind:=7,src:=x,view:=y,changes:=[c]}
theorem Gp {b:List UInt8} (h:(cS aU aE b).2=0) (h7:(cS aU aE b).1.kind=7):∃x y c,(cS aU aE b).1=fV x y c:=by
 have hb:eC (cS aU aE b).1=0:=by
  unfold cS at h ⊢
  split at h
  ·cases h
  ·rename_i h1
   rw[if_neg h1]
   split at h
   ·rename_i h2
    rw[if_pos h2]
    refine(Bz.back b ?_).1
    unfold dA at h2
    split at h2
    ·assumption
    ·assumption
   ·rename_i h2
    exact absurd h h2
 generalize (cS aU aE b).1=m at hb h7
 have h2:=(Jc hb).2
 have hk:=nG (oA hb)
 have hc:m.changes.length=1:=by
  unfold bP at hk
  rw[h7] at hk
  simp only[show ¬((7:Int)=1) by decide,show ¬((7:Int)=2) by decide,show ¬((7:Int)=3) by decide,show ¬((7:Int)=4) by decide,show ¬((7:Int)=5) by decide,show ¬((7:Int)=6) by decide,if_false,if_true,bQ] at hk
  have h1:=hk.1
  unfold cQ at h1
  split at h1
  ·cases h1
  ·omega
 obtain⟨c,hc⟩:=sM hc
 refine⟨m.src,m.view,c,?_⟩
 unfold aH at h2
 simp only[h7,show ¬((7:Int)=1) by decide,show ¬((7:Int)=2) by decide,show ¬((7:Int)=3) by decide,show ¬((7:Int)=4) by decide,show ¬((7:Int)=5) by decide,show ¬((7:Int)=6) by decide,if_false,if_true,show bW 7=false from rfl,Bool.false_eq_true] at h2
 rw[hc] at h2
 exact h2
def Et (x y:Int) (c:cX):List D:=[.int .i64 7,.int .i64 x,.int .i64 y,.int .i64 0,.int .i64 0,.int .i64 0,.int .i64 0,.int .i64 0,.int .i64 0,.own 9 [],.int .i64 0,.int .i64 0,.own 2 [],.row 0,.own 5 [],.own 1 [],.str [],.int .i64 0,.str [],.int .i64 0,.own 1 [],.own 5 [],.int .i64 0,.int .i64 0,.own 1 [],.int .i64 0,.int .i64 0,.own 2 [],.int .i64 0,.int .i64 0]
theorem abU [Wd] (x y:Int) (c:cX) (hc:fP.ok c):bC prog 178 [.agg (aC (fV x y c))] [] (fun r h=>r=.agg (Et x y c)/\h=[.row 145 8 [nh c]]):=by
 refine iV 86 [(1,⟨PT.of [(0,false),(1,false),(3,false),(4,false),(6,false),(7,false),(2,true),(9,false),(5,true),(8,true),(10,true),(11,false),(12,true),(13,false),(14,true)],[0,1,2,3,1010,1012,1014]⟩),(2,⟨PT.of [(0,false),(1,false),(3,false),(4,false),(2,true),(6,false),(5,true),(7,true),(8,false),(9,true)],[0,1,2,3,1007,1009]⟩),(6,⟨PT.of [(0,false),(1,false),(2,false),(3,false),(4,false),(5,false),(6,false),(7,false),(8,true),(9,false),(10,true)],[0,1,2,3,1010]⟩),(11,⟨PT.of [(0,false),(1,false),(2,false),(3,false),(4,false),(5,false),(6,false),(7,false),(8,false),(9,true),(10,false),(11,false),(12,true)],[0,1,2,3,1012]⟩),(13,⟨PT.of [(0,false),(1,false),(2,false),(4,false),(5,false),(6,false),(8,false),(9,false),(10,false),(3,true),(12,false),(13,false),(7,true),(11,true),(14,true),(15,false),(16,false),(17,true),(18,false),(19,false),(20,true)],[0,1,2,3,1014,1017,1020]⟩)] func178 ?_
 repeat' (conv=>arg 2;whnf);first|refine aY ?_|refine aV ?_ ?_|refine okF (Da (fV x y c).batch dO) ?_|refine okF (wL (fV x y c).cert ⟨bu,bu,dO⟩) ?_|refine okF (vM (fV x y c).state (Nat.zero_le _)) ?_|refine pH [] (Ob (fV x y c).changes (show 1<=4194304 by decide)) (.mk' rfl trivial) (aa.refl _) rfl (fun r kD hp=>?_)
 rcases hp with⟨Cz,rfl,rfl⟩|⟨rfl,rfl⟩
 ·exact absurd Cz (List.cons_ne_nil _ _)
 ·skip
  repeat' (conv=>arg 2;whnf);first|refine aY ?_|refine pH [] (Jd (fV x y c).entries (Nat.zero_le _)) (.mk' rfl trivial) (aa.refl _) rfl (fun r kD hp=>?_)
  rcases hp with⟨Hx,rfl,rfl⟩|⟨rfl,rfl⟩
  ·skip
   repeat' (conv=>arg 2;whnf);first|refine aY ?_|refine aV ?_ ?_
   conv=>arg 2;whnf
   refine bE (α:=Nat) (fun i=>⟨[(28,.int .i64 i),(27,.int .i64 ((fV x y c).changes.map bU).length),(2,.ptr 1 0),(1,.ptr 0 0)],[.cells 59 (tK (fV x y c) (.row 2) (.nils)),.cells 59 tq,.row 145 8 (((fV x y c).changes.take i).map nh++((fV x y c).changes.drop i).map bU)]⟩) (fun i=>i<=(fV x y c).changes.length) (fun i=>(fV x y c).changes.length-i) 0 (Nat.zero_le _) (Sv.aK [0,1,2]) ?_
   intro i (hi:i<=(fV x y c).changes.length)
   conv=>arg 2;whnf
   apply an<;>intro h
   ·have y7:i=0:=by
     have:(i:Int)<1:=by simpa using h
     omega
    subst y7
    repeat' (conv=>arg 2;whnf);first|refine aY ?_|refine aV ?_ ?_|refine aT (by simp) ?_|refine eT (bU c) (by decide) rfl ?_|refine eT (nh c) (by decide) rfl ?_|refine okF (EU c hc) ?_|refine bw (by rfl) ?_|refine aZ 1 (Sv.aK [0,1,2]) (Nat.le_refl _) (show(0:Nat)<1 by decide)|fail
   ·rw[zS hi (by have:¬(i:Int)<1:=by simpa using h
                 show ¬i<1;omega)]
    repeat' (conv=>arg 2;whnf);first|refine aY ?_|refine aV ?_ ?_|refine bq ?_
    conv=>arg 2;whnf
    refine bE (α:=Unit) (fun a=>⟨[(45,.int .i64 0),(44,.int .i64 0),(2,.ptr 1 0),(1,.ptr 0 0)],[.cells 59 (tK (fV x y c) (.row 2) (.nils)),.cells 59 tq,.row 145 8 [nh c]]⟩) (fun a=>True) (fun a=>0) () trivial (Sv.aK [0,1,2]) ?_
    rintro a-
    repeat' (conv=>arg 2;whnf);first|refine aY ?_|refine aV ?_ ?_|refine bq ?_|refine okF (vM (fV x y c).proof.record (Nat.zero_le _)) ?_|refine okF (Bf (fV x y c).proof.headers (Nat.zero_le _)) ?_|refine okF (Bg (fV x y c).proof.path (Nat.zero_le _)) ?_|refine okF (wL (fV x y c).proof.cert ⟨bu,bu,dO⟩) ?_|(refine eg (r:=.agg (Et x y c)) (h':=[.row 145 8 [nh c]]) [] [2] (.inr rfl) rfl rfl ⟨⟨rfl,rfl⟩,trivial⟩ trivial (aa.eU (by unfold Et;repeat' first|exact aa.nil|refine aa.cons (.refl _) ?_|refine aa.cons (.rO _) ?_)) ⟨rfl,rfl⟩;done)|fail
  ·skip
   repeat' (conv=>arg 2;whnf);first|refine aY ?_|refine aV ?_ ?_
   conv=>arg 2;whnf
   refine bE (α:=Nat) (fun i=>⟨[(28,.int .i64 i),(27,.int .i64 ((fV x y c).changes.map bU).length),(2,.ptr 1 0),(1,.ptr 0 0)],[.cells 59 (tK (fV x y c) (.row 2) (.row 3)),.cells 59 tq,.row 145 8 (((fV x y c).changes.take i).map nh++((fV x y c).changes.drop i).map bU),.row 159 5 []]⟩) (fun i=>i<=(fV x y c).changes.length) (fun i=>(fV x y c).changes.length-i) 0 (Nat.zero_le _) (Sv.aK [0,1,2,3]) ?_
   intro i (hi:i<=(fV x y c).changes.length)
   conv=>arg 2;whnf
   apply an<;>intro h
   ·have y7:i=0:=by
     have:(i:Int)<1:=by simpa using h
     omega
    subst y7
    repeat' (conv=>arg 2;whnf);first|refine aY ?_|refine aV ?_ ?_|refine aT (by simp) ?_|refine eT (bU c) (by decide) rfl ?_|refine eT (nh c) (by decide) rfl ?_|refine okF (EU c hc) ?_|refine bw (by rfl) ?_|refine aZ 1 (Sv.aK [0,1,2,3]) (Nat.le_refl _) (show(0:Nat)<1 by decide)|fail
   ·rw[zS hi (by have:¬(i:Int)<1:=by simpa using h
                 show ¬i<1;omega)]
    repeat' (conv=>arg 2;whnf);first|refine aY ?_|refine aV ?_ ?_|refine bq ?_
    conv=>arg 2;whnf
    refine bE (α:=Unit) (fun a=>⟨[(45,.int .i64 0),(44,.int .i64 0),(2,.ptr 1 0),(1,.ptr 0 0)],[.cells 59 (tK (fV x y c) (.row 2) (.row 3)),.cells 59 tq,.row 145 8 [nh c],.row 159 5 []]⟩) (fun a=>True) (fun a=>0) () trivial (Sv.aK [0,1,2,3]) ?_
    rintro a-
    repeat' (conv=>arg 2;whnf);first|refine aY ?_|refine aV ?_ ?_|refine bq ?_|refine okF (vM (fV x y c).proof.record (Nat.zero_le _)) ?_|refine okF (Bf (fV x y c).proof.headers (Nat.zero_le _)) ?_|refine okF (Bg (fV x y c).proof.path (Nat.zero_le _)) ?_|refine okF (wL (fV x y c).proof.cert ⟨bu,bu,dO⟩) ?_|(refine eg (r:=.agg (Et x y c)) (h':=[.row 145 8 [nh c]]) [3,1003] [2] (.inr rfl) rfl rfl ⟨⟨rfl,rfl⟩,trivial⟩ trivial (aa.eU (by unfold Et;repeat' first|exact aa.nil|refine aa.cons (.refl _) ?_|refine aa.cons (.rO _) ?_)) ⟨rfl,rfl⟩;done)|fail
theorem qu {α:Type} {f g:α->List D} (h:∀x,D.dy.cl (f x)=g x) (l:List α):D.dy.ll (l.map f)=l.map g:=by
 rw[Gq,List.map_map];exact List.map_congr_left (fun x _=>h x)
theorem QT (x:UInt8):D.dy.cl (af x)=af x:=rfl
theorem adq (x:Int):D.dy.cl (eD x)=eD x:=rfl
theorem Je (s:bJ):D.dy.cl (bL s)=bL s:=by simp only[bL,bL,D.dy.cl,D.dy]
theorem VR (s:j7):D.dy.cl (eO s)=eO s:=by simp only[eO,eO,D.dy.cl,D.dy]
theorem ZO (s:List UInt8):D.dy.cl (D3 s)=gS s:=by simp only[D3,gS,D.dy.cl,D.dy,qu QT]
theorem Iw (s:bX):D.dy.cl (yu s)=bI s:=by simp only[yu,bI,D.dy.cl,D.dy,qu ZO]
theorem UT (s:jt):D.dy.cl (Fw s)=fk s:=by simp only[Fw,fk,D.dy.cl,D.dy,qu Je,qu Iw]
theorem VS (s:cX):D.dy.cl (nh s)=bU s:=by simp only[nh,bU,D.dy.cl,D.dy,qu Je,qu UT]
theorem WI (s:gq):D.dy.cl (DF s)=dV s:=by simp only[DF,dV,D.dy.cl,D.dy,qu Iw]
theorem ZP (s:aD):D.dy.cl (wv s)=aC s:=by simp only[wv,aC,D.dy.cl,D.dy,qu Iw,qu Je,qu VS,qu WI,qu QT,qu VR,qu adq]
theorem QU (m:aD):Co (.agg (wv m)) (.agg (aC m)):=by
 have h:=Co.dy (.agg (wv m))
 rw[show(D.agg (wv m)).dy=.agg (D.dy.cl (wv m)) from rfl,ZP] at h
 exact h
theorem adr [Wd] (x y:Int) (c:cX) (s:bJ) (hc:fP.ok c):aq prog 123 [.agg (aC (fV x y c)),.agg (bL s)] (.agg (aC (kJ (fV x y c) s))):=by
 refine ak 24 [] func123 ?_
 repeat' (conv=>arg 2;whnf);first|refine aY ?_|refine aV ?_ ?_|refine aT (by simp) ?_|(refine pH [] (abU x y c hc) (.mk' rfl trivial) (aa.refl _) rfl ?_;rintro r h' ⟨rfl,rfl⟩)|refine eT (nh c) (by decide) rfl ?_|refine mE [3,1003] (.inr rfl) rfl (QU (fV x y {c with sign:=s})) rfl
theorem F4 [Wd] (m:aD) (s:bJ) (hm:bh.ok m) (h7:m.kind=7->∃x y c,m=fV x y c):aq prog 123 [.agg (aC m),.agg (bL s)] (.agg (aC (kJ m s))):=by
 by_cases hk:m.kind=7
 ·obtain⟨x,y,c,rfl⟩:=h7 hk
  exact adr x y c s (hm.2.2.2.2.2.2.2.2.2.2.1.2 c (List.mem_singleton.2 rfl))
 ·rw[show kJ m s={m with sign:=s} from if_neg hk]
  refine ak 24 [] func123 ?_
  repeat' (conv=>arg 2;whnf);first|refine aY ?_|refine aV ?_ ?_|refine okF (ZQ m hm) ?_|refine bB (by first|(simp;done)|simpa using hk) ?_|refine mE [] (.inr rfl) rfl (QU {m with sign:=s}) rfl
theorem okW [Wd] {α:Type} {Q:Exit->S->Prop} {f:FuncId} {bR:List D} {p:lW α} {R:α->D} {hb:List AO} {c:D->List AO->T} (o:Nat) (hF:Am f p R) (ws:List (List UInt8)) (hw:kO ws) (hp:p ws=none->Wd.kY rq) (hv:jF hb [o] [o] (fj ws)) (hc:aa bR [.ptr o 0]) (hM:([o].all fun o=>(jT hb bR).elem o)=true) (k:∀x rest,p ws=some (x,rest)->(c ((R x).bO (mz hb [o] (fj ws) (fj rest))) (lK hb [o] (fj ws) (fj rest))).ok prog Q):(T.call f bR hb c).ok prog Q:=
 KW [o] (hF ws hw hp) (.mk' rfl hv) hc hM fun r h' ⟨x,rest,e,e1,e2⟩=>by subst e1 e2;exact k x rest e
theorem lU [Wd] {α:Type} {Q:Exit->S->Prop} {f:FuncId} {bR:List D} {p:lW α} {R:α->D} {hb:List AO} {c:D->List AO->T} (o:Nat) (hF:Am f p R) (ws:List (List UInt8)) (hw:kO ws) (hp:p ws=none->Wd.kY rq) (k:∀x rest,p ws=some (x,rest)->(c ((R x).bO (mz hb [o] (fj ws) (fj rest))) (lK hb [o] (fj ws) (fj rest))).ok prog Q) (hv:jF hb [o] [o] (fj ws):=by exact⟨⟨rfl,rfl⟩,trivial⟩) (hc:aa bR [.ptr o 0]:=by exact aa.refl _) (hM:([o].all fun o=>(jT hb bR).elem o)=true:=by exact rfl):(T.call f bR hb c).ok prog Q:=
 okW o hF ws hw hp hv hc hM k
theorem OK {α:Type} {p:List UInt8->Option α} {ws:List (List UInt8)} (h:tH some ws=none):tH p ws=none:=by cases ws with
 |nil=>rfl
 |cons s r=>cases h
theorem OL {α:Type} {p:List UInt8->Option α} {ws rest:List (List UInt8)} {s:List UInt8} (h:tH some ws=some (s,rest)):tH p ws=(p s).map fun x=>(x,rest):=by cases ws with
 |nil=>cases h
 |cons s' r=>injection h with h;injection h with h1 h2;subst h1 h2;rfl
theorem F5 {ws rest:List (List UInt8)} {s:List UInt8} (hw:kO ws) (h:tH some ws=some (s,rest)):s.length<=4194304/\kO rest:=by cases ws with
 |nil=>cases h
 |cons s' r=>injection h with h;injection h with h1 h2;subst h1 h2;exact⟨hw.head,hw.tail⟩
theorem F6 [Wd]:Am 75 mF (fun b=>.list 1 (b.map af)):=by
 intro ws hw hp
 refine ak 14 [] func75 ?_
 repeat' (conv=>arg 2;whnf);first|refine aY ?_|refine aV ?_ ?_
 conv=>arg 2;whnf
 refine lU 0 KB ws hw (fun h=>hp (OK h)) fun s rest hs=>?_
 have e1:mF ws=_:=OL (p:=dU) hs
 have l1:=F5 hw hs
 have hx:=VP s l1.1
 cases hq:dU s with
 |none=>
  rw[hq] at e1
  rw[vF hq] at hx
  repeat' (conv=>arg 2;whnf);first|refine aY ?_|refine aV ?_ ?_|refine okF hx ?_|(refine eI (lB _ (fun _=>hp e1)) rfl (aa.refl _) ?_;rintro r ⟨hr,rfl⟩;cases hr;done)
 |some b=>
  rw[hq] at e1
  have jU:aq prog 12 [.str s] (.aj [.list 1 (b.map af),.bool true]):=by rw[show D.aj [.list 1 (b.map af),.bool true]=tF s by unfold tF;rw[hq]];exact hx
  repeat' (conv=>arg 2;whnf);first|refine aY ?_|refine aV ?_ ?_|refine okF jU ?_|(refine eI (lB _ (fun h=>by cases h)) rfl (aa.refl _) ?_;rintro r ⟨hr,rfl⟩)|exact bf (r:=.list 1 (b.map af)) (h':=fj rest) [0] (.inr rfl) rfl rfl ⟨⟨rfl,rfl⟩,trivial⟩ ⟨⟨rfl,rfl⟩,trivial⟩ (.refl _) ⟨_,_,e1,rfl,rfl⟩
theorem PC [Wd] (ws:List (List UInt8)) (hw:kO ws) (hp:mF ws=none->Wd.kY rq):bC prog 75 [.ptr 0 0] (fj ws) (fun r h=>∃x rest,mF ws=some (x,rest)/\((x=[]/\r=.nils/\h=fj rest)\/(x≠[]/\r=.row 1/\h=fj rest++[.row 5 1 (x.map af)]))):=by
 refine ak 14 [] func75 ?_
 repeat' (conv=>arg 2;whnf);first|refine aY ?_|refine aV ?_ ?_
 conv=>arg 2;whnf
 refine lU 0 KB ws hw (fun h=>hp (OK h)) fun s rest hs=>?_
 have e1:mF ws=_:=OL (p:=dU) hs
 have l1:=F5 hw hs
 have hx:=Vj s l1.1
 cases hq:dU s with
 |none=>
  rw[hq] at e1
  rw[CY hq] at hx
  repeat' (conv=>arg 2;whnf);first|refine aY ?_|refine aV ?_ ?_|(refine pH [] hx (.mk' rfl trivial) (aa.refl _) rfl ?_;rintro r h' ⟨rfl,rfl⟩)|(refine eI (lB _ (fun _=>hp e1)) rfl (aa.refl _) ?_;rintro r ⟨hr,rfl⟩;cases hr;done)
 |some b=>
  rw[hq] at e1
  cases b with
  |nil=>
   rw[PA hq] at hx
   repeat' (conv=>arg 2;whnf);first|refine aY ?_|refine aV ?_ ?_|(refine pH [] hx (.mk' rfl trivial) (aa.refl _) rfl ?_;rintro r h' ⟨rfl,rfl⟩)|(refine eI (lB _ (fun h=>by cases h)) rfl (aa.refl _) ?_;rintro r ⟨hr,rfl⟩)|exact bf (r:=.nils) (h':=fj rest) [0] (.inr rfl) rfl rfl ⟨⟨rfl,rfl⟩,trivial⟩ ⟨⟨rfl,rfl⟩,trivial⟩ (.refl _) ⟨_,_,e1,.inl ⟨rfl,rfl,rfl⟩⟩
  |cons z k=>
   rw[OG hq] at hx
   repeat' (conv=>arg 2;whnf);first|refine aY ?_|refine aV ?_ ?_|(refine pH [] hx (.mk' rfl trivial) (aa.refl _) rfl ?_;rintro r h' ⟨rfl,rfl⟩)|(refine eI (lB _ (fun h=>by cases h)) rfl (aa.refl _) ?_;rintro r ⟨hr,rfl⟩)|exact bf (r:=.row 1) (h':=[.cells 83 [.list 1 (cW rest)],.row 5 1 ((z::k).map af)]) [0,2] (.inr rfl) rfl rfl ⟨⟨rfl,rfl⟩,⟨rfl,rfl⟩,trivial⟩ ⟨⟨rfl,rfl⟩,trivial⟩ (.refl _) ⟨_,_,e1,.inr ⟨List.cons_ne_nil _ _,rfl,rfl⟩⟩
theorem PD {I I':Nat->Prop} [Old] {w w':World} {v:Value} {d:D} (hb:yL d=true) (h:Dr I w v d):Dr I' w' v d:=by
 cases d<;>first|(cases hb;done)|skip
 all_goals cases h;first|exact .bool _|exact .int _ _|exact .str _
theorem ahG [Wd] {P:Program} {Q:Exit->S->Prop} {f:FuncId} {ar bR:List D} {h:List AO} {c:D->List AO->T} {t:TypeId} {n:Nat} {xs:List (List D)} (fz:List Nat) (hF:bC P f ar [] (fun r h'=>r=.row 0/\h'=[.row t n xs])) (hp:ga.pl ar=true) (hc:aa (D.dj.fl h fz bR) ar) (hb:∀d∈xs.flatten,yL d=true) (k:(c (.row h.length) (h++[.row t n xs])).ok P Q):(T.call f bR h c).ok P Q:=by
 refine⟨fun r' h'=>r'=.row h.length/\h'=h++[.row t n xs],⟨hF.1,fun w I g vs hW hd ha=>?_⟩,fun r' h' ⟨e1,e2⟩=>by subst e1 e2;exact k⟩
 have hv:cJ (fun b=>I b\/gM fz g h b) g w vs (D.dj.fl h fz bR):=by
  rw[rF]
  refine⟨by rw[List.length_map];exact ha.1,fun i v d h1 h2=>?_⟩
  rw[List.getElem?_map] at h2
  cases hq:bR[i]? with
  |none=>rw[hq] at h2;cases h2
  |some d0=>
   rw[hq] at h2
   injection h2 with h2
   subst h2
   exact(ha.2 i v d0 h1 hq).dj hd (Wd.aI hW) (fun _ h=>.inl h) (fun _ h=>.inr h)
 have oY:=ur (hc.ok hv) hp
 have oV:Den (fun b=>I b\/gM fz g h b) [] w []:=⟨rfl,fun b hb=>hb.elim (hd.aG b) (fun ho=>hd.lt ho.owned),fun o ao p h1=>by simp at h1,fun o ao p b h1=>by simp at h1,fun o o' ao cA p p' b h1=>by simp at h1⟩
 refine(hF.2 w _ [] vs (Wd.cl hW (fun _ _=>rfl) (fun _ h=>.inl h)) oV oY.Ay).mono ?_
 have fu:∀b,¬dF [] [] b:=by rintro b ⟨o,ao,p,q1,_⟩;simp at q1
 rintro e w' (⟨v,I',mV,r0,h0,rfl,⟨rfl,rfl⟩,mU,rZ,hx,i1,i2,ow,ck⟩|⟨ch,rfl,hp,hx⟩)
 case inr=>exact .inr ⟨ch,rfl,hp,hx.mono (fun x _ ho=>absurd ho (fu x))⟩
 have kZ:Ext (fun _=>False) w w':=hx.mono (fun b _ hb=>fu b hb)
 obtain⟨bo,a,l,c0,hg,rfl⟩:=rZ.w9
 have hr:=mU.obj 0 (.row t n xs) _ rfl hg
 have uj:∀b,AO.owns (bo,.slice a l c0) (.row t n xs) b->w.heap.size<=b:=fun b hb=>(ow b ⟨0,_,_,rfl,hg,hb⟩).elim (fun k=>absurd k (fu b)) id
 have Tj:Ro I (g++[(bo,.slice a l c0)]) w' (bo,.slice a l c0) (.row t n xs):=by
  obtain⟨a',c',us,e1,e2,e3,e4,e5,e6⟩:=hr
  exact⟨a',c',us,e1,e2,e3,⟨e4.1,fun i v d h1 h2=>PD (hb d (List.mem_of_getElem? h2)) (e4.2 i v d h1 h2)⟩,e5,e6⟩
 refine .inl ⟨.slice a l c0,I,g++[(bo,.slice a l c0)],.row h.length,h++[.row t n xs],rfl,⟨rfl,rfl⟩,⟨(hd.ext kZ (fun _ _=>id) (fun _ _=>id)).DQ Tj (fun b hb=>⟨fun hI=>by have:=uj b hb;have:=hd.aG b hI;omega,fun ho=>by have:=uj b hb;have:=hd.lt ho;omega⟩),kZ.mono (fun _ _ h=>h.elim),fun _ h=>h,fun _ h=>.inl h,fun _ _ h=>sJ h,fun q hq _=>List.getElem?_append_left hq,fun q cA p' b hq h1 h2 h3=>⟨cA,by rw[<-h1];exact(List.getElem?_append_left hq).symm,h3⟩,fun q cA p' b hq h1 h2 h3=>?_⟩,.row h.length bo a l c0 (by rw[<-hd.len];simp)⟩
 rcases lO h1 with⟨e1,_⟩|⟨e1,k1⟩
 ·omega
 ·rcases lO h2 with⟨e2,_⟩|⟨e2,k2⟩
  ·have:=hd.len;omega
  ·subst k1 k2;exact .inr (uj b h3)
theorem ZR [Wd] {P:Program} {Q:Exit->S->Prop} {f:FuncId} {ar bR:List D} {h:List AO} {c:D->List AO->T} {t t2:TypeId} {n:Nat} {xs:List (List D)} {ds:List D} (fz:List Nat) (hF:bC P f ar [] (fun r h'=>r=.ptr 1 0/\h'=[.row t n xs,.cells t2 (.row 0::ds)])) (hp:ga.pl ar=true) (hc:aa (D.dj.fl h fz bR) ar) (hb:∀d∈xs.flatten,yL d=true) (eJ:∀d∈ds,yL d=true) (k:(c (.ptr (h.length+1) 0) (h++[.row t n xs]++[.cells t2 (.row h.length::ds)])).ok P Q):(T.call f bR h c).ok P Q:=by
 refine⟨fun r' h'=>r'=.ptr (h.length+1) 0/\h'=h++[.row t n xs]++[.cells t2 (.row h.length::ds)],⟨hF.1,fun w I g vs hW hd ha=>?_⟩,fun r' h' ⟨e1,e2⟩=>by subst e1 e2;exact k⟩
 have hv:cJ (fun b=>I b\/gM fz g h b) g w vs (D.dj.fl h fz bR):=by
  rw[rF]
  refine⟨by rw[List.length_map];exact ha.1,fun i v d h1 h2=>?_⟩
  rw[List.getElem?_map] at h2
  cases hq:bR[i]? with
  |none=>rw[hq] at h2;cases h2
  |some d0=>
   rw[hq] at h2
   injection h2 with h2
   subst h2
   exact(ha.2 i v d0 h1 hq).dj hd (Wd.aI hW) (fun _ h=>.inl h) (fun _ h=>.inr h)
 have oY:=ur (hc.ok hv) hp
 have oV:Den (fun b=>I b\/gM fz g h b) [] w []:=⟨rfl,fun b hb=>hb.elim (hd.aG b) (fun ho=>hd.lt ho.owned),fun o ao p h1=>by simp at h1,fun o ao p b h1=>by simp at h1,fun o o' ao cA p p' b h1=>by simp at h1⟩
 refine(hF.2 w _ [] vs (Wd.cl hW (fun _ _=>rfl) (fun _ h=>.inl h)) oV oY.Ay).mono ?_
 have fu:∀b,¬dF [] [] b:=by rintro b ⟨o,ao,p,q1,_⟩;simp at q1
 rintro e w' (⟨v,I',mV,r0,h0,rfl,⟨rfl,rfl⟩,mU,rZ,hx,i1,i2,ow,ck⟩|⟨ch,rfl,hp,hx⟩)
 case inr=>exact .inr ⟨ch,rfl,hp,hx.mono (fun x _ ho=>absurd ho (fu x))⟩
 have kZ:Ext (fun _=>False) w w':=hx.mono (fun b _ hb=>fu b hb)
 obtain⟨p0,p1,rfl⟩:∃p0 p1,mV=[p0,p1]:=by
  have hl:=mU.len
  match mV,hl with
  |[p0,p1],_=>exact⟨p0,p1,rfl⟩
 have uj:∀b,dF [p0,p1] [.row t n xs,.cells t2 (.row 0::ds)] b->w.heap.size<=b:=fun b hb=>(ow b hb).elim (fun k=>absurd k (fu b)) id
 obtain⟨a',c',us,e1,e2,e3,e4,e5,e6⟩:=mU.obj 0 (.row t n xs) p0 rfl rfl
 obtain⟨b1,Tk,g1,g2,g3,g4⟩:=mU.obj 1 (.cells t2 (.row 0::ds)) p1 rfl rfl
 have hlen:=hd.len
 have hr0:Ro I (g++[p0]) w' p0 (.row t n xs):=⟨a',c',us,e1,e2,e3,⟨e4.1,fun i v d h1 h2=>PD (hb d (List.mem_of_getElem? h2)) (e4.2 i v d h1 h2)⟩,e5,e6⟩
 have hdA:=(hd.ext kZ (fun _ _=>id) (fun _ _=>id)).DQ hr0 (fun b hb=>by
  have:=uj b ⟨0,_,_,rfl,rfl,hb⟩
  exact⟨fun hI=>by have:=hd.aG b hI;omega,fun ho=>by have:=hd.lt ho;omega⟩)
 have Mf:Ro I (g++[p0]++[p1]) w' p1 (.cells t2 (.row h.length::ds)):=by
  refine⟨b1,Tk,g1,g2,⟨g3.1,fun i v d h1 h2=>?_⟩,g4⟩
  cases i with
  |zero=>
   injection h2 with h2
   subst h2
   obtain⟨bo,a,l,c0,q1,rfl⟩:=(g3.2 0 v (.row 0) h1 rfl).w9
   injection q1 with q1
   exact .row h.length bo a l c0 (by rw[<-hlen,q1];simp)
  |succ i=>exact Jz (eJ d (List.mem_of_getElem? h2)) (g3.2 (i+1) v d h1 h2)
 have Tl:=hdA.DQ Mf (fun b hb=>by
  have h9:=uj b ⟨1,_,_,rfl,rfl,hb⟩
  refine⟨fun hI=>by have:=hd.aG b hI;omega,fun ho=>?_⟩
  rcases dF.push hlen ho with k|k
  ·have:=hd.lt k
   omega
  ·have:=mU.sep 0 1 _ _ _ _ b rfl rfl rfl rfl k hb
   omega)
 obtain⟨bb,bo,AK,rfl⟩:=rZ.xd
 injection AK with AK
 refine .inl ⟨_,I,g++[p0]++[p1],_,_,rfl,⟨rfl,rfl⟩,⟨Tl,kZ.mono (fun _ _ h=>h.elim),fun _ h=>h,fun _ h=>.inl h,fun _ _ h=>sJ (sJ h),fun q hq _=>by rw[List.append_assoc];exact List.getElem?_append_left hq,fun q cA p' b hq h1 h2 h3=>⟨cA,by rw[<-h1,List.append_assoc];exact(List.getElem?_append_left hq).symm,h3⟩,fun q cA p' b hq h1 h2 h3=>?_⟩,.ptr (h.length+1) 0 bb bo (by rw[<-hlen,AK];simp)⟩
 have hO:dF (g++[p0]++[p1]) (h++[.row t n xs]++[.cells t2 (.row h.length::ds)]) b:=⟨q,cA,p',h1,h2,h3⟩
 rcases dF.push (by simp[hlen]) hO with k1|k1
 ·rcases dF.push hlen k1 with k2|k2
  ·obtain⟨o2,a2,r2,s1,s2,s3⟩:=k2
   have Ei:=(List.getElem?_eq_some_iff.1 s1).1
   have:=Tl.sep q o2 cA a2 p' r2 b h1 (by rw[List.append_assoc,List.getElem?_append_left Ei];exact s1) h2 (sJ (sJ s2)) h3 s3
   omega
  ·exact .inr (uj b ⟨0,_,_,rfl,rfl,k2⟩)
 ·exact .inr (uj b ⟨1,_,_,rfl,rfl,k1⟩)
theorem BZ [Wd] {P:Program} {Q:Exit->S->Prop} {f:FuncId} {ar bR:List D} {h:List AO} {c:D->List AO->T} {r:D} (q:Nat) (hF:aq P f ar r) (hp:ga.pl ar=true) (hc:aa (D.dj.fl h [q] bR) ar) (hM:(jT h bR).elem q=true) (k:(c r (h.set q .gone)).ok P Q):(T.call f bR h c).ok P Q:=by
 have Em:q∈jT h bR:=by simpa using hM
 refine⟨fun r' h'=>r'=r/\h'=h.set q .gone,⟨hF.1,fun w I g vs hW hd ha=>?_⟩,fun r' h' ⟨e1,e2⟩=>by subst e1 e2;exact k⟩
 have hv:cJ (fun b=>I b\/gM [q] g h b) g w vs (D.dj.fl h [q] bR):=by
  rw[rF]
  refine⟨by rw[List.length_map];exact ha.1,fun i v d h1 h2=>?_⟩
  rw[List.getElem?_map] at h2
  cases hq:bR[i]? with
  |none=>rw[hq] at h2;cases h2
  |some d0=>
   rw[hq] at h2
   injection h2 with h2
   subst h2
   exact(ha.2 i v d0 h1 hq).dj hd (Wd.aI hW) (fun _ h=>.inl h) (fun _ h=>.inr h)
 have oY:=ur (hc.ok hv) hp
 have oV:Den (fun b=>I b\/gM [q] g h b) [] w []:=⟨rfl,fun b hb=>hb.elim (hd.aG b) (fun ho=>hd.lt ho.owned),fun o ao p h1=>by simp at h1,fun o ao p b h1=>by simp at h1,fun o o' ao cA p p' b h1=>by simp at h1⟩
 refine(hF.2 w _ [] vs (Wd.cl hW (fun _ _=>rfl) (fun _ h=>.inl h)) oV oY.Ay).mono ?_
 have fu:∀b,¬dF [] [] b:=by rintro b ⟨o,ao,p,q1,_⟩;simp at q1
 rintro e w' (⟨v,I',mV,r0,h0,rfl,⟨rfl,rfl⟩,mU,rZ,hx,i1,i2,ow,ck⟩|⟨ch,rfl,hp,hx⟩)
 case inr=>exact .inr ⟨ch,rfl,hp,hx.mono (fun x _ ho=>absurd ho (fu x))⟩
 have Mg:mV=[]:=List.eq_nil_of_length_eq_zero mU.len
 subst Mg
 have kZ:Ext (fun _=>False) w w':=hx.mono (fun b _ hb=>fu b hb)
 have key:∀{i:Nat} {ao:AO},(h.set q .gone)[i]?=some ao->(h[i]?=some ao/\i≠q)\/ao=.gone:=by
  intro i ao hi
  rw[List.getElem?_set] at hi
  split at hi
  ·split at hi
   ·injection hi with e
    exact .inr e.symm
   ·cases hi
  ·rename_i cu
   exact .inl ⟨hi,fun e=>cu e.symm⟩
 have xS:∀b,gM [q] g h b->gM (jT h bR) g h b:=by
  rintro b ⟨o,ao,p,hm,r1⟩
  exact⟨o,ao,p,by rw[List.mem_singleton.1 hm];exact Em,r1⟩
 have Eu:∀b,I' b->I b\/gM [q] g h b\/w.heap.size<=b:=fun b hb=>(i2 b hb).elim (fun k=>k.elim .inl (fun k=>.inr (.inl k))) (fun k=>k.elim (fun k=>absurd k (fu b)) (fun k=>.inr (.inr k)))
 have Az:∀b,I' b->¬dF g (h.set q .gone) b:=by
  rintro b hb ⟨o,ao,p,e1,e2,e3⟩
  rcases key e1 with⟨k1,k2⟩|rfl
  ·rcases Eu b hb with k|⟨o',cA,p',hm,r1,r2,r3⟩|k
   ·exact hd.own o ao p b k1 e2 e3 k
   ·exact k2 ((hd.sep o o' ao cA p p' b k1 r1 e2 r2 e3 r3).trans (List.mem_singleton.1 hm))
   ·have:=hd.lt ⟨o,ao,p,k1,e2,e3⟩
    omega
  ·exact e3.elim
 refine .inl ⟨v,I',g,r0,h.set q .gone,rfl,⟨rfl,rfl⟩,⟨((hd.drop q).ext kZ (fun _ _=>id) (fun _ _=>id)).Al (fun b hb=>i1 b (.inl hb)) mU.aG Az,kZ.mono (fun x _ h=>h.elim),fun b hb=>i1 b (.inl hb),fun b hb=>(Eu b hb).elim .inl (fun k=>k.elim (fun k=>.inr (.inl (xS b k))) (fun k=>.inr (.inr k))),fun _ _ h=>h,fun o _ hn=>?_,fun o ao q' x _ e1 e2 e3=>?_,fun o ao q' x hl e1 _ _=>?_⟩,rZ.mono (fun _ h=>h) (fun o p e=>by simp at e)⟩
 ·rw[List.getElem?_set,if_neg (fun (e:q=o)=>hn (by rw[<-e];exact Em))]
 ·rcases key e1 with⟨k1,_⟩|rfl
  ·exact⟨ao,k1,e3⟩
  ·exact e3.elim
 ·have:=(List.getElem?_eq_some_iff.1 e1).1
  rw[List.length_set] at this
  omega
theorem bC.fst [Wd] {P:Program} {f:FuncId} {ar:List D} {h:List AO} {R:D->Prop} {cZ:D->List AO->Prop} (hF:bC P f ar h cZ) (k:∀r h',cZ r h'->R r):bC P f ar h (fun r _=>R r):=by
 refine⟨hF.1,fun w I g vs hW hd ha=>(hF.2 w I g vs hW hd ha).mono ?_⟩
 rintro e w' (⟨v,I',g',r,h',e1,e2,k2⟩|k2)
 ·exact .inl ⟨v,I',g',r,h',e1,k r h' e2,k2⟩
 ·exact .inr k2
theorem abV [Wd] (z:UInt8) (k:List UInt8) (hl:(z::k).length<=4194304):bC prog 171 [.list 1 ((z::k).map af)] [] (fun r h=>r=.row 0/\h=[.row 5 1 ((z::k).map af)]):=by
 refine kK false 8 [] func171 ?_
 repeat' (conv=>arg 2;whnf);first|refine aT (by constructor<;>(simp only[List.length_cons,List.length_nil,List.length_map,maxLen] at hl ⊢;omega)) ?_|exact mL [1] (.inr rfl) rfl rfl ⟨⟨rfl,rfl⟩,trivial⟩ trivial (.refl _)
theorem WJ (l:List UInt8):∀d∈(l.map af).flatten,yL d=true:=by
 intro d hd
 obtain⟨x,hx,hd⟩:=List.mem_flatten.1 hd
 obtain⟨y,_,rfl⟩:=List.mem_map.1 hx
 rw[List.mem_singleton.1 hd]
 rfl
theorem abW [Wd] (z:UInt8) (k:List UInt8) (hl:(z::k).length<=4194304):bC prog 118 [.list 1 ((z::k).map af)] [] (fun r h=>r=.ptr 1 0/\h=[.row 5 1 ((z::k).map af),.cells 235 [.row 0,.int .i64 0,.bool true]]):=by
 refine kK false 7 [] func118 ?_
 repeat' (conv=>arg 2;whnf);first|refine cV [] (abV z k hl) ?_|exact mL [0,1] (.inr rfl) rfl rfl ⟨⟨rfl,rfl⟩,⟨rfl,rfl⟩,trivial⟩ trivial (.refl _)
theorem XZ [Wd] (bs:List UInt8) (hl:bs.length<=8388609) (h:dA (eF (bs,0)).2=0):aq prog 74 [.list 1 (bs.map af)] (.aj [.agg (cC (eF (bs,0)).1),.int .i64 0]):=by
 obtain⟨o,b2,e2,q2,l2⟩:=Rd1.get DE (bs,0)
 have h2:b2.length<=8388609:=Nat.le_trans l2 hl
 rw[q2] at h ⊢
 replace h:dA (b2,e2)=0:=h
 refine ak 18 [] func74 ?_
 repeat' (conv=>arg 2;whnf);first|refine cV [] (zC bs hl) ?_|refine aX 1 (fun x=>D.agg (cC x)) q2 J9 hl ?_|refine cE 1 (b2,e2) (b2,e2) (.int .i64 0) Bt h2 rfl (by rw[h]) ?_|refine cg
theorem X1 [Wd] (bs:List UInt8) (hl:bs.length<=8388609) (h:¬dA (eF (bs,0)).2=0):aq prog 74 [.list 1 (bs.map af)] (.aj [.agg (cC dW),.int .i64 (dA (eF (bs,0)).2)]):=by
 obtain⟨o,b2,e2,q2,l2⟩:=Rd1.get DE (bs,0)
 have h2:b2.length<=8388609:=Nat.le_trans l2 hl
 rw[q2] at h ⊢
 obtain⟨d,hd⟩:∃d,d=dA (b2,e2):=⟨_,rfl⟩
 replace h:¬d=0:=by rw[hd];exact h
 rw[show dA (o,b2,e2).2=d from hd.symm]
 refine ak 18 [] func74 ?_
 repeat' (conv=>arg 2;whnf);first|refine bY (by simpa using h) ?_|refine cV [] (zC bs hl) ?_|refine aX 1 (fun x=>D.agg (cC x)) q2 J9 hl ?_|refine cE 1 (b2,e2) (b2,e2) (.int .i64 d) Bt h2 rfl (by rw[hd]) ?_|refine G5
theorem RB {c c1 c2:List UInt8} {n1 n2 e1 e2:Int} (q1:nR MB (c,0)=(n1,(c1,e1))) (q2:nR MB (c1,e1)=(n2,(c2,e2))):nV c=if dA (c2,e2)=0 then some ⟨n1,n2⟩ else none:=by
 unfold nV
 rw[q1]
 simp only
 rw[q2]
def oR (b:List UInt8):lW aD:=fC mF fun c=>fC (uL (nV c)) fun s=>uL (uM b s)
theorem OM {b:List UInt8} {ws:List (List UInt8)} (h:mF ws=none):oR b ws=none:=lN h
theorem PE {b c:List UInt8} {ws r:List (List UInt8)} (h:mF ws=some (c,r)) (hs:nV c=none):oR b ws=none:=by
 unfold oR
 rw[fO h]
 exact lN (by rw[hs];rfl)
theorem ON {b c:List UInt8} {ws r:List (List UInt8)} {s:bJ} (h:mF ws=some (c,r)) (hs:nV c=some s):oR b ws=(uM b s).map fun m=>(m,r):=by
 unfold oR
 rw[fO h,fO (x:=s) (r:=r) (by rw[hs];rfl)]
 rfl
theorem Gr {b:List UInt8} {s:bJ} (h:(cS aU aE (pT b)).2=0):uM b s=some (kJ (cS aU aE (pT b)).1 s):=if_pos h
theorem Gs {b:List UInt8} {s:bJ} (h:¬(cS aU aE (pT b)).2=0):uM b s=none:=if_neg h
theorem Oc:∀(n:Nat) (r bs:List UInt8),r.length<=n->pO r=some bs->2*bs.length<=r.length
 |0,r,bs,hn,h=>by
  cases r with
  |nil=>injection h with h;subst h;simp
  |cons x r=>simp at hn
 |n+1,[],bs,hn,h=>by injection h with h;subst h;simp
 |n+1,[x],bs,hn,h=>by cases h
 |n+1,x::y::r,bs,hn,h=>by
  unfold pO at h
  split at h
  ·rw[Option.map_eq_some_iff] at h
   obtain⟨c,hc,rfl⟩:=h
   have:=Oc n r c (by simp at hn;omega) hc
   simp;omega
  ·cases h
theorem PF {s bs:List UInt8} (h:dU s=some bs):2*bs.length<=s.length:=by
 cases s with
 |nil=>cases h
 |cons x r=>
  simp only[dU] at h
  split at h
  ·have:=Oc _ r bs (Nat.le_refl _) h
   simp;omega
  ·cases h
theorem Db {ws r:List (List UInt8)} {b:List UInt8} (hw:kO ws) (h:mF ws=some (b,r)):b.length<=2097152:=by
 cases ws with
 |nil=>cases h
 |cons s r'=>
  have h2:(dU s).map (fun x=>(x,r'))=some (b,r):=h
  cases hq:dU s with
  |none=>rw[hq] at h2;cases h2
  |some x=>
   rw[hq] at h2
   injection h2 with h2
   injection h2 with h2 _
   subst h2
   have:=hw.head
   have:=PF hq
   omega
theorem QV {z:UInt8} {k:List UInt8}:(z::k).map af++[[.int .u8 0],[.int .u8 1]]=((z::k)++[0,1]).map af:=by rw[List.map_append];rfl
theorem QW {b b3:List UInt8} {n e3:Int} (q:nR 65536 (b,0)=(n,(b3,e3))) (h:mO n=true):pT b=b:=by unfold pT;rw[q];exact if_pos h
theorem QX {b b3:List UInt8} {n e3:Int} (q:nR 65536 (b,0)=(n,(b3,e3))) (h:mO n=false):pT b=b++[0,1]:=by unfold pT;rw[q];exact if_neg (by rw[h];decide)
theorem ZS [Wd] (b:List UInt8) (hb:b.length<=2097152) (r1:List (List UInt8)) (y8:kO r1) (hp:oR b r1=none->Wd.kY rq) (ws:List (List UInt8)) (hw:kO ws) (eb:mF ws=some (b,r1)):bC prog 76 [.ptr 0 0] (fj ws) (fun r h=>∃x rest,oR b r1=some (x,rest)/\r=.agg (aC x)/\h=fj rest):=by
 refine kK false 45 [] func76 ?_
 repeat' (conv=>arg 2;whnf);first|refine aY ?_|refine aV ?_ ?_
 conv=>arg 2;whnf
 refine pH [0] (PC ws hw (fun h=>by rw[eb] at h;cases h)) (.mk' rfl ⟨⟨rfl,rfl⟩,trivial⟩) (aa.refl _) rfl ?_
 rintro r h' ⟨b',r1',AL,K0⟩
 rw[eb] at AL
 injection AL with AL
 injection AL with e1 e2
 subst e1 e2
 rcases K0 with⟨rfl,rfl,rfl⟩|⟨cu,rfl,rfl⟩
 ·repeat'
   (conv=>arg 2;whnf)
   first|refine aY ?_|refine aV ?_ ?_
  conv=>arg 2;whnf
  refine lU 0 F6 r1 y8 (fun h=>hp (OM h)) fun c r2 ec=>?_
  have hc:c.length<=2097152:=Db y8 ec
  obtain⟨n1,c1,e1,q1,l1⟩:=Rd1.get (dD MB) (c,0)
  replace l1:c1.length<=c.length:=l1
  have h1:c1.length<=8388609:=by omega
  obtain⟨n2,c2,e2,q2,l2⟩:=Rd1.get (dD MB) (c1,e1)
  replace l2:c2.length<=c1.length:=l2
  have h2:c2.length<=8388609:=by omega
  have i1:=qN q1
  have i2:=qN q2
  have Mh:((MB:Nat):Int)=9223372036854775807:=rfl
  rw[Mh] at i1 i2
  have tZ:=RB q1 q2
  obtain⟨d,hd⟩:∃d,d=dA (c2,e2):=⟨_,rfl⟩
  rw[<-hd] at tZ
  obtain⟨n,b3,e3,q3,l3⟩:=Rd1.get (dD 65536) ([],0)
  have i3:=qN q3
  replace i3:0<=n/\n<=65536:=i3
  repeat' (conv=>arg 2;whnf);first|refine gJ ?_|refine cV [] (zC c (Nat.le_trans hc (by decide))) ?_|refine aX 4 (fun x=>D.int .u64 x) q1 (gF MB) (Nat.le_trans hc (by decide)) ?_|refine aX 4 (fun x=>D.int .u64 x) q2 (gF MB) h1 ?_|refine cE 4 (c2,e2) (c2,e2) (.int .i64 d) Bt h2 rfl (by rw[hd]) ?_
  by_cases hz:d=0
  case neg=>
   rw[if_neg hz] at tZ
   repeat' (conv=>arg 2;whnf);first|(refine eI (lB _ (fun _=>hp (PE ec tZ))) rfl (aa.refl _) ?_;rintro r ⟨hr,rfl⟩;exact absurd (by simpa using hr) hz)
  rw[if_pos hz] at tZ
  have hM:=ON (b:=[]) ec tZ
  have Mi:((d==0)=false->Wd.kY rq):=fun h=>absurd hz (by simpa using h)
  repeat' (conv=>arg 2;whnf);first|(refine eI (lB _ Mi) rfl (aa.refl _) ?_;rintro r ⟨hr,rfl⟩)|refine mA [] (zC [] (Nat.zero_le _)) (.mk' rfl trivial) (.cons (.nil _) .nil) rfl ?_|refine aX 9 (fun x=>D.int .u64 x) q3 (gF 65536) (Nat.zero_le _) ?_
  repeat' (conv=>arg 2;whnf);first|refine gJ ?_|refine okF (CX n) ?_
  cases hf:mO n
  ·have hB:pT []=[]++[0,1]:=QX q3 hf
   obtain⟨X,hX⟩:∃X,X=cS aU aE ([]++[0,1]):=⟨_,rfl⟩
   have HP:=FO ([]++[0,1]) (by decide)
   rw[<-hX] at HP
   by_cases iA:X.2=0
   ·have nB:oR [] r1=some (kJ X.1 ⟨n1,n2⟩,r2):=by rw[hM,Gr (by rw[hB,<-hX];exact iA),hB,<-hX];rfl
    have AM:=F4 X.1 ⟨n1,n2⟩ (by rw[hX] at iA ⊢;exact zR iA) (by rw[hX] at iA ⊢;exact Gp iA)
    repeat' (conv=>arg 2;whnf);first|refine aT (by constructor<;>(simp only[List.length_cons,List.length_nil,maxLen] at hb ⊢;omega)) ?_|refine BZ 12 HP rfl (aa.refl _) rfl ?_|(refine eI (lB _ (fun h=>absurd iA (by simpa using h))) rfl (aa.refl _) ?_;rintro r ⟨hr,rfl⟩)|refine okF AM ?_|exact bf (r:=.agg (aC (kJ X.1 ⟨n1,n2⟩))) (h':=fj r2) [0] (.inr rfl) rfl rfl ⟨⟨rfl,rfl⟩,trivial⟩ ⟨⟨rfl,rfl⟩,trivial⟩ (.refl _) ⟨_,_,nB,rfl,rfl⟩
   ·have nB:oR [] r1=none:=by rw[hM,Gs (by rw[hB,<-hX];exact iA)];rfl
    repeat' (conv=>arg 2;whnf);first|refine aT (by constructor<;>(simp only[List.length_cons,List.length_nil,maxLen] at hb ⊢;omega)) ?_|refine BZ 12 HP rfl (aa.refl _) rfl ?_|(refine eI (lB _ (fun _=>hp nB)) rfl (aa.refl _) ?_;rintro r ⟨hr,rfl⟩;exact absurd (by simpa using hr) iA)
  ·have hB:pT []=[]:=QW q3 hf
   obtain⟨X,hX⟩:∃X,X=cS aU aE ([]):=⟨_,rfl⟩
   have HP:=FO ([]) (by decide)
   rw[<-hX] at HP
   by_cases iA:X.2=0
   ·have nB:oR [] r1=some (kJ X.1 ⟨n1,n2⟩,r2):=by rw[hM,Gr (by rw[hB,<-hX];exact iA),hB,<-hX];rfl
    have AM:=F4 X.1 ⟨n1,n2⟩ (by rw[hX] at iA ⊢;exact zR iA) (by rw[hX] at iA ⊢;exact Gp iA)
    repeat' (conv=>arg 2;whnf);first|refine iU HP (.cons (.nil _) .nil) ?_|(refine eI (lB _ (fun h=>absurd iA (by simpa using h))) rfl (aa.refl _) ?_;rintro r ⟨hr,rfl⟩)|refine okF AM ?_|exact bf (r:=.agg (aC (kJ X.1 ⟨n1,n2⟩))) (h':=fj r2) [0] (.inr rfl) rfl rfl ⟨⟨rfl,rfl⟩,trivial⟩ ⟨⟨rfl,rfl⟩,trivial⟩ (.refl _) ⟨_,_,nB,rfl,rfl⟩
   ·have nB:oR [] r1=none:=by rw[hM,Gs (by rw[hB,<-hX];exact iA)];rfl
    repeat' (conv=>arg 2;whnf);first|refine iU HP (.cons (.nil _) .nil) ?_|(refine eI (lB _ (fun _=>hp nB)) rfl (aa.refl _) ?_;rintro r ⟨hr,rfl⟩;exact absurd (by simpa using hr) iA)
 ·obtain⟨z,k,rfl⟩:∃z k,b=z::k:=by cases b with
   |nil=>exact absurd rfl cu
   |cons z k=>exact⟨z,k,rfl⟩
  repeat' (conv=>arg 2;whnf);first|refine aY ?_|refine aV ?_ ?_
  conv=>arg 2;whnf
  refine lU 0 F6 r1 y8 (fun h=>hp (OM h)) fun c r2 ec=>?_
  have hc:c.length<=2097152:=Db y8 ec
  obtain⟨n1,c1,e1,q1,l1⟩:=Rd1.get (dD MB) (c,0)
  replace l1:c1.length<=c.length:=l1
  have h1:c1.length<=8388609:=by omega
  obtain⟨n2,c2,e2,q2,l2⟩:=Rd1.get (dD MB) (c1,e1)
  replace l2:c2.length<=c1.length:=l2
  have h2:c2.length<=8388609:=by omega
  have i1:=qN q1
  have i2:=qN q2
  have Mh:((MB:Nat):Int)=9223372036854775807:=rfl
  rw[Mh] at i1 i2
  have tZ:=RB q1 q2
  obtain⟨d,hd⟩:∃d,d=dA (c2,e2):=⟨_,rfl⟩
  rw[<-hd] at tZ
  obtain⟨n,b3,e3,q3,l3⟩:=Rd1.get (dD 65536) (z::k,0)
  have i3:=qN q3
  replace i3:0<=n/\n<=65536:=i3
  repeat' (conv=>arg 2;whnf);first|refine gJ ?_|refine cV [] (zC c (Nat.le_trans hc (by decide))) ?_|refine aX 5 (fun x=>D.int .u64 x) q1 (gF MB) (Nat.le_trans hc (by decide)) ?_|refine aX 5 (fun x=>D.int .u64 x) q2 (gF MB) h1 ?_|refine cE 5 (c2,e2) (c2,e2) (.int .i64 d) Bt h2 rfl (by rw[hd]) ?_
  by_cases hz:d=0
  case neg=>
   rw[if_neg hz] at tZ
   repeat' (conv=>arg 2;whnf);first|(refine eI (lB _ (fun _=>hp (PE ec tZ))) rfl (aa.refl _) ?_;rintro r ⟨hr,rfl⟩;exact absurd (by simpa using hr) hz)
  rw[if_pos hz] at tZ
  have hM:=ON (b:=(z::k)) ec tZ
  have Mi:((d==0)=false->Wd.kY rq):=fun h=>absurd hz (by simpa using h)
  have hN3:bC prog 121 [.ptr 0 0,.int .u64 65536] [.cells 235 [.list 1 ((z::k).map af),.int .i64 0,.bool true]] (fun r _=>r=.int .u64 n):=((gF 65536) (z::k,0) (Nat.le_trans hb (by decide))).fst (fun r h' h=>by rw[h.1];exact congrArg (fun r:Int×RS=>D.int .u64 r.1) q3)
  repeat' (conv=>arg 2;whnf);first|(refine eI (lB _ Mi) rfl (aa.refl _) ?_;rintro r ⟨hr,rfl⟩)|refine ZR [3] (abW z k (Nat.le_trans hb (by decide))) rfl (aa.refl _) (WJ _) (by intro d hd;simp at hd;rcases hd with rfl|rfl<;>rfl) ?_
  conv=>arg 2;whnf
  refine ade (R:=fun r=>r=.int .u64 n) [10] 11 rfl rfl (aa.refl _) rfl hN3 (aa.refl _) rfl (fun r h=>by rw[h];rfl) (fun r er=>?_)
  subst er
  repeat' (conv=>arg 2;whnf);first|refine gJ ?_|refine okF (CX n) ?_
  cases hf:mO n
  ·have hB:pT (z::k)=(z::k)++[0,1]:=QX q3 hf
   obtain⟨X,hX⟩:∃X,X=cS aU aE ((z::k)++[0,1]):=⟨_,rfl⟩
   have HP:=FO ((z::k)++[0,1]) (by simp at hb ⊢;omega)
   rw[<-hX] at HP
   by_cases iA:X.2=0
   ·have nB:oR (z::k) r1=some (kJ X.1 ⟨n1,n2⟩,r2):=by rw[hM,Gr (by rw[hB,<-hX];exact iA),hB,<-hX];rfl
    have AM:=F4 X.1 ⟨n1,n2⟩ (by rw[hX] at iA ⊢;exact zR iA) (by rw[hX] at iA ⊢;exact Gp iA)
    repeat' (conv=>arg 2;whnf);first|refine aT (by constructor<;>(simp only[List.length_cons,List.length_nil,List.length_map,maxLen] at hb ⊢;omega)) ?_|refine BZ 13 HP rfl (.cons (Co.of_eq (congrArg (D.list 1) QV)) .nil) rfl ?_|(refine eI (lB _ (fun h=>absurd iA (by simpa using h))) rfl (aa.refl _) ?_;rintro r ⟨hr,rfl⟩)|refine okF AM ?_|exact bf (r:=.agg (aC (kJ X.1 ⟨n1,n2⟩))) (h':=fj r2) [0] (.inr rfl) rfl rfl ⟨⟨rfl,rfl⟩,trivial⟩ ⟨⟨rfl,rfl⟩,trivial⟩ (.refl _) ⟨_,_,nB,rfl,rfl⟩
   ·have nB:oR (z::k) r1=none:=by rw[hM,Gs (by rw[hB,<-hX];exact iA)];rfl
    repeat' (conv=>arg 2;whnf);first|refine aT (by constructor<;>(simp only[List.length_cons,List.length_nil,List.length_map,maxLen] at hb ⊢;omega)) ?_|refine BZ 13 HP rfl (.cons (Co.of_eq (congrArg (D.list 1) QV)) .nil) rfl ?_|(refine eI (lB _ (fun _=>hp nB)) rfl (aa.refl _) ?_;rintro r ⟨hr,rfl⟩;exact absurd (by simpa using hr) iA)
  ·have hB:pT (z::k)=(z::k):=QW q3 hf
   obtain⟨X,hX⟩:∃X,X=cS aU aE ((z::k)):=⟨_,rfl⟩
   have HP:=FO ((z::k)) (by simp at hb ⊢;omega)
   rw[<-hX] at HP
   by_cases iA:X.2=0
   ·have nB:oR (z::k) r1=some (kJ X.1 ⟨n1,n2⟩,r2):=by rw[hM,Gr (by rw[hB,<-hX];exact iA),hB,<-hX];rfl
    have AM:=F4 X.1 ⟨n1,n2⟩ (by rw[hX] at iA ⊢;exact zR iA) (by rw[hX] at iA ⊢;exact Gp iA)
    repeat' (conv=>arg 2;whnf);first|refine BZ 3 HP rfl (aa.refl _) rfl ?_|(refine eI (lB _ (fun h=>absurd iA (by simpa using h))) rfl (aa.refl _) ?_;rintro r ⟨hr,rfl⟩)|refine okF AM ?_|exact bf (r:=.agg (aC (kJ X.1 ⟨n1,n2⟩))) (h':=fj r2) [0] (.inr rfl) rfl rfl ⟨⟨rfl,rfl⟩,trivial⟩ ⟨⟨rfl,rfl⟩,trivial⟩ (.refl _) ⟨_,_,nB,rfl,rfl⟩
   ·have nB:oR (z::k) r1=none:=by rw[hM,Gs (by rw[hB,<-hX];exact iA)];rfl
    repeat' (conv=>arg 2;whnf);first|refine BZ 3 HP rfl (aa.refl _) rfl ?_|(refine eI (lB _ (fun _=>hp nB)) rfl (aa.refl _) ?_;rintro r ⟨hr,rfl⟩;exact absurd (by simpa using hr) iA)
end Go.Proofs.YtafomdobfmmleaaGreatDoor
