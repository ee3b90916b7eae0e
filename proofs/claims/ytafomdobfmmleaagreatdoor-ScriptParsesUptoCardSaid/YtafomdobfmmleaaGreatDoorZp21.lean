/- Lemmas and contracts, part 21. -/
import Derived.Test.YtafomdobfmmleaaGreatDoorZp20
import Derived.Lib.ItoaLen
import Derived.Deep.Light
import Derived.Deep.QuietTactic
import Derived.BigQuiet
namespace Go.Proofs.YtafomdobfmmleaaGreatDoor
set_option linter.unusedVariables false
open Go.RowKit
open Go.Proofs.Tryz
set_option maxRecDepth 20000
set_option maxHeartbeats 20000000
section
open Go.RowKit Go.Deep
theorem iF.one {aG:Nat->Prop} {w:World} {cs:List Value} {x:bK} (h:iF.rd aG w cs x):cs.toArray.size=40/\cs.toArray.all (·.oneCell')=true:=by
 obtain⟨oc,b,mc,rfl,TD,ho,hb,hm⟩:=iF.Sd h
 have h1:=mW.one ho
 have h2:=jE.one hm
 have l1:oc.length=5:=mW.len ho
 have l2:mc.length=30:=by have:=jE.len hm;simpa using this
 obtain⟨u,hu,kC,_⟩:=hb
 injection hu with hu _
 subst hu
 obtain⟨A1,c1,e1⟩:=kC.rd.slice
 subst e1
 refine⟨by simp[xF,l1,l2],?_⟩
 simp only[List.all_toArray,xF,List.all_append,List.all_eq_true.2 h1,List.all_eq_true.2 h2]
 simp[Value.oneCell']
theorem Jm (M:Nat):∀l:List (List UInt8),(∀y∈l,y.length<=M)->(kW l).length<=l.length*(M+1)
 |[],_=>by simp[kW]
 |[x],h=>by have:=h x (by simp);simp[kW];omega
 |x::y::r,h=>by
  have h1:=h x (by simp)
  have h2:=Jm M (y::r) (fun z hz=>h z (by simp[hz]))
  simp only[kW,List.length_append,List.length_cons] at h2 ⊢
  rw[Nat.add_mul (r.length+1) 1,Nat.one_mul]
  omega
theorem acA (n:Nat) (s:Bool):(pZ n s).length<=10:=by
 unfold pZ
 split
 all_goals first|(simp[pF,pQ,pG,pR,pM,mR,pS,nL,pN,nP,ni];done)|(cases s<;>simp[mP,nQ])
theorem Yj {aG:Nat->Prop} {w:World} {cs:List Value} {x:bK} (hx:iF.rd aG w cs x) (hk:zX x):(∀y∈jf x,y.length<=8388610)/\(jf x).length<=4:=by
 obtain⟨oc,b,mc,rfl,⟨b1,b2,b3⟩,ho,hb,hm⟩:=iF.Sd hx
 obtain⟨hr,h6,iG⟩:=hk
 have i1:=Lib.itoa_length_le x.bA b2.1 b2.2
 have i2:=Lib.itoa_length_le x.num b3.1 b3.2
 have hy:=tY.le hb
 unfold jf
 constructor
 ·intro y lZ
  rcases List.mem_cons.1 lZ with rfl|lZ
  ·have:=acA x.kind.toNat x.jN;omega
  ·unfold pX at lZ
   split at lZ
   ·simp at lZ;subst lZ;omega
   split at lZ
   ·simp at lZ;subst lZ;omega
   split at lZ
   ·rename_i k6
    simp at lZ
    rcases lZ with rfl|rfl
    ·omega
    ·exact FQ _ 0 (by have:=zo (h6 k6);omega)
   split at lZ
   ·simp at lZ;rcases lZ with rfl|rfl<;>omega
   split at lZ
   ·simp at lZ;subst lZ;exact FQ _ 0 hy
   split at lZ
   ·rename_i oU
    have hw:=iG oU
    have hu:=so (nG (oA hw.1.1))
    rw[wM] at hu
    have ob:=ady hm
    simp[ny,nu] at lZ
    rcases lZ with rfl|rfl|rfl
    ·omega
    ·exact FQ _ 0 (by omega)
    ·have e1:=kV (cI x.msg).key.toNat (by omega)
     have e2:=kV (cI x.msg).ah.toNat (by omega)
     exact FQ _ 0 (by rw[List.length_append];omega)
   ·simp at lZ
 ·unfold pX
  repeat' split
  all_goals simp[ny]
theorem Yk {aG:Nat->Prop} {w:World} {cs:List Value} {x:bK} (hx:iF.rd aG w cs x) (hk:zX x):(j0 x).length<=33554448:=by
 obtain⟨h1,h2⟩:=Yj hx hk
 have:=Jm 8388610 (jf x) h1
 have h3:(jf x).length*(8388610+1)<=4*(8388610+1):=Nat.mul_le_mul_right _ h2
 unfold j0
 omega
def FR (w:World) (x:bK) (r:Ending) (w':World):Prop:=open Classical in
 (r=if kH x then .returned (.tuple #[.string (aA (j0 x)),.int .i64 0]) else .returned (.tuple #[.string ⟨#[]⟩,.int .i64 1]))/\B w w'
end
section
open Go.RowKit Go.Deep
def KT:List UInt8:=[119,111,114,108,100]
def vY (s:sW):List (List UInt8):=[KT,Lib.itoa s.f,Lib.itoa s.jP,Lib.itoa s.jC,Lib.itoa s.room,s.av]
def pP (s:sW):List UInt8:=kW (vY s)
theorem Rf {x:Int} (h:0<=x/\x<=9223372036854775807):IntKind.i64.wrap x=x:=by
 simp[IntKind.wrap,IntKind.signed,IntKind.bits];omega
theorem Oi {aG:Nat->Prop} {w:World} {cs:List Value} {s:sW} (h:nN.rd aG w cs s):(pP s).length<=30000000:=by
 obtain⟨_,b1,b2,b3,b4,b5⟩:=nN.parts h
 have i1:=Lib.itoa_length_le s.f b1.1 b1.2
 have i2:=Lib.itoa_length_le s.jP (by omega) (by omega)
 have i3:=Lib.itoa_length_le s.jC (by omega) (by omega)
 have i4:=Lib.itoa_length_le s.room b4.1 b4.2
 have:=Jm 4194304 (vY s) (by
  intro y hy
  simp only[vY,List.mem_cons,List.not_mem_nil,or_false] at hy
  rcases hy with rfl|rfl|rfl|rfl|rfl|rfl
  ·simp[KT]
  all_goals omega)
 unfold pP
 have e:(vY s).length=6:=rfl
 rw[e] at this
 omega
set_option maxRecDepth 20000 in
set_option maxHeartbeats 20000000 in
theorem aau {aG:Nat->Prop} {w:World} {cs:List Value} {s:sW} (h:nN.rd aG w cs s) (hk:jg s.av=false):
 Calls prog 8 #[.agg cs.toArray] w fun r w'=>r=.returned (.tuple #[.string ⟨#[]⟩,.int .i64 1])/\B w w':=by
 obtain⟨rfl,b1,b2,b3,b4,b5⟩:=nN.parts h
 have HN:=Lib.hid (fun w'=>KE w' s.av b5)
 rw[hk] at HN
 have HS:=Lib.hid (gK.new (St.nil w) 25 #[.int .i64 s.f,.int .u16 s.jP,.int .u16 s.jC,.int .i64 s.room,.string (aA s.av)])
 clear h hk
 go_enter func8,ntmps8
 go_wp2_with (first|(go_at_call 27;(with_reducible refine qC (HN.out _) ?_);rintro r w1 ⟨rfl,hb⟩;replace HS:=Lib.hid (HS.out.on.later hb);clear hb)|fail)
 go_ret2
 exact⟨rfl,HS.out.b⟩
set_option maxRecDepth 20000 in
set_option maxHeartbeats 20000000 in
theorem aav {aG:Nat->Prop} {w:World} {cs:List Value} {s:sW} (hT:qT w) (h:nN.rd aG w cs s) (hk:jg s.av=true):
 Calls prog 8 #[.agg cs.toArray] w fun r w'=>r=.returned (.tuple #[.string (aA (pP s)),.int .i64 0])/\B w w':=by
 have HJ:=Lib.hid (show(kW (vY s)).length<=140737488355328 from by have:=Oi h;unfold pP at this;omega)
 obtain⟨rfl,b1,b2,b3,b4,b5⟩:=nN.parts h
 have HN:=Lib.hid (fun w'=>KE w' s.av b5)
 rw[hk] at HN
 have HS:=Lib.hid (gK.new (St.nil w) 25 #[.int .i64 s.f,.int .u16 s.jP,.int .u16 s.jC,.int .i64 s.room,.string (aA s.av)])
 have HT:=Lib.hid hT
 have Cr:=Lib.hid b1
 have Nf:=Lib.hid b2
 have Ng:=Lib.hid b3
 have zj:=Lib.hid b4
 have w1k:IntKind.i64.wrap s.jP=s.jP:=Rf (by omega)
 have w2k:IntKind.i64.wrap s.jC=s.jC:=Rf (by omega)
 clear h hk hT
 go_enter func8,ntmps8
 go_wp2_with (first|(go_at_call 27;(with_reducible refine qC (HN.out _) ?_);rintro r w1 ⟨rfl,hb⟩;replace HS:=Lib.hid (HS.out.on.later hb);clear hb)|fail)
 have HSW:=HS
 obtain⟨SS,H0,A3,yc,A4⟩:∃SS:World->Prop,SS w1.drew/\(∀w',SS w'->B w w')/\(∀w' y4,SS w'->B w' y4->SS y4)/\(∀w',SS w'->dR w' w.heap.size 25 #[.int .i64 s.f,.int .u16 s.jP,.int .u16 s.jC,.int .i64 s.room,.string (aA s.av)]):=
  ⟨fun w'=>B w1 w',(Below.refl _ _).drew,fun w' hb=>HS.out.b.trans hb,fun w' y4 h1 h2=>h1.trans h2,fun w' hb=>gK.get (HS.out.later hb)⟩
 replace H0:=Lib.hid H0
 replace A3:=Lib.hid A3
 replace yc:=Lib.hid yc
 replace A4:=Lib.hid A4
 clear HS HSW
 refine wp_region_held_drew (S:=SS) (by kernel_rfl) H0.out (fun HS=>?_)
 replace HS:=Lib.hid HS
 generalize World.drew _=W1 at*
 refine qm (i:=0) (d:=some 8) (v:=.pointer (some ⟨w.heap.size,0,none⟩)) rfl rfl (by kernel_rfl) (by kernel_rfl) (by kernel_rfl) (fun _ _ _ h=>h) rfl (fun w' hS=>by go_simp) HS.out ?_
 simp only[Act.put,List.setIfInBounds_toArray,List.set_cons_zero,List.set_cons_succ]
 refine qm (i:=1) (d:=some 9) (v:=.int .i64 s.f) rfl rfl (by kernel_rfl) (by kernel_rfl) (by kernel_rfl) (fun _ _ _ h=>h) rfl (fun w' hS=>by exact CQ (ty:=3) rfl rfl (DR (by rw[(A4.out w' hS).cell 0];rfl) underlying3 rfl)) HS.out ?_
 simp only[Act.put,List.setIfInBounds_toArray,List.set_cons_zero,List.set_cons_succ]
 refine qm (i:=3) (d:=some 11) (v:=.pointer (some ⟨w.heap.size,1,none⟩)) rfl rfl (by kernel_rfl) (by kernel_rfl) (by kernel_rfl) (fun _ _ _ h=>h) rfl (fun w' hS=>by go_simp) HS.out ?_
 simp only[Act.put,List.setIfInBounds_toArray,List.set_cons_zero,List.set_cons_succ]
 refine qm (i:=4) (d:=some 12) (v:=.int .u16 s.jP) rfl rfl (by kernel_rfl) (by kernel_rfl) (by kernel_rfl) (fun _ _ _ h=>h) rfl (fun w' hS=>by exact CQ (ty:=23) rfl rfl (DR (by rw[(A4.out w' hS).cell 1];rfl) underlying23 rfl)) HS.out ?_
 simp only[Act.put,List.setIfInBounds_toArray,List.set_cons_zero,List.set_cons_succ]
 refine qm (i:=5) (d:=some 13) (v:=.int .i64 s.jP) rfl rfl (by kernel_rfl) (by kernel_rfl) (by kernel_rfl) (fun _ _ _ h=>h) rfl (fun w' hS=>by go_simp) HS.out ?_
 simp only[Act.put,List.setIfInBounds_toArray,List.set_cons_zero,List.set_cons_succ]
 refine qm (i:=7) (d:=some 15) (v:=.pointer (some ⟨w.heap.size,2,none⟩)) rfl rfl (by kernel_rfl) (by kernel_rfl) (by kernel_rfl) (fun _ _ _ h=>h) rfl (fun w' hS=>by go_simp) HS.out ?_
 simp only[Act.put,List.setIfInBounds_toArray,List.set_cons_zero,List.set_cons_succ]
 refine qm (i:=8) (d:=some 16) (v:=.int .u16 s.jC) rfl rfl (by kernel_rfl) (by kernel_rfl) (by kernel_rfl) (fun _ _ _ h=>h) rfl (fun w' hS=>by exact CQ (ty:=23) rfl rfl (DR (by rw[(A4.out w' hS).cell 2];rfl) underlying23 rfl)) HS.out ?_
 simp only[Act.put,List.setIfInBounds_toArray,List.set_cons_zero,List.set_cons_succ]
 refine qm (i:=9) (d:=some 17) (v:=.int .i64 s.jC) rfl rfl (by kernel_rfl) (by kernel_rfl) (by kernel_rfl) (fun _ _ _ h=>h) rfl (fun w' hS=>by go_simp) HS.out ?_
 simp only[Act.put,List.setIfInBounds_toArray,List.set_cons_zero,List.set_cons_succ]
 refine qm (i:=11) (d:=some 19) (v:=.pointer (some ⟨w.heap.size,3,none⟩)) rfl rfl (by kernel_rfl) (by kernel_rfl) (by kernel_rfl) (fun _ _ _ h=>h) rfl (fun w' hS=>by go_simp) HS.out ?_
 simp only[Act.put,List.setIfInBounds_toArray,List.set_cons_zero,List.set_cons_succ]
 refine qm (i:=12) (d:=some 20) (v:=.int .i64 s.room) rfl rfl (by kernel_rfl) (by kernel_rfl) (by kernel_rfl) (fun _ _ _ h=>h) rfl (fun w' hS=>by exact CQ (ty:=3) rfl rfl (DR (by rw[(A4.out w' hS).cell 3];rfl) underlying3 rfl)) HS.out ?_
 simp only[Act.put,List.setIfInBounds_toArray,List.set_cons_zero,List.set_cons_succ]
 refine qm (i:=14) (d:=some 22) (v:=.pointer (some ⟨w.heap.size,4,none⟩)) rfl rfl (by kernel_rfl) (by kernel_rfl) (by kernel_rfl) (fun _ _ _ h=>h) rfl (fun w' hS=>by go_simp) HS.out ?_
 simp only[Act.put,List.setIfInBounds_toArray,List.set_cons_zero,List.set_cons_succ]
 refine qm (i:=15) (d:=some 23) (v:=.string (aA s.av)) rfl rfl (by kernel_rfl) (by kernel_rfl) (by kernel_rfl) (fun _ _ _ h=>h) rfl (fun w' hS=>by exact CQ (ty:=9) rfl rfl (DR (by rw[(A4.out w' hS).cell 4];rfl) underlying9 rfl)) HS.out ?_
 simp only[Act.put,List.setIfInBounds_toArray,List.set_cons_zero,List.set_cons_succ]
 refine C3 (i:=2) (d:=some 10) (v:=.string (aA (Lib.itoa s.f))) (by kernel_rfl) rfl rfl rfl (by go_simp) (BW (HT.out.later (A3.out _ HS.out)) Cr.out) (fun w' hb=>yc.out _ _ HS.out hb) (fun w' HS=>?_)
 replace HS:=Lib.hid HS
 simp only[Act.put,List.setIfInBounds_toArray,List.set_cons_zero,List.set_cons_succ]
 refine C3 (i:=6) (d:=some 14) (v:=.string (aA (Lib.itoa s.jP))) (by kernel_rfl) rfl rfl rfl (by go_simp) (BW (HT.out.later (A3.out _ HS.out)) (by have:=Nf.out;omega)) (fun w' hb=>yc.out _ _ HS.out hb) (fun w' HS=>?_)
 replace HS:=Lib.hid HS
 simp only[Act.put,List.setIfInBounds_toArray,List.set_cons_zero,List.set_cons_succ]
 refine C3 (i:=10) (d:=some 18) (v:=.string (aA (Lib.itoa s.jC))) (by kernel_rfl) rfl rfl rfl (by go_simp) (BW (HT.out.later (A3.out _ HS.out)) (by have:=Ng.out;omega)) (fun w' hb=>yc.out _ _ HS.out hb) (fun w' HS=>?_)
 replace HS:=Lib.hid HS
 simp only[Act.put,List.setIfInBounds_toArray,List.set_cons_zero,List.set_cons_succ]
 refine C3 (i:=13) (d:=some 21) (v:=.string (aA (Lib.itoa s.room))) (by kernel_rfl) rfl rfl rfl (by go_simp) (BW (HT.out.later (A3.out _ HS.out)) zj.out) (fun w' hb=>yc.out _ _ HS.out hb) (fun w' HS=>?_)
 replace HS:=Lib.hid HS
 simp only[Act.put,List.setIfInBounds_toArray,List.set_cons_zero,List.set_cons_succ]
 have h1:=yM.new (St.nil w') (vY s) (by simp[vY,maxLen]) (cs:=#[.string ⟨#[119,111,114,108,100]⟩,.string (aA (Lib.itoa s.f)),.string (aA (Lib.itoa s.jP)),.string (aA (Lib.itoa s.jC)),.string (aA (Lib.itoa s.room)),.string (aA s.av)]) rfl (n:=6) rfl
 refine acd (i:=16) (d:=some 24) (v:=.slice (some ⟨w'.heap.size,0,none⟩) 6 6) (w':=w'.alloc (.cells #[.string ⟨#[119,111,114,108,100]⟩,.string (aA (Lib.itoa s.f)),.string (aA (Lib.itoa s.jP)),.string (aA (Lib.itoa s.jC)),.string (aA (Lib.itoa s.room)),.string (aA s.av)] 9)) (by kernel_rfl) rfl rfl rfl (by go_simp) (yc.out _ _ HS.out (B.j9 _ _)) ?_
 simp only[Act.put,List.setIfInBounds_toArray,List.set_cons_zero,List.set_cons_succ]
 replace HS:=Lib.hid (yc.out _ _ HS.out (B.j9 w' (.cells #[.string ⟨#[119,111,114,108,100]⟩,.string (aA (Lib.itoa s.f)),.string (aA (Lib.itoa s.jP)),.string (aA (Lib.itoa s.jC)),.string (aA (Lib.itoa s.room)),.string (aA s.av)] 9)))
 refine C3 (i:=17) (d:=some 25) (v:=.string (aA (pP s))) (by kernel_rfl) rfl rfl rfl (by go_simp) (adx (s:=⟨#[32]⟩) h1 HJ.out (by simp[vY]) rfl) (fun w' hb=>yc.out _ _ HS.out hb) (fun w' HS=>?_)
 replace HS:=Lib.hid HS
 simp only[Act.put,List.setIfInBounds_toArray,List.set_cons_zero,List.set_cons_succ]
 refine qm (i:=18) (d:=some 2) (v:=.string (aA (pP s))) rfl rfl (by kernel_rfl) (by kernel_rfl) (by kernel_rfl) (fun _ _ _ h=>h) rfl (fun w' hS=>by go_simp) HS.out ?_
 simp only[Act.put,List.setIfInBounds_toArray,List.set_cons_zero,List.set_cons_succ]
 refine qm (i:=19) (d:=some 3) (v:=.int .i64 0) rfl rfl (by kernel_rfl) (by kernel_rfl) (by kernel_rfl) (fun _ _ _ h=>h) rfl (fun w' hS=>by go_simp) HS.out ?_
 simp only[Act.put,List.setIfInBounds_toArray,List.set_cons_zero,List.set_cons_succ]
 refine wpAnyH_done (by kernel_rfl) ?_ _
 go_wp2_with fail
 go_ret2
 exact⟨rfl,A3.out _ HS.out⟩
theorem Rg {aG:Nat->Prop} {w:World} {cs:List Value} {s:sW} (hT:qT w) (h:nN.rd aG w cs s):
 Calls prog 8 #[.agg cs.toArray] w fun r w'=>(r=if jg s.av=true then .returned (.tuple #[.string (aA (pP s)),.int .i64 0]) else .returned (.tuple #[.string ⟨#[]⟩,.int .i64 1]))/\B w w':=by
 cases hk:jg s.av with
 |true=>simpa using aav hT h hk
 |false=>simpa using aau h hk
end
def B7:Nat:=3
theorem Sy:prog.globalNamed "internal/strconv.uint64pow10"=some B7:=by kernel_rfl
abbrev BU:Wd where
 A:=fun _=>False
 aI:=fun _ _ h=>h.elim
 kY:=fun _=>False
 W I w:=I B7/\Lib.TabIs prog w "internal/strconv.uint64pow10" .u64 Lib.pow10Tab
 cl:=by
  rintro I I' w w' ⟨h1,h2⟩ hb hI
  refine⟨hI _ h1,?_⟩
  unfold Lib.TabIs World.var? at*
  rw[Sy] at h2 ⊢
  simp only[Option.bind_some] at h2 ⊢
  rw[hb B7 h1]
  exact h2
theorem abo {w:World} {n:Int} (h:Lib.TabIs prog w "internal/strconv.uint64pow10" .u64 Lib.pow10Tab) (hn:-9223372036854775808<=n/\n<=9223372036854775807):Calls prog 31 #[.int .i64 n] w fun e w'=>e=.returned (.string (aA (Lib.itoa n)))/\B w w':=by
 have HC:=Lib.hid (Tryz.strconv_Itoa n hn.1 hn.2 w h)
 go_enter func31,ntmps31
 go_wp2_with (first
  |(go_at_call 61;(with_reducible refine qC HC.out ?_);rintro e wn ⟨rfl,k,os,rfl⟩))
 go_ret
 exact⟨rfl,Ru _ _ _⟩
def Ag [Wd]:Prop:=∀n:Int,-9223372036854775808<=n/\n<=9223372036854775807->aq prog 31 [.int .i64 n] (.str (Lib.itoa n))
theorem agn (s:sW):afW.ok s=(dI.ok s.f/\dW.ok s.jP/\dW.ok s.jC/\dI.ok s.room/\dS.ok s.av):=rfl
def agP:List (Nat×tE):=[(3,⟨[(0,false),(1,false),(5,false),(6,false),(7,false),(11,false),(12,false),(13,false),(17,false),(18,false),(22,false),(23,false),(2,true),(3,false),(4,false),(8,true),(9,false),(10,false),(14,true),(15,false),(16,false),(19,true),(20,false),(21,false),(24,false),(25,false),(26,false)],[]⟩)]
theorem agG [Wd] (iT:Ag) (s:sW) (hs:afW.ok s) (h0:jg s.av=true):aq prog 9 [.agg (aga s)] (.aj [.str (pP s),.int .i64 0]):=by
 rw[agn] at hs
 obtain⟨b1,b2,b3,b4,b5⟩:=hs
 replace b1:-9223372036854775808<=s.f/\s.f<=9223372036854775807:=b1
 replace b2:0<=s.jP/\s.jP<=65535:=b2
 replace b3:0<=s.jC/\s.jC<=65535:=b3
 replace b4:-9223372036854775808<=s.room/\s.room<=9223372036854775807:=b4
 replace b5:s.av.length<=4194304:=b5
 have i1:=Lib.itoa_length_le s.f b1.1 b1.2
 have i2:=Lib.itoa_length_le s.jP (by omega) (by omega)
 have i3:=Lib.itoa_length_le s.jC (by omega) (by omega)
 have i4:=Lib.itoa_length_le s.room b4.1 b4.2
 refine ak 33 agP func9 ?_
 repeat' (conv=>arg 2;whnf);first|refine gJ ?_|refine aT (by simp;omega) ?_|apply an<;>intro h|refine okF (FZ s.av b5) ?_|refine okF (iT s.f b1) ?_|refine okF (iT s.jP (by omega)) ?_|refine okF (iT s.jC (by omega)) ?_|refine okF (iT s.room b4) ?_|(refine Sw (.inr rfl) rfl ?_ rfl;simp[pP,vY,kW,KT];done)|(exfalso;simp[h0] at*;done)
theorem ah5 [Wd] (iT:Ag) (s:sW) (hs:afW.ok s) (h0:jg s.av=false):aq prog 9 [.agg (aga s)] (.aj [.str [],.int .i64 1]):=by
 rw[agn] at hs
 obtain⟨b1,b2,b3,b4,b5⟩:=hs
 replace b1:-9223372036854775808<=s.f/\s.f<=9223372036854775807:=b1
 replace b2:0<=s.jP/\s.jP<=65535:=b2
 replace b3:0<=s.jC/\s.jC<=65535:=b3
 replace b4:-9223372036854775808<=s.room/\s.room<=9223372036854775807:=b4
 replace b5:s.av.length<=4194304:=b5
 have i1:=Lib.itoa_length_le s.f b1.1 b1.2
 have i2:=Lib.itoa_length_le s.jP (by omega) (by omega)
 have i3:=Lib.itoa_length_le s.jC (by omega) (by omega)
 have i4:=Lib.itoa_length_le s.room b4.1 b4.2
 refine ak 33 agP func9 ?_
 repeat' (conv=>arg 2;whnf);first|refine gJ ?_|refine aT (by simp;omega) ?_|apply an<;>intro h|refine okF (FZ s.av b5) ?_|refine okF (iT s.f b1) ?_|refine okF (iT s.jP (by omega)) ?_|refine okF (iT s.jC (by omega)) ?_|refine okF (iT s.room b4) ?_|refine cg|(exfalso;simp[h0] at*;done)
section
section
variable [Wd] {P:Program} {Q:Exit->S->Prop}
theorem KW {f:FuncId} {ar bR:List D} {hs hb:List AO} {c:D->List AO->T} {cZ:D->List AO->Prop} (σ:List Nat) (hF:bC P f ar hs cZ) (V:View σ hb hs) (hc:aa bR (D.bO.rl σ ar)) (hM:(σ.all fun o=>(jT hb bR).elem o)=true) (k:∀r h',cZ r h'->(c (r.bO (mz hb σ hs h')) (lK hb σ hs h')).ok P Q):(T.call f bR hb c).ok P Q:=
 ⟨_,hF.aL V hc (fun o ho=>by have:=List.all_eq_true.1 hM o ho;simpa using this),fun r' h' ⟨r0,h0,e1,e3,e4⟩=>by subst e3 e4;exact k r0 h0 e1⟩
theorem eI {f:FuncId} {ar bR:List D} {h:List AO} {c:D->List AO->T} {R:D->Prop} (hF:bC P f ar [] (fun r h'=>R r/\h'=[])) (hp:ga.pl ar=true) (hc:aa bR ar) (k:∀r,R r->(c r h).ok P Q):(T.call f bR h c).ok P Q:=
 ⟨_,hF.pure hp hc,fun r' h' ⟨e1,e2⟩=>by subst e2;exact k r' e1⟩
theorem bf {tb:TT} {rs:List ResultVar} {e:Exit} {s:S} {h:List AO} {r:D} {h':List AO} {ds:List D} {cZ:D->List AO->Prop} (σ:List Nat) (he:e=.normal\/e=.ret) (hr:iD tb s rs=some ds) (hn:nodupB σ=true) (hv:jF s.h σ σ h') (hk:tg 0 h σ h') (iw:Co (lI ds) (r.bO σ)) (hp:cZ r h'):
 (T.leaf e s).ok P (Lf tb rs h cZ):=
 ⟨he,[],ds,by rw[zQ];exact hr,σ,r,_,h',by rw[zQ];exact .mk' hn hv,iw,rfl,fun o t cs h1=>by have:=Bv hk o t cs h1;simpa using this,hp⟩
theorem ahR {tb:TT} {rs:List ResultVar} {s:S} {h:List AO} {r:D} {h':List AO} {ds:List D} {cZ:D->List AO->Prop} (σ:List Nat) (hr:iD tb s rs=some ds) (iw:Co (lI ds) (r.bO σ)) (hp:cZ r h') (hn:nodupB σ=true:=by exact rfl) (hv:xO s.h σ=xP σ h':=by exact rfl) (hk:tg 0 h σ h':=by repeat' (first|exact trivial|exact rfl|apply And.intro)):(T.leaf .ret s).ok P (Lf tb rs h cZ):=bf σ (.inr rfl) hr hn (Dz hv) hk iw hp
theorem R8 {v:Value} (h:Wd.kY [{v:=v,recovered:=false}]):(T.die v).ok P Q:=h
end
theorem DA [Wd] (hp:Wd.kY rq) (b:Bool):bC prog 35 [.bool b] [] (fun r h=>(b=true/\r=.aj [])/\h=[]):=by
 refine ak 6 [] func35 ?_
 repeat' (conv=>arg 2;whnf);first|apply an<;>intro h|exact R8 hp|exact bf (r:=.aj []) (h':=[]) [] (.inl rfl) rfl rfl trivial trivial (.refl _) ⟨⟨by simpa using h,rfl⟩,rfl⟩
def cW (ws:List (List UInt8)):List (List D):=ws.map fun s=>[.str s]
def fj (ws:List (List UInt8)):List AO:=[.cells 83 [.list 1 (cW ws)]]
theorem acU [Wd] (hp:Wd.kY rq) (ws:List (List UInt8)) (hl:ws.length<=4194305):bC prog 36 [.ptr 0 0] (fj ws) (fun r h=>∃s rest,ws=s::rest/\r=.str s/\h=fj rest):=by
 cases ws with
 |nil=>
  refine ak 26 [] func36 ?_
  repeat' (conv=>arg 2;whnf);first|(refine eI (DA hp _) rfl (aa.refl _) ?_;rintro r ⟨hr,rfl⟩)|(exfalso;simp[cW] at hr;done)
 |cons s rest=>
  refine ak 26 [] func36 ?_
  repeat' (conv=>arg 2;whnf);first|(refine eI (DA hp _) rfl (aa.refl _) ?_;rintro r ⟨hr,rfl⟩)|refine aT (by simp[cW];omega) ?_|refine eT [.str s] (by decide) rfl ?_
  conv=>arg 2;whnf
  refine bf (r:=.str s) (h':=fj rest) [0] (.inr rfl) rfl rfl ⟨⟨rfl,?_⟩,trivial⟩ ⟨⟨rfl,rfl⟩,trivial⟩ (.refl _) ⟨s,rest,rfl,rfl,rfl⟩
  show AO.cells _ [.list 1 _]=AO.cells _ [.list 1 _]
  simp[cW,List.take_of_length_le]
def yE [Wd]:Prop:=∀n:Int,-9223372036854775808<=n/\n<=9223372036854775807->aq prog 29 [.int .i64 n] (.str (Lib.itoa n))
def Kw [Wd]:Prop:=∀s:List UInt8,s.length<=4194304->aq prog 65 [.str s] (wk s)
theorem IM {s:List UInt8} {v:Int} (h:Lib.atoiAll s=.ok v):-9223372036854775808<=v/\v<=9223372036854775807:=by
 unfold Lib.atoiAll at h
 split at h
 ·cases h
 ·simp only at h
  split at h
  ·cases h
  ·cases h
  ·rename_i u _
   split at h
   ·cases h
   ·rename_i h1
    split at h
    ·cases h
    ·rename_i h2
     injection h with h
     subst h
     split
     ·rename_i hn
      have:¬9223372036854775808<u:=fun k=>h2 ⟨hn,k⟩
      omega
     ·rename_i hn
      have:¬9223372036854775808<=u:=fun k=>h1 ⟨hn,k⟩
      omega
theorem aby [Wd] (hp:Wd.kY rq) (hn:yE) (ha:Kw) (ws:List (List UInt8)) (hl:ws.length<=4194305) (hw:∀w∈ws,w.length<=4194304):bC prog 37 [.ptr 0 0] (fj ws) (fun r h=>∃n rest,(-9223372036854775808<=n/\n<=9223372036854775807)/\ws=Lib.itoa n::rest/\r=.int .i64 n/\h=fj rest):=by
 refine ak 23 [] func37 ?_
 repeat' (conv=>arg 2;whnf);first|(refine KW [0] (acU hp ws hl) (.mk' rfl ⟨⟨rfl,rfl⟩,trivial⟩) (aa.refl _) rfl ?_;rintro r h' ⟨s,rest,rfl,rfl,rfl⟩;have hs:s.length<=4194304:=hw s (by simp))|(refine okF (ha _ hs) ?_;unfold wk;cases hA:Lib.atoiAll s)|refine okF (hn _ (IM hA)) ?_|(refine eI (DA hp _) rfl (aa.refl _) ?_;rintro r ⟨hr,rfl⟩)|exact bf (h':=fj rest) (r:=.int .i64 _) [0] (.inr rfl) rfl rfl ⟨⟨rfl,rfl⟩,trivial⟩ ⟨⟨rfl,rfl⟩,trivial⟩ (.refl _) ⟨_,rest,IM hA,by simp at hr;rw[hr],rfl,rfl⟩|(exfalso;simp at hr;done)
theorem Gl [Wd]:aq prog 35 [.bool true] (.aj []):=by
 refine ak 6 [] func35 ?_
 repeat' (conv=>arg 2;whnf);first|exact qB (.inl rfl) rfl (.refl _) rfl
theorem Rx [Wd] (s:List UInt8) (rest:List (List UInt8)) (hl:rest.length<=4194304):bC prog 36 [.ptr 0 0] (fj (s::rest)) (fun r h=>r=.str s/\h=fj rest):=by
 have hk:(decide (((cW (s::rest)).length:Int)>0))=true:=by simp[cW]
 refine ak 26 [] func36 ?_
 repeat' (conv=>arg 2;whnf);first|(refine iQ Gl rfl (by rw[hk];exact aa.refl _) ?_)|refine aT (by simp[cW];omega) ?_|refine eT [.str s] (by decide) rfl ?_
 conv=>arg 2;whnf
 refine mL (r:=.str s) (h':=fj rest) [0] (.inr rfl) rfl rfl ⟨⟨rfl,?_⟩,trivial⟩ ⟨⟨rfl,rfl⟩,trivial⟩ (.refl _)
 show AO.cells _ [.list 1 _]=AO.cells _ [.list 1 _]
 simp[cW,List.take_of_length_le]
theorem abz [Wd] (hn:yE) (ha:Kw) (n:Int) (h0:-9223372036854775808<=n/\n<=9223372036854775807) (rest:List (List UInt8)) (hl:rest.length<=4194304):bC prog 37 [.ptr 0 0] (fj (Lib.itoa n::rest)) (fun r h=>r=.int .i64 n/\h=fj rest):=by
 have hA:wk (Lib.itoa n)=.aj [.int .i64 n,.gj true]:=by unfold wk;rw[OB n h0.1 h0.2]
 have hlen:=Lib.itoa_length_le n h0.1 h0.2
 have hk:(bif true then decide (Lib.itoa n=Lib.itoa n) else false)=true:=by simp
 refine ak 23 [] func37 ?_
 repeat' (conv=>arg 2;whnf);first|refine mA [0] (Rx _ rest hl) (.mk' rfl ⟨⟨rfl,rfl⟩,trivial⟩) (aa.refl _) rfl ?_|(refine okF (ha _ (by omega)) ?_;rw[hA])|refine okF (hn n h0) ?_|(refine iQ Gl rfl (by rw[hk];exact aa.refl _) ?_)|exact mL (h':=fj rest) (r:=.int .i64 n) [0] (.inr rfl) rfl rfl ⟨⟨rfl,rfl⟩,trivial⟩ ⟨⟨rfl,rfl⟩,trivial⟩ (.refl _)
end
class qW [Wd]:Prop where
 LX:∀{I:Nat->Prop} {w:World},Wd.W I w->qS I w
instance ahU (p:Prop):@qW (yD p):=@qW.mk (yD p) (fun h=>h)
theorem qS.Te {I:Nat->Prop} {w:World} (h:qS I w) (hi:∀b,I b->b<w.heap.size):qT w:=fun w' hb=>(h.cl (fun b k=>hb.block b (hi b k)) (fun _ k=>k)).D0
theorem bC.Lj [Wd] [qW] {P:Program} {f:FuncId} {ar:List D} {r:D} {v:Value} (hv:∀I w,Dr I w v r) (xz:rj P f=true) (h:∀w I vs,qS I w->(∀b,I b->b<w.heap.size)->dQ I w vs ar->Calls P f vs.toArray w fun e w'=>e=.returned v/\B w w') (hp:ga.pl ar=true):aq P f ar r:=by
 refine⟨xz,fun w I g vs hW hd ha=>(h w I vs (qW.LX hW) hd.aG (ur ha hp)).mono ?_⟩
 rintro e w' ⟨rfl,hb⟩
 have hg:g=[]:=List.eq_nil_of_length_eq_zero hd.len
 subst hg
 exact .inl ⟨v,I,[],r,[],rfl,⟨rfl,rfl⟩,hd.later hb,.rd (hv I w'),Ext.of_B hb,fun _ h=>h,fun _ h=>.inl h,fun b h=>.inl h,fun o p t cs _ h=>by simp at h⟩
theorem F0 [Wd] [qW]:yE:=fun n hn=>bC.Lj (v:=.string (aA (Lib.itoa n))) (fun _ _=>.str _) (by kernel_rfl) (fun w I vs hW hi hd=>by
 obtain⟨u,rfl,h1⟩:=hd.vR
 rw[(Vr.rd (g:=[]) h1).nI]
 exact BW (hW.Te hi) hn) rfl
theorem iN [Wd] [qW]:Ag:=fun n hn=>bC.Lj (v:=.string (aA (Lib.itoa n))) (fun _ _=>.str _) (by kernel_rfl) (fun w I vs hW hi hd=>by
 obtain⟨u,rfl,h1⟩:=hd.vR
 rw[(Vr.rd (g:=[]) h1).nI]
 exact abo hW.D0 hn) rfl
theorem QD [Wd] [qW]:Kw:=by
 intro s hs
 refine⟨by kernel_rfl,fun w I g vs hW hd ha=>?_⟩
 obtain⟨v,xN,rfl,h1,h2⟩:=ha.zW
 obtain rfl:=h2.Dm
 rw[h1.nJ]
 have hg:g=[]:=List.eq_nil_of_length_eq_zero hd.len
 subst hg
 have hS:=qW.LX hW
 have hz:(aA s).size=s.length:=by simp[aA,ByteArray.size]
 have wF:(aA s).data.toList=s:=by simp[aA]
 rcases hA:Lib.atoiAll s with n|_|_
 ·skip
  refine(Any.strconv_Atoi_ok Tryz.Jx (aA s) (by omega) n (by rw[wF];exact hA) w).mono ?_
  rintro e w' ⟨rfl,hw⟩
  have hb:B w w':=by
   rcases hw with rfl|⟨t,rfl⟩
   ·exact Below.refl _ _
   ·exact Nx _ _ _
  refine .inl ⟨_,I,[],wk s,[],rfl,⟨rfl,rfl⟩,hd.later hb,?_,Ext.of_B hb,fun _ h=>h,fun _ h=>.inl h,fun b h=>.inl h,fun o p t cs _ h=>by simp at h⟩
  unfold wk
  rw[hA]
  exact Vr.oO (vs:=[.int .i64 n,.nilIface]) (.cons (.rd (.int _ _)) (.cons .oQ .nil))
 ·skip
  obtain⟨tp,p,hv⟩:=hS.G1
  refine(Any.strconv_Atoi_syntax_var Tryz.Jx (aA s) (by omega) (by rw[wF];exact hA) tp p w hv).mono ?_
  rintro e w' ⟨N,rfl,_,_,hb⟩
  replace hb:B w w':=hb
  refine .inl ⟨_,I,[],wk s,[],rfl,⟨rfl,rfl⟩,hd.later hb,?_,Ext.of_B hb,fun _ h=>h,fun _ h=>.inl h,fun b h=>.inl h,fun o p t cs _ h=>by simp at h⟩
  unfold wk
  rw[hA]
  exact Vr.oO (vs:=[.int .i64 0,.iface _ _]) (.cons (.rd (.int _ _)) (.cons (.gj _ _) .nil))
 ·skip
  obtain⟨tp,p,hv⟩:=hS.G2
  refine(Any.strconv_Atoi_range_var Tryz.Jx (aA s) (by omega) (by rw[wF];exact hA) tp p w hv).mono ?_
  rintro e w' ⟨N,rfl,_,_,hb⟩
  replace hb:B w w':=hb
  refine .inl ⟨_,I,[],wk s,[],rfl,⟨rfl,rfl⟩,hd.later hb,?_,Ext.of_B hb,fun _ h=>h,fun _ h=>.inl h,fun b h=>.inl h,fun o p t cs _ h=>by simp at h⟩
  unfold wk
  rw[hA,wF]
  exact Vr.oO (vs:=[.int .i64 (Lib.atoiSat s),.iface _ _]) (.cons (.rd (.int _ _)) (.cons (.gj _ _) .nil))
theorem ZA [Wd] [qW] (s:List UInt8) (hs:s.length<=4194304):aq prog 34 [.str s,.str [32]] (.list 1 (cW (fc s))):=by
 refine⟨by kernel_rfl,fun w I g vs hW hd ha=>?_⟩
 obtain⟨v,xN,rfl,h1,h2⟩:=ha.zW
 obtain⟨v2,ahV,rfl,h3,h4⟩:=h2.zW
 obtain rfl:=h4.Dm
 rw[h1.nJ,h3.nJ]
 have hg:g=[]:=List.eq_nil_of_length_eq_zero hd.len
 subst hg
 obtain⟨m,hm⟩:=(qW.LX hW).G3
 have hz:(aA s).size=s.length:=by simp[aA,ByteArray.size]
 have wF:(aA s).data.toList=s:=by simp[aA]
 have SA:(aA [32]).data.toList=[32]:=by simp[aA]
 have At:(Lib.splitB (aA [32]) 0 (Lib.countB (aA s) (aA [32])) (aA s)).map (·.data.toList)=fc s:=by
  rw[Lib.splitB_data,SA,wF]
  show Lib.splitK [32] 0 (Lib.count (aA s).data.toList (aA [32]).data.toList) s=_
  rw[wF,SA]
  exact Pu s
 have iK:(Lib.splitB (aA [32]) 0 (Lib.countB (aA s) (aA [32])) (aA s))=(fc s).map aA:=by
  rw[<-At,List.map_map]
  conv=>lhs;rw[<-List.map_id (Lib.splitB _ _ _ _)]
  refine List.map_congr_left fun x _=>?_
  show x=aA x.data.toList
  simp[aA]
 have Tf:Lib.countB (aA s) (aA [32])+1=(fc s).length:=by
  have:=Lib.splitB_all (aA [32]) (by decide) 0 _ (aA s) rfl
  rw[iK,List.length_map] at this
  exact this.symm
 have hle:=IL s
 refine(Tryz.strings_Split (aA s) (aA [32]) m w (by omega) hm (by decide)).mono ?_
 rintro e w' ⟨rfl,rfl⟩
 rw[Tf,iK]
 have hb:B w (w.alloc (.cells (((fc s).map aA).map Value.string).toArray 9)):=B.j9 _ _
 have eE:(w.alloc (.cells (((fc s).map aA).map Value.string).toArray 9)).heap.size=w.heap.size+1:=Array.size_push _
 refine .inl ⟨_,fun b=>I b\/b=w.heap.size,[],.list 1 (cW (fc s)),[],rfl,⟨rfl,rfl⟩,(hd.later hb).Al (fun _ h=>.inl h) ?_ ?_,.rd (.list (some ⟨w.heap.size,0,none⟩) _ 1 _ _ (fun i _=>.string (aA ((fc s).getD i []))) (by simp[cW]) (Nat.le_refl _) (Nat.le_trans (show(fc s).length<=4194305 by omega) (by decide)) (fun h=>by cases h) ?_ ?_ ?_ ?_),Ext.of_B hb,fun _ h=>.inl h,?_,fun b h=>.inl h,fun o p t cs _ h=>by simp at h⟩
 ·rintro b (h|rfl)
  ·have:=hd.aG b h;omega
  ·omega
 ·rintro b _ ⟨o,ao,p,k1,_⟩
  simp at k1
 ·intro x hx
  simp only[cW,List.mem_map] at hx
  obtain⟨y,_,rfl⟩:=hx
  rfl
 ·intro _
  refine⟨w.heap.size,0,rfl,by omega,.inr rfl,fun i x j d h1 h2=>?_⟩
  simp only[cW,List.getElem?_map,Option.map_eq_some_iff] at h1
  obtain⟨y,hy,rfl⟩:=h1
  cases j with
  |succ j=>simp at h2
  |zero=>
   have:(w.alloc (.cells (((fc s).map aA).map Value.string).toArray 9)).heap[w.heap.size]?=some (.cells (((fc s).map aA).map Value.string).toArray 9 (0,0)):=by
    show(w.heap.push _)[w.heap.size]?=_
    rw[Array.getElem?_push_size]
   simp only[World.cell?,this]
   simp[hy,List.getD_eq_getElem?_getD]
 ·intro i x j d _ _
  rfl
 ·intro i x j d h1 h2
  simp only[cW,List.getElem?_map,Option.map_eq_some_iff] at h1
  obtain⟨y,hy,rfl⟩:=h1
  cases j with
  |succ j=>simp at h2
  |zero=>
   simp at h2
   subst h2
   simp only[List.getD_eq_getElem?_getD,hy,Option.getD_some]
   exact .str y
 ·rintro b (h|rfl)
  ·exact .inl h
  ·exact .inr (.inr (Nat.le_refl _))
def agr (s:sW):D:=.aj (if jg s.av=true then[.str (pP s),.int .i64 0] else[.str [],.int .i64 1])
theorem agL [Wd] [qW] (s:sW) (hs:afW.ok s):aq prog 8 [.agg (aga s)] (agr s):=by
 refine bC.Lj (v:=if jg s.av=true then .tuple #[.string (aA (pP s)),.int .i64 0] else .tuple #[.string ⟨#[]⟩,.int .i64 1]) (fun I w=>?_) (by kernel_rfl) (fun w I vs hW hi hd=>?_) ?_
 ·unfold agr
  split
  ·exact .aj [.string (aA (pP s)),.int .i64 0] [.str (pP s),.int .i64 0] rfl (fun i v d k1 k2=>by
    match i with
    |0=>simp at k1 k2;subst k1 k2;exact .str _
    |1=>simp at k1 k2;subst k1 k2;exact .int _ _
    |i+2=>simp at k1)
  ·exact .aj [.string (aA []),.int .i64 1] [.str [],.int .i64 1] rfl (fun i v d k1 k2=>by
    match i with
    |0=>simp at k1 k2;subst k1 k2;exact .str _
    |1=>simp at k1 k2;subst k1 k2;exact .int _ _
    |i+2=>simp at k1)
 ·obtain⟨u,rfl,h1⟩:=hd.vR
  obtain⟨us,rfl,k1,k2⟩:=(Vr.rd (g:=[]) h1).yy
  refine(Rg (hW.Te hi) (aih.of (ur k1 rfl) hs)).mono ?_
  rintro e w' ⟨rfl,hb⟩
  exact⟨by split<;>rfl,hb⟩
 ·rfl
theorem ah6 (s:ByteArray) (pos j:Nat) (hj:j<(Utf8.decode s pos).2) (h:(s.get! (pos+j)).toNat=32):j=0/\(Utf8.decode s pos).1=32:=by
 rcases j with _|j
 ·refine⟨rfl,?_⟩
  simp only[Nat.add_zero] at h
  simp[Utf8.decode,Nat.add_zero,h]
 ·exfalso
  have h1:=Z2 s pos
  have e:j=0\/j=1\/j=2:=by omega
  clear h1
  simp only[Utf8.decode] at hj
  repeat' split at hj
  all_goals (try omega)
  all_goals rename_i hc _;simp only[Bool.and_eq_true,beq_iff_eq,decide_eq_true_eq] at hc;rcases e with rfl|rfl|rfl<;>simp at h hj hc<;>omega
theorem agE (s:ByteArray):∀(k pos n m:Nat),s.size<=pos+k->jk s k pos n=some m->∀i,pos<=i->i<s.size->(s.get! i).toNat≠32
 |0,pos,n,m,hk,h,i,h1,h2=>by omega
 |k+1,pos,n,m,hk,h,i,h1,h2=>by
  simp only[jk] at h
  rw[if_pos (by omega)] at h
  split at h
  ·cases h
  ·rename_i hb
   have hw:=OU s pos (by omega)
   intro Au
   by_cases hi:i<pos+(Utf8.decode s pos).2
   ·obtain⟨j,rfl⟩:∃j,i=pos+j:=⟨i-pos,by omega⟩
    obtain⟨_,e⟩:=ah6 s pos j (by omega) Au
    rw[e] at hb
    exact hb (by decide)
   ·exact agE s k _ _ m (by omega) h i (by omega) h2 Au
theorem ah1 {s:List UInt8} (h:jg s=true):vT s:=by
 intro c hc e
 subst e
 unfold jg uF at h
 obtain⟨i,hi,hs⟩:=List.getElem_of_mem hc
 simp only[decide_eq_true_eq] at h
 split at h
 ·omega
 ·rename_i m hm
  refine agE (aA s) _ 0 0 m (by rw[Bo];omega) hm i (Nat.zero_le _) (by rw[Bo];exact hi) ?_
  have:(aA s).get! i=s[i]:=by
   simp[aA,ByteArray.get!,hi]
  rw[this,hs]
  rfl
def kO (ws:List (List UInt8)):Prop:=ws.length<=4194305/\∀w∈ws,w.length<=4194304
theorem kO.tail {s:List UInt8} {r:List (List UInt8)} (h:kO (s::r)):kO r:=⟨by have:=h.1;simp at this;omega,fun w hw=>h.2 w (by simp[hw])⟩
theorem kO.head {s:List UInt8} {r:List (List UInt8)} (h:kO (s::r)):s.length<=4194304:=h.2 s (by simp)
theorem kO.split {s:List UInt8} (h:s.length<=4194304):kO (fc s):=⟨by have:=IL s;omega,fun w hw=>by have:=VM s w hw;omega⟩
theorem agf (n:Int):0<=IntKind.u16.wrap n/\IntKind.u16.wrap n<=65535:=by
 have e:IntKind.u16.wrap n=n%65536:=by simp[IntKind.wrap,IntKind.bits,IntKind.signed]
 rw[e]
 omega
theorem agk {a b c d:Int} {t:List UInt8} (h1:-9223372036854775808<=a/\a<=9223372036854775807) (h2:0<=b/\b<=65535) (h3:0<=c/\c<=65535) (h4:-9223372036854775808<=d/\d<=9223372036854775807) (h5:t.length<=4194304):afW.ok ⟨a,b,c,d,t⟩:=⟨h1,h2,h3,h4,h5⟩
theorem agH [Wd] [qW] (s:sW) (hs:afW.ok s) (hn:jg s.av=true):aq prog 8 [.agg (aga s)] (.aj [.str (pP s),.int .i64 0]):=by
 have h:=agL s hs
 unfold agr at h
 rw[if_pos hn] at h
 exact h
theorem ah7 [Wd] [qW] (s:sW) (hs:afW.ok s) (hn:jg s.av=false):aq prog 8 [.agg (aga s)] (.aj [.str [],.int .i64 1]):=by
 have h:=agL s hs
 unfold agr at h
 rw[if_neg (by rw[hn];decide)] at h
 exact h
def rG (line:List UInt8) (s:sW):List AO:=[.cells 9 [.str line],.cells 25 (aga s)]
def afU:sW:=⟨0,0,0,0,[]⟩
theorem ah8 [Wd] [qW] (hp:Wd.kY rq) (line:List UInt8) (hl:line.length<=4194304):bC prog 33 [.ptr 0 0,.ptr 1 0] (rG line afU) (fun r h=>∃s,afW.ok s/\jg s.av=true/\line=pP s/\r=.aj []/\h=rG line s):=by
 obtain⟨ws,vn⟩:∃ws,ws=fc line:=⟨_,rfl⟩
 have hb:kO ws:=vn▸kO.split hl
 have HS:aq prog 34 [.str line,.str [32]] (.list 1 (cW ws)):=vn▸ZA line hl
 clear vn
 refine ak 51 [] func33 ?_
 repeat' (conv=>arg 2;whnf);first|refine okF HS ?_|(refine KW [2] (acU hp _ hb.1) (.mk' rfl ⟨⟨rfl,rfl⟩,trivial⟩) (aa.refl _) rfl ?_;rintro r h' ⟨s,rest,rfl,rfl,rfl⟩;have hs:=hb.head;replace hb:=hb.tail)|(refine KW [2] (aby hp F0 QD _ hb.1 hb.2) (.mk' rfl ⟨⟨rfl,rfl⟩,trivial⟩) (aa.refl _) rfl ?_;rintro r h' ⟨n,rest,hn,rfl,rfl,rfl⟩;replace hb:=hb.tail)|(refine eI (DA hp _) rfl (aa.refl _) ?_;rintro r ⟨hr,rfl⟩)
 rename_i s0 uE n1 h1 n2 h2 n3 h3
 cases hN:jg s
 all_goals
  repeat' (conv=>arg 2;whnf);first|refine okF (ah7 ⟨n1,IntKind.u16.wrap n2,IntKind.u16.wrap n3,n,s⟩ (agk h1 (agf n2) (agf n3) hn hs) hN) ?_|refine okF (agH ⟨n1,IntKind.u16.wrap n2,IntKind.u16.wrap n3,n,s⟩ (agk h1 (agf n2) (agf n3) hn hs) hN) ?_|apply an<;>intro h|(refine eI (DA hp _) rfl (aa.refl _) ?_;rintro r ⟨hr,rfl⟩)|(cases hr;done)|exact bf (r:=.aj []) (h':=rG line ⟨n1,IntKind.u16.wrap n2,IntKind.u16.wrap n3,n,s⟩) [0,1] (.inl rfl) rfl rfl ⟨⟨rfl,rfl⟩,⟨rfl,rfl⟩,trivial⟩ ⟨⟨rfl,rfl⟩,⟨rfl,rfl⟩,trivial⟩ (.refl _) ⟨_,agk h1 (agf n2) (agf n3) hn hs,hN,by simp at hr;exact hr.symm,rfl,rfl⟩
theorem agF {s:sW} (hn:jg s.av=true):fc (pP s)=vY s:=by
 refine N7 _ (by simp[vY]) (fun x hx=>?_)
 simp only[vY,List.mem_cons,List.not_mem_nil,or_false] at hx
 rcases hx with rfl|rfl|rfl|rfl|rfl|rfl
 ·intro c hc e
  subst e
  revert hc
  decide
 ·exact OT _
 ·exact OT _
 ·exact OT _
 ·exact OT _
 ·exact ah1 hn
theorem ah9 [Wd] [qW] (s:sW) (hs:afW.ok s) (hn:jg s.av=true) (hl:(pP s).length<=4194304):bC prog 33 [.ptr 0 0,.ptr 1 0] (rG (pP s) afU) (fun r h=>r=.aj []/\h=rG (pP s) s):=by
 have uE:=hs
 rw[agn] at hs
 obtain⟨b1,b2,b3,b4,b5⟩:=hs
 replace b1:-9223372036854775808<=s.f/\s.f<=9223372036854775807:=b1
 replace b2:0<=s.jP/\s.jP<=65535:=b2
 replace b3:0<=s.jC/\s.jC<=65535:=b3
 replace b4:-9223372036854775808<=s.room/\s.room<=9223372036854775807:=b4
 have w1:IntKind.u16.wrap s.jP=s.jP:=by simp[IntKind.wrap,IntKind.bits,IntKind.signed];omega
 have w2:IntKind.u16.wrap s.jC=s.jC:=by simp[IntKind.wrap,IntKind.bits,IntKind.signed];omega
 have cm:decide (KT=(⟨#[119,111,114,108,100]⟩:ByteArray).data.toList)=true:=rfl
 have hk:(bif true then decide (pP s=pP s) else false)=true:=by simp
 have HS:aq prog 34 [.str (pP s),.str [32]] (.list 1 (cW [KT,Lib.itoa s.f,Lib.itoa s.jP,Lib.itoa s.jC,Lib.itoa s.room,s.av])):=by
  have:=ZA (pP s) hl
  rw[agF hn] at this
  exact this
 refine ak 51 [] func33 ?_
 repeat' (conv=>arg 2;whnf);first|refine okF HS ?_|refine mA [2] (Rx _ _ (by simp)) (.mk' rfl ⟨⟨rfl,rfl⟩,trivial⟩) (aa.refl _) rfl ?_|refine mA [2] (abz F0 QD s.f b1 _ (by simp)) (.mk' rfl ⟨⟨rfl,rfl⟩,trivial⟩) (aa.refl _) rfl ?_|refine mA [2] (abz F0 QD s.jP (by omega) _ (by simp)) (.mk' rfl ⟨⟨rfl,rfl⟩,trivial⟩) (aa.refl _) rfl ?_|refine mA [2] (abz F0 QD s.jC (by omega) _ (by simp)) (.mk' rfl ⟨⟨rfl,rfl⟩,trivial⟩) (aa.refl _) rfl ?_|refine mA [2] (abz F0 QD s.room b4 _ (by simp)) (.mk' rfl ⟨⟨rfl,rfl⟩,trivial⟩) (aa.refl _) rfl ?_|(refine iQ Gl rfl (by rw[cm];exact aa.refl _) ?_)|(refine iQ Gl rfl (by rw[hk];exact aa.refl _) ?_)|(rw[w1,w2];refine okF (agH s uE hn) ?_)|exact mL (r:=.aj []) (h':=rG (pP s) s) [0,1] (.inl rfl) rfl rfl ⟨⟨rfl,rfl⟩,⟨rfl,rfl⟩,trivial⟩ ⟨⟨rfl,rfl⟩,⟨rfl,rfl⟩,trivial⟩ (.refl _)
section
attribute [local instance] uA
theorem Pw {q:Prop} {Q:Exit->S->Prop} {F:FuncId} {n:Nat} {fS GM:List D} {hs hb:List AO} {c:D->List AO->T} {cZ:D->List AO->Prop} (σ:List Nat) (hF:@bC (yD q) prog F fS hs cZ) (V:View σ hb hs) (hc:aa GM (D.bO.rl σ fS)) (hM:(σ.all fun o=>(jT hb [.fn F n GM]).elem o)=true)
 (k1:∀r0 h0,cZ r0 h0->(c (.bool true) (lK hb σ hs h0)).ok prog Q) (k2:q->(c (.bool false) (qE (jT hb [.fn F n GM]) hb)).ok prog Q):(T.call 32 [.fn F n GM] hb c).ok prog Q:=by
 refine⟨_,Zz (@bC.aL (yD q) _ _ _ _ _ hF _ _ V _ hc _ (fun o ho=>by have:=List.all_eq_true.1 hM o ho;simpa using this)),fun r h' hp=>?_⟩
 rcases hp with⟨rfl,r0,r1,h0,hp,_,rfl⟩|⟨rfl,hq,rfl⟩
 ·exact k1 r1 h0 hp
 ·exact k2 hq
def agl (line:List UInt8) (s:sW):Prop:=afW.ok s/\jg s.av=true/\line=pP s
theorem aia (line:List UInt8) (hl:line.length<=4194304) (s:sW) (hs:agl line s):aq prog 10 [.str line] (.aj [.agg (aga s),.bool true]):=by
 obtain⟨h1,h2,rfl⟩:=hs
 refine ak 12 [] func10 ?_
 repeat' (conv=>arg 2;whnf);first|(refine Pw [0,2] (ah9 s h1 h2 hl) (.mk' rfl ⟨⟨rfl,rfl⟩,⟨rfl,rfl⟩,trivial⟩) (aa.refl _) rfl ?_ (fun h=>h.elim);rintro r0 h0 ⟨rfl,rfl⟩)|exact cg
theorem aib (line:List UInt8) (hl:line.length<=4194304) (hs:¬∃s,agl line s):aq prog 10 [.str line] (.aj [.agg (aga afU),.bool false]):=by
 refine ak 12 [] func10 ?_
 repeat' (conv=>arg 2;whnf);first|refine Pw [0,2] (@ah8 (yD True) _ ⟨trivial,rfl⟩ line hl) (.mk' rfl ⟨⟨rfl,rfl⟩,⟨rfl,rfl⟩,trivial⟩) (aa.refl _) rfl (fun r0 h0 hp=>by obtain⟨s,q1,q2,q3,_⟩:=hp;exact absurd ⟨s,q1,q2,q3⟩ hs) (fun _=>?_)|exact cg
end
theorem Od (m:aD):(aH m).sign=if bW m.kind then m.sign else dx:=by
 unfold aH
 simp only[apply_ite aD.sign,ite_self]
def lH {α:Type} (f:α->List UInt8) (l:List α):List UInt8:=aJ (l.length:Int)++l.flatMap f
section
section
variable {P:Program} {Q:Exit->S->Prop} {I:Nat->Prop} {g:bH} {w:World} {h:List AO} {o:Nat} {t:TypeId} {cs ds:List D}
theorem FL (ho:h[o]?=some (.cells t cs)) {o':Nat} {ao:AO} (e:(h.set o (.cells t ds))[o']?=some ao):∃a,h[o']?=some a/\∀p b,ao.owns p b<->a.owns p b:=by
 rw[List.getElem?_set] at e
 split at e
 ·rename_i Cs
  subst Cs
  split at e
  ·injection e with e
   subst e
   exact⟨_,ho,fun p b=>Iff.rfl⟩
  ·cases e
 ·exact⟨ao,e,fun p b=>Iff.rfl⟩
theorem Den.yS [Wd] (hd:Den I g w h) (ho:h[o]?=some (.cells t cs)) (hc:aa cs ds):Den I g w (h.set o (.cells t ds)) where
 len:=by rw[List.length_set];exact hd.len
 aG:=hd.aG
 obj o' ao p e hp:=by
  rw[List.getElem?_set] at e
  split at e
  ·rename_i Cs
   subst Cs
   split at e
   ·injection e with e
    subst e
    obtain⟨b,vs,h1,h2,h3,h4⟩:=hd.obj o _ p ho hp
    exact⟨b,vs,h1,h2,hc.ok h3,h4⟩
   ·cases e
  ·exact hd.obj o' ao p e hp
 own o' ao p b e hp hb:=by
  obtain⟨a,k1,k2⟩:=FL ho e
  exact hd.own o' a p b k1 hp ((k2 p b).1 hb)
 sep o1 o2 a1 a2 p1 p2 b e1 e2 q1 q2 b1 b2:=by
  obtain⟨a,k1,k2⟩:=FL ho e1
  obtain⟨a',k3,k4⟩:=FL ho e2
  exact hd.sep o1 o2 a a' p1 p2 b k1 k3 q1 q2 ((k2 p1 b).1 b1) ((k4 p2 b).1 b2)
end
end
section
section
variable {Q:Exit->S->Prop}
end
theorem drop_at {α:Type} {l:List α} {q:Nat} {x:α} (h:l[q]?=some x):l.drop q=x::l.drop (q+1):=by
 obtain⟨h1,h2⟩:=List.getElem?_eq_some_iff.1 h
 rw[<-h2,List.getElem_cons_drop]
end
section
abbrev RS:=List UInt8×Int
abbrev dn (s:RS):List AO:=[.cells 235 [.list 1 (s.1.map af),.int .i64 s.2,.bool true]]
def fF (k:Int) (s:RS):RS:=if s.2=0 then(s.1,k) else s
def cy (most:Nat) (s:RS):Nat×RS:=
 if s.2=0 then(if(eH most 0 0 s.1).2.2=0 then((eH most 0 0 s.1).1,((eH most 0 0 s.1).2.1,0)) else(0,(s.1,(eH most 0 0 s.1).2.2))) else(0,s)
def fR (n:Int) (s:RS):List UInt8×RS:=
 if s.2=0 then(if n<0 then([],(s.1,1)) else if(s.1.length:Int)<n then([],(s.1,10)) else(s.1.take n.toNat,(s.1.drop n.toNat,0))) else([],s)
def dA (s:RS):Int:=if s.2=0 then(if s.1=[] then 0 else 12) else s.2
abbrev gz [Wd] (f:FuncId) (a0:D) (ar:List D) (R:RS->D) (F:RS->RS):Prop:=∀s:RS,s.1.length<=8388609->bC prog f (a0::ar) (dn s) (fun r h=>r=R s/\h=dn (F s))
section
variable {Q:Exit->S->Prop}
theorem GY [Wd] {f:FuncId} {a0:D} {ar bR:List D} {R:RS->D} {F:RS->RS} {hb:List AO} {c:D->List AO->T} (o:Nat) (s s':RS) (r:D) (hF:gz f a0 ar R F) (hs:s.1.length<=8388609) (e:s'=F s) (er:r=R s) (hv:jF hb [o] [o] (dn s)) (hc:aa bR (D.bO.rl [o] (a0::ar))) (hM:([o].all fun o=>(jT hb bR).elem o)=true) (kk:(c (r.bO (mz hb [o] (dn s) (dn s'))) (lK hb [o] (dn s) (dn s'))).ok prog Q):(T.call f bR hb c).ok prog Q:=by
 subst e er
 exact mA [o] (hF s hs) (.mk' rfl hv) hc hM kk
theorem cE [Wd] {f:FuncId} {a0:D} {ar bR:List D} {R:RS->D} {F:RS->RS} {hb:List AO} {c:D->List AO->T} (o:Nat) (s s':RS) (r:D) (hF:gz f a0 ar R F) (hs:s.1.length<=8388609) (e:s'=F s) (er:r=R s) (kk:(c (r.bO (mz hb [o] (dn s) (dn s'))) (lK hb [o] (dn s) (dn s'))).ok prog Q) (hv:jF hb [o] [o] (dn s):=by exact⟨⟨rfl,rfl⟩,trivial⟩) (hc:aa bR (D.bO.rl [o] (a0::ar)):=by exact aa.refl _) (hM:([o].all fun o=>(jT hb bR).elem o)=true:=by exact rfl):(T.call f bR hb c).ok prog Q:=
 GY o s s' r hF hs e er hv hc hM kk
theorem mQ [Wd] {tb:TT} {rs:List ResultVar} {ex:Exit} {S0:S} {x:List UInt8} {y:Int} {s s':RS} {d R:D} {ds:List D} (he:ex=.normal\/ex=.ret) (hr:iD tb S0 rs=some ds) {ys:List (List D)} (hv:jF S0.h [0] [0] [.cells 235 [.list 1 ys,.int .i64 y,.bool true]]) (hy:ys=x.map af) (iw:Co (lI ds) (d.bO [0])) (hx:(x,y)=s') (hd:d=R):(T.leaf ex S0).ok prog (Lf tb rs (dn s) (fun r h=>r=R/\h=dn s')):=by
 subst hx hd hy
 exact mL [0] he hr rfl hv ⟨⟨rfl,rfl⟩,trivial⟩ iw
end
section
variable {Q:Exit->S->Prop}
theorem aX [Wd] {f:FuncId} {a0:D} {ar bR:List D} {R:RS->D} {F:RS->RS} {hb:List AO} {c:D->List AO->T} {α:Type} {p:RS->α×RS} {s s':RS} {x:α} (o:Nat) (k:α->D) (q:p s=(x,s')) (hF:gz f a0 ar R F) (hs:s.1.length<=8388609) (kk:(c ((k x).bO (mz hb [o] (dn s) (dn s'))) (lK hb [o] (dn s) (dn s'))).ok prog Q) (e:(p s).2=F s:=by exact rfl) (er:k (p s).1=R s:=by exact rfl) (hv:jF hb [o] [o] (dn s):=by exact⟨⟨rfl,rfl⟩,trivial⟩) (hc:aa bR (D.bO.rl [o] (a0::ar)):=by exact aa.refl _) (hM:([o].all fun o=>(jT hb bR).elem o)=true:=by exact rfl):(T.call f bR hb c).ok prog Q:=
 GY o s s' (k x) hF hs (by rw[<-e,q]) (by rw[<-er,q]) hv hc hM kk
theorem cU [Wd] {tb:TT} {rs:List ResultVar} {S0:S} {s:RS} {α:Type} {p:α×RS} {z:α} {x:List UInt8} {y:Int} {ds:List D} {ys:List (List D)} {k:α->D} (hr:iD tb S0 rs=some ds) (q:p=(z,(x,y))) (iw:Co (lI ds) ((k z).bO [0])) (hv:jF S0.h [0] [0] [.cells 235 [.list 1 ys,.int .i64 y,.bool true]]:=by exact⟨⟨rfl,rfl⟩,trivial⟩) (hy:ys=x.map af:=by exact rfl):(T.leaf .ret S0).ok prog (Lf tb rs (dn s) (fun r h=>r=k p.1/\h=dn p.2)):=
 mQ (d:=k z) (.inr rfl) hr hv hy iw (by rw[q]) (by rw[q])
end
theorem zq [Wd]:gz 175 (.ptr 0 0) [] (fun s=>.bool (s.2 !=0)) (fun s=>s):=by
 intro s hs
 refine ak 19 [] func175 ?_
 repeat' (conv=>arg 2;whnf);first|exact mQ (d:=.bool (s.2 !=0)) (.inr rfl) rfl ⟨⟨rfl,rfl⟩,trivial⟩ rfl (.refl _) rfl rfl
theorem fY [Wd]:gz 173 (.ptr 0 0) [] (fun s=>.int .i64 s.2) (fun s=>s):=by
 intro s hs
 refine ak 16 [] func173 ?_
 repeat' (conv=>arg 2;whnf);first|exact mQ (d:=.int .i64 s.2) (.inr rfl) rfl ⟨⟨rfl,rfl⟩,trivial⟩ rfl (.refl _) rfl rfl
theorem mJ [Wd] (k:Int):gz 174 (.ptr 0 0) [.int .i64 k] (fun _=>.aj []) (fF k):=by
 intro s hs
 refine ak 11 [] func174 ?_
 repeat' (conv=>arg 2;whnf);first|refine cE 0 s s (.bool (s.2 !=0)) zq hs rfl rfl ?_|apply an<;>intro h|(refine mQ (d:=.aj []) (.inl rfl) rfl ⟨⟨rfl,rfl⟩,trivial⟩ rfl (.refl _) ?_ rfl;unfold fF;simp at h;first|(rw[if_pos h];done)|(rw[if_neg h];done))
theorem Bt [Wd]:gz 120 (.ptr 0 0) [] (fun s=>.int .i64 (dA s)) (fun s=>s):=by
 intro s hs
 refine ak 15 [] func120 ?_
 repeat' (conv=>arg 2;whnf);first|refine cE 0 s s (.int .i64 s.2) fY hs rfl rfl ?_|apply an<;>intro h|(refine mQ (d:=.int .i64 _) (.inr rfl) rfl ⟨⟨rfl,rfl⟩,trivial⟩ rfl (.refl _) rfl ?_;unfold dA;simp_all;done)|(refine mQ (d:=.int .i64 _) (.inr rfl) rfl ⟨⟨rfl,rfl⟩,trivial⟩ rfl (.refl _) rfl ?_;unfold dA;obtain⟨x,y⟩:=s;cases x<;>simp_all;done)
theorem QB {most q m:Nat} {x:UInt8} {bs:List UInt8} {A:Int} (hx:bs[q]?=some x) (hI:eH most 0 0 bs=eH most q m (bs.drop q)) (hA:(q<9\/x.toNat<=1)->A=((m+x.toNat%128*128^q:Nat):Int)) (hq:q<=9) (h1:x.toNat<=127) (h2:(0<q/\x.toNat=0)\/(q=9/\1<x.toNat)\/(most:Int)<A):cy most (bs,0)=(0,(bs,11)):=by
 have e:eH most 0 0 bs=(0,[],11):=by
  rw[hI,drop_at hx]
  by_cases h9:q=9/\1<x.toNat
  ·exact IK h9.1 h9.2
  ·refine XR h1 ?_
   rcases h2 with h2|h2|h2
   ·exact .inl h2
   ·exact absurd h2 h9
   ·rw[hA (by omega),Nat.mod_eq_of_lt (by omega)] at h2
    exact .inr (by omega)
 unfold cy
 rw[if_pos rfl]
 simp[e]
theorem Pr {most q m:Nat} {x:UInt8} {bs:List UInt8} {A:Int} (hx:bs[q]?=some x) (hI:eH most 0 0 bs=eH most q m (bs.drop q)) (hA:(q<9\/x.toNat<=1)->A=((m+x.toNat%128*128^q:Nat):Int)) (hq:q<=9) (h1:x.toNat<=127) (h2:¬(0<q/\x.toNat=0)) (h3:¬(q=9/\1<x.toNat)) (h4:¬(most:Int)<A):cy most (bs,0)=(A.toNat,(bs.drop (q+1),0))/\A=(A.toNat:Int):=by
 have Cm:=hA (by omega)
 rw[Nat.mod_eq_of_lt (by omega)] at Cm
 have e:eH most 0 0 bs=(m+x.toNat*128^q,bs.drop (q+1),0):=by
  rw[hI,drop_at hx]
  exact N0 h1 h3 (fun h=>by
   rcases h with h|h
   ·exact h2 h
   ·exact h4 (by rw[Cm];omega))
 unfold cy
 rw[if_pos rfl]
 refine⟨?_,by rw[Cm];omega⟩
 rw[e]
 rw[Cm,Int.toNat_natCast]
 rfl
theorem QC {most q m:Nat} {bs:List UInt8} (hI:eH most 0 0 bs=eH most q m (bs.drop q)) (hq:bs.length<=q):cy most (bs,0)=(0,(bs,10)):=by
 have e:eH most 0 0 bs=(0,[],10):=by
  rw[hI,List.drop_eq_nil_of_le hq]
  rfl
 unfold cy
 rw[if_pos rfl]
 simp[e]
structure yR (most:Nat) (bs:List UInt8) (q:Nat) (A:Int):Prop where
 go:q<10->q<=bs.length/\∃m:Nat,A=m/\m<128^q/\eH most 0 0 bs=eH most q m (bs.drop q)
 out:q=10->cy most (bs,0)=(0,(bs,11))
def qV (A:Int) (q:Nat) (x:UInt8):Int:=bits .or .u64 A (IntKind.u64.wrap (IntKind.u64.wrap (bits .and .u8 (x.toNat:Int) 127)*2^min (7*(q:Int)).toNat IntKind.u64.bits))
theorem Ku {m q:Nat} {x:UInt8} (hm:m<128^q) (hq:q<=9):(∃s:Nat,qV m q x=s)/\((q<9\/x.toNat<=1)->qV m q x=((m+x.toNat%128*128^q:Nat):Int)):=by
 obtain⟨d,e,s,h1,h2,h3,h4⟩:=abv m q x.toNat x.toNat_lt hq hm
 have afi:min (7*(q:Int)).toNat IntKind.u64.bits=7*q:=by
  have:IntKind.u64.bits=64:=rfl
  omega
 have hd:qV m q x=s:=by
  unfold qV
  rw[afi,h1,h2,h3]
 exact⟨⟨s,hd⟩,fun h=>by rw[hd,h4 h]⟩
theorem yR.next {most:Nat} {bs:List UInt8} {q:Nat} {A:Int} {x:UInt8} (h:yR most bs q A) (hq:q<10) (hx:bs[q]?=some x) (h1:127<x.toNat):yR most bs (q+1) (qV A q x):=by
 obtain⟨h2,m,rfl,h3,h4⟩:=h.go hq
 have hl:=(List.getElem?_eq_some_iff.1 hx).1
 obtain⟨_,h5⟩:=Ku (x:=x) h3 (show q<=9 by omega)
 constructor
 ·intro h9
  refine⟨by omega,m+x.toNat%128*128^q,h5 (.inl (by omega)),Kt h3 (Nat.mod_lt _ (by decide)),?_⟩
  rw[h4,drop_at hx,IJ h1 (by omega)]
 ·intro kN
  have e:eH most 0 0 bs=(0,[],11):=by
   rw[h4,drop_at hx,IK (by omega) (by omega)]
  unfold cy
  rw[if_pos rfl]
  simp[e]
theorem from_ (bs:List UInt8) (q:Nat):(((bs.map af).drop ((q:Int)+1).toNat).take ((((bs.map af).length:Nat):Int).toNat-((q:Int)+1).toNat))=(bs.drop (q+1)).map af:=by
 have e:((q:Int)+1).toNat=q+1:=by omega
 rw[e,List.take_of_length_le (by simp),List.map_drop]
theorem gF [Wd] (most:Nat):gz 121 (.ptr 0 0) [.int .u64 (most:Int)] (fun s=>.int .u64 ((cy most s).1:Int)) (fun s=>(cy most s).2):=by
 rintro⟨bs,e⟩ hs
 replace hs:bs.length<=8388609:=hs
 by_cases he:e=0
 ·subst he
  refine ak 72 [] func121 ?_
  repeat' (conv=>arg 2;whnf);first|refine cE 0 (bs,0) (bs,0) (.bool ((0:Int)!=0)) zq hs rfl rfl ?_
  conv=>arg 2;whnf
  refine bE (α:=Nat×Int) (fun a=>⟨[(10,.int .i64 a.1),(5,.int .u64 a.2),(1,.int .u64 (most:Int)),(0,.ptr 0 0)],dn (bs,0)⟩) (fun a=>a.1<=10/\yR most bs a.1 a.2) (fun a=>10-a.1) (0,0) ⟨Nat.zero_le _,⟨fun _=>⟨Nat.zero_le _,0,rfl,by decide,rfl⟩,fun h=>by cases h⟩⟩ (Sv.aK [0]) ?_
  rintro⟨q,A⟩ ⟨hq,hI⟩
  replace hq:q<=10:=hq
  replace hI:yR most bs q A:=hI
  have f1:q<10->bs.length<=q->cy most (bs,0)=(0,(bs,10)):=fun a b=>by
   obtain⟨_,m,_,_,h⟩:=hI.go a
   exact QC h b
  have f2:∀x,bs[q]?=some x->q<10->x.toNat<=127->((0<q/\x.toNat=0)\/(q=9/\1<x.toNat)\/(most:Int)<qV A q x)->cy most (bs,0)=(0,(bs,11)):=fun x hx a b c=>by
   obtain⟨_,m,rfl,h3,h⟩:=hI.go a
   exact QB hx h (Ku h3 (by omega)).2 (by omega) b c
  have f3:∀x,bs[q]?=some x->q<10->x.toNat<=127->¬(0<q/\x.toNat=0)->¬(q=9/\1<x.toNat)->¬(most:Int)<qV A q x->cy most (bs,0)=((qV A q x).toNat,(bs.drop (q+1),0))/\qV A q x=((qV A q x).toNat:Int):=fun x hx a b c d e=>by
   obtain⟨_,m,rfl,h3,h⟩:=hI.go a
   exact Pr hx h (Ku h3 (by omega)).2 (by omega) b c d e
  conv=>arg 2;whnf
  refine an (fun hlt=>?_) (fun dm=>?_)
  ·replace hlt:q<10:=by simp at hlt;omega
   repeat'
    (conv=>arg 2;whnf)
    first
    |refine aT (by omega) ?_
    |refine aT ⟨by omega,by have:=(List.getElem?_eq_some_iff.1 hx).1;simp;omega,by simp⟩ ?_
    |apply an<;>intro h
    |(refine cK (l:=bs) (by simp at h;omega) (fun x hx=>?_);replace hx:bs[q]?=some x:=hx)
    |refine gJ ?_
    |refine lD ?_
    |refine cE 0 (bs,0) (bs,10) (.aj []) (mJ 10) hs rfl rfl ?_
    |refine cE 0 (bs,0) (bs,11) (.aj []) (mJ 11) hs rfl rfl ?_
    |refine aZ (q+1,qV A q x) (Sv.aK [0]) ⟨hlt,hI.next hlt hx (by simp at h;omega)⟩ (by show 10-(q+1)<10-q;omega)
    |refine eG ?_
    |(refine cU (k:=fun x:Nat=>D.int .u64 (x:Int)) rfl (f1 hlt (by simp at h;omega)) (.refl _))
    |(have g:=f2 x hx hlt (by clear f1 f2 f3 hI;simp_all<;>omega) (by clear f1 f2 f3 hI;first|(refine .inr (.inr ?_);simp_all [qV];done)|(refine .inl ?_;simp_all<;>omega)|(refine .inr (.inl ?_);simp_all<;>omega))
      refine cU (k:=fun x:Nat=>D.int .u64 (x:Int)) rfl g (.refl _))
    |(have g:=f3 x hx hlt (by clear f1 f2 f3 hI;simp_all<;>omega) (by clear f1 f2 f3 hI;simp_all<;>omega) (by clear f1 f2 f3 hI;simp_all<;>omega) (by clear f1 f2 f3 hI;simp_all [qV]<;>omega)
      refine mQ (x:=bs.drop (q+1)) (d:=.int .u64 (qV A q x)) (.inr rfl) rfl ⟨⟨rfl,rfl⟩,trivial⟩ (from_ bs q) (.refl _) (congrArg Prod.snd g.1).symm ((congrArg (D.int .u64) g.2).trans (congrArg (fun r:Nat×RS=>D.int .u64 (r.1:Int)) g.1).symm))
  ·replace dm:¬q<10:=by simp at dm;omega
   repeat' (conv=>arg 2;whnf);first|refine cE 0 (bs,0) (bs,11) (.aj []) (mJ 11) hs rfl rfl ?_|(refine cU (k:=fun x:Nat=>D.int .u64 (x:Int)) rfl (hI.out (by omega)) (.refl _))
 ·have e1:cy most (bs,e)=(0,(bs,e)):=by unfold cy;rw[if_neg he]
  refine ak 72 [] func121 ?_
  repeat' (conv=>arg 2;whnf);first|refine cE 0 (bs,e) (bs,e) (.bool (e !=0)) zq hs rfl rfl ?_|apply an<;>intro h|(refine cU (k:=fun x:Nat=>D.int .u64 (x:Int)) rfl e1 (.refl _))|(exfalso;simp_all;done)
end
theorem yp (most:Nat) (s:RS):(cy most s).1<=most:=by
 unfold cy
 split
 ·split
  ·exact Pq most s.1 0 0
  ·exact Nat.zero_le _
 ·exact Nat.zero_le _
theorem zB (most:Nat) (s:RS):(cy most s).2.1.length<=s.1.length:=by
 unfold cy
 split
 ·split
  ·exact(Ow most s.1 0 0).1
  ·exact Nat.le_refl _
 ·exact Nat.le_refl _
theorem I6 (n:Int) (s:RS):(fR n s).2.1.length<=s.1.length:=by
 unfold fR
 split
 ·split
  ·exact Nat.le_refl _
  ·split
   ·exact Nat.le_refl _
   ·simp
 ·exact Nat.le_refl _
def fB (most:Nat) (s:RS):List UInt8×RS:=fR ((cy most s).1:Int) (cy most s).2
theorem Wu (most:Nat) (s:RS):(fB most s).2.1.length<=s.1.length:=Nat.le_trans (I6 _ _) (zB _ _)
theorem GZ {a b:List D} (h:a=b):aa a b:=h▸aa.refl a
theorem aea (bs:List UInt8) (n:Nat):((bs.map af).drop (0:Int).toNat).take (((n:Nat):Int).toNat-(0:Int).toNat)=(bs.take n).map af:=by
 simp[List.map_take]
theorem aeb (bs:List UInt8) (n:Nat):((bs.map af).drop ((n:Nat):Int).toNat).take ((((bs.map af).length:Nat):Int).toNat-((n:Nat):Int).toNat)=(bs.drop n).map af:=by
 have e:((n:Nat):Int).toNat=n:=Int.toNat_natCast n
 rw[e,List.take_of_length_le (by simp),List.map_drop]
theorem Ox [Wd] (bs:List UInt8) (hl:bs.length<=8388609):aq prog 171 [.list 1 (bs.map af)] (.list 1 (bs.map af)):=
 Dj (by unfold aL;omega) (by kernel_rfl) (fun w I vs hv=>by
  obtain⟨v,rfl,h1⟩:=hv.vR
  exact abu (h1.bs (by unfold aL;omega))) rfl
theorem Zx [Wd] (n:Nat):gz 223 (.ptr 0 0) [.int .i64 (n:Int)] (fun s=>.list 1 ((fR n s).1.map af)) (fun s=>(fR n s).2):=by
 rintro⟨bs,e⟩ hs
 replace hs:bs.length<=8388609:=hs
 by_cases he:e=0
 ·subst he
  by_cases hn:(bs.length:Int)<n
  ·have g:fR n (bs,0)=([],(bs,10)):=by unfold fR;rw[if_pos rfl,if_neg (by omega),if_pos hn]
   refine ak 43 [] func223 ?_
   repeat' (conv=>arg 2;whnf);first|refine cE 0 (bs,0) (bs,0) (.bool ((0:Int)!=0)) zq hs rfl rfl ?_|refine cE 0 (bs,0) (bs,10) (.aj []) (mJ 10) hs rfl rfl ?_|refine cE 0 (bs,10) (bs,10) (.bool ((10:Int)!=0)) zq hs rfl rfl ?_|apply an<;>intro h|refine cU (k:=fun x=>D.list 1 (List.map af x)) rfl g (.nil _)|(exfalso;simp at h;omega)
  ·have g:fR n (bs,0)=(bs.take n,(bs.drop n,0)):=by unfold fR;rw[if_pos rfl,if_neg (by omega),if_neg hn,Int.toNat_natCast]
   refine ak 43 [] func223 ?_
   repeat' (conv=>arg 2;whnf);first|refine aT ⟨by omega,by simp;omega,by simp⟩ ?_|refine aT ⟨by omega,by omega,by simp;omega⟩ ?_|refine cE 0 (bs,0) (bs,0) (.bool ((0:Int)!=0)) zq hs rfl rfl ?_|refine iQ (Ox (bs.take n) (by rw[List.length_take];omega)) rfl (GZ (congrArg (fun z=>[D.list 1 z]) (aea bs n))) ?_|apply an<;>intro h|refine mQ (d:=.list 1 ((bs.take n).map af)) (.inr rfl) rfl ⟨⟨rfl,rfl⟩,trivial⟩ (aeb bs n) (.refl _) (congrArg Prod.snd g).symm (congrArg (fun r:List UInt8×RS=>D.list 1 (r.1.map af)) g).symm|(exfalso;simp at h;omega)
 ·have g:fR n (bs,e)=([],(bs,e)):=by unfold fR;rw[if_neg he]
  refine ak 43 [] func223 ?_
  repeat' (conv=>arg 2;whnf);first|refine cE 0 (bs,e) (bs,e) (.bool (e !=0)) zq hs rfl rfl ?_|apply an<;>intro h|refine cU (k:=fun x=>D.list 1 (List.map af x)) rfl g (.nil _)|(exfalso;simp_all;done)
theorem Fe [Wd] (most:Nat) (hm:most<=4194304):gz 172 (.ptr 0 0) [.int .i64 (most:Int)] (fun s=>.list 1 ((fB most s).1.map af)) (fun s=>(fB most s).2):=by
 intro s hs
 have h1:=yp most s
 have h2:=zB most s
 have afj:(if(0:Int)<(most:Int) then(most:Int) else 0)=(most:Int):=by split<;>omega
 have hu:IntKind.u64.wrap (most:Int)=(most:Int):=Gi (by omega)
 refine ak 13 [] func172 ?_
 repeat' (conv=>arg 2;whnf);first|refine gJ ?_|refine lD ?_|refine GY 0 s (cy most s).2 (.int .u64 ((cy most s).1:Int)) (gF most) hs rfl rfl ⟨⟨rfl,rfl⟩,trivial⟩ (GZ (by rw[afj,hu];rfl)) rfl ?_|refine cE 0 (cy most s).2 (fB most s).2 (.list 1 ((fB most s).1.map af)) (Zx (cy most s).1) (by omega) rfl rfl ?_|refine mQ (d:=.list 1 ((fB most s).1.map af)) (.inr rfl) rfl ⟨⟨rfl,rfl⟩,trivial⟩ rfl (.refl _) rfl rfl
theorem zC [Wd] (bs:List UInt8) (hl:bs.length<=8388609):bC prog 118 [.list 1 (bs.map af)] [] (fun r h=>r=.ptr 0 0/\h=dn (bs,0)):=by
 refine ak 7 [] func118 ?_
 repeat' (conv=>arg 2;whnf);first|refine okF (Ox bs hl) ?_|refine mL [0] (.inr rfl) rfl rfl ⟨⟨rfl,rfl⟩,trivial⟩ trivial (.refl _)
abbrev MX:Nat:=9007199254740992
section
def bF (least:Int) (s:RS):Int×RS:=
 if(cy MX s).2.2=0 then(if((cy MX s).1:Int)<least then(0,((cy MX s).2.1,100)) else((cy MX s).1,(cy MX s).2)) else(0,(cy MX s).2)
def lS (b:Bool) (s:RS):RS:=if s.2=0 then(if b then s else(s.1,100)) else s
def ia (most:Int) (s:RS):Int×RS:=
 if(lS (decide ((bF 0 s).1<=most)) (bF 0 s).2).2=0 then((bF 0 s).1,lS (decide ((bF 0 s).1<=most)) (bF 0 s).2) else(0,lS (decide ((bF 0 s).1<=most)) (bF 0 s).2)
def cO (s:RS):bJ×RS:=
 if(cy MX (cy 20 s).2).2.2=0 then(if(cy MX (cy 20 s).2).1=0 then(dx,((cy MX (cy 20 s).2).2.1,81)) else(⟨(cy 20 s).1,(cy MX (cy 20 s).2).1⟩,(cy MX (cy 20 s).2).2)) else(dx,(cy MX (cy 20 s).2).2)
theorem wR (most:Nat) (s:RS):∃(n:Nat) (b:List UInt8) (e:Int),cy most s=(n,(b,e))/\n<=most/\b.length<=s.1.length:=
 ⟨_,_,_,rfl,yp most s,zB most s⟩
theorem CT (least:Int) (s:RS):∃(n:Int) (b:List UInt8) (e:Int),bF least s=(n,(b,e))/\0<=n/\n<=9007199254740992/\b.length<=s.1.length:=by
 have h1:(cy MX s).1<=9007199254740992:=yp MX s
 have h2:=zB MX s
 refine⟨(bF least s).1,(bF least s).2.1,(bF least s).2.2,rfl,?_,?_,?_⟩<;>unfold bF<;>split<;>(try split)<;>first|omega|exact h2|decide
section
variable [Wd]
theorem mK (least:Int):gz 228 (.agg [.ptr 0 0]) [.int .i64 least] (fun s=>.int .i64 (bF least s).1) (fun s=>(bF least s).2):=by
 intro s hs
 obtain⟨n,b,e,en,hn,hb⟩:=wR MX s
 replace hn:n<=9007199254740992:=hn
 have cw:b.length<=8388609:=by omega
 refine ak 27 [] func228 ?_
 repeat' (conv=>arg 2;whnf);first|refine gJ ?_|refine aX 0 (fun x:Nat=>D.int .u64 (x:Int)) en (gF MX) hs ?_|refine cE 0 (b,e) (b,e) (.int .i64 e) fY cw rfl rfl ?_|apply an<;>intro h|refine cE 0 (b,e) (b,100) (.aj []) (mJ 100) cw (by unfold fF;rw[if_pos (by simp_all)]) rfl ?_|refine cE 0 (b,100) (b,100) (.int .i64 100) fY cw rfl rfl ?_|(refine mQ (d:=.int .i64 _) (.inr rfl) rfl ⟨⟨rfl,rfl⟩,trivial⟩ rfl (.refl _) ?_ ?_<;>(simp only[bF,en];(repeat' split)<;>first|rfl|(exfalso;simp_all<;>omega)))
theorem wP (least:Int):gz 231 (.agg [.ptr 0 0]) [.int .i64 least] (fun s=>.int .i64 (bF least s).1) (fun s=>(bF least s).2):=by
 intro s hs
 obtain⟨n,b,e,en,Tc,hn,hb⟩:=CT least s
 refine ak 8 [] func231 ?_
 repeat' (conv=>arg 2;whnf);first|refine aX 0 (fun x=>D.int .i64 x) en (mK least) hs ?_|refine cU (k:=fun x=>D.int .i64 x) rfl en (.refl _)
theorem FJ (c:Bool):gz 225 (.agg [.ptr 0 0]) [.bool c] (fun _=>.aj []) (lS c):=by
 intro s hs
 obtain⟨b,e⟩:=s
 replace hs:b.length<=8388609:=hs
 refine ak 15 [] func225 ?_
 repeat' (conv=>arg 2;whnf);first|refine cE 0 (b,e) (b,e) (.int .i64 e) fY hs rfl rfl ?_|apply an<;>intro h|refine cE 0 (b,e) (b,100) (.aj []) (mJ 100) hs (by unfold fF;rw[if_pos (by simp_all)]) rfl ?_|(refine mQ (d:=.aj []) (.inl rfl) rfl ⟨⟨rfl,rfl⟩,trivial⟩ rfl (.refl _) ?_ rfl;simp only[lS];(repeat' split)<;>first|rfl|(exfalso;simp_all<;>omega))
theorem zE (most:Int):gz 281 (.agg [.ptr 0 0]) [.int .i64 most] (fun s=>.int .i64 (ia most s).1) (fun s=>(ia most s).2):=by
 intro s hs
 obtain⟨n,b,e,en,Tc,hn,hb⟩:=CT 0 s
 have cw:b.length<=8388609:=by omega
 obtain⟨b2,e2,em⟩:∃(b2:List UInt8) (e2:Int),lS (decide (n<=most)) (b,e)=(b2,e2):=⟨_,_,rfl⟩
 have eJ:b2.length<=8388609:=by
  have h:=congrArg Prod.fst em
  have h2:(lS (decide (n<=most)) (b,e)).1=b:=by
   unfold lS
   split
   ·split<;>rfl
   ·rfl
  have h3:b2=b:=h.symm.trans h2
  rw[h3]
  exact cw
 have eR:ia most s=if e2=0 then(n,(b2,e2)) else(0,(b2,e2)):=by unfold ia;rw[en];simp only[em]
 refine ak 18 [] func281 ?_
 repeat' (conv=>arg 2;whnf);first|refine aX 0 (fun x=>D.int .i64 x) en (mK 0) hs ?_|refine cE 0 (b,e) (b2,e2) (.aj []) (FJ (decide (n<=most))) cw em.symm rfl ?_|refine cE 0 (b2,e2) (b2,e2) (.int .i64 e2) fY eJ rfl rfl ?_|apply an<;>intro h|(refine mQ (d:=.int .i64 _) (.inr rfl) rfl ⟨⟨rfl,rfl⟩,trivial⟩ rfl (.refl _) ?_ ?_<;>(simp only[eR];(repeat' split)<;>first|rfl|(exfalso;simp_all<;>omega)))
theorem It:gz 287 (.ptr 0 0) [] (fun s=>.agg (bL (cO s).1)) (fun s=>(cO s).2):=by
 intro s hs
 obtain⟨n,b,e,en,hn,hb⟩:=wR 20 s
 have cw:b.length<=8388609:=by omega
 obtain⟨m,b2,e2,em,hm,eJ⟩:=wR MX (b,e)
 replace hm:m<=9007199254740992:=hm
 replace eJ:b2.length<=b.length:=eJ
 have B9:b2.length<=8388609:=by omega
 refine ak 27 [] func287 ?_
 repeat' (conv=>arg 2;whnf);first|refine gJ ?_|refine aX 0 (fun x:Nat=>D.int .u64 (x:Int)) en (gF 20) hs ?_|refine aX 0 (fun x:Nat=>D.int .u64 (x:Int)) em (gF MX) cw ?_|refine cE 0 (b2,e2) (b2,e2) (.int .i64 e2) fY B9 rfl rfl ?_|apply an<;>intro h|refine cE 0 (b2,e2) (b2,81) (.aj []) (mJ 81) B9 (by unfold fF;rw[if_pos (by simp_all)]) rfl ?_|refine cE 0 (b2,81) (b2,81) (.int .i64 81) fY B9 rfl rfl ?_|(refine mQ (d:=.agg [.int .i64 _,.int .i64 _]) (.inr rfl) rfl ⟨⟨rfl,rfl⟩,trivial⟩ rfl (.refl _) ?_ ?_<;>(simp only[cO,en,em];(repeat' split)<;>first|rfl|(exfalso;simp_all<;>omega)))
end
end
def aP {α:Type} (p:RS->α×RS):Nat->RS->List α×RS
 |0,s=>([],s)
 |n+1,s=>if s.2=0 then((p s).1::(aP p n (p s).2).1,(aP p n (p s).2).2) else([],s)
theorem vJ {α:Type} (p:RS->α×RS) (n:Nat) (s:RS) (h:¬s.2=0):aP p n s=([],s):=by
 cases n with
 |zero=>rfl
 |succ n=>unfold aP;rw[if_neg h]
theorem Bu {α:Type} (p:RS->α×RS) {n:Int} {s:RS} (hn:0<n) (h:s.2=0):aP p n.toNat s=((p s).1::(aP p (n-1).toNat (p s).2).1,(aP p (n-1).toNat (p s).2).2):=by
 obtain⟨k,rfl⟩:∃k:Nat,n=(k:Int)+1:=⟨(n-1).toNat,by omega⟩
 have e1:((k:Int)+1).toNat=k+1:=by omega
 have e2:((k:Int)+1-1).toNat=k:=by omega
 rw[e1,e2]
 conv=>lhs;unfold aP
 rw[if_pos h]
theorem Dl {α:Type} {p:RS->α×RS} (hp:∀s,(p s).2.1.length<=s.1.length):∀(n:Nat) (s:RS),(aP p n s).2.1.length<=s.1.length
 |0,s=>Nat.le_refl _
 |n+1,s=>by
  unfold aP
  split
  ·exact Nat.le_trans (Dl hp n _) (hp s)
  ·exact Nat.le_refl _
def cY {α:Type} (p:RS->α×RS) (most:Int) (s:RS):List α×RS:=aP p (ia most s).1.toNat (ia most s).2
theorem CW (c:Bool) (s:RS):(lS c s).1=s.1:=by
 unfold lS
 split
 ·split<;>rfl
 ·rfl
theorem zl (most:Int) (hm:0<=most) (s:RS):∃(n:Int) (b:List UInt8) (e:Int),ia most s=(n,(b,e))/\0<=n/\n<=most/\b.length<=s.1.length:=by
 obtain⟨n,b,e,en,h0,h1,h2⟩:=CT 0 s
 refine⟨(ia most s).1,(ia most s).2.1,(ia most s).2.2,rfl,?_,?_,?_⟩
 ·unfold ia
  rw[en]
  split
  ·exact h0
  ·exact Int.le_refl _
 ·unfold ia
  rw[en]
  split
  ·rename_i h
   show n<=most
   by_cases hn:n<=most
   ·exact hn
   ·exfalso
    have hd:decide (n<=most)=false:=by simpa using hn
    simp only[hd,lS] at h
    split at h
    ·cases h
    ·contradiction
  ·exact hm
 ·unfold ia
  rw[en]
  split
  ·show(lS _ (b,e)).1.length<=_;rw[CW];exact h2
  ·show(lS _ (b,e)).1.length<=_;rw[CW];exact h2
theorem XS {α:Type} {p:RS->α×RS} (hp:∀s,(p s).2.1.length<=s.1.length) (most:Int) (hm:0<=most) (s:RS):(cY p most s).2.1.length<=s.1.length:=by
 obtain⟨n,b,e,en,_,_,h2⟩:=zl most hm s
 unfold cY
 rw[en]
 exact Nat.le_trans (Dl hp _ _) h2
theorem Oy (s:RS):(cO s).2.1.length<=s.1.length:=by
 have h1:=zB 20 s
 have h2:=zB MX (cy 20 s).2
 unfold cO
 split
 ·split
  ·show(cy MX (cy 20 s).2).2.1.length<=_;omega
  ·show(cy MX (cy 20 s).2).2.1.length<=_;omega
 ·show(cy MX (cy 20 s).2).2.1.length<=_;omega
theorem acT [Wd] (fz:List Nat) {tb:TT} {rs:List ResultVar} {ex:Exit} {S0:S} {x:List UInt8} {y:Int} {s s':RS} {d R:D} {ds:List D} {ys:List (List D)} (he:ex=.normal\/ex=.ret) (hr:iD tb (S0.dj fz) rs=some ds) (hv:jF (S0.dj fz).h [0] [0] [.cells 235 [.list 1 ys,.int .i64 y,.bool true]]) (hy:ys=x.map af) (iw:Co (lI ds) (d.bO [0])) (hx:(x,y)=s') (hd:d=R):(T.leaf ex S0).ok prog (Lf tb rs (dn s) (fun r h=>r=R/\h=dn s')):=by
 subst hx hd hy
 exact abw fz [0] he hr rfl hv ⟨⟨rfl,rfl⟩,trivial⟩ iw
theorem qD [Wd] (fz:List Nat) {tb:TT} {rs:List ResultVar} {S0:S} {s:RS} {α:Type} {p:α×RS} {z:α} {x:List UInt8} {y:Int} {ds:List D} {ys:List (List D)} {k:α->D} (hr:iD tb (S0.dj fz) rs=some ds) (q:p=(z,(x,y))) (iw:Co (lI ds) ((k z).bO [0])) (hv:jF (S0.dj fz).h [0] [0] [.cells 235 [.list 1 ys,.int .i64 y,.bool true]]:=by exact⟨⟨rfl,rfl⟩,trivial⟩) (hy:ys=x.map af:=by exact rfl):(T.leaf .ret S0).ok prog (Lf tb rs (dn s) (fun r h=>r=k p.1/\h=dn p.2)):=
 acT fz (d:=k z) (.inr rfl) hr hv hy iw (by rw[q]) (by rw[q])
theorem sy [Wd]:gz 239 (.agg [.ptr 0 0]) [] (fun s=>.agg (bL (cO s).1)) (fun s=>(cO s).2):=by
 intro s hs
 refine ak 6 [] func239 ?_
 repeat' (conv=>arg 2;whnf);first|refine cE 0 s (cO s).2 (.agg (bL (cO s).1)) It hs rfl rfl ?_|refine mQ (d:=.agg (bL (cO s).1)) (.inr rfl) rfl ⟨⟨rfl,rfl⟩,trivial⟩ rfl (.refl _) rfl rfl
theorem NK [Wd] (most:Int) (uf:0<=most) (hm:most<=4096):gz 282 (.agg [.ptr 0 0]) [.int .i64 most,.fn 239 0 []] (fun s=>.list 2 ((cY cO most s).1.map bL)) (fun s=>(cY cO most s).2):=by
 intro s0 hs
 obtain⟨N,b0,e0,en,rW,hN,uV⟩:=zl most uf s0
 have eL:cY cO most s0=aP cO N.toNat (b0,e0):=by unfold cY;rw[en]
 refine ak 29 [] func282 ?_
 repeat' (conv=>arg 2;whnf);first|refine aX 0 (fun x=>D.int .i64 x) en (zE most) hs ?_
 conv=>arg 2;whnf
 refine bE (α:=Int×RS×List bJ) (fun a=>match a.2.2 with
  |[]=>⟨[(8,.int .i64 a.1),(7,.nils),(3,.ptr 1 0),(2,.fn 239 0 [])],[.cells 235 [.list 1 (a.2.1.1.map af),.int .i64 a.2.1.2,.bool true],.cells 239 [.ptr 0 0]]⟩
  |x::l=>⟨[(8,.int .i64 a.1),(7,.row 2),(3,.ptr 1 0),(2,.fn 239 0 [])],[.cells 235 [.list 1 (a.2.1.1.map af),.int .i64 a.2.1.2,.bool true],.cells 239 [.ptr 0 0],.row 57 2 ((x::l).map bL)]⟩) (fun a=>0<=a.1/\a.1<=4096/\a.2.1.1.length<=8388609/\a.2.2.length+a.1.toNat<=4096/\aP cO N.toNat (b0,e0)=(a.2.2++(aP cO a.1.toNat a.2.1).1,(aP cO a.1.toNat a.2.1).2)) (fun a=>a.1.toNat) (N,(b0,e0),[]) ⟨rW,by omega,by show b0.length<=_;omega,by simp;omega,rfl⟩ (Sv.aK [0,1]) ?_
 rintro⟨n,⟨b,e⟩,out⟩ ⟨h0,h1,hl,ho,hg⟩
 replace h0:0<=n:=h0
 replace h1:n<=4096:=h1
 replace hl:b.length<=8388609:=hl
 replace ho:out.length+n.toNat<=4096:=ho
 replace hg:aP cO N.toNat (b0,e0)=(out++(aP cO n.toNat (b,e)).1,(aP cO n.toNat (b,e)).2):=hg
 obtain⟨x,b2,e2,ep⟩:∃(x:bJ) (b2:List UInt8) (e2:Int),cO (b,e)=(x,(b2,e2)):=⟨_,_,_,rfl⟩
 have oo:b2.length<=8388609:=by
  have h:=Oy (b,e)
  rw[ep] at h
  exact Nat.le_trans h hl
 have iq:(n<=0\/¬e=0)->cY cO most s0=(out,(b,e)):=fun h=>by
  rw[eL,hg]
  rcases h with h|h
  ·rw[show n.toNat=0 by omega];simp[aP]
  ·rw[vJ _ _ _ h];simp
 have lG:0<n->e=0->aP cO N.toNat (b0,e0)=((out++[x])++(aP cO (n-1).toNat (b2,e2)).1,(aP cO (n-1).toNat (b2,e2)).2):=fun hn h=>by
  rw[hg,Bu _ hn h,ep]
  simp
 cases out with
 |nil=>
  conv=>arg 2;whnf
  refine an (fun hn=>?_) (fun hn=>?_)
  ·replace hn:0<n:=by simpa using hn
   repeat' (conv=>arg 2;whnf);first|refine cE 0 (b,e) (b,e) (.int .i64 e) fY hl rfl rfl ?_|apply an<;>intro h|refine aX 0 (fun x=>D.agg (bL x)) ep sy hl ?_|refine aT (by constructor<;>(simp only[List.length_cons,List.length_nil];decide)) ?_|refine bw (cj (by show _<=n-1;omega) (by show n-1<=_;omega)) ?_|refine aZ (n-1,(b2,e2),[x]) (Sv.aK [0,1,4]) ⟨by show 0<=n-1;omega,by show n-1<=4096;omega,oo,by show([x]).length+(n-1).toNat<=4096;simp at ho ⊢;omega,lG hn (by simpa using h)⟩ (by show(n-1).toNat<n.toNat;omega)|refine bq ?_|refine cU (k:=fun x=>D.list 2 (List.map bL x)) rfl (iq (.inr (by simpa using h))) (.nil _)
  ·replace hn:n<=0:=by simpa using hn
   repeat' (conv=>arg 2;whnf);first|refine bq ?_|refine cU (k:=fun x=>D.list 2 (List.map bL x)) rfl (iq (.inl hn)) (.nil _)
 |cons y out=>
  conv=>arg 2;whnf
  refine an (fun hn=>?_) (fun hn=>?_)
  ·replace hn:0<n:=by simpa using hn
   repeat' (conv=>arg 2;whnf);first|refine cE 0 (b,e) (b,e) (.int .i64 e) fY hl rfl rfl ?_|apply an<;>intro h|refine aX 0 (fun x=>D.agg (bL x)) ep sy hl ?_|refine aT (by constructor<;>(simp only[List.length_cons,List.length_nil,List.length_map,maxLen] at ho ⊢;omega)) ?_|refine bw (cj (by show _<=n-1;omega) (by show n-1<=_;omega)) ?_|refine aZ (n-1,(b2,e2),(y::out)++[x]) (Sv.mk' [0,1,5] rfl ⟨⟨rfl,rfl⟩,⟨rfl,rfl⟩,⟨rfl,by simp;rfl⟩,trivial⟩ ⟨rfl,rfl,rfl,rfl,trivial⟩) ⟨by show 0<=n-1;omega,by show n-1<=4096;omega,oo,by show((y::out)++[x]).length+(n-1).toNat<=4096;simp at ho ⊢;omega,lG hn (by simpa using h)⟩ (by show(n-1).toNat<n.toNat;omega)|refine bq ?_|refine qD (k:=fun x=>D.list 2 (List.map bL x)) [2] rfl (iq (.inr (by simpa using h))) (.refl _)
  ·replace hn:n<=0:=by simpa using hn
   repeat' (conv=>arg 2;whnf);first|refine bq ?_|refine qD (k:=fun x=>D.list 2 (List.map bL x)) [2] rfl (iq (.inl hn)) (.refl _)
def lT (s:RS):gX×RS:=
 let a:=bF 0 s
 let d:=bF 0 a.2
 let l:=cY cO (if a.1=0 then 0 else 13) (lS ((a.1==0)==(d.1==0)) d.2)
 (⟨a.1,d.1,l.1⟩,l.2)
theorem Wv {α:Type} {p:RS->α×RS} (hp:∀s,(p s).2.1.length<=s.1.length) (most:Int) (hm:0<=most) (s:RS):∃(l:List α) (b:List UInt8) (e:Int),cY p most s=(l,(b,e))/\b.length<=s.1.length:=
 ⟨_,_,_,rfl,XS hp most hm s⟩
theorem Jw [Wd]:gz 236 (.agg [.ptr 0 0]) [] (fun s=>.agg (mj (lT s).1)) (fun s=>(lT s).2):=by
 intro s hs
 obtain⟨n,b,e,en,Tc,hn,hb⟩:=CT 0 s
 obtain⟨d,b2,e2,ed,oV,hd,eJ⟩:=CT 0 (b,e)
 replace eJ:b2.length<=b.length:=eJ
 have cw:b.length<=8388609:=by omega
 have B9:b2.length<=8388609:=by omega
 obtain⟨b3,e3,em⟩:∃(b3:List UInt8) (e3:Int),lS ((n==0)==(d==0)) (b2,e2)=(b3,e3):=⟨_,_,rfl⟩
 have afk:b3.length<=8388609:=by
  have h:=CW ((n==0)==(d==0)) (b2,e2)
  rw[em] at h
  have h':b3=b2:=h
  rw[h']
  exact B9
 obtain⟨M,hM,Td,T6⟩:∃M:Int,(if n=0 then 0 else 13)=M/\0<=M/\M<=4096:=⟨_,rfl,by split<;>decide,by split<;>decide⟩
 obtain⟨l,b4,e4,el,_⟩:=Wv Oy M Td (b3,e3)
 have eR:lT s=(⟨n,d,l⟩,(b4,e4)):=by unfold lT;simp only[en,ed,em,hM,el]
 refine ak 28 [] func236 ?_
 by_cases hz:n=0
 all_goals
  first|rw[if_pos hz] at hM|rw[if_neg hz] at hM
  subst hM
  repeat' (conv=>arg 2;whnf);first|refine aX 0 (fun x=>D.int .i64 x) en (mK 0) hs ?_|refine aX 0 (fun x=>D.int .i64 x) ed (wP 0) cw ?_|refine cE 0 (b2,e2) (b3,e3) (.aj []) (FJ ((n==0)==(d==0))) B9 em.symm rfl ?_|refine aX 0 (fun x=>D.list 2 (List.map bL x)) el (NK _ Td T6) afk ?_|apply an<;>intro h|refine cU (k:=fun x=>D.agg (mj x)) rfl eR (.refl _)|(exfalso;simp_all;done)
def cS {α:Type} (p:RS->α×RS) (z:α) (b:List UInt8):α×Int:=
 if 262144<b.length then(z,3) else if dA (p (b,0)).2=0 then((p (b,0)).1,0) else(z,dA (p (b,0)).2)
theorem Oz {α:Type} {p:RS->α×RS} {z:α} {b:List UInt8} (h:262144<b.length):cS p z b=(z,3):=by unfold cS;rw[if_pos h]
theorem OA {α:Type} {p:RS->α×RS} {z c:α} {b:List UInt8} {s:RS} (h:¬262144<b.length) (e:p (b,0)=(c,s)) (hd:¬dA s=0):cS p z b=(z,dA s):=by unfold cS;rw[if_neg h,e,if_neg hd]
theorem FK {α:Type} {p:RS->α×RS} {z c:α} {b:List UInt8} {s:RS} (h:¬262144<b.length) (e:p (b,0)=(c,s)) (hd:dA s=0):cS p z b=(c,0):=by unfold cS;rw[if_neg h,e,if_pos hd]
theorem Ww (n:Nat) (s:RS):∃(x b:List UInt8) (e:Int),fR n s=(x,(b,e))/\b.length<=s.1.length/\x.length<=n:=by
 refine⟨(fR n s).1,(fR n s).2.1,(fR n s).2.2,rfl,I6 n s,?_⟩
 unfold fR
 split
 ·split
  ·exact Nat.zero_le _
  ·split
   ·exact Nat.zero_le _
   ·rw[List.length_take,Int.toNat_natCast];omega
 ·exact Nat.zero_le _
theorem VL (most:Nat) (s:RS):∃(x b:List UInt8) (e:Int),fB most s=(x,(b,e))/\b.length<=s.1.length/\x.length<=most:=by
 obtain⟨n,b,e,en,h1,h2⟩:=wR most s
 obtain⟨x,b2,e2,ex,h3,h4⟩:=Ww n (b,e)
 refine⟨x,b2,e2,?_,Nat.le_trans h3 h2,Nat.le_trans h4 h1⟩
 unfold fB
 rw[en]
 exact ex
theorem G0 {e:Int} (h1:0<=e) (h2:e<18446744073709551616):IntKind.u64.wrap e=e:=by
 simp only[IntKind.wrap,IntKind.signed,IntKind.bits]
 simp
 omega
structure Rd1 {α:Type} (p:RS->α×RS):Prop where
 len:∀s,(p s).2.1.length<=s.1.length
 stay:∀s,¬s.2=0->¬(p s).2.2=0
structure Cd {α:Type} (p:RS->α×RS) (ok:α->Prop) (b:α->List UInt8):Prop extends Rd1 p where
 there:∀x r,ok x->p (b x++r,0)=(x,(r,0))
 back:∀t,(p (t,0)).2.2=0->ok (p (t,0)).1/\t=b (p (t,0)).1++(p (t,0)).2.1
theorem Rd1.ok {α:Type} {p:RS->α×RS} (h:Rd1 p) {s:RS} (e:(p s).2.2=0):s=(s.1,0):=by
 by_cases h0:s.2=0
 ·rw[<-h0]
 ·exact absurd e (h.stay s h0)
def cN {α β:Type} (p:RS->α×RS) (q:α->RS->β×RS) (s:RS):(α×β)×RS:=(((p s).1,(q (p s).1 (p s).2).1),(q (p s).1 (p s).2).2)
def bg {α β:Type} (p:RS->α×RS) (q:RS->β×RS):RS->(α×β)×RS:=cN p fun _=>q
def bN {α β:Type} (f:α->β) (p:RS->α×RS) (s:RS):β×RS:=(f (p s).1,(p s).2)
def fZ {α:Type} (p:RS->α×RS) (f:α->Int) (s:RS):α×RS:=((p s).1,fF (f (p s).1) (p s).2)
def jR {α:Type} (p:RS->α×RS) (z:α) (s:RS):α×RS:=if(p s).2.2=0 then p s else(z,(p s).2)
theorem wS (k:Int) (s:RS):(fF k s).1=s.1:=by unfold fF;split<;>rfl
theorem Rd1.bind {α β:Type} {p:RS->α×RS} {q:α->RS->β×RS} (h:Rd1 p) (k:∀x,Rd1 (q x)):Rd1 (cN p q):=
 ⟨fun s=>Nat.le_trans ((k _).len _) (h.len s),fun s hs=>(k _).stay _ (h.stay s hs)⟩
theorem Rd1.map {α β:Type} {p:RS->α×RS} (f:α->β) (h:Rd1 p):Rd1 (bN f p):=⟨h.len,h.stay⟩
theorem Rd1.guard {α:Type} {p:RS->α×RS} (f:α->Int) (h:Rd1 p):Rd1 (fZ p f):=
 ⟨fun s=>by show(fF _ _).1.length<=_;rw[wS];exact h.len s,fun s hs=>by
   show ¬(fF _ _).2=0
   unfold fF
   rw[if_neg (h.stay s hs)]
   exact h.stay s hs⟩
theorem Rd1.zero {α:Type} {p:RS->α×RS} (z:α) (h:Rd1 p):Rd1 (jR p z):=
 ⟨fun s=>by unfold jR;split<;>exact h.len s,fun s hs=>by unfold jR;split<;>exact h.stay s hs⟩
theorem Cd.bind {α β:Type} {p:RS->α×RS} {q:α->RS->β×RS} {ok:α->Prop} {ok':α->β->Prop} {b:α->List UInt8} {b':α->β->List UInt8}
 (h:Cd p ok b) (k:∀x,Rd1 (q x)) (g:∀x,ok x->Cd (q x) (ok' x) (b' x)):Cd (cN p q) (fun z=>ok z.1/\ok' z.1 z.2) (fun z=>b z.1++b' z.1 z.2) where
 toRd1:=h.toRd1.bind k
 there:=fun ⟨x,y⟩ r hh=>by
  show((_,_),_)=_
  rw[show(b x++b' x y++r)=b x++(b' x y++r) from List.append_assoc _ _ _,h.there x _ hh.1]
  show((x,(q x (b' x y++r,0)).1),(q x (b' x y++r,0)).2)=_
  rw[(g x hh.1).there y r hh.2]
 back:=fun t e=>by
  have e2:=(k _).ok (s:=(p (t,0)).2) e
  obtain⟨h1,h2⟩:=h.back t (by rw[e2])
  have e3:(q (p (t,0)).1 ((p (t,0)).2.1,0)).2.2=0:=by rw[<-e2];exact e
  obtain⟨g1,g2⟩:=(g _ h1).back _ e3
  rw[<-e2] at g1 g2
  refine⟨⟨h1,g1⟩,?_⟩
  show t=(b _++b' _ _)++_
  rw[List.append_assoc]
  conv=>lhs;rw[h2,g2]
  rfl
theorem Cd.pair {α β:Type} {p:RS->α×RS} {q:RS->β×RS} {ok:α->Prop} {ok':β->Prop} {b:α->List UInt8} {b':β->List UInt8}
 (h:Cd p ok b) (g:Cd q ok' b'):Cd (bg p q) (fun z=>ok z.1/\ok' z.2) (fun z=>b z.1++b' z.2):=
 h.bind (ok':=fun _=>ok') (b':=fun _=>b') (fun _=>g.toRd1) (fun _ _=>g)
theorem Cd.map {α β:Type} {p:RS->α×RS} {ok:α->Prop} {b:α->List UInt8} {ok':β->Prop} {b':β->List UInt8} (h:Cd p ok b) (f:α->β) (g:β->α)
 (h1:∀x,ok x->ok' (f x)/\b' (f x)=b x) (h2:∀y,ok' y->ok (g y)/\f (g y)=y):Cd (bN f p) ok' b' where
 toRd1:=h.toRd1.map f
 there:=fun y r hy=>by
  obtain⟨g1,g2⟩:=h2 y hy
  have h3:=h1 _ g1
  rw[g2] at h3
  show(f _,_)=_
  rw[h3.2,h.there _ r g1,g2]
 back:=fun t e=>by
  obtain⟨k1,k2⟩:=h.back t e
  obtain⟨h3,h4⟩:=h1 _ k1
  refine⟨h3,?_⟩
  show t=b' (f _)++_
  rw[h4]
  exact k2
theorem Cd.guard {α:Type} {p:RS->α×RS} {ok:α->Prop} {b:α->List UInt8} (h:Cd p ok b) (f:α->Int):Cd (fZ p f) (fun x=>ok x/\f x=0) b where
 toRd1:=h.toRd1.guard f
 there:=fun x r hx=>by
  show(_,fF _ _)=_
  rw[h.there x r hx.1]
  show(x,fF (f x) (r,0))=_
  rw[hx.2]
  rfl
 back:=fun t e=>by
  have e:(fF (f (p (t,0)).1) (p (t,0)).2).2=0:=e
  have e1:(p (t,0)).2.2=0:=by
   by_cases h0:(p (t,0)).2.2=0
   ·exact h0
   ·unfold fF at e;rw[if_neg h0] at e;exact e
  have e2:f (p (t,0)).1=0:=by
   unfold fF at e;rw[if_pos e1] at e;exact e
  obtain⟨k1,k2⟩:=h.back t e1
  refine⟨⟨k1,e2⟩,?_⟩
  show t=b _++(fF _ _).1
  rw[wS]
  exact k2
theorem Cd.zero {α:Type} {p:RS->α×RS} {ok:α->Prop} {b:α->List UInt8} (h:Cd p ok b) (z:α):Cd (jR p z) ok b where
 toRd1:=h.toRd1.zero z
 there:=fun x r hx=>by
  unfold jR
  rw[h.there x r hx,if_pos rfl]
 back:=fun t e=>by
  have e1:(p (t,0)).2.2=0:=by
   by_cases h0:(p (t,0)).2.2=0
   ·exact h0
   ·unfold jR at e;rw[if_neg h0] at e;exact e
  have e2:jR p z (t,0)=p (t,0):=by unfold jR;rw[if_pos e1]
  rw[e2]
  exact h.back t e1
theorem Cd.as {α:Type} {p:RS->α×RS} {ok ok':α->Prop} {b b':α->List UInt8} (h:Cd p ok b) (h1:∀x,ok' x<->ok x) (h2:∀x,ok x->b' x=b x):Cd p ok' b' where
 toRd1:=h.toRd1
 there:=fun x r hx=>by rw[h2 x ((h1 x).1 hx)];exact h.there x r ((h1 x).1 hx)
 back:=fun t e=>by
  obtain⟨k1,k2⟩:=h.back t e
  exact⟨(h1 _).2 k1,by rw[h2 _ k1];exact k2⟩
def qM {α:Type} (x:α) (s:RS):α×RS:=(x,s)
theorem zJ {α:Type} (x:α):Rd1 (qM x):=⟨fun s=>Nat.le_refl _,fun s h=>h⟩
theorem Qd {α:Type} (x:α):Cd (qM x) (fun y=>y=x) (fun _=>[]) where
 toRd1:=zJ x
 there:=fun y r h=>by rw[h];rfl
 back:=fun t e=>⟨rfl,rfl⟩
def nR (most:Nat) (s:RS):Int×RS:=(((cy most s).1:Int),(cy most s).2)
theorem Bl (most:Nat) (s:RS) (h:¬s.2=0):cy most s=(0,s):=by unfold cy;rw[if_neg h]
theorem dD (most:Nat):Rd1 (nR most):=⟨zB most,fun s h=>by show ¬(cy most s).2.2=0;rw[Bl most s h];exact h⟩
theorem j3 (most:Nat) (hm:most<18446744073709551616):Cd (nR most) (fun n=>0<=n/\n<=most) aJ where
 toRd1:=dD most
 there:=fun n r ⟨h0,h1⟩=>by
  have e:=abx most n.toNat 0 0 r (by omega) (by omega) (by omega) (by omega)
  rw[eK h0 (by omega)]
  unfold nR cy
  rw[if_pos rfl,e]
  simp
  omega
 back:=fun t e=>by
  have e:(cy most (t,0)).2.2=0:=e
  have hle:=yp most (t,0)
  unfold cy at e
  rw[if_pos rfl] at e
  split at e
  ·rename_i h0
   obtain⟨d,h1,h2,_⟩:=Pt most t 0 0 _ _ (show eH most 0 0 t=((eH most 0 0 t).1,(eH most 0 0 t).2.1,0) by rw[<-h0])
   have hn:cy most (t,0)=((eH most 0 0 t).1,((eH most 0 0 t).2.1,0)):=by unfold cy;rw[if_pos rfl,if_pos h0]
   rw[hn] at hle
   have hle:(eH most 0 0 t).1<=most:=hle
   unfold nR
   rw[hn]
   refine⟨⟨by simp,by show(((eH most 0 0 t).1:Nat):Int)<=most;omega⟩,?_⟩
   show t=aJ (((eH most 0 0 t).1:Nat):Int)++(eH most 0 0 t).2.1
   rw[eK (by omega) (by omega),Int.toNat_natCast,h1]
   simpa using h2
  ·rename_i h0
   exact absurd e h0
theorem JC (least:Int):bF least=jR (fZ (nR MX) fun n=>if n<least then 100 else 0) 0:=by
 funext s
 obtain⟨n,b,e,en,hn,hb⟩:=wR MX s
 unfold bF jR fZ nR fF
 rw[en]
 simp only
 by_cases he:e=0
 ·subst he
  by_cases hl:(n:Int)<least
  ·simp[hl]
  ·simp[hl]
 ·simp[he]
theorem bV (least:Int):Rd1 (bF least):=by rw[JC];exact((dD MX).guard _).zero _
theorem jW (least:Int) (h0:0<=least):Cd (bF least) (fun n=>least<=n/\n<=9007199254740992) aJ:=by
 rw[JC]
 refine(((j3 MX (by decide)).guard _).zero _).as (fun n=>?_) (fun _ _=>rfl)
 have hM:((MX:Nat):Int)=9007199254740992:=rfl
 rw[hM]
 constructor
 ·intro h;exact⟨⟨by omega,by omega⟩,by rw[if_neg (by omega)]⟩
 ·intro ⟨⟨h1,h2⟩,h3⟩
  refine⟨?_,h2⟩
  by_cases hl:n<least
  ·rw[if_pos hl] at h3;cases h3
  ·omega
theorem FW (c:Bool) (s:RS):lS c s=fF (if c then 0 else 100) s:=by
 obtain⟨b,e⟩:=s
 unfold lS fF
 cases c
 ·simp
 ·simp
theorem JD (most:Int):ia most=jR (fZ (bF 0) fun n=>if n<=most then 0 else 100) 0:=by
 funext s
 unfold ia jR fZ
 rw[FW]
 have e:(if decide ((bF 0 s).1<=most)=true then(0:Int) else 100)=if(bF 0 s).1<=most then 0 else 100:=by simp
 rw[e]
theorem uu (most:Int):Rd1 (ia most):=by rw[JD];exact((bV 0).guard _).zero _
theorem Qe (most:Int) (hm:most<=4096):Cd (ia most) (fun n=>0<=n/\n<=most) aJ:=by
 rw[JD]
 refine(((jW 0 (by decide)).guard _).zero _).as (fun n=>?_) (fun _ _=>rfl)
 constructor
 ·intro h;exact⟨⟨h.1,by omega⟩,if_pos h.2⟩
 ·intro ⟨⟨h1,h2⟩,h3⟩
  refine⟨h1,?_⟩
  by_cases hl:n<=most
  ·exact hl
  ·rw[if_neg hl] at h3;cases h3
theorem Oj (n:Int) (s:RS) (h:¬s.2=0):fR n s=([],s):=by unfold fR;rw[if_neg h]
theorem JB (n:Int):Rd1 (fR n):=⟨I6 n,fun s h=>by rw[Oj n s h];exact h⟩
theorem Yo (x r:List UInt8):fR ((x.length:Nat):Int) (x++r,0)=(x,(r,0)):=by
 unfold fR
 rw[if_pos rfl,if_neg (by omega),if_neg (by simp only[List.length_append];omega),Int.toNat_natCast]
 simp
theorem W5 {n:Nat} {t:List UInt8} (h:(fR (n:Int) (t,0)).2.2=0):t=(fR (n:Int) (t,0)).1++(fR (n:Int) (t,0)).2.1/\(fR (n:Int) (t,0)).1.length=n:=by
 unfold fR at h ⊢
 rw[if_pos rfl,if_neg (by omega)] at h ⊢
 split at h
 ·cases h
 ·rename_i hl
  rw[if_neg hl,Int.toNat_natCast]
  refine⟨(List.take_append_drop _ _).symm,?_⟩
  simp only[List.length_take] at hl ⊢
  have hl:¬(t.length:Int)<(n:Int):=hl
  omega
theorem iB (most:Nat):Rd1 (fB most):=
 ⟨Wu most,fun s h=>by
   unfold fB
   exact(JB _).stay _ ((dD most).stay s h)⟩
theorem vG (most:Nat) (hm:most<=4194304):Cd (fB most) (fun x=>x.length<=most) cB where
 toRd1:=iB most
 there:=fun x r hx=>by
  have e:=(j3 most (by omega)).there (x.length:Int) (x++r) ⟨by omega,by omega⟩
  rw[eK (by omega) (by omega),Int.toNat_natCast] at e
  have e1:cy most (enc x.length++(x++r),0)=(x.length,(x++r,0)):=by
   have h1:=congrArg Prod.fst e
   have h2:=congrArg Prod.snd e
   have h1:(((cy most (enc x.length++(x++r),0)).1:Nat):Int)=((x.length:Nat):Int):=h1
   exact Prod.ext (by omega) h2
  unfold fB cB
  rw[List.append_assoc,e1]
  exact Yo x r
 back:=fun t e=>by
  have e2:=(JB _).ok (s:=(cy most (t,0)).2) e
  obtain⟨⟨h0,h1⟩,h2⟩:=(j3 most (by omega)).back t (by show(cy most (t,0)).2.2=0;rw[e2])
  have h1:(((cy most (t,0)).1:Nat):Int)<=(most:Int):=h1
  have h2:t=aJ ((cy most (t,0)).1:Int)++(cy most (t,0)).2.1:=h2
  have e3:(fR ((cy most (t,0)).1:Int) ((cy most (t,0)).2.1,0)).2.2=0:=by rw[<-e2];exact e
  obtain⟨g1,g2⟩:=W5 e3
  rw[<-e2] at g1 g2
  refine⟨by show(fR _ _).1.length<=_;rw[g2];omega,?_⟩
  rw[eK (by omega) (by omega),Int.toNat_natCast] at h2
  show t=cB (fR _ _).1++(fR _ _).2.1
  unfold cB
  rw[g2,List.append_assoc,<-g1]
  exact h2
theorem JQ {α:Type} {p:RS->α×RS} (h:Rd1 p) (n:Nat) (s:RS) (hs:¬s.2=0):¬(aP p n s).2.2=0:=by rw[vJ p n s hs];exact hs
theorem uB {α:Type} {p:RS->α×RS} (h:Rd1 p) (n:Nat):Rd1 (aP p n):=⟨Dl h.len n,JQ h n⟩
theorem Kn {α:Type} {p:RS->α×RS} {ok:α->Prop} {b:α->List UInt8} (h:Cd p ok b):∀(l:List α) (r:List UInt8),(∀x∈l,ok x)->aP p l.length (l.flatMap b++r,0)=(l,(r,0))
 |[],r,_=>rfl
 |x::l,r,hx=>by
  rw[List.length_cons,aP,if_pos rfl,List.flatMap_cons,List.append_assoc,h.there x _ (hx x (.head _))]
  show(x::(aP p l.length (l.flatMap b++r,0)).1,(aP p l.length (l.flatMap b++r,0)).2)=_
  rw[Kn h l r fun y hy=>hx y (.tail _ hy)]
theorem JR {α:Type} {p:RS->α×RS} {ok:α->Prop} {b:α->List UInt8} (h:Cd p ok b):∀(n:Nat) (t:List UInt8),(aP p n (t,0)).2.2=0->(∀x∈(aP p n (t,0)).1,ok x)/\(aP p n (t,0)).1.length=n/\t=(aP p n (t,0)).1.flatMap b++(aP p n (t,0)).2.1
 |0,t,_=>⟨fun x hx=>(List.not_mem_nil hx).elim,rfl,rfl⟩
 |n+1,t,e=>by
  have e1:aP p (n+1) (t,0)=((p (t,0)).1::(aP p n (p (t,0)).2).1,(aP p n (p (t,0)).2).2):=by rw[aP,if_pos rfl]
  rw[e1] at e ⊢
  have e:(aP p n (p (t,0)).2).2.2=0:=e
  have e2:=(uB h.toRd1 n).ok (s:=(p (t,0)).2) e
  obtain⟨h1,h2⟩:=h.back t (by rw[e2])
  have e3:(aP p n ((p (t,0)).2.1,0)).2.2=0:=by rw[<-e2];exact e
  obtain⟨g1,g2,g3⟩:=JR h n _ e3
  rw[<-e2] at g1 g2 g3
  refine⟨fun x hx=>?_,by simp[g2],?_⟩
  ·rcases List.mem_cons.1 hx with rfl|hx
   ·exact h1
   ·exact g1 x hx
  ·show t=(_::_).flatMap b++_
   rw[List.flatMap_cons,List.append_assoc,<-g3]
   exact h2
theorem acE {α:Type} {p:RS->α×RS} {ok:α->Prop} {b:α->List UInt8} {c:RS->Int×RS} {most:Int} (hc:Cd c (fun n=>0<=n/\n<=most) aJ) (hm:most<=4096) (h:Cd p ok b):
 Cd (fun s=>aP p (c s).1.toNat (c s).2) (fun l=>(l.length:Int)<=most/\∀x∈l,ok x) (lH b) where
 len:=fun s=>Nat.le_trans (Dl h.len _ _) (hc.len s)
 stay:=fun s hs=>JQ h.toRd1 _ _ (hc.stay s hs)
 there:=fun l r hl=>by
  unfold lH
  rw[List.append_assoc,hc.there _ _ ⟨by omega,hl.1⟩]
  show aP p ((l.length:Nat):Int).toNat _=_
  rw[Int.toNat_natCast]
  exact Kn h l r hl.2
 back:=fun t e=>by
  have e:(aP p (c (t,0)).1.toNat (c (t,0)).2).2.2=0:=e
  have e2:=(uB h.toRd1 _).ok (s:=(c (t,0)).2) e
  obtain⟨⟨h0,h1⟩,h2⟩:=hc.back t (by rw[e2])
  have e3:(aP p (c (t,0)).1.toNat ((c (t,0)).2.1,0)).2.2=0:=by rw[<-e2];exact e
  obtain⟨g1,g2,g3⟩:=JR h _ _ e3
  rw[<-e2] at g1 g2 g3
  refine⟨⟨?_,g1⟩,?_⟩
  ·show(((aP p (c (t,0)).1.toNat (c (t,0)).2).1.length:Nat):Int)<=most
   rw[g2];omega
  ·show t=lH b (aP p (c (t,0)).1.toNat (c (t,0)).2).1++_
   unfold lH
   rw[g2,Int.toNat_of_nonneg h0,List.append_assoc,<-g3]
   exact h2
theorem jL {α:Type} {p:RS->α×RS} (h:Rd1 p) (most:Int):Rd1 (cY p most):=
 ⟨fun s=>Nat.le_trans (Dl h.len _ _) ((uu most).len s),fun s hs=>JQ h _ _ ((uu most).stay s hs)⟩
theorem zK {α:Type} {p:RS->α×RS} {ok:α->Prop} {b:α->List UInt8} (h:Cd p ok b) (most:Int) (hm:most<=4096):Cd (cY p most) (fun l=>(l.length:Int)<=most/\∀x∈l,ok x) (lH b):=
 acE (Qe most hm) hm h
structure Pc {α:Type} (p:List UInt8->α×Int) (ok:α->Prop) (b:α->List UInt8):Prop where
 there:∀x,ok x->p (b x)=(x,0)
 back:∀t,(p t).2=0->ok (p t).1/\t=b (p t).1
theorem W6 {s:RS} (h:dA s=0):s=([],0):=by
 obtain⟨b,e⟩:=s
 unfold dA at h
 by_cases he:e=0
 ·rw[if_pos he] at h
  by_cases hb:b=[]
  ·rw[he,hb]
  ·rw[if_neg hb] at h;cases h
 ·rw[if_neg he] at h;exact absurd h he
theorem Rd1.get {α:Type} {p:RS->α×RS} (h:Rd1 p) (s:RS):∃(x:α) (b:List UInt8) (e:Int),p s=(x,(b,e))/\b.length<=s.1.length:=⟨_,_,_,rfl,h.len s⟩
theorem Rd1.pair {α β:Type} {p:RS->α×RS} {q:RS->β×RS} (h:Rd1 p) (k:Rd1 q):Rd1 (bg p q):=h.bind fun _=>k
def dG {α:Type} (p:RS->α×RS):Nat->RS->List α×RS
 |0=>qM []
 |n+1=>bN (fun z=>z.1::z.2) (bg p (dG p n))
theorem w7 {α:Type} {p:RS->α×RS} (h:Rd1 p):∀n,Rd1 (dG p n)
 |0=>zJ _
 |n+1=>(h.pair (w7 h n)).map _
def lP (k:Int):RS->bt×RS:=
 if k=0 then qM ⟨0,[],[],0,[]⟩
 else if k=1 then bN (fun t=>⟨1,t,[],0,[]⟩) (fB 64)
 else if k=2 then bN (fun z=>⟨2,z.1,[],0,z.2⟩) (bg (fB 64) (bN Prod.snd (cN (nR 4) fun n=>dG (fB 64) n.toNat)))
 else if k=3 then bN (fun z=>⟨3,z.1,z.2.1,z.2.2,[]⟩) (bg (fB 64) (bg (fB 64) (nR MX)))
 else bN (fun z=>⟨k,z.1,[],z.2,[]⟩) (bg (fB 64) (nR MX))
theorem IP (k:Int):Rd1 (lP k):=by
 unfold lP
 repeat' split
 ·exact zJ _
 ·exact(iB _).map _
 ·exact((iB _).pair (((dD 4).bind fun n=>w7 (iB 64) _).map _)).map _
 ·exact((iB _).pair ((iB _).pair (dD _))).map _
 ·exact((iB _).pair (dD _)).map _
def eF:RS->bt×RS:=jR (fZ (bN Prod.snd (cN (nR 4) lP)) bS) za
theorem DE:Rd1 eF:=((((dD 4).bind IP).map _).guard _).zero _
def rz:RS->nH×RS:=jR (bN (fun z=>⟨z.1,z.2⟩) (bg (nR 65536) (nR MX))) me
theorem Be:Rd1 rz:=(((dD _).pair (dD _)).map _).zero _
theorem FN:cO=jR (fZ (bN (fun z=>⟨z.1,z.2⟩) (bg (nR 20) (nR MX))) fun s=>if s.ah=0 then 81 else 0) dx:=by
 funext s
 obtain⟨n,b,e,en,hn,hb⟩:=wR 20 s
 obtain⟨m,b2,e2,em,hm,eJ⟩:=wR MX (b,e)
 unfold cO jR fZ bN bg cN nR fF
 simp only[en,em]
 by_cases he:e2=0
 ·subst he
  by_cases hm:m=0
  ·simp[hm]
  ·simp[hm]
 ·simp[he]
theorem eM:Rd1 cO:=by rw[FN];exact((((dD _).pair (dD _)).map _).guard _).zero _
def wu:ju:=⟨0,0,za⟩
def vL:RS->ju×RS:=bN (fun z=>⟨z.1,z.2.1,z.2.2⟩) (bg (nR 7) (bg (nR MX) eF))
def jm (b:List UInt8):ju×Int:=
 if dA (vL (b,0)).2=0 then(if(vL (b,0)).1.time=0 then(wu,80) else((vL (b,0)).1,0)) else(wu,dA (vL (b,0)).2)
def jj:RS->bX×RS:=bN (fun z=>⟨(jm z.1).1,z.2⟩) (bg (fZ (fB 1024) fun x=>(jm x).2) cO)
theorem oB:Rd1 jj:=(((iB _).guard _).pair eM).map _
def jZ:RS->List bX×RS:=jR (fZ (bN Prod.snd (cN (nR 4) fun n=>aP jj n.toNat)) fA) []
theorem oD:Rd1 jZ:=((((dD 4).bind fun n=>uB oB _).map _).guard _).zero _
theorem zF:lT=bN (fun z=>⟨z.1.1,z.1.2,z.2⟩) (cN (fZ (bg (bF 0) (bF 0)) fun z=>if(z.1==0)==(z.2==0) then 0 else 100) fun z=>cY cO (if z.1=0 then 0 else 13)):=by
 funext s
 unfold lT bN cN fZ bg cN
 simp only[FW]
theorem uw:Rd1 lT:=by rw[zF];exact((((bV _).pair (bV _)).guard _).bind fun z=>jL eM _).map _
def uC:RS->List bJ×RS:=cY cO 13
def jB:RS->jt×RS:=bN (fun z=>⟨z.1,z.2.1,z.2.2.1,z.2.2.2.1,z.2.2.2.2.1,z.2.2.2.2.2⟩) (bg (bF 0) (bg (bF 1) (bg (bF 1) (bg cO (bg uC jZ)))))
theorem uv:Rd1 jB:=((bV _).pair ((bV _).pair ((bV _).pair (eM.pair ((jL eM _).pair oD))))).map _
def iE:RS->cX×RS:=bN (fun z=>⟨z.1,z.2.1,z.2.2.1,z.2.2.2.1,z.2.2.2.2⟩) (bg (bF 1) (bg (nR 12) (bg lT (bg (cY jB 8) cO))))
theorem sI:Rd1 iE:=((bV _).pair ((dD _).pair (uw.pair ((jL uv _).pair eM)))).map _
def iC:RS->gq×RS:=bN (fun z=>⟨z.1,z.2.1,z.2.2.1,z.2.2.2⟩) (bg (bF 0) (bg (bF 1) (bg jZ cO)))
theorem pE:Rd1 iC:=((bV _).pair ((bV _).pair (oD.pair eM))).map _
def jA:RS->j7×RS:=bN (fun z=>⟨z.1,z.2.1,z.2.2.1,z.2.2.2.1,z.2.2.2.2⟩) (bg (bF 1) (bg (bF 0) (bg (bF 0) (bg (bF 0) (bF 0)))))
theorem ux:Rd1 jA:=((bV _).pair ((bV _).pair ((bV _).pair ((bV _).pair (bV _))))).map _
def nS:RS->List UInt8×RS:=fZ (fB 64) mh
theorem C9:Rd1 nS:=(iB _).guard _
def uD:RS->jX×RS:=
 bN (fun z=>⟨z.1.1,z.1.2.1,z.1.2.2.1,z.1.2.2.2.1,z.1.2.2.2.2.1,z.1.2.2.2.2.2,z.2.1,z.2.2⟩)
  (bg (fZ (bg nS (bg (bF 0) (bg (fB 64) (bg (cY jA 64) (bg (bF 0) (ia 16)))))) fun z=>if z.2.2.2.2.1<z.2.2.2.2.2 then 0 else 100) (bg (cY (bF 0) 8) lT))
theorem Jb:Rd1 uD:=(((C9.pair ((bV _).pair ((iB _).pair ((jL ux _).pair ((bV _).pair (uu _)))))).guard _).pair ((jL (bV _) _).pair uw)).map _
def qF:RS->(Int×Int×Int×Int)×RS:=bg (nR 12) (bg (bF 0) (bg (bF 1) (bF 1)))
theorem Bp:Rd1 qF:=(dD _).pair ((bV _).pair ((bV _).pair (bV _)))
def cR (k:Int):RS->aD×RS:=
 if k=1 then bN (fun l=>{aE with kind:=1,batch:=l}) (fZ jZ fun l=>if l.length=1 then 0 else 100)
 else if k=2 then bN (fun z=>{aE with kind:=2,src:=z.1.1,view:=z.1.2.1,seq:=z.1.2.2.1,ah:=z.1.2.2.2,batch:=z.2}) (bg qF jZ)
 else if k=3 then bN (fun z=>{aE with kind:=3,src:=z.1,view:=z.2.1,seq:=z.2.2.1,ah:=z.2.2.2}) qF
 else if k=4 then bN (fun z=>{aE with kind:=4,src:=z.1,view:=z.2.1,seq:=z.2.2.1,ah:=z.2.2.2}) qF
 else if k=5 then bN (fun z=>{aE with kind:=5,src:=z.1,view:=z.2.1,bD:=z.2.2.1,time:=z.2.2.2.1,result:=z.2.2.2.2}) (bg (nR 12) (bg (bF 0) (bg (nR 7) (bg (bF 0) rz))))
 else if k=6 then bN (fun z=>{aE with kind:=6,src:=z.1,seq:=z.2.1,ah:=z.2.2}) (bg (nR 12) (bg (bF 1) (bF 1)))
 else if k=7 then bN (fun c=>{aE with kind:=7,src:=c.src,view:=c.view,changes:=[c]}) iE
 else if k=8 then bN (fun z=>{aE with kind:=8,src:=z.1,view:=z.2.1,changes:=z.2.2.1,entries:=z.2.2.2}) (bg (nR 12) (bg (bF 1) (bg (cY iE 13) (cY iC 8))))
 else if k=9 then bN (fun z=>{aE with kind:=9,src:=z.1,seq:=z.2}) (bg (nR 12) (bF 0))
 else if k=10 then bN (fun z=>{aE with kind:=10,src:=z.1,cert:=z.2.1,state:=z.2.2}) (bg (nR 12) (bg lT (fB 262144)))
 else if k=11 then bN (fun z=>{aE with kind:=11,bD:=z.1,av:=z.2.1,offset:=z.2.2}) (bg (nR 7) (bg nS (bF 0)))
 else if k=12 then bN (fun z=>{aE with kind:=12,src:=z.1,proof:=z.2}) (bg (nR 12) uD)
 else fZ (qM {aE with kind:=k}) fun _=>100
theorem sY {α:Type} {c:Prop} [Decidable c] {p q:RS->α×RS} (h:Rd1 p) (k:Rd1 q):Rd1 (if c then p else q):=by split<;>assumption
theorem C0 (k:Int):Rd1 (cR k):=by
 unfold cR
 refine sY ((oD.guard _).map _) ?_
 refine sY ((Bp.pair oD).map _) ?_
 refine sY (Bp.map _) ?_
 refine sY (Bp.map _) ?_
 refine sY (((dD _).pair ((bV _).pair ((dD _).pair ((bV _).pair Be)))).map _) ?_
 refine sY (((dD _).pair ((bV _).pair (bV _))).map _) ?_
 refine sY (sI.map _) ?_
 refine sY (((dD _).pair ((bV _).pair ((jL sI _).pair (jL pE _)))).map _) ?_
 refine sY (((dD _).pair (bV _)).map _) ?_
 refine sY (((dD _).pair (uw.pair (iB _))).map _) ?_
 refine sY (((dD _).pair (C9.pair (bV _))).map _) ?_
 refine sY (((dD _).pair Jb).map _) ?_
 exact(zJ _).guard _
def jS (k:Int):RS->bJ×RS:=if bW k then cO else qM dx
theorem zG (k:Int):Rd1 (jS k):=by
 unfold jS
 split
 ·exact eM
 ·exact zJ _
def aU:RS->aD×RS:=bN (fun z=>{z.2.1 with sign:=z.2.2}) (cN (nR MX) fun k=>bg (cR k) (jS k))
theorem acF:Rd1 aU:=((dD _).bind fun k=>(C0 k).pair (zG k)).map _
def afS:cX:=⟨0,0,nk,[],dx⟩
def QN:bX:=⟨wu,dx⟩
section
structure au {α:Type} (p:RS->α×RS) (s:RS) (x:α) (t:RS):Prop where
 kM:t.2=0->p s=(x,t)
 bad:¬t.2=0->¬(p s).2.2=0
 len:t.1.length<=s.1.length
section
variable {α β:Type} {p:RS->α×RS} {s t u:RS} {x:α}
theorem au.done (h:au p s x t):(t.2=0<->(p s).2.2=0):=
 ⟨fun e=>by rw[h.kM e];exact e,fun e=>Classical.byContradiction fun k=>h.bad k e⟩
theorem au.stay (h:au p s x t) (k:Rd1 p) (e:¬s.2=0):¬t.2=0:=fun h0=>by
 have:=k.stay s e
 rw[h.kM h0] at this
 exact this h0
theorem au.pure (x:α) (s:RS):au (qM x) s x s:=⟨fun _=>rfl,fun h=>h,Nat.le_refl _⟩
theorem au.bind {q:α->RS->β×RS} {y:β} (h:au p s x t) (g:au (q x) t y u) (k:∀x,Rd1 (q x)):au (cN p q) s (x,y) u where
 kM e:=by
  have h0:t.2=0:=Classical.byContradiction fun n=>g.stay (k x) n e
  unfold cN
  rw[h.kM h0]
  show((x,(q x t).1),(q x t).2)=_
  rw[g.kM e]
 bad e:=by
  show ¬(q (p s).1 (p s).2).2.2=0
  by_cases h0:t.2=0
  ·rw[h.kM h0]
   exact g.bad e
  ·exact(k _).stay _ (h.bad h0)
 len:=Nat.le_trans g.len h.len
theorem au.pair {q:RS->β×RS} {y:β} (h:au p s x t) (g:au q t y u) (k:Rd1 q):au (bg p q) s (x,y) u:=h.bind (q:=fun _=>q) g fun _=>k
theorem au.map (f:α->β) (h:au p s x t):au (bN f p) s (f x) t where
 kM e:=by unfold bN;rw[h.kM e]
 bad e:=h.bad e
 len:=h.len
theorem au.to {q:RS->α×RS} {y:α} (h:au p s x t) (e:q=p) (e2:y=x):au q s y t:=by subst e e2;exact h
theorem au.guard {f:α->Int} (h:au p s x t) (h1:t.2=0->f x=0->u=t) (h2:t.2=0->¬f x=0->¬u.2=0) (h3:¬t.2=0->¬u.2=0) (hl:u.1.length<=t.1.length):au (fZ p f) s x u where
 kM e:=by
  have h0:t.2=0:=Classical.byContradiction fun n=>h3 n e
  have h4:f x=0:=Classical.byContradiction fun n=>h2 h0 n e
  unfold fZ
  rw[h.kM h0]
  show(x,fF (f x) t)=_
  rw[h4,h1 h0 h4]
  obtain⟨b,e⟩:=t
  replace h0:e=0:=h0
  subst h0
  rfl
 bad e:=by
  show ¬(fF (f (p s).1) (p s).2).2=0
  by_cases h0:t.2=0
  ·rw[h.kM h0]
   show ¬(fF (f x) t).2=0
   unfold fF
   rw[if_pos h0]
   intro h4
   have:=h1 h0 h4
   subst this
   exact e h0
  ·unfold fF
   rw[if_neg (h.bad h0)]
   exact h.bad h0
 len:=Nat.le_trans hl h.len
theorem au.zero {z y:α} (h:au p s x t) (h1:t.2=0->y=x):au (jR p z) s y t where
 kM e:=by
  unfold jR
  have:=h.kM e
  rw[this,if_pos e,h1 e]
 bad e:=by
  unfold jR
  rw[if_neg (h.bad e)]
  exact h.bad e
 len:=h.len
theorem au.xu {y:α} (h:¬(p s).2.2=0) (hu:¬u.2=0) (hl:u.1.length<=s.1.length):au p s y u:=⟨fun e=>absurd e hu,fun _=>h,hl⟩
theorem au.gQ {f:α->Int} (h:au p s x t) (hf:t.2=0->f x=0):au (fZ p f) s x t:=
 h.guard (fun _ _=>rfl) (fun e n=>absurd (hf e) n) (fun n=>n) (Nat.le_refl _)
theorem au.nM {f:α->Int} {y:α} (h:au p s x t) (hf:t.2=0->¬f x=0) (hu:¬u.2=0) (hl:u.1.length<=t.1.length):au (fZ p f) s y u:=
 .xu ((h.guard (u:=u) (fun e n=>absurd n (hf e)) (fun _ _=>hu) (fun _=>hu) hl).bad hu) hu (Nat.le_trans hl h.len)
theorem Fh:∀(i:Nat) (s:RS),dG p (i+1) s=((dG p i s).1++[(p (dG p i s).2).1],(p (dG p i s).2).2)
 |0,s=>rfl
 |i+1,s=>by
  have ih:=Fh i (p s).2
  show((p s).1::(dG p (i+1) (p s).2).1,(dG p (i+1) (p s).2).2)=_
  rw[ih]
  rfl
theorem au.nil (s:RS):au (dG p 0) s [] s:=au.pure _ _
theorem au.snoc {i:Nat} {l:List α} (k:Rd1 p) (h:au (dG p i) s l t) (g:au p t x u):au (dG p (i+1)) s (l++[x]) u where
 kM e:=by
  have h0:t.2=0:=Classical.byContradiction fun n=>g.stay k n e
  rw[Fh,h.kM h0]
  show(l++[(p t).1],(p t).2)=_
  rw[g.kM e]
 bad e:=by
  rw[Fh]
  show ¬(p (dG p i s).2).2.2=0
  by_cases h0:t.2=0
  ·rw[h.kM h0]
   exact g.bad e
  ·exact k.stay _ (h.bad h0)
 len:=Nat.le_trans g.len h.len
theorem Ky (k:Rd1 p):∀(n:Nat) (s:RS),((dG p n s).2.2=0->aP p n s=dG p n s)/\(¬(dG p n s).2.2=0->¬(aP p n s).2.2=0)
 |0,s=>⟨fun _=>rfl,fun h=>h⟩
 |n+1,s=>by
  have ih:=Ky k n (p s).2
  have e1:dG p (n+1) s=((p s).1::(dG p n (p s).2).1,(dG p n (p s).2).2):=rfl
  rw[e1]
  by_cases h0:s.2=0
  ·have e2:aP p (n+1) s=((p s).1::(aP p n (p s).2).1,(aP p n (p s).2).2):=by conv=>lhs;unfold aP;rw[if_pos h0]
   rw[e2]
   exact⟨fun h=>by rw[ih.1 h],fun h=>ih.2 h⟩
  ·rw[vJ p _ s h0]
   exact⟨fun h=>absurd h ((w7 k n).stay _ (k.stay s h0)),fun _=>h0⟩
theorem ZH (k:Rd1 p) {i n:Nat} (h:i<=n) (s:RS) (e:¬(dG p i s).2.2=0):¬(dG p n s).2.2=0:=by
 induction n with
 |zero=>
  have:i=0:=by omega
  subst this
  exact e
 |succ n ih=>
  by_cases hi:i=n+1
  ·subst hi;exact e
  ·rw[Fh]
   exact k.stay _ (ih (by omega))
theorem au.list {i n:Nat} {l:List α} (k:Rd1 p) (h:au (dG p i) s l t) (hi:i<=n) (hn:i=n\/¬t.2=0):au (aP p n) s l t where
 kM e:=by
  rcases hn with rfl|hn
  ·rw[(Ky k i s).1 (by rw[h.kM e];exact e)]
   exact h.kM e
  ·exact absurd e hn
 bad e:=(Ky k n s).2 (ZH k hi s (h.bad e))
 len:=h.len
theorem au.all {i n:Nat} {l:List α} (h:au (dG p i) s l t) (hn:i=n):au (dG p n) s l t:=by subst hn;exact h
end
end
theorem RT {α:Type} {p:RS->α×RS} {ok:α->Prop} {b:α->List UInt8} (h:Cd p ok b) (n:Nat):Cd (aP p n) (fun l=>l.length=n/\∀x∈l,ok x) (fun l=>l.flatMap b) where
 toRd1:=uB h.toRd1 n
 there:=fun l r hl=>by rw[<-hl.1];exact Kn h l r hl.2
 back:=fun t e=>by
  obtain⟨h1,h2,h3⟩:=JR h n t e
  exact⟨⟨h2,h1⟩,h3⟩
theorem Rj {α:Type} {p:RS->α×RS} {ok:α->Prop} {b:α->List UInt8} (h:Cd p ok b):∀n,Cd (dG p n) (fun l=>l.length=n/\∀x∈l,ok x) (fun l=>l.flatMap b)
 |0=>{toRd1:=zJ _,there:=fun l r hl=>by rw[List.eq_nil_of_length_eq_zero hl.1];rfl,back:=fun t e=>⟨⟨rfl,fun x hx=>(List.not_mem_nil hx).elim⟩,rfl⟩}
 |n+1=>by
  have ih:=Rj h n
  have e:=h.pair ih
  refine{toRd1:=w7 h.toRd1 _,there:=fun l r hl=>?_,back:=fun t hb=>?_}
  ·cases l with
   |nil=>simp at hl
   |cons x l=>
    have:=e.there (x,l) r ⟨hl.2 x (.head _),by simpa using hl.1,fun y hy=>hl.2 y (.tail _ hy)⟩
    show bN _ (bg p (dG p n)) _=_
    unfold bN
    rw[List.flatMap_cons,this]
  ·obtain⟨h1,h2⟩:=e.back t hb
   refine⟨⟨congrArg Nat.succ h1.2.1,fun y hy=>?_⟩,?_⟩
   ·rcases List.mem_cons.1 hy with e|hy
    ·rw[e];exact h1.1
    ·exact h1.2.2 y hy
   ·show t=List.flatMap b (_::_)++_
    rw[List.flatMap_cons]
    exact h2
theorem Rk {α:Type} {c:RS->Int×RS} {most:Int} (hc:Cd c (fun n=>0<=n/\n<=most) aJ) {q:Nat->RS->List α×RS} {ok:α->Prop} {b:α->List UInt8} (hq:∀n,Cd (q n) (fun l=>l.length=n/\∀x∈l,ok x) (fun l=>l.flatMap b)):
 Cd (bN Prod.snd (cN c fun n=>q n.toNat)) (fun l=>(l.length:Int)<=most/\∀x∈l,ok x) (lH b):=
 (hc.bind (ok':=fun (n:Int) l=>l.length=n.toNat/\∀x∈l,ok x) (b':=fun _ l=>l.flatMap b) (fun n=>(hq _).toRd1) (fun n _=>hq _)).map Prod.snd (fun l=>((l.length:Int),l))
   (fun z ⟨⟨h0,h1⟩,h2,h3⟩=>⟨⟨by show((z.2.length:Nat):Int)<=most;rw[h2];omega,h3⟩,by show lH b z.2=aJ z.1++z.2.flatMap b;unfold lH;rw[h2,Int.toNat_of_nonneg h0]⟩)
   (fun l ⟨h1,h2⟩=>⟨⟨⟨by show(0:Int)<=((l.length:Nat):Int);omega,h1⟩,by show l.length=((l.length:Nat):Int).toNat;rw[Int.toNat_natCast],h2⟩,rfl⟩)
def sZ (o:bt):List UInt8:=
 (if o.kind=0 then[] else cB o.av)++(if o.kind=2 then enc o.records.length++o.records.flatMap cB else if o.kind=3 then cB o.group++enc o.offset.toNat else if o.kind=4 then enc o.offset.toNat else[])
structure xK (k:Int) (o:bt):Prop where
 kind:o.kind=k
 only:o=jz o
 av:o.av.length<=64
 group:o.group.length<=64
 Hj:o.records.length<=4/\∀r∈o.records,r.length<=64
 off:0<=o.offset/\o.offset<=9007199254740992
theorem Sl {o:bt} (h:o=jz o) (k:o.kind=0):o=⟨0,[],[],0,[]⟩:=by rw[h];simp[jz,k]
theorem Sm {o:bt} (h:o=jz o) (k:o.kind=1):(⟨1,o.av,[],0,[]⟩:bt)=o:=by
 conv=>rhs;rw[h]
 simp[jz,k]
theorem Sn {o:bt} (h:o=jz o) (k:o.kind=2):(⟨2,o.av,[],0,o.records⟩:bt)=o:=by
 conv=>rhs;rw[h]
 simp[jz,k]
theorem So {o:bt} (h:o=jz o) (k:o.kind=3):(⟨3,o.av,o.group,o.offset,[]⟩:bt)=o:=by
 conv=>rhs;rw[h]
 simp[jz,k]
theorem Sp {o:bt} (h:o=jz o) (k:o.kind=4):(⟨4,o.av,[],o.offset,[]⟩:bt)=o:=by
 conv=>rhs;rw[h]
 simp[jz,k]
theorem yK:((MX:Nat):Int)=9007199254740992:=rfl
theorem NV (n:Nat) (h:n<18446744073709551616):aJ ((n:Nat):Int)=enc n:=by rw[eK (by omega) (by omega),Int.toNat_natCast]
theorem Bh (k:Int) (h:0<=k/\k<=4):Cd (lP k) (xK k) sZ:=by
 have hk:k=0\/k=1\/k=2\/k=3\/k=4:=by omega
 have nx:=j3 MX (by decide)
 rcases hk with rfl|rfl|rfl|rfl|rfl
 ·refine(Qd _).as (fun o=>⟨fun h=>Sl h.only h.kind,fun h=>?_⟩) (fun o h=>by rw[h];rfl)
  rw[h]
  exact⟨rfl,rfl,by simp,by simp,by simp,by simp⟩
 ·exact(vG 64 (by decide)).map (ok':=xK 1) (b':=sZ) (fun t=>⟨1,t,[],0,[]⟩) (fun o=>o.av) (fun t ht=>⟨⟨rfl,rfl,ht,by simp,by simp,by simp⟩,by simp[sZ]⟩) (fun o h=>⟨h.av,Sm h.only h.kind⟩)
 ·refine((vG 64 (by decide)).pair (Rk (j3 4 (by decide)) (Rj (vG 64 (by decide))))).map (ok':=xK 2) (b':=sZ) (fun z=>⟨2,z.1,[],0,z.2⟩) (fun o=>(o.av,o.records)) (fun z ⟨h1,h2,h3⟩=>⟨⟨rfl,rfl,h1,by simp,⟨?_,h3⟩,by simp⟩,?_⟩) (fun o h=>⟨⟨h.av,?_,h.Hj.2⟩,Sn h.only h.kind⟩)
  ·have h2:((z.2.length:Nat):Int)<=((4:Nat):Int):=h2
   show z.2.length<=4
   omega
  ·have h2:((z.2.length:Nat):Int)<=((4:Nat):Int):=h2
   simp only[sZ,lH]
   rw[NV _ (by omega)]
   simp
  ·have:=h.Hj.1
   show((o.records.length:Nat):Int)<=((4:Nat):Int)
   omega
 ·refine((vG 64 (by decide)).pair ((vG 64 (by decide)).pair nx)).map (ok':=xK 3) (b':=sZ) (fun z=>⟨3,z.1,z.2.1,z.2.2,[]⟩) (fun o=>(o.av,o.group,o.offset)) (fun z ⟨h1,h2,h3,h4⟩=>⟨⟨rfl,rfl,h1,h2,by simp,⟨h3,h4⟩⟩,?_⟩) (fun o h=>⟨⟨h.av,h.group,h.off⟩,So h.only h.kind⟩)
  rw[yK] at h4
  simp only[sZ]
  rw[eK h3 (by omega)]
  simp
 ·refine((vG 64 (by decide)).pair nx).map (ok':=xK 4) (b':=sZ) (fun z=>⟨4,z.1,[],z.2,[]⟩) (fun o=>(o.av,o.offset)) (fun z ⟨h1,h3,h4⟩=>⟨⟨rfl,rfl,h1,by simp,by simp,⟨h3,h4⟩⟩,?_⟩) (fun o h=>⟨⟨h.av,h.off⟩,Sp h.only h.kind⟩)
  rw[yK] at h4
  simp only[sZ]
  rw[eK h3 (by omega)]
  simp
theorem RR {o:bt} (h:bS o=0):xK o.kind o:=by
 obtain⟨h1,h2,h3,h4,h5⟩:=KD h
 have h0:=h
 unfold bS at h
 split at h
 ·cases h
 split at h
 ·cases h
 split at h
 ·cases h
 split at h
 ·cases h
 rename_i a1 a2 a3 a4
 have hk:o.kind=0\/o.kind=1\/o.kind=2\/o.kind=3\/o.kind=4:=by omega
 have nt:o.kind≠0->o.av.length<=64:=fun hk=>C2 (by
  cases hn:jg o.av with
  |true=>rfl
  |false=>exact absurd ⟨hk,hn⟩ a2)
 have ng:o.kind=3->o.group.length<=64:=fun hk=>C2 (by
  cases hn:jg o.group with
  |true=>rfl
  |false=>exact absurd ⟨hk,hn⟩ a3)
 have nr:o.kind=2->∀r∈o.records,r.length<=64:=fun hk r hr=>by
  have:¬th o=true:=fun e=>a4 ⟨hk,.inr (.inr e)⟩
  unfold th at this
  simp at this
  exact this r hr
 rcases hk with k|k|k|k|k
 ·have e:=Sl h2 k
  refine⟨rfl,h2,?_,?_,?_,⟨h3,h4⟩⟩<;>rw[e]<;>simp
 ·have e:=Sm h2 k
  refine⟨rfl,h2,nt (by omega),?_,?_,⟨h3,h4⟩⟩<;>rw[<-e]<;>simp
 ·have e:=Sn h2 k
  refine⟨rfl,h2,nt (by omega),?_,⟨h5 k,nr k⟩,⟨h3,h4⟩⟩
  rw[<-e];simp
 ·have e:=So h2 k
  refine⟨rfl,h2,nt (by omega),ng k,?_,⟨h3,h4⟩⟩
  rw[<-e];simp
 ·have e:=Sp h2 k
  refine⟨rfl,h2,nt (by omega),?_,?_,⟨h3,h4⟩⟩<;>rw[<-e]<;>simp
theorem Kz:Cd eF (fun o=>bS o=0) iy:=by
 have h:=(j3 4 (by decide)).bind (ok':=xK) (b':=fun _=>sZ) IP (fun k hk=>Bh k hk)
 have h2:=h.map (ok':=fun o=>(0<=o.kind/\o.kind<=4)/\xK o.kind o) (b':=fun o=>aJ o.kind++sZ o) Prod.snd (fun o=>(o.kind,o))
  (fun z ⟨h1,h2⟩=>by have e:=h2.kind;refine⟨⟨by rw[e];exact h1,by rw[e];exact h2⟩,by show aJ z.2.kind++_=_;rw[e]⟩) (fun o hh=>⟨hh,rfl⟩)
 refine((h2.guard bS).zero za).as (fun o=>⟨fun h=>⟨⟨(KD h).1,RR h⟩,h⟩,fun h=>h.2⟩) (fun o h=>?_)
 have:=h.1.1
 unfold iy
 rw[eK this.1 (by omega)]
 unfold sZ
 rw[List.append_assoc]
theorem W7:Cd rz (fun r=>(0<=r.err/\r.err<=65536)/\(0<=r.offset/\r.offset<=9007199254740992)) wW:=by
 refine((((j3 65536 (by decide)).pair (j3 MX (by decide))).map (ok':=fun r:nH=>(0<=r.err/\r.err<=65536)/\(0<=r.offset/\r.offset<=9007199254740992)) (b':=wW) (fun z=>⟨z.1,z.2⟩) (fun r=>(r.err,r.offset)) (fun z ⟨h1,h2⟩=>⟨⟨h1,h2⟩,?_⟩) (fun r h=>⟨h,rfl⟩)).zero _)
 have h3:z.2<=9007199254740992:=h2.2
 have h4:z.1<=65536:=h1.2
 show enc (max z.1 0).toNat++enc (max z.2 0).toNat=aJ z.1++aJ z.2
 rw[eK h1.1 (by omega),eK h2.1 (by omega),Int.max_eq_left h1.1,Int.max_eq_left h2.1]
theorem zL:Cd cO (fun s=>dw s=0) cG:=by
 rw[FN]
 refine(((((j3 20 (by decide)).pair (j3 MX (by decide))).map (ok':=fun s:bJ=>(0<=s.key/\s.key<=20)/\(0<=s.ah/\s.ah<=9007199254740992)) (b':=rL) (fun z=>⟨z.1,z.2⟩) (fun s=>(s.key,s.ah)) (fun z ⟨h1,h2⟩=>⟨⟨h1,h2⟩,?_⟩) (fun s h=>⟨h,rfl⟩)).guard _).zero _).as (fun s=>?_) (fun s h=>?_)
 ·have h3:z.2<=9007199254740992:=h2.2
  have h4:z.1<=20:=h1.2
  show enc z.1.toNat++enc z.2.toNat=_
  rw[eK h1.1 (by omega),eK h2.1 (by omega)]
 ·rw[JH]
  constructor
  ·intro h;exact⟨⟨⟨h.1,by omega⟩,by omega,h.2.2.2⟩,if_neg (by omega)⟩
  ·intro ⟨⟨h1,h2⟩,h3⟩
   refine⟨h1.1,by omega,?_,h2.2⟩
   by_cases e:s.ah=0
   ·rw[if_pos e] at h3;cases h3
   ·omega
 ·obtain⟨⟨h1,h2⟩,h3⟩:=h
  unfold cG
  rw[if_pos]
  rw[JH]
  refine⟨h1.1,by omega,?_,h2.2⟩
  by_cases e:s.ah=0
  ·rw[if_pos e] at h3;cases h3
  ·omega
theorem NW:Cd vL (fun x=>(0<=x.bD/\x.bD<=7)/\(0<=x.time/\x.time<=9007199254740992)/\bS x.op=0) iS:=by
 refine((j3 7 (by decide)).pair ((j3 MX (by decide)).pair Kz)).map (ok':=fun x:ju=>(0<=x.bD/\x.bD<=7)/\(0<=x.time/\x.time<=9007199254740992)/\bS x.op=0) (b':=iS) (fun z=>⟨z.1,z.2.1,z.2.2⟩) (fun x=>(x.bD,x.time,x.op)) (fun z ⟨h1,h2,h3⟩=>⟨⟨h1,h2,h3⟩,?_⟩) (fun x h=>⟨h,rfl⟩)
 have h4:z.2.1<=9007199254740992:=h2.2
 have h5:z.1<=7:=h1.2
 show enc z.1.toNat++enc z.2.1.toNat++iy z.2.2=_
 rw[eK h1.1 (by omega),eK h2.1 (by omega),List.append_assoc]
theorem Qf {x:ju}:iR x=0<->((0<=x.bD/\x.bD<=7)/\(0<=x.time/\x.time<=9007199254740992)/\bS x.op=0)/\¬x.time=0:=by
 constructor
 ·intro h
  obtain⟨h1,h2,h3⟩:=Q1 h
  exact⟨⟨⟨h1.1,by omega⟩,⟨by omega,h2.2⟩,h3⟩,by omega⟩
 ·intro ⟨⟨h1,h2,h3⟩,h4⟩
  unfold iR
  rw[if_neg (by omega)]
  exact h3
theorem Rl:Pc jm (fun x=>iR x=0) iS where
 there:=fun x hx=>by
  obtain⟨h1,h2⟩:=Qf.1 hx
  have e:=NW.there x [] h1
  rw[List.append_nil] at e
  unfold jm
  simp[e,dA,h2]
 back:=fun t e=>by
  unfold jm at e ⊢
  split at e
  ·rename_i hd
   rw[if_pos hd]
   split at e
   ·cases e
   ·rename_i ht
    rw[if_neg ht]
    have hs:=W6 hd
    obtain⟨h1,h2⟩:=NW.back t (by rw[hs])
    rw[hs,List.append_nil] at h2
    exact⟨Qf.2 ⟨h1,ht⟩,h2⟩
  ·rename_i hd
   exact absurd e hd
theorem Ok:Cd jj (fun s=>iR s.request=0/\dw s.sign=0) zO:=by
 refine(((vG 1024 (by decide)).guard fun x=>(jm x).2).pair zL).map (ok':=fun s:bX=>iR s.request=0/\dw s.sign=0) (b':=zO) (fun z=>⟨(jm z.1).1,z.2⟩) (fun s=>(iS s.request,s.sign)) (fun z ⟨⟨h1,h2⟩,h3⟩=>?_) (fun s ⟨h1,h2⟩=>?_)
 ·obtain⟨k1,k2⟩:=Rl.back z.1 h2
  refine⟨⟨k1,h3⟩,?_⟩
  show cB (iS (jm z.1).1)++rL z.2=cB z.1++cG z.2
  have h3:dw z.2=0:=h3
  rw[<-k2]
  unfold cG
  rw[if_pos h3]
 ·have e:=Rl.there _ h1
  have hl:=vC h1
  refine⟨⟨⟨by show(iS s.request).length<=_;omega,by show(jm (iS s.request)).2=0;rw[e]⟩,h2⟩,?_⟩
  show(⟨(jm (iS s.request)).1,s.sign⟩:bX)=s
  rw[e]
theorem FB:Cd jZ (fun l=>fA l=0) jM:=by
 have h:=Rk (j3 4 (by decide)) (q:=fun n=>aP jj n) (RT Ok)
 refine((h.guard fA).zero []).as (fun l=>⟨fun h=>⟨?_,h⟩,fun h=>h.2⟩) (fun l h=>?_)
 ·obtain⟨h1,h2⟩:=OR h
  exact⟨by show((l.length:Nat):Int)<=((4:Nat):Int);omega,h2⟩
 ·unfold jM
  rw[if_pos h.2]
  have:=h.1.1
  have h4:((l.length:Nat):Int)<=((4:Nat):Int):=this
  unfold BI lH
  rw[NV _ (by omega)]
theorem JS:Cd lT (fun c=>jl c=0) lR:=by
 rw[zF]
 have c1:=((jW 0 (by decide)).pair (jW 0 (by decide))).guard fun z:Int×Int=>if(z.1==0)==(z.2==0) then(0:Int) else 100
 have hm:∀z:Int×Int,(if z.1=0 then(0:Int) else 13)<=4096:=fun z=>by split<;>decide
 have hq:=fun z:Int×Int=>zK zL (if z.1=0 then(0:Int) else 13) (hm z)
 have k:∀z:Int×Int,Rd1 (cY cO (if z.1=0 then(0:Int) else 13)):=fun z=>jL eM _
 have c2:=c1.bind k (fun z _=>hq z)
 refine c2.map (ok':=fun c:gX=>jl c=0) (b':=lR) (fun z=>⟨z.1.1,z.1.2,z.2⟩) (fun c=>((c.seq,c.ah),c.cM)) (fun z h=>?_) (fun c h=>?_)
 ·obtain⟨⟨⟨h1,h2⟩,h3⟩,h4,h5⟩:=h
  refine⟨?_,by show lR ⟨_,_,_⟩=_;simp[lR,aN,rB,lH]⟩
  obtain⟨⟨a,b⟩,l⟩:=z
  have h1:0<=a/\a<=9007199254740992:=h1
  have h2:0<=b/\b<=9007199254740992:=h2
  have h3:(if(a==0)==(b==0) then(0:Int) else 100)=0:=h3
  have h4:(l.length:Int)<=(if a=0 then 0 else 13):=h4
  unfold jl lQ
  simp only[bQ]
  refine⟨gP.2 h1,gP.2 h2,?_,jc.2 ?_,gV.2 h5⟩
  ·show(if(decide (a=0)!=decide (b=0))||(decide (a=0)&&decide (0<l.length)) then(100:Int) else 0)=0
   by_cases ha:a=0
   ·rw[if_pos ha] at h4
    by_cases hb:b=0
    ·have:¬0<l.length:=by omega
     simp[ha,hb,this]
    ·simp[ha,hb] at h3
   ·by_cases hb:b=0
    ·simp[ha,hb] at h3
    ·simp[ha,hb]
  ·split at h4<;>omega
 ·obtain⟨h1,h2,h3⟩:=PR h
  unfold jl lQ at h
  simp only[bQ] at h
  obtain⟨_,_,h4,h5,h6⟩:=h
  refine⟨⟨⟨⟨h1,h2⟩,?_⟩,?_,gV.1 h6⟩,rfl⟩
  ·show(if(c.seq==0)==(c.ah==0) then(0:Int) else 100)=0
   by_cases ha:c.seq=0<;>by_cases hb:c.ah=0
   all_goals
    first
    |(simp[ha,hb];done)
    |(exfalso;simp[ha,hb] at h4;done)
    |(have e1:(c.seq==0)=false:=by simpa using ha
      have e2:(c.ah==0)=false:=by simpa using hb
      rw[e1,e2];rfl)
  ·show((c.cM.length:Nat):Int)<=(if c.seq=0 then 0 else 13)
   have:=jc.1 h5
   split
   ·rename_i ha
    simp[ha] at h4
    by_cases hb:c.ah=0
    ·simp[hb] at h4;simp[h4]
    ·simp[hb] at h4
   ·exact this
theorem Yq:Cd uC (fun l=>lQ l=0) rB:=
 (zK zL 13 (by decide)).as (fun l=>by unfold lQ;rw[bQ,jc,gV]) (fun l _=>rfl)
theorem aaH:Cd jB (fun p=>jQ p=0) iJ:=by
 refine((jW 0 (by decide)).pair ((jW 1 (by decide)).pair ((jW 1 (by decide)).pair (zL.pair (Yq.pair FB))))).map (ok':=fun p:jt=>jQ p=0) (b':=iJ) (fun z=>⟨z.1,z.2.1,z.2.2.1,z.2.2.2.1,z.2.2.2.2.1,z.2.2.2.2.2⟩) (fun p=>(p.view,p.seq,p.ah,p.kG,p.cM,p.batch)) (fun z h=>⟨?_,?_⟩) (fun p h=>⟨?_,rfl⟩)
 ·show jQ ⟨_,_,_,_,_,_⟩=0
  unfold jQ
  simp only[bQ,gP,iI]
  exact h
 ·simp[iJ,aN]
 ·unfold jQ at h
  simp only[bQ,gP,iI] at h
  exact h
theorem Rn:Cd iE (fun c=>ir c=0) fq:=by
 refine((jW 1 (by decide)).pair ((j3 12 (by decide)).pair (JS.pair ((zK aaH 8 (by decide)).pair zL)))).map (ok':=fun c:cX=>ir c=0) (b':=fq) (fun z=>⟨z.1,z.2.1,z.2.2.1,z.2.2.2.1,z.2.2.2.2⟩) (fun c=>(c.view,c.src,c.cert,c.cD,c.sign)) (fun z h=>⟨?_,?_⟩) (fun c h=>⟨?_,rfl⟩)
 ·show ir ⟨_,_,_,_,_⟩=0
  unfold ir
  simp only[bQ,iI,kT,jc,gV]
  obtain⟨h1,h2,h3,⟨h4,h5⟩,h6⟩:=h
  exact⟨h1,h2,h3,h4,h5,h6⟩
 ·simp[fq,jy,aN,lH]
 ·unfold ir at h
  simp only[bQ,iI,kT,jc,gV] at h
  obtain⟨h1,h2,h3,h4,h5,h6⟩:=h
  exact⟨h1,h2,h3,⟨h4,h5⟩,h6⟩
theorem Yr:Cd iC (fun x=>mM x=0) gG:=by
 refine((jW 0 (by decide)).pair ((jW 1 (by decide)).pair (FB.pair zL))).map (ok':=fun x:gq=>mM x=0) (b':=gG) (fun z=>⟨z.1,z.2.1,z.2.2.1,z.2.2.2⟩) (fun c=>(c.view,c.seq,c.batch,c.sign)) (fun z h=>⟨?_,?_⟩) (fun c h=>⟨?_,rfl⟩)
 ·show mM ⟨_,_,_,_⟩=0
  unfold mM
  simp only[bQ,iI,gP]
  exact h
 ·simp[gG,aN]
 ·unfold mM at h
  simp only[bQ,iI,gP] at h
  exact h
theorem aaI:Cd jA (fun x=>mN x=0) gZ:=by
 refine((jW 1 (by decide)).pair ((jW 0 (by decide)).pair ((jW 0 (by decide)).pair ((jW 0 (by decide)).pair (jW 0 (by decide)))))).map (ok':=fun x:j7=>mN x=0) (b':=gZ) (fun z=>⟨z.1,z.2.1,z.2.2.1,z.2.2.2.1,z.2.2.2.2⟩) (fun c=>(c.seq,c.prev,c.batch,c.root,c.state)) (fun z h=>⟨?_,?_⟩) (fun c h=>⟨?_,rfl⟩)
 ·show mN ⟨_,_,_,_,_⟩=0
  unfold mN
  simp only[bQ,iI,gP]
  exact h
 ·simp[gZ,aN]
 ·unfold mN at h
  simp only[bQ,iI,gP] at h
  exact h
theorem Qg:Cd nS (fun s=>mh s=0) cB:=
 ((vG 64 (by decide)).guard mh).as (fun s=>⟨fun h=>⟨zV h,h⟩,fun h=>h.2⟩) (fun _ _=>rfl)
theorem Yt:Cd uD (fun p=>mB p=0) jw:=by
 refine((((Qg.pair ((jW 0 (by decide)).pair ((vG 64 (by decide)).pair ((zK aaI 64 (by decide)).pair ((jW 0 (by decide)).pair (Qe 16 (by decide))))))).guard fun z=>if z.2.2.2.2.1<z.2.2.2.2.2 then 0 else 100).pair ((zK (jW 0 (by decide)) 8 (by decide)).pair JS))).map (ok':=fun p:jX=>mB p=0) (b':=jw) (fun z=>⟨z.1.1,z.1.2.1,z.1.2.2.1,z.1.2.2.2.1,z.1.2.2.2.2.1,z.1.2.2.2.2.2,z.2.1,z.2.2⟩)
  (fun p=>((p.av,p.offset,p.record,p.headers,p.index,p.count),p.path,p.cert)) (fun z h=>⟨?_,?_⟩) (fun p h=>⟨?_,rfl⟩)
 ·obtain⟨⟨⟨h1,h2,h3,⟨h4,h5⟩,h6,h7⟩,h8⟩,⟨h9,kN⟩,iG⟩:=h
  obtain⟨⟨a,b,c,d,i,n⟩,l,k⟩:=z
  have h8:(if i<n then(0:Int) else 100)=0:=h8
  have h8:i<n:=by
   by_cases e:i<n
   ·exact e
   ·rw[if_neg e] at h8;cases h8
  have h7:0<=n/\n<=16:=h7
  have h6:0<=i/\i<=9007199254740992:=h6
  have h3:c.length<=64:=h3
  show mB ⟨a,b,c,d,i,n,l,k⟩=0
  unfold mB
  simp only[bQ,gP,jc,gV,iM]
  exact⟨h1,h2,by omega,h4,h5,h6,h7,⟨h6.1,by omega⟩,h9,kN,iG⟩
 ·simp[jw,aN,lH]
 ·unfold mB at h
  simp only[bQ,gP,jc,gV,iM] at h
  obtain⟨h1,h2,h3,h4,h5,h6,h7,h8,h9,kN,iG⟩:=h
  exact⟨⟨⟨h1,h2,by show p.record.length<=64;omega,⟨h4,h5⟩,h6,h7⟩,if_pos (by show p.index<p.count;omega)⟩,⟨h9,kN⟩,iG⟩
theorem JT:Cd qF (fun z=>(0<=z.1/\z.1<=12)/\(0<=z.2.1/\z.2.1<=9007199254740992)/\(1<=z.2.2.1/\z.2.2.1<=9007199254740992)/\(1<=z.2.2.2/\z.2.2.2<=9007199254740992)) (fun z=>aN [z.1,z.2.1,z.2.2.1,z.2.2.2]):=
 ((j3 12 (by decide)).pair ((jW 0 (by decide)).pair ((jW 1 (by decide)).pair (jW 1 (by decide))))).as (fun z=>Iff.rfl) (fun z h=>by simp[aN])
structure jK (k:Int) (m:aD):Prop where
 kind:m.kind=k
 kindOk:bP m=0
 bare:m=aH m
 sign:m.sign=dx
theorem rI {m:aD} (h:bP m=0):∀{k:Int},m.kind=k->bP {m with kind:=k}=0:=fun e=>by
 have:({m with kind:=m.kind}:aD)=m:=by cases m;rfl
 rw[<-e,this]
 exact h
theorem Yu:Cd (cR 2) (jK 2) cT:=by
 refine(JT.pair FB).map (ok':=jK 2) (b':=cT) (fun z=>{aE with kind:=2,src:=z.1.1,view:=z.1.2.1,seq:=z.1.2.2.1,ah:=z.1.2.2.2,batch:=z.2}) (fun m=>((m.src,m.view,m.seq,m.ah),m.batch)) (fun z h=>⟨⟨rfl,?_,rfl,rfl⟩,?_⟩) (fun m h=>⟨?_,?_⟩)
 ·simp[bP,gI,bQ,gP,iI,kT]
  (try simp at h)
  first|exact h
 ·simp[cT,aN]
 ·have:=rI h.kindOk h.kind
  simp[bP,gI,bQ,gP,iI,kT] at this
  (try simp)
  first|exact this
 ·conv=>rhs;rw[h.bare]
  simp only[aH,h.kind,h.sign]
  rfl
theorem Yv:Cd (cR 3) (jK 3) cT:=by
 refine JT.map (ok':=jK 3) (b':=cT) (fun z=>{aE with kind:=3,src:=z.1,view:=z.2.1,seq:=z.2.2.1,ah:=z.2.2.2}) (fun m=>(m.src,m.view,m.seq,m.ah)) (fun z h=>⟨⟨rfl,?_,rfl,rfl⟩,?_⟩) (fun m h=>⟨?_,?_⟩)
 ·simp[bP,gI,bQ,gP,iI,kT]
  (try simp at h)
  first|exact h
 ·simp[cT,aN]
 ·have:=rI h.kindOk h.kind
  simp[bP,gI,bQ,gP,iI,kT] at this
  (try simp)
  first|exact this
 ·conv=>rhs;rw[h.bare]
  simp only[aH,h.kind,h.sign]
  rfl
theorem Yw:Cd (cR 4) (jK 4) cT:=by
 refine JT.map (ok':=jK 4) (b':=cT) (fun z=>{aE with kind:=4,src:=z.1,view:=z.2.1,seq:=z.2.2.1,ah:=z.2.2.2}) (fun m=>(m.src,m.view,m.seq,m.ah)) (fun z h=>⟨⟨rfl,?_,rfl,rfl⟩,?_⟩) (fun m h=>⟨?_,?_⟩)
 ·simp[bP,gI,bQ,gP,iI,kT]
  (try simp at h)
  first|exact h
 ·simp[cT,aN]
 ·have:=rI h.kindOk h.kind
  simp[bP,gI,bQ,gP,iI,kT] at this
  (try simp)
  first|exact this
 ·conv=>rhs;rw[h.bare]
  simp only[aH,h.kind,h.sign]
  rfl
theorem Yx:Cd (cR 5) (jK 5) cT:=by
 refine((j3 12 (by decide)).pair ((jW 0 (by decide)).pair ((j3 7 (by decide)).pair ((jW 0 (by decide)).pair W7)))).map (ok':=jK 5) (b':=cT) (fun z=>{aE with kind:=5,src:=z.1,view:=z.2.1,bD:=z.2.2.1,time:=z.2.2.2.1,result:=z.2.2.2.2}) (fun m=>(m.src,m.view,m.bD,m.time,m.result)) (fun z h=>⟨⟨rfl,?_,rfl,rfl⟩,?_⟩) (fun m h=>⟨?_,?_⟩)
 ·simp[bP,bQ,gP,kT,iM]
  (try simp at h)
  first|exact h
 ·simp[cT,aN]
 ·have:=rI h.kindOk h.kind
  simp[bP,bQ,gP,kT,iM] at this
  (try simp)
  first|exact this
 ·conv=>rhs;rw[h.bare]
  simp only[aH,h.kind,h.sign]
  rfl
theorem Yy:Cd (cR 6) (jK 6) cT:=by
 refine((j3 12 (by decide)).pair ((jW 1 (by decide)).pair (jW 1 (by decide)))).map (ok':=jK 6) (b':=cT) (fun z=>{aE with kind:=6,src:=z.1,seq:=z.2.1,ah:=z.2.2}) (fun m=>(m.src,m.seq,m.ah)) (fun z h=>⟨⟨rfl,?_,rfl,rfl⟩,?_⟩) (fun m h=>⟨?_,?_⟩)
 ·simp[bP,bQ,iI,kT]
  (try simp at h)
  first|exact h
 ·simp[cT,aN]
 ·have:=rI h.kindOk h.kind
  simp[bP,bQ,iI,kT] at this
  (try simp)
  first|exact this
 ·conv=>rhs;rw[h.bare]
  simp only[aH,h.kind,h.sign]
  rfl
theorem Yz:Cd (cR 8) (jK 8) cT:=by
 refine((j3 12 (by decide)).pair ((jW 1 (by decide)).pair ((zK Rn 13 (by decide)).pair (zK Yr 8 (by decide))))).map (ok':=jK 8) (b':=cT) (fun z=>{aE with kind:=8,src:=z.1,view:=z.2.1,changes:=z.2.2.1,entries:=z.2.2.2}) (fun m=>(m.src,m.view,m.changes,m.entries)) (fun z h=>⟨⟨rfl,?_,rfl,rfl⟩,?_⟩) (fun m h=>⟨?_,?_⟩)
 ·simp[bP,iP,bQ,iI,kT,jc,gV]
  (try simp at h)
  first|simp_all
 ·simp[cT,aN,lH]
 ·have:=rI h.kindOk h.kind
  simp[bP,iP,bQ,iI,kT,jc,gV] at this
  (try simp)
  first|simp_all
 ·conv=>rhs;rw[h.bare]
  simp only[aH,h.kind,h.sign]
  rfl
theorem YA:Cd (cR 9) (jK 9) cT:=by
 refine((j3 12 (by decide)).pair (jW 0 (by decide))).map (ok':=jK 9) (b':=cT) (fun z=>{aE with kind:=9,src:=z.1,seq:=z.2}) (fun m=>(m.src,m.seq)) (fun z h=>⟨⟨rfl,?_,rfl,rfl⟩,?_⟩) (fun m h=>⟨?_,?_⟩)
 ·simp[bP,bQ,gP,kT]
  (try simp at h)
  first|exact h
 ·simp[cT,aN]
 ·have:=rI h.kindOk h.kind
  simp[bP,bQ,gP,kT] at this
  (try simp)
  first|exact this
 ·conv=>rhs;rw[h.bare]
  simp only[aH,h.kind,h.sign]
  rfl
theorem W8:Cd (cR 10) (jK 10) cT:=by
 refine((j3 12 (by decide)).pair (JS.pair (vG 262144 (by decide)))).map (ok':=jK 10) (b':=cT) (fun z=>{aE with kind:=10,src:=z.1,cert:=z.2.1,state:=z.2.2}) (fun m=>(m.src,m.cert,m.state)) (fun z h=>⟨⟨rfl,?_,rfl,rfl⟩,?_⟩) (fun m h=>⟨?_,?_⟩)
 ·simp[bP,bQ,kT,jc]
  (try simp at h)
  first|omega
 ·simp[cT,aN]
 ·have:=rI h.kindOk h.kind
  simp[bP,bQ,kT,jc] at this
  (try simp)
  first|omega
 ·conv=>rhs;rw[h.bare]
  simp only[aH,h.kind,h.sign]
  rfl
theorem W9:Cd (cR 11) (jK 11) cT:=by
 refine((j3 7 (by decide)).pair (Qg.pair (jW 0 (by decide)))).map (ok':=jK 11) (b':=cT) (fun z=>{aE with kind:=11,bD:=z.1,av:=z.2.1,offset:=z.2.2}) (fun m=>(m.bD,m.av,m.offset)) (fun z h=>⟨⟨rfl,?_,rfl,rfl⟩,?_⟩) (fun m h=>⟨?_,?_⟩)
 ·simp[bP,bQ,gP,iM]
  (try simp at h)
  first|exact h
 ·simp[cT,aN]
 ·have:=rI h.kindOk h.kind
  simp[bP,bQ,gP,iM] at this
  (try simp)
  first|exact this
 ·conv=>rhs;rw[h.bare]
  simp only[aH,h.kind,h.sign]
  rfl
theorem Xa:Cd (cR 12) (jK 12) cT:=by
 refine((j3 12 (by decide)).pair Yt).map (ok':=jK 12) (b':=cT) (fun z=>{aE with kind:=12,src:=z.1,proof:=z.2}) (fun m=>(m.src,m.proof)) (fun z h=>⟨⟨rfl,?_,rfl,rfl⟩,?_⟩) (fun m h=>⟨?_,?_⟩)
 ·simp[bP,bQ,kT]
  (try simp at h)
  first|exact h
 ·simp[cT,aN]
 ·have:=rI h.kindOk h.kind
  simp[bP,bQ,kT] at this
  (try simp)
  first|exact this
 ·conv=>rhs;rw[h.bare]
  simp only[aH,h.kind,h.sign]
  rfl
theorem YB:Cd (cR 1) (jK 1) cT:=by
 refine(FB.guard fun l=>if l.length=1 then 0 else 100).map (ok':=jK 1) (b':=cT) (fun l=>{aE with kind:=1,batch:=l}) (fun m=>m.batch) (fun l h=>⟨⟨rfl,?_,rfl,rfl⟩,by simp[cT]⟩) (fun m h=>⟨?_,?_⟩)
 ·obtain⟨h1,h2⟩:=h
  have h2:l.length=1:=by
   by_cases e:l.length=1
   ·exact e
   ·rw[if_neg e] at h2;cases h2
  simp[bP,bQ,iM,h2]
  exact h1
 ·have:=rI h.kindOk h.kind
  simp[bP,bQ,iM] at this
  exact⟨this.2,if_pos (by omega)⟩
 ·conv=>rhs;rw[h.bare]
  simp only[aH,h.kind,h.sign]
  rfl
theorem YC:Cd (cR 7) (fun m=>jK 7 m) (fun m=>match m.changes with|c::_=>fq c|[]=>[]):=by
 refine Rn.map (ok':=fun m=>jK 7 m) (b':=fun m=>match m.changes with|c::_=>fq c|[]=>[]) (fun c=>{aE with kind:=7,src:=c.src,view:=c.view,changes:=[c]}) (fun m=>match m.changes with|c::_=>c|[]=>afS) (fun c h=>⟨⟨rfl,?_,rfl,rfl⟩,rfl⟩) (fun m h=>?_)
 ·simp[bP,bQ,iM,bG,rK,h]
 ·have:=rI h.kindOk h.kind
  simp[bP,bQ,iM] at this
  obtain⟨h1,h2⟩:=this
  obtain⟨c,hc⟩:∃c,m.changes=[c]:=sM (by omega)
  rw[hc] at h2
  simp[bG,rK,bQ] at h2
  obtain⟨h2,h3,h4⟩:=h2
  simp only[hc]
  refine⟨h2,?_⟩
  conv=>rhs;rw[h.bare]
  simp only[aH,h.kind,h.sign,hc,h3,h4]
  rfl
theorem YD {k:Int} (hk:¬(1<=k/\k<=12)):Cd (cR k) (jK k) cT:=by
 have e:cR k=fZ (qM {aE with kind:=k}) fun _=>100:=by
  unfold cR
  rw[if_neg (by omega),if_neg (by omega),if_neg (by omega),if_neg (by omega),if_neg (by omega),if_neg (by omega),if_neg (by omega),if_neg (by omega),if_neg (by omega),if_neg (by omega),if_neg (by omega),if_neg (by omega)]
 rw[e]
 refine{toRd1:=(zJ _).guard _,there:=fun m r h=>?_,back:=fun t h=>?_}
 ·have:=yd h.kindOk
  rw[h.kind] at this
  exact absurd this hk
 ·exact absurd h (by show ¬(100:Int)=0;decide)
def B6 (m:aD):List UInt8:=if m.kind=7 then(match m.changes with|c::_=>fq c|[]=>[]) else cT m
theorem YE (k:Int):Cd (cR k) (jK k) B6:=by
 have q:∀{k:Int},¬k=7->Cd (cR k) (jK k) cT->Cd (cR k) (jK k) B6:=fun h7 h=>h.as (fun _=>Iff.rfl) (fun m hm=>by unfold B6;rw[if_neg (by rw[hm.kind];exact h7)])
 by_cases hk:1<=k/\k<=12
 ·have:k=1\/k=2\/k=3\/k=4\/k=5\/k=6\/k=7\/k=8\/k=9\/k=10\/k=11\/k=12:=by omega
  rcases this with rfl|rfl|rfl|rfl|rfl|rfl|rfl|rfl|rfl|rfl|rfl|rfl
  ·exact q (by decide) YB
  ·exact q (by decide) Yu
  ·exact q (by decide) Yv
  ·exact q (by decide) Yw
  ·exact q (by decide) Yx
  ·exact q (by decide) Yy
  ·exact YC.as (fun _=>Iff.rfl) (fun m hm=>by unfold B6;rw[if_pos hm.kind])
  ·exact q (by decide) Yz
  ·exact q (by decide) YA
  ·exact q (by decide) W8
  ·exact q (by decide) W9
  ·exact q (by decide) Xa
 ·exact q (by omega) (YD hk)
theorem aaJ (k:Int):Cd (jS k) (fun s=>if bW k=true then dw s=0 else s=dx) (fun s=>if bW k=true then cG s else[]):=by
 unfold jS
 cases h:bW k
 ·simp only[Bool.false_eq_true,if_false]
  exact Qd _
 ·simp only[if_true]
  exact zL
theorem aaK {α β:Type} {c:Prop} {_:Decidable c} {f:α->β} {a b:α} {a' b':β} (h:a'=f a) (k:b'=f b):(if c then a' else b')=f (if c then a else b):=by split<;>assumption
def RU (t:bJ) (x:aD):aD:={x with sign:=t}
theorem RV {m:aD} (h:m=aH m) (s:bJ) (hs:bW m.kind=false->s=dx):{m with sign:=s}=aH {m with sign:=s}:=by
 have e:aH {m with sign:=s}=RU (if bW m.kind=true then s else dx) (aH m):=by
  generalize ht:(if bW m.kind=true then s else dx)=t
  unfold aH
  dsimp only
  rw[ht]
  iterate 11 refine aaK (f:=RU t) rfl ?_
  rfl
 rw[e]
 have hz:(if bW m.kind=true then s else dx)=s:=by
  cases hk:bW m.kind
  ·simp[hs hk]
  ·simp
 show _={aH m with sign:=if bW m.kind=true then s else dx}
 rw[hz,<-h]
theorem acJ (m:aD):{m with sign:=m.sign}=m:=by cases m;rfl
theorem Bz:Cd aU (fun m=>eC m=0) kg:=by
 have h:=(j3 MX (by decide)).bind (q:=fun k=>bg (cR k) (jS k)) (fun k=>(C0 k).pair (zG k)) (fun k _=>(YE k).pair (aaJ k))
 refine h.map (ok':=fun m=>eC m=0) (b':=kg) (fun z=>{z.2.1 with sign:=z.2.2}) (fun m=>(m.kind,({m with sign:=dx},m.sign))) (fun z hz=>?_) (fun m hm=>?_)
 ·obtain⟨k,m,s⟩:=z
  obtain⟨hk,hm,hs⟩:=hz
  have hm:jK k m:=hm
  have hs:(if bW k=true then dw s=0 else s=dx):=hs
  have GV:=hm.kind
  have M6:bW m.kind=false->s=dx:=fun e=>by rw[GV] at e;rw[e] at hs;simpa using hs
  have hb:=RV hm.bare s M6
  have hkE:bP {m with sign:=s}=0:=hm.kindOk
  refine⟨?_,?_⟩
  ·show eC {m with sign:=s}=0
   have hE:eX {m with sign:=s}=0:=by
    unfold eX
    rw[bQ]
    refine⟨hkE,?_⟩
    show(if bW m.kind=true then dw s else 0)=0
    rw[GV]
    cases e:bW k
    ·simp
    ·rw[e] at hs;simpa using hs
   unfold eC
   rw[if_neg (fun q=>q.2 hb)]
   exact hE
  ·show kg {m with sign:=s}=aJ k++(B6 m++if bW k=true then cG s else[])
   unfold kg aO B6
   show aJ m.kind++cT m++(if m.kind=7 then(match m.changes with|c::_=>cG c.sign|[]=>[]) else if bW m.kind=true then cG s else[])=_
   rw[GV]
   by_cases h7:k=7
   ·rw[if_pos h7,if_pos h7]
    have hk7:m.kind=7:=by rw[GV,h7]
    have n7:bW k=false:=by rw[h7];rfl
    rw[n7]
    unfold cT
    rw[hk7]
    cases hc:m.changes with
    |nil=>simp
    |cons c r=>simp[fq]
   ·rw[if_neg h7,if_neg h7,List.append_assoc]
 ·obtain⟨h1,h2⟩:=Jc hm
  unfold eX at h1
  rw[bQ] at h1
  obtain⟨h3,h4⟩:=h1
  have hr:=yd h3
  have eE:=Od m
  refine⟨⟨⟨by show 0<=m.kind;omega,by show m.kind<=((MX:Nat):Int);rw[yK];omega⟩,⟨rfl,h3,RV h2 dx (fun _=>rfl),rfl⟩,?_⟩,acJ m⟩
  show if bW m.kind=true then dw m.sign=0 else m.sign=dx
  cases e:bW m.kind
  ·rw[<-h2,e] at eE
   simpa using eE
  ·rw[e] at h4
   simpa using h4
theorem jq {n a b:Int} (h:a<=n/\n<=b) (ha:-9223372036854775808<=a) (hb:b<=9223372036854775807):dI.ok n:=⟨Int.le_trans ha h.1,Int.le_trans h.2 hb⟩
theorem yW {α:Type} {A:Dt α} {l:List α} {m:Nat} (h:l.length<=m) (hm:m<=4194304) (k:∀x∈l,A.ok x):(dL A).ok l:=⟨Nat.le_trans h hm,k⟩
theorem BQ {k:Int} {o:bt} (h:xK k o) (hk:0<=k/\k<=4):fD.ok o:=
 ⟨show dI.ok o.kind by rw[h.kind];exact jq hk (by decide) (by decide),Nat.le_trans h.av (by decide),Nat.le_trans h.group (by decide),jq h.off (by decide) (by decide),yW h.Hj.1 (by decide) fun r hr=>Nat.le_trans (h.Hj.2 r hr) (by decide)⟩
theorem SC {o:bt} (h:bS o=0):fD.ok o:=BQ (RR h) (KD h).1
theorem Ab {s:bJ} (h:dw s=0):iO.ok s:=by
 obtain⟨h1,h2,h3,h4⟩:=JH.1 h
 exact⟨show dI.ok s.key from jq (b:=20) ⟨h1,by omega⟩ (by decide) (by decide),jq ⟨h3,h4⟩ (by decide) (by decide)⟩
theorem Sj {x:ju} (h:iR x=0):su.ok x:=by
 obtain⟨h1,h2,h3⟩:=Q1 h
 exact⟨show dI.ok x.bD from jq (b:=7) ⟨h1.1,by omega⟩ (by decide) (by decide),jq h2 (by decide) (by decide),SC h3⟩
theorem Gb {l:List bX} (h:fA l=0):(dL fX).ok l:=by
 obtain⟨h1,h2⟩:=OR h
 exact yW h1 (by decide) fun s hs=>⟨Sj (h2 s hs).1,Ab (h2 s hs).2⟩
theorem Ri {l:List bJ} (h:lQ l=0):(dL iO).ok l:=by
 unfold lQ at h
 rw[bQ,jc,gV] at h
 exact yW (m:=13) (by omega) (by decide) fun s hs=>Ab (h.2 s hs)
theorem KU {c:gX} (h:jl c=0):je.ok c:=by
 obtain⟨h1,h2,h3⟩:=PR h
 exact⟨jq h1 (by decide) (by decide),jq h2 (by decide) (by decide),Ri h3⟩
theorem adZ {p:jt} (h:jQ p=0):oC.ok p:=by
 unfold jQ at h
 simp only[bQ,gP,iI] at h
 obtain⟨h1,h2,h3,h4,h5,h6⟩:=h
 exact⟨jq h1 (by decide) (by decide),jq h2 (by decide) (by decide),jq h3 (by decide) (by decide),Ab h4,Ri h5,Gb h6⟩
theorem Sk {c:cX} (h:ir c=0):fP.ok c:=by
 obtain⟨h1,h2,h3,h4,h5,h6⟩:=ab6 h
 exact⟨jq h1 (by decide) (by decide),jq h2 (by decide) (by decide),KU h3,yW h4 (by decide) fun p hp=>adZ (h5 p hp),Ab h6⟩
theorem acG {x:gq} (h:mM x=0):jx.ok x:=by
 unfold mM at h
 simp only[bQ,gP,iI] at h
 obtain⟨h1,h2,h3,h4⟩:=h
 exact⟨jq h1 (by decide) (by decide),jq h2 (by decide) (by decide),Gb h3,Ab h4⟩
theorem ad0 {h:j7} (e:mN h=0):yq.ok h:=by
 unfold mN at e
 simp only[bQ,gP,iI] at e
 obtain⟨h1,h2,h3,h4,h5⟩:=e
 exact⟨jq h1 (by decide) (by decide),jq h2 (by decide) (by decide),jq h3 (by decide) (by decide),jq h4 (by decide) (by decide),jq h5 (by decide) (by decide)⟩
theorem acH {p:jX} (h:mB p=0):jY.ok p:=by
 unfold mB at h
 simp only[bQ,gP,jc,gV,iM] at h
 obtain⟨h1,h2,h3,h4,h5,h6,h7,h8,h9,kN,iG⟩:=h
 exact⟨Nat.le_trans (zV h1) (by decide),jq h2 (by decide) (by decide),show p.record.length<=4194304 by omega,(show(dL yq).ok p.headers from yW (m:=64) (by omega) (by decide) fun x hx=>ad0 (h5 x hx)),jq h6 (by decide) (by decide),jq h7 (by decide) (by decide),(show(dL dI).ok p.path from yW (m:=8) (by omega) (by decide) fun x hx=>jq (kN x hx) (by decide) (by decide)),KU iG⟩
theorem dO {α:Type} {A:Dt α}:(dL A).ok []:=⟨Nat.zero_le _,fun x hx=>(List.not_mem_nil hx).elim⟩
theorem bu:dI.ok 0:=⟨by decide,by decide⟩
theorem F2:iO.ok dx:=⟨bu,bu⟩
theorem ry:je.ok nk:=⟨bu,bu,dO⟩
theorem sB:jY.ok oJ:=⟨Nat.zero_le _,bu,Nat.zero_le _,dO,bu,bu,dO,ry⟩
theorem rE:mZ.ok me:=⟨bu,bu⟩
theorem aef {m:aD} (h:eC m=0):bh.ok m:=by
 obtain⟨h1,h2⟩:=Jc h
 unfold eX at h1
 rw[bQ] at h1
 obtain⟨h3,h4⟩:=h1
 have hr:=yd h3
 have hk:dI.ok m.kind:=jq hr (by decide) (by decide)
 have hs:iO.ok m.sign:=by
  cases e:bW m.kind
  ·have:=Od m
   rw[e,<-h2] at this
   rw[show m.sign=dx by simpa using this]
   exact F2
  ·rw[if_pos e] at h4
   exact Ab h4
 have kk:=fun k=>@rI m h3 k
 have dc:m.kind=1\/m.kind=2\/m.kind=3\/m.kind=4\/m.kind=5\/m.kind=6\/m.kind=7\/m.kind=8\/m.kind=9\/m.kind=10\/m.kind=11\/m.kind=12:=by omega
 have wD:∀{n:Int},0<=n/\n<=12->dI.ok n:=fun h=>jq h (by decide) (by decide)
 have b7:∀{n:Int},0<=n/\n<=7->dI.ok n:=fun h=>jq h (by decide) (by decide)
 have bn:∀{n:Int},0<=n/\n<=9007199254740992->dI.ok n:=fun h=>jq h (by decide) (by decide)
 have bp:∀{n:Int},1<=n/\n<=9007199254740992->dI.ok n:=fun h=>jq h (by decide) (by decide)
 rcases dc with k|k|k|k|k|k|k|k|k|k|k|k
 all_goals have g:=kk _ k;simp[bP,gI,iP,bQ,gP,iI,kT,iM,jc,gV] at g;have e:∀(P:aD->Prop),P (aH m)->P m:=fun P hP=>by rw[h2];exact hP
 ·skip
  exact⟨hk,(e (fun m=>dI.ok m.src) (by unfold aH;rw[k];exact bu)),(e (fun m=>dI.ok m.view) (by unfold aH;rw[k];exact bu)),(e (fun m=>dI.ok m.seq) (by unfold aH;rw[k];exact bu)),(e (fun m=>dI.ok m.ah) (by unfold aH;rw[k];exact bu)),(e (fun m=>dI.ok m.bD) (by unfold aH;rw[k];exact bu)),(e (fun m=>dI.ok m.time) (by unfold aH;rw[k];exact bu)),(e (fun m=>mZ.ok m.result) (by unfold aH;rw[k];exact rE)),Gb g.2,(e (fun m=>je.ok m.cert) (by unfold aH;rw[k];exact ry)),(e (fun m=>(dL fP).ok m.changes) (by unfold aH;rw[k];exact dO)),(e (fun m=>(dL jx).ok m.entries) (by unfold aH;rw[k];exact dO)),(e (fun m=>dY.ok m.state) (by unfold aH;rw[k];exact Nat.zero_le _)),(e (fun m=>dS.ok m.av) (by unfold aH;rw[k];exact Nat.zero_le _)),(e (fun m=>dI.ok m.offset) (by unfold aH;rw[k];exact bu)),(e (fun m=>jY.ok m.proof) (by unfold aH;rw[k];exact sB)),hs⟩
 ·skip
  exact⟨hk,wD g.1.1,bn g.1.2.1,bp g.1.2.2.1,bp g.1.2.2.2,(e (fun m=>dI.ok m.bD) (by unfold aH;rw[k];exact bu)),(e (fun m=>dI.ok m.time) (by unfold aH;rw[k];exact bu)),(e (fun m=>mZ.ok m.result) (by unfold aH;rw[k];exact rE)),Gb g.2,(e (fun m=>je.ok m.cert) (by unfold aH;rw[k];exact ry)),(e (fun m=>(dL fP).ok m.changes) (by unfold aH;rw[k];exact dO)),(e (fun m=>(dL jx).ok m.entries) (by unfold aH;rw[k];exact dO)),(e (fun m=>dY.ok m.state) (by unfold aH;rw[k];exact Nat.zero_le _)),(e (fun m=>dS.ok m.av) (by unfold aH;rw[k];exact Nat.zero_le _)),(e (fun m=>dI.ok m.offset) (by unfold aH;rw[k];exact bu)),(e (fun m=>jY.ok m.proof) (by unfold aH;rw[k];exact sB)),hs⟩
 ·skip
  exact⟨hk,wD g.1,bn g.2.1,bp g.2.2.1,bp g.2.2.2,(e (fun m=>dI.ok m.bD) (by unfold aH;rw[k];exact bu)),(e (fun m=>dI.ok m.time) (by unfold aH;rw[k];exact bu)),(e (fun m=>mZ.ok m.result) (by unfold aH;rw[k];exact rE)),(e (fun m=>(dL fX).ok m.batch) (by unfold aH;rw[k];exact dO)),(e (fun m=>je.ok m.cert) (by unfold aH;rw[k];exact ry)),(e (fun m=>(dL fP).ok m.changes) (by unfold aH;rw[k];exact dO)),(e (fun m=>(dL jx).ok m.entries) (by unfold aH;rw[k];exact dO)),(e (fun m=>dY.ok m.state) (by unfold aH;rw[k];exact Nat.zero_le _)),(e (fun m=>dS.ok m.av) (by unfold aH;rw[k];exact Nat.zero_le _)),(e (fun m=>dI.ok m.offset) (by unfold aH;rw[k];exact bu)),(e (fun m=>jY.ok m.proof) (by unfold aH;rw[k];exact sB)),hs⟩
 ·skip
  exact⟨hk,wD g.1,bn g.2.1,bp g.2.2.1,bp g.2.2.2,(e (fun m=>dI.ok m.bD) (by unfold aH;rw[k];exact bu)),(e (fun m=>dI.ok m.time) (by unfold aH;rw[k];exact bu)),(e (fun m=>mZ.ok m.result) (by unfold aH;rw[k];exact rE)),(e (fun m=>(dL fX).ok m.batch) (by unfold aH;rw[k];exact dO)),(e (fun m=>je.ok m.cert) (by unfold aH;rw[k];exact ry)),(e (fun m=>(dL fP).ok m.changes) (by unfold aH;rw[k];exact dO)),(e (fun m=>(dL jx).ok m.entries) (by unfold aH;rw[k];exact dO)),(e (fun m=>dY.ok m.state) (by unfold aH;rw[k];exact Nat.zero_le _)),(e (fun m=>dS.ok m.av) (by unfold aH;rw[k];exact Nat.zero_le _)),(e (fun m=>dI.ok m.offset) (by unfold aH;rw[k];exact bu)),(e (fun m=>jY.ok m.proof) (by unfold aH;rw[k];exact sB)),hs⟩
 ·skip
  exact⟨hk,wD g.1,bn g.2.1,(e (fun m=>dI.ok m.seq) (by unfold aH;rw[k];exact bu)),(e (fun m=>dI.ok m.ah) (by unfold aH;rw[k];exact bu)),b7 g.2.2.1,bn g.2.2.2.1,⟨jq g.2.2.2.2.1 (by decide) (by decide),bn g.2.2.2.2.2⟩,(e (fun m=>(dL fX).ok m.batch) (by unfold aH;rw[k];exact dO)),(e (fun m=>je.ok m.cert) (by unfold aH;rw[k];exact ry)),(e (fun m=>(dL fP).ok m.changes) (by unfold aH;rw[k];exact dO)),(e (fun m=>(dL jx).ok m.entries) (by unfold aH;rw[k];exact dO)),(e (fun m=>dY.ok m.state) (by unfold aH;rw[k];exact Nat.zero_le _)),(e (fun m=>dS.ok m.av) (by unfold aH;rw[k];exact Nat.zero_le _)),(e (fun m=>dI.ok m.offset) (by unfold aH;rw[k];exact bu)),(e (fun m=>jY.ok m.proof) (by unfold aH;rw[k];exact sB)),hs⟩
 ·skip
  exact⟨hk,wD g.1,(e (fun m=>dI.ok m.view) (by unfold aH;rw[k];exact bu)),bp g.2.1,bp g.2.2,(e (fun m=>dI.ok m.bD) (by unfold aH;rw[k];exact bu)),(e (fun m=>dI.ok m.time) (by unfold aH;rw[k];exact bu)),(e (fun m=>mZ.ok m.result) (by unfold aH;rw[k];exact rE)),(e (fun m=>(dL fX).ok m.batch) (by unfold aH;rw[k];exact dO)),(e (fun m=>je.ok m.cert) (by unfold aH;rw[k];exact ry)),(e (fun m=>(dL fP).ok m.changes) (by unfold aH;rw[k];exact dO)),(e (fun m=>(dL jx).ok m.entries) (by unfold aH;rw[k];exact dO)),(e (fun m=>dY.ok m.state) (by unfold aH;rw[k];exact Nat.zero_le _)),(e (fun m=>dS.ok m.av) (by unfold aH;rw[k];exact Nat.zero_le _)),(e (fun m=>dI.ok m.offset) (by unfold aH;rw[k];exact bu)),(e (fun m=>jY.ok m.proof) (by unfold aH;rw[k];exact sB)),hs⟩
 ·obtain⟨g1,g2⟩:=g
  obtain⟨c,hc⟩:∃c,m.changes=[c]:=sM (by omega)
  rw[hc] at g2
  simp[rK,bQ] at g2
  obtain⟨g2,g3,g4⟩:=g2
  have Nl:=Sk g2
  have Cz:(dL fP).ok m.changes:=by rw[hc];exact⟨by simp,fun x hx=>by rw[List.mem_singleton.1 hx];exact Nl⟩
  have h5:dI.ok m.src:=by rw[<-g3];exact Nl.2.1
  have h6:dI.ok m.view:=by rw[<-g4];exact Nl.1
  exact⟨hk,h5,h6,(e (fun m=>dI.ok m.seq) (by unfold aH;rw[k];exact bu)),(e (fun m=>dI.ok m.ah) (by unfold aH;rw[k];exact bu)),(e (fun m=>dI.ok m.bD) (by unfold aH;rw[k];exact bu)),(e (fun m=>dI.ok m.time) (by unfold aH;rw[k];exact bu)),(e (fun m=>mZ.ok m.result) (by unfold aH;rw[k];exact rE)),(e (fun m=>(dL fX).ok m.batch) (by unfold aH;rw[k];exact dO)),(e (fun m=>je.ok m.cert) (by unfold aH;rw[k];exact ry)),Cz,(e (fun m=>(dL jx).ok m.entries) (by unfold aH;rw[k];exact dO)),(e (fun m=>dY.ok m.state) (by unfold aH;rw[k];exact Nat.zero_le _)),(e (fun m=>dS.ok m.av) (by unfold aH;rw[k];exact Nat.zero_le _)),(e (fun m=>dI.ok m.offset) (by unfold aH;rw[k];exact bu)),(e (fun m=>jY.ok m.proof) (by unfold aH;rw[k];exact sB)),hs⟩
 ·skip
  exact⟨hk,wD g.1,bp g.2.1,(e (fun m=>dI.ok m.seq) (by unfold aH;rw[k];exact bu)),(e (fun m=>dI.ok m.ah) (by unfold aH;rw[k];exact bu)),(e (fun m=>dI.ok m.bD) (by unfold aH;rw[k];exact bu)),(e (fun m=>dI.ok m.time) (by unfold aH;rw[k];exact bu)),(e (fun m=>mZ.ok m.result) (by unfold aH;rw[k];exact rE)),(e (fun m=>(dL fX).ok m.batch) (by unfold aH;rw[k];exact dO)),(e (fun m=>je.ok m.cert) (by unfold aH;rw[k];exact ry)),(show(dL fP).ok m.changes from yW (m:=13) (by have:=g.2.2.1;omega) (by decide) fun c hc=>Sk (g.2.2.2.1 c hc)),(show(dL jx).ok m.entries from yW (m:=8) (by have:=g.2.2.2.2.1;omega) (by decide) fun x hx=>acG (g.2.2.2.2.2 x hx)),(e (fun m=>dY.ok m.state) (by unfold aH;rw[k];exact Nat.zero_le _)),(e (fun m=>dS.ok m.av) (by unfold aH;rw[k];exact Nat.zero_le _)),(e (fun m=>dI.ok m.offset) (by unfold aH;rw[k];exact bu)),(e (fun m=>jY.ok m.proof) (by unfold aH;rw[k];exact sB)),hs⟩
 ·skip
  exact⟨hk,wD g.1,(e (fun m=>dI.ok m.view) (by unfold aH;rw[k];exact bu)),bn g.2,(e (fun m=>dI.ok m.ah) (by unfold aH;rw[k];exact bu)),(e (fun m=>dI.ok m.bD) (by unfold aH;rw[k];exact bu)),(e (fun m=>dI.ok m.time) (by unfold aH;rw[k];exact bu)),(e (fun m=>mZ.ok m.result) (by unfold aH;rw[k];exact rE)),(e (fun m=>(dL fX).ok m.batch) (by unfold aH;rw[k];exact dO)),(e (fun m=>je.ok m.cert) (by unfold aH;rw[k];exact ry)),(e (fun m=>(dL fP).ok m.changes) (by unfold aH;rw[k];exact dO)),(e (fun m=>(dL jx).ok m.entries) (by unfold aH;rw[k];exact dO)),(e (fun m=>dY.ok m.state) (by unfold aH;rw[k];exact Nat.zero_le _)),(e (fun m=>dS.ok m.av) (by unfold aH;rw[k];exact Nat.zero_le _)),(e (fun m=>dI.ok m.offset) (by unfold aH;rw[k];exact bu)),(e (fun m=>jY.ok m.proof) (by unfold aH;rw[k];exact sB)),hs⟩
 ·skip
  exact⟨hk,wD g.1,(e (fun m=>dI.ok m.view) (by unfold aH;rw[k];exact bu)),(e (fun m=>dI.ok m.seq) (by unfold aH;rw[k];exact bu)),(e (fun m=>dI.ok m.ah) (by unfold aH;rw[k];exact bu)),(e (fun m=>dI.ok m.bD) (by unfold aH;rw[k];exact bu)),(e (fun m=>dI.ok m.time) (by unfold aH;rw[k];exact bu)),(e (fun m=>mZ.ok m.result) (by unfold aH;rw[k];exact rE)),(e (fun m=>(dL fX).ok m.batch) (by unfold aH;rw[k];exact dO)),KU g.2.1,(e (fun m=>(dL fP).ok m.changes) (by unfold aH;rw[k];exact dO)),(e (fun m=>(dL jx).ok m.entries) (by unfold aH;rw[k];exact dO)),by have:=g.2.2;show m.state.length<=4194304;omega,(e (fun m=>dS.ok m.av) (by unfold aH;rw[k];exact Nat.zero_le _)),(e (fun m=>dI.ok m.offset) (by unfold aH;rw[k];exact bu)),(e (fun m=>jY.ok m.proof) (by unfold aH;rw[k];exact sB)),hs⟩
 ·skip
  exact⟨hk,(e (fun m=>dI.ok m.src) (by unfold aH;rw[k];exact bu)),(e (fun m=>dI.ok m.view) (by unfold aH;rw[k];exact bu)),(e (fun m=>dI.ok m.seq) (by unfold aH;rw[k];exact bu)),(e (fun m=>dI.ok m.ah) (by unfold aH;rw[k];exact bu)),b7 g.1,(e (fun m=>dI.ok m.time) (by unfold aH;rw[k];exact bu)),(e (fun m=>mZ.ok m.result) (by unfold aH;rw[k];exact rE)),(e (fun m=>(dL fX).ok m.batch) (by unfold aH;rw[k];exact dO)),(e (fun m=>je.ok m.cert) (by unfold aH;rw[k];exact ry)),(e (fun m=>(dL fP).ok m.changes) (by unfold aH;rw[k];exact dO)),(e (fun m=>(dL jx).ok m.entries) (by unfold aH;rw[k];exact dO)),(e (fun m=>dY.ok m.state) (by unfold aH;rw[k];exact Nat.zero_le _)),Nat.le_trans (zV g.2.1) (by decide),bn g.2.2,(e (fun m=>jY.ok m.proof) (by unfold aH;rw[k];exact sB)),hs⟩
 ·skip
  exact⟨hk,wD g.1,(e (fun m=>dI.ok m.view) (by unfold aH;rw[k];exact bu)),(e (fun m=>dI.ok m.seq) (by unfold aH;rw[k];exact bu)),(e (fun m=>dI.ok m.ah) (by unfold aH;rw[k];exact bu)),(e (fun m=>dI.ok m.bD) (by unfold aH;rw[k];exact bu)),(e (fun m=>dI.ok m.time) (by unfold aH;rw[k];exact bu)),(e (fun m=>mZ.ok m.result) (by unfold aH;rw[k];exact rE)),(e (fun m=>(dL fX).ok m.batch) (by unfold aH;rw[k];exact dO)),(e (fun m=>je.ok m.cert) (by unfold aH;rw[k];exact ry)),(e (fun m=>(dL fP).ok m.changes) (by unfold aH;rw[k];exact dO)),(e (fun m=>(dL jx).ok m.entries) (by unfold aH;rw[k];exact dO)),(e (fun m=>dY.ok m.state) (by unfold aH;rw[k];exact Nat.zero_le _)),(e (fun m=>dS.ok m.av) (by unfold aH;rw[k];exact Nat.zero_le _)),(e (fun m=>dI.ok m.offset) (by unfold aH;rw[k];exact bu)),acH g.2,hs⟩
section
open Go.RowKit Go.Deep
def aQ (c:Nat):Nat:=if 48<=c/\c<=57 then c-48 else if 97<=c/\c<=102 then c-87 else 16
def pO:List UInt8->Option (List UInt8)
 |[]=>some []
 |[_]=>none
 |x::y::r=>if aQ x.toNat<16/\aQ y.toNat<16 then(pO r).map (UInt8.ofNat (16*aQ x.toNat+aQ y.toNat)::·) else none
def dU:List UInt8->Option (List UInt8)
 |[]=>none
 |x::r=>if x=120 then pO r else none
theorem OV (n:Nat) (h:n<16):aQ (kX n).toNat=n:=by
 rw[IQ h]
 unfold aQ
 split
 ·rw[if_pos (by omega)];omega
 ·rw[if_neg (by omega),if_pos (by omega)];omega
theorem Fp (b:List UInt8):dU (gw b)=some b:=by
 have h:∀b:List UInt8,pO (b.flatMap fun c=>[kX (c.toNat/16),kX (c.toNat%16)])=some b:=by
  intro b
  induction b with
  |nil=>rfl
  |cons c r ih=>
   have hc:=c.toNat_lt
   simp only[List.flatMap_cons,List.cons_append,List.nil_append,pO,ih]
   rw[OV _ (by omega),OV _ (by omega),if_pos (by omega)]
   simp only[Option.map_some,Option.some.injEq,List.cons.injEq,and_true]
   apply UInt8.toNat_inj.1
   rw[UInt8.toNat_ofNat']
   omega
 simp[dU,gw,h]
end
def tG (s:List UInt8):Option Int:=match Lib.atoiAll s with
 |.ok n=>if Lib.itoa n=s then some n else none
 |_=>none
theorem abD {n:Int} (h:-9223372036854775808<=n/\n<=9223372036854775807):tG (Lib.itoa n)=some n:=by
 unfold tG
 rw[OB n h.1 h.2]
 exact if_pos rfl
theorem J6 {s:List UInt8} {n:Int} (h:tG s=some n):s=Lib.itoa n/\-9223372036854775808<=n/\n<=9223372036854775807:=by
 unfold tG at h
 split at h
 ·rename_i v hv
  split at h
  ·rename_i e
   injection h with h
   subst h
   exact⟨e.symm,IM hv⟩
  ·cases h
 ·cases h
abbrev lW (α:Type):=List (List UInt8)->Option (α×List (List UInt8))
def tH {α:Type} (p:List UInt8->Option α):lW α
 |[]=>none
 |s::r=>(p s).map fun x=>(x,r)
def fC {α β:Type} (p:lW α) (q:α->lW β):lW β:=fun ws=>match p ws with
 |some z=>q z.1 z.2
 |none=>none
def kr {α:Type} (x:α):lW α:=fun ws=>some (x,ws)
def uL {α:Type} (x:Option α):lW α:=fun ws=>x.map fun y=>(y,ws)
theorem fO {α β:Type} {p:lW α} {q:α->lW β} {ws r:List (List UInt8)} {x:α} (h:p ws=some (x,r)):fC p q ws=q x r:=by unfold fC;rw[h]
theorem lN {α β:Type} {p:lW α} {q:α->lW β} {ws:List (List UInt8)} (h:p ws=none):fC p q ws=none:=by unfold fC;rw[h]
def jD:lW Int:=tH tG
def mF:lW (List UInt8):=tH dU
def MB:Nat:=9223372036854775807
def nV (c:List UInt8):Option bJ:=if dA (nR MB (nR MB (c,0)).2).2=0 then some ⟨(nR MB (c,0)).1,(nR MB (nR MB (c,0)).2).1⟩ else none
def kJ (m:aD) (s:bJ):aD:=if m.kind=7 then(match m.changes with
 |[c]=>{m with changes:=[{c with sign:=s}]}
 |_=>{m with sign:=s}) else{m with sign:=s}
def pT (b:List UInt8):List UInt8:=if mO (nR 65536 (b,0)).1 then b else b++[0,1]
def uM (b:List UInt8) (s:bJ):Option aD:=if(cS aU aE (pT b)).2=0 then some (kJ (cS aU aE (pT b)).1 s) else none
def xE:lW aD:=fC mF fun b=>fC mF fun c=>fC (uL (nV c)) fun s=>uL (uM b s)
def qX (b:List UInt8):Option bt:=if dA (eF (b,0)).2=0 then some (eF (b,0)).1 else none
def Cu:lW bt:=fC mF fun b=>uL (qX b)
def dN (w:List UInt8):lW bK:=
 if w=pF then fC jD fun n=>kr {aR with kind:=1,num:=n}
 else if w=pQ then fC jD fun n=>kr {aR with kind:=2,num:=n}
 else if w=pG then fC jD fun n=>kr {aR with kind:=3,num:=n}
 else if w=pR then fC jD fun n=>kr {aR with kind:=4,bA:=n}
 else if w=pM then fC jD fun n=>kr {aR with kind:=5,bA:=n}
 else if w=mR then fC jD fun n=>fC Cu fun o=>kr {aR with kind:=6,bA:=n,op:=o}
 else if w=pS then fC jD fun n=>kr {aR with kind:=7,bA:=n}
 else if w=nL then fC jD fun n=>fC jD fun k=>kr {aR with kind:=8,bA:=n,num:=k}
 else if w=pN then fC jD fun n=>kr {aR with kind:=9,bA:=n}
 else if w=nP then fC mF fun b=>kr {aR with kind:=10,bytes:=b}
 else if w=mP then fC jD fun n=>fC xE fun m=>kr {aR with kind:=11,bA:=n,msg:=m}
 else if w=nQ then fC jD fun n=>fC xE fun m=>kr {aR with kind:=11,bA:=n,msg:=m,jN:=true}
 else if w=ni then kr {aR with kind:=12}
 else fun _=>none
theorem EV:dN pF=fC jD fun n=>kr {aR with kind:=1,num:=n}:=by unfold dN;rw[if_pos rfl]
theorem Fi:dN pQ=fC jD fun n=>kr {aR with kind:=2,num:=n}:=by unfold dN;rw[if_neg (by decide),if_pos rfl]
theorem EY:dN pG=fC jD fun n=>kr {aR with kind:=3,num:=n}:=by unfold dN;rw[if_neg (by decide),if_neg (by decide),if_pos rfl]
theorem Fj:dN pR=fC jD fun n=>kr {aR with kind:=4,bA:=n}:=by unfold dN;rw[if_neg (by decide),if_neg (by decide),if_neg (by decide),if_pos rfl]
theorem E1:dN pM=fC jD fun n=>kr {aR with kind:=5,bA:=n}:=by unfold dN;rw[if_neg (by decide),if_neg (by decide),if_neg (by decide),if_neg (by decide),if_pos rfl]
theorem FM:dN mR=fC jD fun n=>fC Cu fun o=>kr {aR with kind:=6,bA:=n,op:=o}:=by unfold dN;rw[if_neg (by decide),if_neg (by decide),if_neg (by decide),if_neg (by decide),if_neg (by decide),if_pos rfl]
theorem Fk:dN pS=fC jD fun n=>kr {aR with kind:=7,bA:=n}:=by unfold dN;rw[if_neg (by decide),if_neg (by decide),if_neg (by decide),if_neg (by decide),if_neg (by decide),if_neg (by decide),if_pos rfl]
theorem E2:dN nL=fC jD fun n=>fC jD fun k=>kr {aR with kind:=8,bA:=n,num:=k}:=by unfold dN;rw[if_neg (by decide),if_neg (by decide),if_neg (by decide),if_neg (by decide),if_neg (by decide),if_neg (by decide),if_neg (by decide),if_pos rfl]
theorem E3:dN pN=fC jD fun n=>kr {aR with kind:=9,bA:=n}:=by unfold dN;rw[if_neg (by decide),if_neg (by decide),if_neg (by decide),if_neg (by decide),if_neg (by decide),if_neg (by decide),if_neg (by decide),if_neg (by decide),if_pos rfl]
theorem Fl:dN nP=fC mF fun b=>kr {aR with kind:=10,bytes:=b}:=by unfold dN;rw[if_neg (by decide),if_neg (by decide),if_neg (by decide),if_neg (by decide),if_neg (by decide),if_neg (by decide),if_neg (by decide),if_neg (by decide),if_neg (by decide),if_pos rfl]
theorem Fm:dN mP=fC jD fun n=>fC xE fun m=>kr {aR with kind:=11,bA:=n,msg:=m}:=by unfold dN;rw[if_neg (by decide),if_neg (by decide),if_neg (by decide),if_neg (by decide),if_neg (by decide),if_neg (by decide),if_neg (by decide),if_neg (by decide),if_neg (by decide),if_neg (by decide),if_pos rfl]
theorem Fo:dN nQ=fC jD fun n=>fC xE fun m=>kr {aR with kind:=11,bA:=n,msg:=m,jN:=true}:=by unfold dN;rw[if_neg (by decide),if_neg (by decide),if_neg (by decide),if_neg (by decide),if_neg (by decide),if_neg (by decide),if_neg (by decide),if_neg (by decide),if_neg (by decide),if_neg (by decide),if_neg (by decide),if_pos rfl]
theorem E4:dN ni=kr {aR with kind:=12}:=by unfold dN;rw[if_neg (by decide),if_neg (by decide),if_neg (by decide),if_neg (by decide),if_neg (by decide),if_neg (by decide),if_neg (by decide),if_neg (by decide),if_neg (by decide),if_neg (by decide),if_neg (by decide),if_neg (by decide),if_pos rfl]
def ku:lW bK:=fC (tH some) dN
def fE (line:List UInt8) (a:bK):Prop:=gh.ok a/\kH a/\line=j0 a
theorem ru {n:Int} {r:List (List UInt8)} (h:-9223372036854775808<=n/\n<=9223372036854775807):jD (Lib.itoa n::r)=some (n,r):=by
 show(tG (Lib.itoa n)).map _=_
 rw[abD h]
 rfl
theorem F1 (b:List UInt8) (r:List (List UInt8)):mF (gw b::r)=some (b,r):=by
 show(dU (gw b)).map _=_
 rw[Fp]
 rfl
theorem QJ {s:bJ} (h1:0<=s.key/\s.key<=9223372036854775807) (h2:0<=s.ah/\s.ah<=9223372036854775807):nV (enc s.key.toNat++enc s.ah.toNat)=some s:=by
 have e1:=(j3 MB (by decide)).there s.key (enc s.ah.toNat) h1
 rw[eK h1.1 (by omega)] at e1
 have e2:=(j3 MB (by decide)).there s.ah [] h2
 rw[eK h2.1 (by omega),List.append_nil] at e2
 unfold nV
 rw[e1]
 simp only
 rw[e2]
 cases s
 rfl
theorem NM {m:aD} (hk:bP (eu m)=0):kg (eu m)=if mO m.kind then aO m else aO m++[0,1]:=by
 have hr:=yd hk
 rw[Bd] at hr
 have hs:=N5 hr
 have hz:cG cq=[0,1]:=by
  show(if dw cq=0 then rL cq else[])=_
  rw[if_pos (by decide)]
  show enc 0++enc 1=_
  rw[sN (by decide),sN (by decide)]
  rfl
 unfold kg
 rw[wM,Bd]
 by_cases h7:m.kind=7
 ·have hf:mO m.kind=false:=by unfold mO;rw[h7];rfl
  rw[if_pos h7,hf]
  have hc:m.changes.length=1:=by
   unfold bP at hk
   rw[Bd,h7] at hk
   simp only[show ¬((7:Int)=1) by decide,show ¬((7:Int)=2) by decide,show ¬((7:Int)=3) by decide,show ¬((7:Int)=4) by decide,show ¬((7:Int)=5) by decide,show ¬((7:Int)=6) by decide,if_false,if_true,bQ] at hk
   have h1:=hk.1
   have hl:(eu m).changes.length=m.changes.length:=by
    unfold eu
    split
    ·simp
    ·split<;>rfl
   rw[hl] at h1
   unfold cQ at h1
   split at h1
   ·cases h1
   ·omega
  obtain⟨c,hc⟩:=sM hc
  have:eu m={m with changes:=[{c with sign:=cq}]}:=by unfold eu;rw[if_pos ⟨h7,by rw[hc];rfl⟩,hc];rfl
  rw[this]
  simp[hz]
 ·rw[if_neg h7,hs]
  have hd:decide (m.kind=7)=false:=by simpa using h7
  rw[hd,Bool.or_false]
  have:mO m.kind=false->(eu m).sign=cq:=fun hf=>by
   unfold eu
   rw[if_neg (fun h=>h7 h.1),hs,hd,hf]
   rfl
  cases hf:mO m.kind
  ·simp[this hf,hz]
  ·simp
theorem Iu {m:aD} (hr:1<=m.kind/\m.kind<=12):kJ (eu m) (cI m)=m:=by
 have hs:=N5 hr
 unfold kJ
 rw[Bd]
 by_cases h7:m.kind=7
 ·rw[if_pos h7]
  by_cases hc:m.changes.length=1
  ·obtain⟨c,hc⟩:=sM hc
   have:eu m={m with changes:=[{c with sign:=cq}]}:=by unfold eu;rw[if_pos ⟨h7,by rw[hc];rfl⟩,hc];rfl
   rw[this]
   have ho:cI m=c.sign:=by unfold cI;rw[if_pos h7,hc]
   simp only[ho]
   cases m
   simp_all
  ·have hw:eu m=m:=by
    unfold eu
    rw[if_neg (fun h=>hc h.2),hs,h7]
    rfl
   rw[hw]
   have ho:cI m=m.sign:=by
    unfold cI
    rw[if_pos h7]
    split
    ·rename_i c rV;rw[rV] at hc;exact absurd rfl hc
    ·rfl
   rw[ho]
   split
   ·rename_i c rV;rw[rV] at hc;exact absurd rfl hc
   ·cases m;rfl
 ·rw[if_neg h7]
  have ho:cI m=m.sign:=by unfold cI;rw[if_neg h7]
  rw[ho]
  unfold eu
  rw[if_neg (fun h=>h7 h.1)]
  split
  ·cases m;rfl
  ·cases m;rfl
theorem abE {m:aD} (h:1<=m.kind/\m.kind<=12):(nR 65536 (aO m,0)).1=m.kind:=by
 have e:=(j3 65536 (by decide)).there m.kind (cT m) ⟨by omega,by omega⟩
 show(nR 65536 (aJ m.kind++cT m,0)).1=_
 rw[e]
theorem abF {m:aD} (h:KY m):uM (aO m) (cI m)=some m:=by
 obtain⟨h1,h2⟩:=h
 have hk:=nG (oA h1)
 have hr:=yd hk
 rw[Bd] at hr
 have hb:pT (aO m)=kg (eu m):=by
  unfold pT
  rw[abE hr,NM hk]
 have e:=Bz.there (eu m) [] h1
 rw[List.append_nil] at e
 have e2:cS aU aE (kg (eu m))=(eu m,0):=FK (by omega) e rfl
 unfold uM
 rw[hb,e2,if_pos rfl,Iu hr]
theorem abG {m:aD} (h:qt m) (hd:(cI m).key<=9223372036854775807/\(cI m).ah<=9223372036854775807) (r:List (List UInt8)):xE (ny m++r)=some (m,r):=by
 obtain⟨h1,h2,h3,_,_⟩:=h
 unfold xE ny nu
 show fC mF _ (gw (aO m)::gw (enc (cI m).key.toNat++enc (cI m).ah.toNat)::r)=_
 rw[fO (F1 _ _),fO (F1 _ _),QJ ⟨h2,hd.1⟩ ⟨h3,hd.2⟩]
 show uL (uM (aO m) (cI m)) r=_
 rw[abF h1]
 rfl
theorem acY {o:bt} (h:bS o=0):qX (iy o)=some o:=by
 have e:=Kz.there o [] h
 rw[List.append_nil] at e
 unfold qX
 rw[e]
 rfl
theorem acZ {o:bt} (h:bS o=0) (r:List (List UInt8)):Cu (gw (iy o)::r)=some (o,r):=by
 unfold Cu
 rw[fO (F1 _ _),acY h]
 rfl
theorem OE {m:aD} (hm:bh.ok m):(cI m).key<=9223372036854775807/\(cI m).ah<=9223372036854775807:=by
 have hs:∀s:bJ,iO.ok s->s.key<=9223372036854775807/\s.ah<=9223372036854775807:=fun s h=>⟨h.1.2,h.2.2⟩
 rw[ym] at hm
 obtain⟨h1,h2,h3,h4,h5,h6,h7,h8,h9,kN,iG,rR,rS,tT,tU,nW,tV⟩:=hm
 unfold cI
 split
 ·split
  ·rename_i c hc
   have h:=iG.2 c (by rw[hc];simp)
   rw[Ba] at h
   exact hs _ h.2.2.2.2
  ·exact hs _ tV
 ·exact hs _ tV
theorem abH {a:bK} (ha:gh.ok a) (h:kH a):ku (jf a)=some (a,[]):=by
 obtain⟨⟨hr,h6,iG⟩,hk⟩:=h
 have hb:dI.ok a.bA/\dI.ok a.num/\bh.ok a.msg:=⟨ha.2.1,ha.2.2.1,ha.2.2.2.2.2.1⟩
 have b2:-9223372036854775808<=a.bA/\a.bA<=9223372036854775807:=hb.1
 have b3:-9223372036854775808<=a.num/\a.num<=9223372036854775807:=hb.2.1
 have b6:=OE hb.2.2
 have key:dN (pZ a.kind.toNat a.jN) (pX a)=some (nv a,[]):=by
  unfold pX nv
  obtain⟨i,hi⟩:∃i,a.kind=i:=⟨_,rfl⟩
  rw[hi] at hr h6 iG ⊢
  have Ug:i=1\/i=2\/i=3\/i=4\/i=5\/i=6\/i=7\/i=8\/i=9\/i=10\/i=11\/i=12:=by omega
  rcases Ug with rfl|rfl|rfl|rfl|rfl|rfl|rfl|rfl|rfl|rfl|rfl|rfl
  ·show dN pF [Lib.itoa a.num]=_;rw[EV,fO (ru b3)];rfl
  ·show dN pQ [Lib.itoa a.num]=_;rw[Fi,fO (ru b3)];rfl
  ·show dN pG [Lib.itoa a.num]=_;rw[EY,fO (ru b3)];rfl
  ·show dN pR [Lib.itoa a.bA]=_;rw[Fj,fO (ru b2)];rfl
  ·show dN pM [Lib.itoa a.bA]=_;rw[E1,fO (ru b2)];rfl
  ·show dN mR [Lib.itoa a.bA,gw (iy a.op)]=_;rw[FM,fO (ru b2),fO (acZ (h6 rfl) [])];rfl
  ·show dN pS [Lib.itoa a.bA]=_;rw[Fk,fO (ru b2)];rfl
  ·show dN nL [Lib.itoa a.bA,Lib.itoa a.num]=_;rw[E2,fO (ru b2),fO (ru b3)];rfl
  ·show dN pN [Lib.itoa a.bA]=_;rw[E3,fO (ru b2)];rfl
  ·show dN nP [gw a.bytes]=_;rw[Fl,fO (F1 _ _)];rfl
  ·have e:=abG (iG rfl) b6 []
   rw[List.append_nil] at e
   cases hs:a.jN
   ·show dN mP (Lib.itoa a.bA::ny a.msg)=_;rw[Fm,fO (ru b2),fO e];rfl
   ·show dN nQ (Lib.itoa a.bA::ny a.msg)=_;rw[Fo,fO (ru b2),fO e];rfl
  ·show dN ni []=_;rw[E4];rfl
 unfold ku jf
 rw[fO (show tH some (pZ a.kind.toNat a.jN::pX a)=some (pZ a.kind.toNat a.jN,pX a) from rfl),key,<-hk]
theorem N6 {a:bK} (h:kH a):fc (j0 a)=jf a:=N7 _ (by simp[jf]) (WB a h.1.1)
theorem Dn {m:aD} {s:bJ} (hm:bh.ok m) (hs:iO.ok s):bh.ok (kJ m s):=by
 have uf:=hm
 rw[ym] at hm
 obtain⟨h1,h2,h3,h4,h5,h6,h7,h8,h9,kN,iG,rR,rS,tT,tU,nW,tV⟩:=hm
 have hx:bh.ok {m with sign:=s}:=by rw[ym];exact⟨h1,h2,h3,h4,h5,h6,h7,h8,h9,kN,iG,rR,rS,tT,tU,nW,hs⟩
 unfold kJ
 split
 ·split
  ·rename_i c hc
   rw[ym]
   refine⟨h1,h2,h3,h4,h5,h6,h7,h8,h9,kN,⟨by simp,fun d hd=>?_⟩,rR,rS,tT,tU,nW,tV⟩
   have k:=iG.2 c (by rw[hc];simp)
   rw[Ba] at k
   obtain rfl:=List.mem_singleton.1 hd
   rw[Ba]
   exact⟨k.1,k.2.1,k.2.2.1,k.2.2.2.1,hs⟩
  ·exact hx
 ·exact hx
theorem Sa {most:Nat} (h:most<=9223372036854775807) (s:RS):dI.ok (nR most s).1:=by
 have:=yp most s
 exact⟨by show(-9223372036854775808:Int)<=((cy most s).1:Int);omega,by show((cy most s).1:Int)<=9223372036854775807;omega⟩
theorem ac0 {c:List UInt8} {s:bJ} (h:nV c=some s):iO.ok s:=by
 unfold nV at h
 split at h
 ·injection h with h
  subst h
  exact⟨Sa (by decide) _,Sa (by decide) _⟩
 ·cases h
theorem zR {b:List UInt8} (h:(cS aU aE b).2=0):bh.ok (cS aU aE b).1:=by
 unfold cS at h ⊢
 split at h
 ·cases h
 ·rename_i h1
  rw[if_neg h1]
  split at h
  ·rename_i h2
   rw[if_pos h2]
   refine aef (Bz.back b ?_).1
   unfold dA at h2
   split at h2
   ·assumption
   ·assumption
  ·rename_i h2
   exact absurd h h2
theorem ada {b:List UInt8} {s:bJ} {m:aD} (hs:iO.ok s) (h:uM b s=some m):bh.ok m:=by
 unfold uM at h
 split at h
 ·rename_i h0
  injection h with h
  subst h
  exact Dn (zR h0) hs
 ·cases h
theorem aeg {b:List UInt8} {o:bt} (h:qX b=some o):fD.ok o:=by
 unfold qX at h
 split at h
 ·rename_i h0
  injection h with h
  subst h
  refine SC (Kz.back b ?_).1
  unfold dA at h0
  split at h0
  ·assumption
  ·assumption
 ·cases h
theorem jO:bh.ok aE:=⟨bu,bu,bu,bu,bu,bu,bu,rE,dO,ry,dO,dO,Nat.zero_le _,Nat.zero_le _,bu,sB,F2⟩
theorem tj:fD.ok za:=⟨bu,Nat.zero_le _,Nat.zero_le _,bu,dO⟩
theorem fM {n:Int} (h:-9223372036854775808<=n/\n<=9223372036854775807):dI.ok n:=h
end Go.Proofs.YtafomdobfmmleaaGreatDoor
