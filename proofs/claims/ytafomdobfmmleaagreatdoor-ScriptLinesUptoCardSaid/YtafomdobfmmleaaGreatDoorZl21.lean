/- Lemmas and contracts, part 21. -/
import Derived.Test.YtafomdobfmmleaaGreatDoorZl20
import Derived.Lib.ItoaLen
import Derived.Deep.Light
import Derived.Deep.QuietTactic
import Derived.BigQuiet
namespace Go.Proofs.YtafomdobfmmleaaGreatDoor
set_option linter.unusedVariables false
open Go.RowKit
open Go.Proofs.Tryz
set_option maxRecDepth 20000
set_option maxHeartbeats 20000000
section
open Go.RowKit Go.Deep
theorem iF.one {aG:Nat->Prop} {w:World} {cs:List Value} {x:bK} (h:iF.rd aG w cs x):cs.toArray.size=40/\cs.toArray.all (·.oneCell')=true:=by
 obtain⟨oc,b,mc,rfl,TD,ho,hb,hm⟩:=iF.Sd h
 have h1:=mW.one ho
 have h2:=jE.one hm
 have l1:oc.length=5:=mW.len ho
 have l2:mc.length=30:=by have:=jE.len hm;simpa using this
 obtain⟨u,hu,kC,_⟩:=hb
 injection hu with hu _
 subst hu
 obtain⟨A1,c1,e1⟩:=kC.rd.slice
 subst e1
 refine⟨by simp[xF,l1,l2],?_⟩
 simp only[List.all_toArray,xF,List.all_append,List.all_eq_true.2 h1,List.all_eq_true.2 h2]
 simp[Value.oneCell']
theorem Jm (M:Nat):∀l:List (List UInt8),(∀y∈l,y.length<=M)->(kW l).length<=l.length*(M+1)
 |[],_=>by simp[kW]
 |[x],h=>by have:=h x (by simp);simp[kW];omega
 |x::y::r,h=>by
  have h1:=h x (by simp)
  have h2:=Jm M (y::r) (fun z hz=>h z (by simp[hz]))
  simp only[kW,List.length_append,List.length_cons] at h2 ⊢
  rw[Nat.add_mul (r.length+1) 1,Nat.one_mul]
  omega
theorem acA (n:Nat) (s:Bool):(pZ n s).length<=10:=by
 unfold pZ
 split
 all_goals first|(simp[pF,pQ,pG,pR,pM,mR,pS,nL,pN,nP,ni];done)|(cases s<;>simp[mP,nQ])
theorem Yj {aG:Nat->Prop} {w:World} {cs:List Value} {x:bK} (hx:iF.rd aG w cs x) (hk:zX x):(∀y∈jf x,y.length<=8388610)/\(jf x).length<=4:=by
 obtain⟨oc,b,mc,rfl,⟨b1,b2,b3⟩,ho,hb,hm⟩:=iF.Sd hx
 obtain⟨hr,h6,iG⟩:=hk
 have i1:=Lib.itoa_length_le x.bA b2.1 b2.2
 have i2:=Lib.itoa_length_le x.num b3.1 b3.2
 have hy:=tY.le hb
 unfold jf
 constructor
 ·intro y lZ
  rcases List.mem_cons.1 lZ with rfl|lZ
  ·have:=acA x.kind.toNat x.jN;omega
  ·unfold pX at lZ
   split at lZ
   ·simp at lZ;subst lZ;omega
   split at lZ
   ·simp at lZ;subst lZ;omega
   split at lZ
   ·rename_i k6
    simp at lZ
    rcases lZ with rfl|rfl
    ·omega
    ·exact FQ _ 0 (by have:=zo (h6 k6);omega)
   split at lZ
   ·simp at lZ;rcases lZ with rfl|rfl<;>omega
   split at lZ
   ·simp at lZ;subst lZ;exact FQ _ 0 hy
   split at lZ
   ·rename_i oU
    have hw:=iG oU
    have hu:=so (nG (oA hw.1.1))
    rw[wM] at hu
    have ob:=ady hm
    simp[ny,nu] at lZ
    rcases lZ with rfl|rfl|rfl
    ·omega
    ·exact FQ _ 0 (by omega)
    ·have e1:=kV (cI x.msg).key.toNat (by omega)
     have e2:=kV (cI x.msg).ah.toNat (by omega)
     exact FQ _ 0 (by rw[List.length_append];omega)
   ·simp at lZ
 ·unfold pX
  repeat' split
  all_goals simp[ny]
theorem Yk {aG:Nat->Prop} {w:World} {cs:List Value} {x:bK} (hx:iF.rd aG w cs x) (hk:zX x):(j0 x).length<=33554448:=by
 obtain⟨h1,h2⟩:=Yj hx hk
 have:=Jm 8388610 (jf x) h1
 have h3:(jf x).length*(8388610+1)<=4*(8388610+1):=Nat.mul_le_mul_right _ h2
 unfold j0
 omega
def FR (w:World) (x:bK) (r:Ending) (w':World):Prop:=open Classical in
 (r=if kH x then .returned (.tuple #[.string (aA (j0 x)),.int .i64 0]) else .returned (.tuple #[.string ⟨#[]⟩,.int .i64 1]))/\B w w'
end
section
open Go.RowKit Go.Deep
def KT:List UInt8:=[119,111,114,108,100]
def vY (s:sW):List (List UInt8):=[KT,Lib.itoa s.f,Lib.itoa s.jP,Lib.itoa s.jC,Lib.itoa s.room,s.av]
def pP (s:sW):List UInt8:=kW (vY s)
theorem Rf {x:Int} (h:0<=x/\x<=9223372036854775807):IntKind.i64.wrap x=x:=by
 simp[IntKind.wrap,IntKind.signed,IntKind.bits];omega
theorem Oi {aG:Nat->Prop} {w:World} {cs:List Value} {s:sW} (h:nN.rd aG w cs s):(pP s).length<=30000000:=by
 obtain⟨_,b1,b2,b3,b4,b5⟩:=nN.parts h
 have i1:=Lib.itoa_length_le s.f b1.1 b1.2
 have i2:=Lib.itoa_length_le s.jP (by omega) (by omega)
 have i3:=Lib.itoa_length_le s.jC (by omega) (by omega)
 have i4:=Lib.itoa_length_le s.room b4.1 b4.2
 have:=Jm 4194304 (vY s) (by
  intro y hy
  simp only[vY,List.mem_cons,List.not_mem_nil,or_false] at hy
  rcases hy with rfl|rfl|rfl|rfl|rfl|rfl
  ·simp[KT]
  all_goals omega)
 unfold pP
 have e:(vY s).length=6:=rfl
 rw[e] at this
 omega
set_option maxRecDepth 20000 in
set_option maxHeartbeats 20000000 in
theorem aau {aG:Nat->Prop} {w:World} {cs:List Value} {s:sW} (h:nN.rd aG w cs s) (hk:jg s.av=false):
 Calls prog 8 #[.agg cs.toArray] w fun r w'=>r=.returned (.tuple #[.string ⟨#[]⟩,.int .i64 1])/\B w w':=by
 obtain⟨rfl,b1,b2,b3,b4,b5⟩:=nN.parts h
 have HN:=Lib.hid (fun w'=>KE w' s.av b5)
 rw[hk] at HN
 have HS:=Lib.hid (gK.new (St.nil w) 25 #[.int .i64 s.f,.int .u16 s.jP,.int .u16 s.jC,.int .i64 s.room,.string (aA s.av)])
 clear h hk
 go_enter func8,ntmps8
 go_wp2_with (first|(go_at_call 27;(with_reducible refine qC (HN.out _) ?_);rintro r w1 ⟨rfl,hb⟩;replace HS:=Lib.hid (HS.out.on.later hb);clear hb)|fail)
 go_ret2
 exact⟨rfl,HS.out.b⟩
set_option maxRecDepth 20000 in
set_option maxHeartbeats 20000000 in
theorem aav {aG:Nat->Prop} {w:World} {cs:List Value} {s:sW} (hT:qT w) (h:nN.rd aG w cs s) (hk:jg s.av=true):
 Calls prog 8 #[.agg cs.toArray] w fun r w'=>r=.returned (.tuple #[.string (aA (pP s)),.int .i64 0])/\B w w':=by
 have HJ:=Lib.hid (show(kW (vY s)).length<=140737488355328 from by have:=Oi h;unfold pP at this;omega)
 obtain⟨rfl,b1,b2,b3,b4,b5⟩:=nN.parts h
 have HN:=Lib.hid (fun w'=>KE w' s.av b5)
 rw[hk] at HN
 have HS:=Lib.hid (gK.new (St.nil w) 25 #[.int .i64 s.f,.int .u16 s.jP,.int .u16 s.jC,.int .i64 s.room,.string (aA s.av)])
 have HT:=Lib.hid hT
 have Cr:=Lib.hid b1
 have Nf:=Lib.hid b2
 have Ng:=Lib.hid b3
 have zj:=Lib.hid b4
 have w1k:IntKind.i64.wrap s.jP=s.jP:=Rf (by omega)
 have w2k:IntKind.i64.wrap s.jC=s.jC:=Rf (by omega)
 clear h hk hT
 go_enter func8,ntmps8
 go_wp2_with (first|(go_at_call 27;(with_reducible refine qC (HN.out _) ?_);rintro r w1 ⟨rfl,hb⟩;replace HS:=Lib.hid (HS.out.on.later hb);clear hb)|fail)
 have HSW:=HS
 obtain⟨SS,H0,A3,yc,A4⟩:∃SS:World->Prop,SS w1.drew/\(∀w',SS w'->B w w')/\(∀w' y4,SS w'->B w' y4->SS y4)/\(∀w',SS w'->dR w' w.heap.size 25 #[.int .i64 s.f,.int .u16 s.jP,.int .u16 s.jC,.int .i64 s.room,.string (aA s.av)]):=
  ⟨fun w'=>B w1 w',(Below.refl _ _).drew,fun w' hb=>HS.out.b.trans hb,fun w' y4 h1 h2=>h1.trans h2,fun w' hb=>gK.get (HS.out.later hb)⟩
 replace H0:=Lib.hid H0
 replace A3:=Lib.hid A3
 replace yc:=Lib.hid yc
 replace A4:=Lib.hid A4
 clear HS HSW
 refine wp_region_held_drew (S:=SS) (by kernel_rfl) H0.out (fun HS=>?_)
 replace HS:=Lib.hid HS
 generalize World.drew _=W1 at*
 refine qm (i:=0) (d:=some 8) (v:=.pointer (some ⟨w.heap.size,0,none⟩)) rfl rfl (by kernel_rfl) (by kernel_rfl) (by kernel_rfl) (fun _ _ _ h=>h) rfl (fun w' hS=>by go_simp) HS.out ?_
 simp only[Act.put,List.setIfInBounds_toArray,List.set_cons_zero,List.set_cons_succ]
 refine qm (i:=1) (d:=some 9) (v:=.int .i64 s.f) rfl rfl (by kernel_rfl) (by kernel_rfl) (by kernel_rfl) (fun _ _ _ h=>h) rfl (fun w' hS=>by exact CQ (ty:=3) rfl rfl (DR (by rw[(A4.out w' hS).cell 0];rfl) underlying3 rfl)) HS.out ?_
 simp only[Act.put,List.setIfInBounds_toArray,List.set_cons_zero,List.set_cons_succ]
 refine qm (i:=3) (d:=some 11) (v:=.pointer (some ⟨w.heap.size,1,none⟩)) rfl rfl (by kernel_rfl) (by kernel_rfl) (by kernel_rfl) (fun _ _ _ h=>h) rfl (fun w' hS=>by go_simp) HS.out ?_
 simp only[Act.put,List.setIfInBounds_toArray,List.set_cons_zero,List.set_cons_succ]
 refine qm (i:=4) (d:=some 12) (v:=.int .u16 s.jP) rfl rfl (by kernel_rfl) (by kernel_rfl) (by kernel_rfl) (fun _ _ _ h=>h) rfl (fun w' hS=>by exact CQ (ty:=23) rfl rfl (DR (by rw[(A4.out w' hS).cell 1];rfl) underlying23 rfl)) HS.out ?_
 simp only[Act.put,List.setIfInBounds_toArray,List.set_cons_zero,List.set_cons_succ]
 refine qm (i:=5) (d:=some 13) (v:=.int .i64 s.jP) rfl rfl (by kernel_rfl) (by kernel_rfl) (by kernel_rfl) (fun _ _ _ h=>h) rfl (fun w' hS=>by go_simp) HS.out ?_
 simp only[Act.put,List.setIfInBounds_toArray,List.set_cons_zero,List.set_cons_succ]
 refine qm (i:=7) (d:=some 15) (v:=.pointer (some ⟨w.heap.size,2,none⟩)) rfl rfl (by kernel_rfl) (by kernel_rfl) (by kernel_rfl) (fun _ _ _ h=>h) rfl (fun w' hS=>by go_simp) HS.out ?_
 simp only[Act.put,List.setIfInBounds_toArray,List.set_cons_zero,List.set_cons_succ]
 refine qm (i:=8) (d:=some 16) (v:=.int .u16 s.jC) rfl rfl (by kernel_rfl) (by kernel_rfl) (by kernel_rfl) (fun _ _ _ h=>h) rfl (fun w' hS=>by exact CQ (ty:=23) rfl rfl (DR (by rw[(A4.out w' hS).cell 2];rfl) underlying23 rfl)) HS.out ?_
 simp only[Act.put,List.setIfInBounds_toArray,List.set_cons_zero,List.set_cons_succ]
 refine qm (i:=9) (d:=some 17) (v:=.int .i64 s.jC) rfl rfl (by kernel_rfl) (by kernel_rfl) (by kernel_rfl) (fun _ _ _ h=>h) rfl (fun w' hS=>by go_simp) HS.out ?_
 simp only[Act.put,List.setIfInBounds_toArray,List.set_cons_zero,List.set_cons_succ]
 refine qm (i:=11) (d:=some 19) (v:=.pointer (some ⟨w.heap.size,3,none⟩)) rfl rfl (by kernel_rfl) (by kernel_rfl) (by kernel_rfl) (fun _ _ _ h=>h) rfl (fun w' hS=>by go_simp) HS.out ?_
 simp only[Act.put,List.setIfInBounds_toArray,List.set_cons_zero,List.set_cons_succ]
 refine qm (i:=12) (d:=some 20) (v:=.int .i64 s.room) rfl rfl (by kernel_rfl) (by kernel_rfl) (by kernel_rfl) (fun _ _ _ h=>h) rfl (fun w' hS=>by exact CQ (ty:=3) rfl rfl (DR (by rw[(A4.out w' hS).cell 3];rfl) underlying3 rfl)) HS.out ?_
 simp only[Act.put,List.setIfInBounds_toArray,List.set_cons_zero,List.set_cons_succ]
 refine qm (i:=14) (d:=some 22) (v:=.pointer (some ⟨w.heap.size,4,none⟩)) rfl rfl (by kernel_rfl) (by kernel_rfl) (by kernel_rfl) (fun _ _ _ h=>h) rfl (fun w' hS=>by go_simp) HS.out ?_
 simp only[Act.put,List.setIfInBounds_toArray,List.set_cons_zero,List.set_cons_succ]
 refine qm (i:=15) (d:=some 23) (v:=.string (aA s.av)) rfl rfl (by kernel_rfl) (by kernel_rfl) (by kernel_rfl) (fun _ _ _ h=>h) rfl (fun w' hS=>by exact CQ (ty:=9) rfl rfl (DR (by rw[(A4.out w' hS).cell 4];rfl) underlying9 rfl)) HS.out ?_
 simp only[Act.put,List.setIfInBounds_toArray,List.set_cons_zero,List.set_cons_succ]
 refine C3 (i:=2) (d:=some 10) (v:=.string (aA (Lib.itoa s.f))) (by kernel_rfl) rfl rfl rfl (by go_simp) (BW (HT.out.later (A3.out _ HS.out)) Cr.out) (fun w' hb=>yc.out _ _ HS.out hb) (fun w' HS=>?_)
 replace HS:=Lib.hid HS
 simp only[Act.put,List.setIfInBounds_toArray,List.set_cons_zero,List.set_cons_succ]
 refine C3 (i:=6) (d:=some 14) (v:=.string (aA (Lib.itoa s.jP))) (by kernel_rfl) rfl rfl rfl (by go_simp) (BW (HT.out.later (A3.out _ HS.out)) (by have:=Nf.out;omega)) (fun w' hb=>yc.out _ _ HS.out hb) (fun w' HS=>?_)
 replace HS:=Lib.hid HS
 simp only[Act.put,List.setIfInBounds_toArray,List.set_cons_zero,List.set_cons_succ]
 refine C3 (i:=10) (d:=some 18) (v:=.string (aA (Lib.itoa s.jC))) (by kernel_rfl) rfl rfl rfl (by go_simp) (BW (HT.out.later (A3.out _ HS.out)) (by have:=Ng.out;omega)) (fun w' hb=>yc.out _ _ HS.out hb) (fun w' HS=>?_)
 replace HS:=Lib.hid HS
 simp only[Act.put,List.setIfInBounds_toArray,List.set_cons_zero,List.set_cons_succ]
 refine C3 (i:=13) (d:=some 21) (v:=.string (aA (Lib.itoa s.room))) (by kernel_rfl) rfl rfl rfl (by go_simp) (BW (HT.out.later (A3.out _ HS.out)) zj.out) (fun w' hb=>yc.out _ _ HS.out hb) (fun w' HS=>?_)
 replace HS:=Lib.hid HS
 simp only[Act.put,List.setIfInBounds_toArray,List.set_cons_zero,List.set_cons_succ]
 have h1:=yM.new (St.nil w') (vY s) (by simp[vY,maxLen]) (cs:=#[.string ⟨#[119,111,114,108,100]⟩,.string (aA (Lib.itoa s.f)),.string (aA (Lib.itoa s.jP)),.string (aA (Lib.itoa s.jC)),.string (aA (Lib.itoa s.room)),.string (aA s.av)]) rfl (n:=6) rfl
 refine acd (i:=16) (d:=some 24) (v:=.slice (some ⟨w'.heap.size,0,none⟩) 6 6) (w':=w'.alloc (.cells #[.string ⟨#[119,111,114,108,100]⟩,.string (aA (Lib.itoa s.f)),.string (aA (Lib.itoa s.jP)),.string (aA (Lib.itoa s.jC)),.string (aA (Lib.itoa s.room)),.string (aA s.av)] 9)) (by kernel_rfl) rfl rfl rfl (by go_simp) (yc.out _ _ HS.out (B.j9 _ _)) ?_
 simp only[Act.put,List.setIfInBounds_toArray,List.set_cons_zero,List.set_cons_succ]
 replace HS:=Lib.hid (yc.out _ _ HS.out (B.j9 w' (.cells #[.string ⟨#[119,111,114,108,100]⟩,.string (aA (Lib.itoa s.f)),.string (aA (Lib.itoa s.jP)),.string (aA (Lib.itoa s.jC)),.string (aA (Lib.itoa s.room)),.string (aA s.av)] 9)))
 refine C3 (i:=17) (d:=some 25) (v:=.string (aA (pP s))) (by kernel_rfl) rfl rfl rfl (by go_simp) (adx (s:=⟨#[32]⟩) h1 HJ.out (by simp[vY]) rfl) (fun w' hb=>yc.out _ _ HS.out hb) (fun w' HS=>?_)
 replace HS:=Lib.hid HS
 simp only[Act.put,List.setIfInBounds_toArray,List.set_cons_zero,List.set_cons_succ]
 refine qm (i:=18) (d:=some 2) (v:=.string (aA (pP s))) rfl rfl (by kernel_rfl) (by kernel_rfl) (by kernel_rfl) (fun _ _ _ h=>h) rfl (fun w' hS=>by go_simp) HS.out ?_
 simp only[Act.put,List.setIfInBounds_toArray,List.set_cons_zero,List.set_cons_succ]
 refine qm (i:=19) (d:=some 3) (v:=.int .i64 0) rfl rfl (by kernel_rfl) (by kernel_rfl) (by kernel_rfl) (fun _ _ _ h=>h) rfl (fun w' hS=>by go_simp) HS.out ?_
 simp only[Act.put,List.setIfInBounds_toArray,List.set_cons_zero,List.set_cons_succ]
 refine wpAnyH_done (by kernel_rfl) ?_ _
 go_wp2_with fail
 go_ret2
 exact⟨rfl,A3.out _ HS.out⟩
theorem Rg {aG:Nat->Prop} {w:World} {cs:List Value} {s:sW} (hT:qT w) (h:nN.rd aG w cs s):
 Calls prog 8 #[.agg cs.toArray] w fun r w'=>(r=if jg s.av=true then .returned (.tuple #[.string (aA (pP s)),.int .i64 0]) else .returned (.tuple #[.string ⟨#[]⟩,.int .i64 1]))/\B w w':=by
 cases hk:jg s.av with
 |true=>simpa using aav hT h hk
 |false=>simpa using aau h hk
end
def B7:Nat:=3
theorem Sy:prog.globalNamed "internal/strconv.uint64pow10"=some B7:=by kernel_rfl
abbrev BU:Wd where
 A:=fun _=>False
 aI:=fun _ _ h=>h.elim
 kY:=fun _=>False
 W I w:=I B7/\Lib.TabIs prog w "internal/strconv.uint64pow10" .u64 Lib.pow10Tab
 cl:=by
  rintro I I' w w' ⟨h1,h2⟩ hb hI
  refine⟨hI _ h1,?_⟩
  unfold Lib.TabIs World.var? at*
  rw[Sy] at h2 ⊢
  simp only[Option.bind_some] at h2 ⊢
  rw[hb B7 h1]
  exact h2
theorem abo {w:World} {n:Int} (h:Lib.TabIs prog w "internal/strconv.uint64pow10" .u64 Lib.pow10Tab) (hn:-9223372036854775808<=n/\n<=9223372036854775807):Calls prog 31 #[.int .i64 n] w fun e w'=>e=.returned (.string (aA (Lib.itoa n)))/\B w w':=by
 have HC:=Lib.hid (Tryz.strconv_Itoa n hn.1 hn.2 w h)
 go_enter func31,ntmps31
 go_wp2_with (first
  |(go_at_call 61;(with_reducible refine qC HC.out ?_);rintro e wn ⟨rfl,k,os,rfl⟩))
 go_ret
 exact⟨rfl,Ru _ _ _⟩
def Ag [Wd]:Prop:=∀n:Int,-9223372036854775808<=n/\n<=9223372036854775807->aq prog 31 [.int .i64 n] (.str (Lib.itoa n))
section
section
variable [Wd] {P:Program} {Q:Exit->S->Prop}
theorem KW {f:FuncId} {ar bR:List D} {hs hb:List AO} {c:D->List AO->T} {cZ:D->List AO->Prop} (σ:List Nat) (hF:bC P f ar hs cZ) (V:View σ hb hs) (hc:aa bR (D.bO.rl σ ar)) (hM:(σ.all fun o=>(jT hb bR).elem o)=true) (k:∀r h',cZ r h'->(c (r.bO (mz hb σ hs h')) (lK hb σ hs h')).ok P Q):(T.call f bR hb c).ok P Q:=
 ⟨_,hF.aL V hc (fun o ho=>by have:=List.all_eq_true.1 hM o ho;simpa using this),fun r' h' ⟨r0,h0,e1,e3,e4⟩=>by subst e3 e4;exact k r0 h0 e1⟩
theorem eI {f:FuncId} {ar bR:List D} {h:List AO} {c:D->List AO->T} {R:D->Prop} (hF:bC P f ar [] (fun r h'=>R r/\h'=[])) (hp:ga.pl ar=true) (hc:aa bR ar) (k:∀r,R r->(c r h).ok P Q):(T.call f bR h c).ok P Q:=
 ⟨_,hF.pure hp hc,fun r' h' ⟨e1,e2⟩=>by subst e2;exact k r' e1⟩
theorem bf {tb:TT} {rs:List ResultVar} {e:Exit} {s:S} {h:List AO} {r:D} {h':List AO} {ds:List D} {cZ:D->List AO->Prop} (σ:List Nat) (he:e=.normal\/e=.ret) (hr:iD tb s rs=some ds) (hn:nodupB σ=true) (hv:jF s.h σ σ h') (hk:tg 0 h σ h') (iw:Co (lI ds) (r.bO σ)) (hp:cZ r h'):
 (T.leaf e s).ok P (Lf tb rs h cZ):=
 ⟨he,[],ds,by rw[zQ];exact hr,σ,r,_,h',by rw[zQ];exact .mk' hn hv,iw,rfl,fun o t cs h1=>by have:=Bv hk o t cs h1;simpa using this,hp⟩
theorem ahR {tb:TT} {rs:List ResultVar} {s:S} {h:List AO} {r:D} {h':List AO} {ds:List D} {cZ:D->List AO->Prop} (σ:List Nat) (hr:iD tb s rs=some ds) (iw:Co (lI ds) (r.bO σ)) (hp:cZ r h') (hn:nodupB σ=true:=by exact rfl) (hv:xO s.h σ=xP σ h':=by exact rfl) (hk:tg 0 h σ h':=by repeat' (first|exact trivial|exact rfl|apply And.intro)):(T.leaf .ret s).ok P (Lf tb rs h cZ):=bf σ (.inr rfl) hr hn (Dz hv) hk iw hp
theorem R8 {v:Value} (h:Wd.kY [{v:=v,recovered:=false}]):(T.die v).ok P Q:=h
end
theorem DA [Wd] (hp:Wd.kY rq) (b:Bool):bC prog 35 [.bool b] [] (fun r h=>(b=true/\r=.aj [])/\h=[]):=by
 refine ak 6 [] func35 ?_
 repeat' (conv=>arg 2;whnf);first|apply an<;>intro h|exact R8 hp|exact bf (r:=.aj []) (h':=[]) [] (.inl rfl) rfl rfl trivial trivial (.refl _) ⟨⟨by simpa using h,rfl⟩,rfl⟩
def cW (ws:List (List UInt8)):List (List D):=ws.map fun s=>[.str s]
def fj (ws:List (List UInt8)):List AO:=[.cells 83 [.list 1 (cW ws)]]
theorem acU [Wd] (hp:Wd.kY rq) (ws:List (List UInt8)) (hl:ws.length<=4194305):bC prog 36 [.ptr 0 0] (fj ws) (fun r h=>∃s rest,ws=s::rest/\r=.str s/\h=fj rest):=by
 cases ws with
 |nil=>
  refine ak 26 [] func36 ?_
  repeat' (conv=>arg 2;whnf);first|(refine eI (DA hp _) rfl (aa.refl _) ?_;rintro r ⟨hr,rfl⟩)|(exfalso;simp[cW] at hr;done)
 |cons s rest=>
  refine ak 26 [] func36 ?_
  repeat' (conv=>arg 2;whnf);first|(refine eI (DA hp _) rfl (aa.refl _) ?_;rintro r ⟨hr,rfl⟩)|refine aT (by simp[cW];omega) ?_|refine eT [.str s] (by decide) rfl ?_
  conv=>arg 2;whnf
  refine bf (r:=.str s) (h':=fj rest) [0] (.inr rfl) rfl rfl ⟨⟨rfl,?_⟩,trivial⟩ ⟨⟨rfl,rfl⟩,trivial⟩ (.refl _) ⟨s,rest,rfl,rfl,rfl⟩
  show AO.cells _ [.list 1 _]=AO.cells _ [.list 1 _]
  simp[cW,List.take_of_length_le]
def yE [Wd]:Prop:=∀n:Int,-9223372036854775808<=n/\n<=9223372036854775807->aq prog 29 [.int .i64 n] (.str (Lib.itoa n))
def Kw [Wd]:Prop:=∀s:List UInt8,s.length<=4194304->aq prog 65 [.str s] (wk s)
theorem IM {s:List UInt8} {v:Int} (h:Lib.atoiAll s=.ok v):-9223372036854775808<=v/\v<=9223372036854775807:=by
 unfold Lib.atoiAll at h
 split at h
 ·cases h
 ·simp only at h
  split at h
  ·cases h
  ·cases h
  ·rename_i u _
   split at h
   ·cases h
   ·rename_i h1
    split at h
    ·cases h
    ·rename_i h2
     injection h with h
     subst h
     split
     ·rename_i hn
      have:¬9223372036854775808<u:=fun k=>h2 ⟨hn,k⟩
      omega
     ·rename_i hn
      have:¬9223372036854775808<=u:=fun k=>h1 ⟨hn,k⟩
      omega
theorem aby [Wd] (hp:Wd.kY rq) (hn:yE) (ha:Kw) (ws:List (List UInt8)) (hl:ws.length<=4194305) (hw:∀w∈ws,w.length<=4194304):bC prog 37 [.ptr 0 0] (fj ws) (fun r h=>∃n rest,(-9223372036854775808<=n/\n<=9223372036854775807)/\ws=Lib.itoa n::rest/\r=.int .i64 n/\h=fj rest):=by
 refine ak 23 [] func37 ?_
 repeat' (conv=>arg 2;whnf);first|(refine KW [0] (acU hp ws hl) (.mk' rfl ⟨⟨rfl,rfl⟩,trivial⟩) (aa.refl _) rfl ?_;rintro r h' ⟨s,rest,rfl,rfl,rfl⟩;have hs:s.length<=4194304:=hw s (by simp))|(refine okF (ha _ hs) ?_;unfold wk;cases hA:Lib.atoiAll s)|refine okF (hn _ (IM hA)) ?_|(refine eI (DA hp _) rfl (aa.refl _) ?_;rintro r ⟨hr,rfl⟩)|exact bf (h':=fj rest) (r:=.int .i64 _) [0] (.inr rfl) rfl rfl ⟨⟨rfl,rfl⟩,trivial⟩ ⟨⟨rfl,rfl⟩,trivial⟩ (.refl _) ⟨_,rest,IM hA,by simp at hr;rw[hr],rfl,rfl⟩|(exfalso;simp at hr;done)
theorem Gl [Wd]:aq prog 35 [.bool true] (.aj []):=by
 refine ak 6 [] func35 ?_
 repeat' (conv=>arg 2;whnf);first|exact qB (.inl rfl) rfl (.refl _) rfl
theorem Rx [Wd] (s:List UInt8) (rest:List (List UInt8)) (hl:rest.length<=4194304):bC prog 36 [.ptr 0 0] (fj (s::rest)) (fun r h=>r=.str s/\h=fj rest):=by
 have hk:(decide (((cW (s::rest)).length:Int)>0))=true:=by simp[cW]
 refine ak 26 [] func36 ?_
 repeat' (conv=>arg 2;whnf);first|(refine iQ Gl rfl (by rw[hk];exact aa.refl _) ?_)|refine aT (by simp[cW];omega) ?_|refine eT [.str s] (by decide) rfl ?_
 conv=>arg 2;whnf
 refine mL (r:=.str s) (h':=fj rest) [0] (.inr rfl) rfl rfl ⟨⟨rfl,?_⟩,trivial⟩ ⟨⟨rfl,rfl⟩,trivial⟩ (.refl _)
 show AO.cells _ [.list 1 _]=AO.cells _ [.list 1 _]
 simp[cW,List.take_of_length_le]
theorem abz [Wd] (hn:yE) (ha:Kw) (n:Int) (h0:-9223372036854775808<=n/\n<=9223372036854775807) (rest:List (List UInt8)) (hl:rest.length<=4194304):bC prog 37 [.ptr 0 0] (fj (Lib.itoa n::rest)) (fun r h=>r=.int .i64 n/\h=fj rest):=by
 have hA:wk (Lib.itoa n)=.aj [.int .i64 n,.gj true]:=by unfold wk;rw[OB n h0.1 h0.2]
 have hlen:=Lib.itoa_length_le n h0.1 h0.2
 have hk:(bif true then decide (Lib.itoa n=Lib.itoa n) else false)=true:=by simp
 refine ak 23 [] func37 ?_
 repeat' (conv=>arg 2;whnf);first|refine mA [0] (Rx _ rest hl) (.mk' rfl ⟨⟨rfl,rfl⟩,trivial⟩) (aa.refl _) rfl ?_|(refine okF (ha _ (by omega)) ?_;rw[hA])|refine okF (hn n h0) ?_|(refine iQ Gl rfl (by rw[hk];exact aa.refl _) ?_)|exact mL (h':=fj rest) (r:=.int .i64 n) [0] (.inr rfl) rfl rfl ⟨⟨rfl,rfl⟩,trivial⟩ ⟨⟨rfl,rfl⟩,trivial⟩ (.refl _)
end
theorem RT {α:Type} {p:RS->α×RS} {ok:α->Prop} {b:α->List UInt8} (h:Cd p ok b) (n:Nat):Cd (aP p n) (fun l=>l.length=n/\∀x∈l,ok x) (fun l=>l.flatMap b) where
 toRd1:=uB h.toRd1 n
 there:=fun l r hl=>by rw[<-hl.1];exact Kn h l r hl.2
 back:=fun t e=>by
  obtain⟨h1,h2,h3⟩:=JR h n t e
  exact⟨⟨h2,h1⟩,h3⟩
theorem Rj {α:Type} {p:RS->α×RS} {ok:α->Prop} {b:α->List UInt8} (h:Cd p ok b):∀n,Cd (dG p n) (fun l=>l.length=n/\∀x∈l,ok x) (fun l=>l.flatMap b)
 |0=>{toRd1:=zJ _,there:=fun l r hl=>by rw[List.eq_nil_of_length_eq_zero hl.1];rfl,back:=fun t e=>⟨⟨rfl,fun x hx=>(List.not_mem_nil hx).elim⟩,rfl⟩}
 |n+1=>by
  have ih:=Rj h n
  have e:=h.pair ih
  refine{toRd1:=w7 h.toRd1 _,there:=fun l r hl=>?_,back:=fun t hb=>?_}
  ·cases l with
   |nil=>simp at hl
   |cons x l=>
    have:=e.there (x,l) r ⟨hl.2 x (.head _),by simpa using hl.1,fun y hy=>hl.2 y (.tail _ hy)⟩
    show bN _ (bg p (dG p n)) _=_
    unfold bN
    rw[List.flatMap_cons,this]
  ·obtain⟨h1,h2⟩:=e.back t hb
   refine⟨⟨congrArg Nat.succ h1.2.1,fun y hy=>?_⟩,?_⟩
   ·rcases List.mem_cons.1 hy with e|hy
    ·rw[e];exact h1.1
    ·exact h1.2.2 y hy
   ·show t=List.flatMap b (_::_)++_
    rw[List.flatMap_cons]
    exact h2
theorem Rk {α:Type} {c:RS->Int×RS} {most:Int} (hc:Cd c (fun n=>0<=n/\n<=most) aJ) {q:Nat->RS->List α×RS} {ok:α->Prop} {b:α->List UInt8} (hq:∀n,Cd (q n) (fun l=>l.length=n/\∀x∈l,ok x) (fun l=>l.flatMap b)):
 Cd (bN Prod.snd (cN c fun n=>q n.toNat)) (fun l=>(l.length:Int)<=most/\∀x∈l,ok x) (lH b):=
 (hc.bind (ok':=fun (n:Int) l=>l.length=n.toNat/\∀x∈l,ok x) (b':=fun _ l=>l.flatMap b) (fun n=>(hq _).toRd1) (fun n _=>hq _)).map Prod.snd (fun l=>((l.length:Int),l))
   (fun z ⟨⟨h0,h1⟩,h2,h3⟩=>⟨⟨by show((z.2.length:Nat):Int)<=most;rw[h2];omega,h3⟩,by show lH b z.2=aJ z.1++z.2.flatMap b;unfold lH;rw[h2,Int.toNat_of_nonneg h0]⟩)
   (fun l ⟨h1,h2⟩=>⟨⟨⟨by show(0:Int)<=((l.length:Nat):Int);omega,h1⟩,by show l.length=((l.length:Nat):Int).toNat;rw[Int.toNat_natCast],h2⟩,rfl⟩)
def sZ (o:bt):List UInt8:=
 (if o.kind=0 then[] else cB o.av)++(if o.kind=2 then enc o.records.length++o.records.flatMap cB else if o.kind=3 then cB o.group++enc o.offset.toNat else if o.kind=4 then enc o.offset.toNat else[])
structure xK (k:Int) (o:bt):Prop where
 kind:o.kind=k
 only:o=jz o
 av:o.av.length<=64
 group:o.group.length<=64
 Hj:o.records.length<=4/\∀r∈o.records,r.length<=64
 off:0<=o.offset/\o.offset<=9007199254740992
theorem Sl {o:bt} (h:o=jz o) (k:o.kind=0):o=⟨0,[],[],0,[]⟩:=by rw[h];simp[jz,k]
theorem Sm {o:bt} (h:o=jz o) (k:o.kind=1):(⟨1,o.av,[],0,[]⟩:bt)=o:=by
 conv=>rhs;rw[h]
 simp[jz,k]
theorem Sn {o:bt} (h:o=jz o) (k:o.kind=2):(⟨2,o.av,[],0,o.records⟩:bt)=o:=by
 conv=>rhs;rw[h]
 simp[jz,k]
theorem So {o:bt} (h:o=jz o) (k:o.kind=3):(⟨3,o.av,o.group,o.offset,[]⟩:bt)=o:=by
 conv=>rhs;rw[h]
 simp[jz,k]
theorem Sp {o:bt} (h:o=jz o) (k:o.kind=4):(⟨4,o.av,[],o.offset,[]⟩:bt)=o:=by
 conv=>rhs;rw[h]
 simp[jz,k]
theorem yK:((MX:Nat):Int)=9007199254740992:=rfl
theorem NV (n:Nat) (h:n<18446744073709551616):aJ ((n:Nat):Int)=enc n:=by rw[eK (by omega) (by omega),Int.toNat_natCast]
theorem Bh (k:Int) (h:0<=k/\k<=4):Cd (lP k) (xK k) sZ:=by
 have hk:k=0\/k=1\/k=2\/k=3\/k=4:=by omega
 have nx:=j3 MX (by decide)
 rcases hk with rfl|rfl|rfl|rfl|rfl
 ·refine(Qd _).as (fun o=>⟨fun h=>Sl h.only h.kind,fun h=>?_⟩) (fun o h=>by rw[h];rfl)
  rw[h]
  exact⟨rfl,rfl,by simp,by simp,by simp,by simp⟩
 ·exact(vG 64 (by decide)).map (ok':=xK 1) (b':=sZ) (fun t=>⟨1,t,[],0,[]⟩) (fun o=>o.av) (fun t ht=>⟨⟨rfl,rfl,ht,by simp,by simp,by simp⟩,by simp[sZ]⟩) (fun o h=>⟨h.av,Sm h.only h.kind⟩)
 ·refine((vG 64 (by decide)).pair (Rk (j3 4 (by decide)) (Rj (vG 64 (by decide))))).map (ok':=xK 2) (b':=sZ) (fun z=>⟨2,z.1,[],0,z.2⟩) (fun o=>(o.av,o.records)) (fun z ⟨h1,h2,h3⟩=>⟨⟨rfl,rfl,h1,by simp,⟨?_,h3⟩,by simp⟩,?_⟩) (fun o h=>⟨⟨h.av,?_,h.Hj.2⟩,Sn h.only h.kind⟩)
  ·have h2:((z.2.length:Nat):Int)<=((4:Nat):Int):=h2
   show z.2.length<=4
   omega
  ·have h2:((z.2.length:Nat):Int)<=((4:Nat):Int):=h2
   simp only[sZ,lH]
   rw[NV _ (by omega)]
   simp
  ·have:=h.Hj.1
   show((o.records.length:Nat):Int)<=((4:Nat):Int)
   omega
 ·refine((vG 64 (by decide)).pair ((vG 64 (by decide)).pair nx)).map (ok':=xK 3) (b':=sZ) (fun z=>⟨3,z.1,z.2.1,z.2.2,[]⟩) (fun o=>(o.av,o.group,o.offset)) (fun z ⟨h1,h2,h3,h4⟩=>⟨⟨rfl,rfl,h1,h2,by simp,⟨h3,h4⟩⟩,?_⟩) (fun o h=>⟨⟨h.av,h.group,h.off⟩,So h.only h.kind⟩)
  rw[yK] at h4
  simp only[sZ]
  rw[eK h3 (by omega)]
  simp
 ·refine((vG 64 (by decide)).pair nx).map (ok':=xK 4) (b':=sZ) (fun z=>⟨4,z.1,[],z.2,[]⟩) (fun o=>(o.av,o.offset)) (fun z ⟨h1,h3,h4⟩=>⟨⟨rfl,rfl,h1,by simp,by simp,⟨h3,h4⟩⟩,?_⟩) (fun o h=>⟨⟨h.av,h.off⟩,Sp h.only h.kind⟩)
  rw[yK] at h4
  simp only[sZ]
  rw[eK h3 (by omega)]
  simp
theorem RR {o:bt} (h:bS o=0):xK o.kind o:=by
 obtain⟨h1,h2,h3,h4,h5⟩:=KD h
 have h0:=h
 unfold bS at h
 split at h
 ·cases h
 split at h
 ·cases h
 split at h
 ·cases h
 split at h
 ·cases h
 rename_i a1 a2 a3 a4
 have hk:o.kind=0\/o.kind=1\/o.kind=2\/o.kind=3\/o.kind=4:=by omega
 have nt:o.kind≠0->o.av.length<=64:=fun hk=>C2 (by
  cases hn:jg o.av with
  |true=>rfl
  |false=>exact absurd ⟨hk,hn⟩ a2)
 have ng:o.kind=3->o.group.length<=64:=fun hk=>C2 (by
  cases hn:jg o.group with
  |true=>rfl
  |false=>exact absurd ⟨hk,hn⟩ a3)
 have nr:o.kind=2->∀r∈o.records,r.length<=64:=fun hk r hr=>by
  have:¬th o=true:=fun e=>a4 ⟨hk,.inr (.inr e)⟩
  unfold th at this
  simp at this
  exact this r hr
 rcases hk with k|k|k|k|k
 ·have e:=Sl h2 k
  refine⟨rfl,h2,?_,?_,?_,⟨h3,h4⟩⟩<;>rw[e]<;>simp
 ·have e:=Sm h2 k
  refine⟨rfl,h2,nt (by omega),?_,?_,⟨h3,h4⟩⟩<;>rw[<-e]<;>simp
 ·have e:=Sn h2 k
  refine⟨rfl,h2,nt (by omega),?_,⟨h5 k,nr k⟩,⟨h3,h4⟩⟩
  rw[<-e];simp
 ·have e:=So h2 k
  refine⟨rfl,h2,nt (by omega),ng k,?_,⟨h3,h4⟩⟩
  rw[<-e];simp
 ·have e:=Sp h2 k
  refine⟨rfl,h2,nt (by omega),?_,?_,⟨h3,h4⟩⟩<;>rw[<-e]<;>simp
theorem Kz:Cd eF (fun o=>bS o=0) iy:=by
 have h:=(j3 4 (by decide)).bind (ok':=xK) (b':=fun _=>sZ) IP (fun k hk=>Bh k hk)
 have h2:=h.map (ok':=fun o=>(0<=o.kind/\o.kind<=4)/\xK o.kind o) (b':=fun o=>aJ o.kind++sZ o) Prod.snd (fun o=>(o.kind,o))
  (fun z ⟨h1,h2⟩=>by have e:=h2.kind;refine⟨⟨by rw[e];exact h1,by rw[e];exact h2⟩,by show aJ z.2.kind++_=_;rw[e]⟩) (fun o hh=>⟨hh,rfl⟩)
 refine((h2.guard bS).zero dW).as (fun o=>⟨fun h=>⟨⟨(KD h).1,RR h⟩,h⟩,fun h=>h.2⟩) (fun o h=>?_)
 have:=h.1.1
 unfold iy
 rw[eK this.1 (by omega)]
 unfold sZ
 rw[List.append_assoc]
theorem W7:Cd rz (fun r=>(0<=r.err/\r.err<=65536)/\(0<=r.offset/\r.offset<=9007199254740992)) wW:=by
 refine((((j3 65536 (by decide)).pair (j3 MX (by decide))).map (ok':=fun r:nH=>(0<=r.err/\r.err<=65536)/\(0<=r.offset/\r.offset<=9007199254740992)) (b':=wW) (fun z=>⟨z.1,z.2⟩) (fun r=>(r.err,r.offset)) (fun z ⟨h1,h2⟩=>⟨⟨h1,h2⟩,?_⟩) (fun r h=>⟨h,rfl⟩)).zero _)
 have h3:z.2<=9007199254740992:=h2.2
 have h4:z.1<=65536:=h1.2
 show enc (max z.1 0).toNat++enc (max z.2 0).toNat=aJ z.1++aJ z.2
 rw[eK h1.1 (by omega),eK h2.1 (by omega),Int.max_eq_left h1.1,Int.max_eq_left h2.1]
theorem zL:Cd cO (fun s=>dw s=0) cG:=by
 rw[FN]
 refine(((((j3 20 (by decide)).pair (j3 MX (by decide))).map (ok':=fun s:bJ=>(0<=s.key/\s.key<=20)/\(0<=s.ah/\s.ah<=9007199254740992)) (b':=rL) (fun z=>⟨z.1,z.2⟩) (fun s=>(s.key,s.ah)) (fun z ⟨h1,h2⟩=>⟨⟨h1,h2⟩,?_⟩) (fun s h=>⟨h,rfl⟩)).guard _).zero _).as (fun s=>?_) (fun s h=>?_)
 ·have h3:z.2<=9007199254740992:=h2.2
  have h4:z.1<=20:=h1.2
  show enc z.1.toNat++enc z.2.toNat=_
  rw[eK h1.1 (by omega),eK h2.1 (by omega)]
 ·rw[JH]
  constructor
  ·intro h;exact⟨⟨⟨h.1,by omega⟩,by omega,h.2.2.2⟩,if_neg (by omega)⟩
  ·intro ⟨⟨h1,h2⟩,h3⟩
   refine⟨h1.1,by omega,?_,h2.2⟩
   by_cases e:s.ah=0
   ·rw[if_pos e] at h3;cases h3
   ·omega
 ·obtain⟨⟨h1,h2⟩,h3⟩:=h
  unfold cG
  rw[if_pos]
  rw[JH]
  refine⟨h1.1,by omega,?_,h2.2⟩
  by_cases e:s.ah=0
  ·rw[if_pos e] at h3;cases h3
  ·omega
theorem NW:Cd vL (fun x=>(0<=x.bD/\x.bD<=7)/\(0<=x.time/\x.time<=9007199254740992)/\bS x.op=0) iS:=by
 refine((j3 7 (by decide)).pair ((j3 MX (by decide)).pair Kz)).map (ok':=fun x:ju=>(0<=x.bD/\x.bD<=7)/\(0<=x.time/\x.time<=9007199254740992)/\bS x.op=0) (b':=iS) (fun z=>⟨z.1,z.2.1,z.2.2⟩) (fun x=>(x.bD,x.time,x.op)) (fun z ⟨h1,h2,h3⟩=>⟨⟨h1,h2,h3⟩,?_⟩) (fun x h=>⟨h,rfl⟩)
 have h4:z.2.1<=9007199254740992:=h2.2
 have h5:z.1<=7:=h1.2
 show enc z.1.toNat++enc z.2.1.toNat++iy z.2.2=_
 rw[eK h1.1 (by omega),eK h2.1 (by omega),List.append_assoc]
theorem Qf {x:ju}:iR x=0<->((0<=x.bD/\x.bD<=7)/\(0<=x.time/\x.time<=9007199254740992)/\bS x.op=0)/\¬x.time=0:=by
 constructor
 ·intro h
  obtain⟨h1,h2,h3⟩:=Q1 h
  exact⟨⟨⟨h1.1,by omega⟩,⟨by omega,h2.2⟩,h3⟩,by omega⟩
 ·intro ⟨⟨h1,h2,h3⟩,h4⟩
  unfold iR
  rw[if_neg (by omega)]
  exact h3
theorem Rl:Pc jm (fun x=>iR x=0) iS where
 there:=fun x hx=>by
  obtain⟨h1,h2⟩:=Qf.1 hx
  have e:=NW.there x [] h1
  rw[List.append_nil] at e
  unfold jm
  simp[e,dA,h2]
 back:=fun t e=>by
  unfold jm at e ⊢
  split at e
  ·rename_i hd
   rw[if_pos hd]
   split at e
   ·cases e
   ·rename_i ht
    rw[if_neg ht]
    have hs:=W6 hd
    obtain⟨h1,h2⟩:=NW.back t (by rw[hs])
    rw[hs,List.append_nil] at h2
    exact⟨Qf.2 ⟨h1,ht⟩,h2⟩
  ·rename_i hd
   exact absurd e hd
theorem Ok:Cd jj (fun s=>iR s.request=0/\dw s.sign=0) zO:=by
 refine(((vG 1024 (by decide)).guard fun x=>(jm x).2).pair zL).map (ok':=fun s:bX=>iR s.request=0/\dw s.sign=0) (b':=zO) (fun z=>⟨(jm z.1).1,z.2⟩) (fun s=>(iS s.request,s.sign)) (fun z ⟨⟨h1,h2⟩,h3⟩=>?_) (fun s ⟨h1,h2⟩=>?_)
 ·obtain⟨k1,k2⟩:=Rl.back z.1 h2
  refine⟨⟨k1,h3⟩,?_⟩
  show cB (iS (jm z.1).1)++rL z.2=cB z.1++cG z.2
  have h3:dw z.2=0:=h3
  rw[<-k2]
  unfold cG
  rw[if_pos h3]
 ·have e:=Rl.there _ h1
  have hl:=vC h1
  refine⟨⟨⟨by show(iS s.request).length<=_;omega,by show(jm (iS s.request)).2=0;rw[e]⟩,h2⟩,?_⟩
  show(⟨(jm (iS s.request)).1,s.sign⟩:bX)=s
  rw[e]
theorem FB:Cd jZ (fun l=>fA l=0) jM:=by
 have h:=Rk (j3 4 (by decide)) (q:=fun n=>aP jj n) (RT Ok)
 refine((h.guard fA).zero []).as (fun l=>⟨fun h=>⟨?_,h⟩,fun h=>h.2⟩) (fun l h=>?_)
 ·obtain⟨h1,h2⟩:=OR h
  exact⟨by show((l.length:Nat):Int)<=((4:Nat):Int);omega,h2⟩
 ·unfold jM
  rw[if_pos h.2]
  have:=h.1.1
  have h4:((l.length:Nat):Int)<=((4:Nat):Int):=this
  unfold BI lH
  rw[NV _ (by omega)]
theorem JS:Cd lT (fun c=>jl c=0) lR:=by
 rw[zF]
 have c1:=((jW 0 (by decide)).pair (jW 0 (by decide))).guard fun z:Int×Int=>if(z.1==0)==(z.2==0) then(0:Int) else 100
 have hm:∀z:Int×Int,(if z.1=0 then(0:Int) else 13)<=4096:=fun z=>by split<;>decide
 have hq:=fun z:Int×Int=>zK zL (if z.1=0 then(0:Int) else 13) (hm z)
 have k:∀z:Int×Int,Rd1 (cY cO (if z.1=0 then(0:Int) else 13)):=fun z=>jL eM _
 have c2:=c1.bind k (fun z _=>hq z)
 refine c2.map (ok':=fun c:gX=>jl c=0) (b':=lR) (fun z=>⟨z.1.1,z.1.2,z.2⟩) (fun c=>((c.seq,c.ah),c.cM)) (fun z h=>?_) (fun c h=>?_)
 ·obtain⟨⟨⟨h1,h2⟩,h3⟩,h4,h5⟩:=h
  refine⟨?_,by show lR ⟨_,_,_⟩=_;simp[lR,aN,rB,lH]⟩
  obtain⟨⟨a,b⟩,l⟩:=z
  have h1:0<=a/\a<=9007199254740992:=h1
  have h2:0<=b/\b<=9007199254740992:=h2
  have h3:(if(a==0)==(b==0) then(0:Int) else 100)=0:=h3
  have h4:(l.length:Int)<=(if a=0 then 0 else 13):=h4
  unfold jl lQ
  simp only[bQ]
  refine⟨gP.2 h1,gP.2 h2,?_,jc.2 ?_,gV.2 h5⟩
  ·show(if(decide (a=0)!=decide (b=0))||(decide (a=0)&&decide (0<l.length)) then(100:Int) else 0)=0
   by_cases ha:a=0
   ·rw[if_pos ha] at h4
    by_cases hb:b=0
    ·have:¬0<l.length:=by omega
     simp[ha,hb,this]
    ·simp[ha,hb] at h3
   ·by_cases hb:b=0
    ·simp[ha,hb] at h3
    ·simp[ha,hb]
  ·split at h4<;>omega
 ·obtain⟨h1,h2,h3⟩:=PR h
  unfold jl lQ at h
  simp only[bQ] at h
  obtain⟨_,_,h4,h5,h6⟩:=h
  refine⟨⟨⟨⟨h1,h2⟩,?_⟩,?_,gV.1 h6⟩,rfl⟩
  ·show(if(c.seq==0)==(c.ah==0) then(0:Int) else 100)=0
   by_cases ha:c.seq=0<;>by_cases hb:c.ah=0
   all_goals
    first
    |(simp[ha,hb];done)
    |(exfalso;simp[ha,hb] at h4;done)
    |(have e1:(c.seq==0)=false:=by simpa using ha
      have e2:(c.ah==0)=false:=by simpa using hb
      rw[e1,e2];rfl)
  ·show((c.cM.length:Nat):Int)<=(if c.seq=0 then 0 else 13)
   have:=jc.1 h5
   split
   ·rename_i ha
    simp[ha] at h4
    by_cases hb:c.ah=0
    ·simp[hb] at h4;simp[h4]
    ·simp[hb] at h4
   ·exact this
theorem Yq:Cd uC (fun l=>lQ l=0) rB:=
 (zK zL 13 (by decide)).as (fun l=>by unfold lQ;rw[bQ,jc,gV]) (fun l _=>rfl)
theorem aaH:Cd jB (fun p=>jQ p=0) iJ:=by
 refine((jW 0 (by decide)).pair ((jW 1 (by decide)).pair ((jW 1 (by decide)).pair (zL.pair (Yq.pair FB))))).map (ok':=fun p:jt=>jQ p=0) (b':=iJ) (fun z=>⟨z.1,z.2.1,z.2.2.1,z.2.2.2.1,z.2.2.2.2.1,z.2.2.2.2.2⟩) (fun p=>(p.view,p.seq,p.ah,p.kG,p.cM,p.batch)) (fun z h=>⟨?_,?_⟩) (fun p h=>⟨?_,rfl⟩)
 ·show jQ ⟨_,_,_,_,_,_⟩=0
  unfold jQ
  simp only[bQ,gP,iI]
  exact h
 ·simp[iJ,aN]
 ·unfold jQ at h
  simp only[bQ,gP,iI] at h
  exact h
theorem Rn:Cd iE (fun c=>ir c=0) fq:=by
 refine((jW 1 (by decide)).pair ((j3 12 (by decide)).pair (JS.pair ((zK aaH 8 (by decide)).pair zL)))).map (ok':=fun c:cX=>ir c=0) (b':=fq) (fun z=>⟨z.1,z.2.1,z.2.2.1,z.2.2.2.1,z.2.2.2.2⟩) (fun c=>(c.view,c.src,c.cert,c.cD,c.sign)) (fun z h=>⟨?_,?_⟩) (fun c h=>⟨?_,rfl⟩)
 ·show ir ⟨_,_,_,_,_⟩=0
  unfold ir
  simp only[bQ,iI,kT,jc,gV]
  obtain⟨h1,h2,h3,⟨h4,h5⟩,h6⟩:=h
  exact⟨h1,h2,h3,h4,h5,h6⟩
 ·simp[fq,jy,aN,lH]
 ·unfold ir at h
  simp only[bQ,iI,kT,jc,gV] at h
  obtain⟨h1,h2,h3,h4,h5,h6⟩:=h
  exact⟨h1,h2,h3,⟨h4,h5⟩,h6⟩
theorem Yr:Cd iC (fun x=>mM x=0) gG:=by
 refine((jW 0 (by decide)).pair ((jW 1 (by decide)).pair (FB.pair zL))).map (ok':=fun x:gq=>mM x=0) (b':=gG) (fun z=>⟨z.1,z.2.1,z.2.2.1,z.2.2.2⟩) (fun c=>(c.view,c.seq,c.batch,c.sign)) (fun z h=>⟨?_,?_⟩) (fun c h=>⟨?_,rfl⟩)
 ·show mM ⟨_,_,_,_⟩=0
  unfold mM
  simp only[bQ,iI,gP]
  exact h
 ·simp[gG,aN]
 ·unfold mM at h
  simp only[bQ,iI,gP] at h
  exact h
theorem aaI:Cd jA (fun x=>mN x=0) gZ:=by
 refine((jW 1 (by decide)).pair ((jW 0 (by decide)).pair ((jW 0 (by decide)).pair ((jW 0 (by decide)).pair (jW 0 (by decide)))))).map (ok':=fun x:j7=>mN x=0) (b':=gZ) (fun z=>⟨z.1,z.2.1,z.2.2.1,z.2.2.2.1,z.2.2.2.2⟩) (fun c=>(c.seq,c.prev,c.batch,c.root,c.state)) (fun z h=>⟨?_,?_⟩) (fun c h=>⟨?_,rfl⟩)
 ·show mN ⟨_,_,_,_,_⟩=0
  unfold mN
  simp only[bQ,iI,gP]
  exact h
 ·simp[gZ,aN]
 ·unfold mN at h
  simp only[bQ,iI,gP] at h
  exact h
theorem Qg:Cd nS (fun s=>mh s=0) cB:=
 ((vG 64 (by decide)).guard mh).as (fun s=>⟨fun h=>⟨zV h,h⟩,fun h=>h.2⟩) (fun _ _=>rfl)
theorem Yt:Cd uD (fun p=>mB p=0) jw:=by
 refine((((Qg.pair ((jW 0 (by decide)).pair ((vG 64 (by decide)).pair ((zK aaI 64 (by decide)).pair ((jW 0 (by decide)).pair (Qe 16 (by decide))))))).guard fun z=>if z.2.2.2.2.1<z.2.2.2.2.2 then 0 else 100).pair ((zK (jW 0 (by decide)) 8 (by decide)).pair JS))).map (ok':=fun p:jX=>mB p=0) (b':=jw) (fun z=>⟨z.1.1,z.1.2.1,z.1.2.2.1,z.1.2.2.2.1,z.1.2.2.2.2.1,z.1.2.2.2.2.2,z.2.1,z.2.2⟩)
  (fun p=>((p.av,p.offset,p.record,p.headers,p.index,p.count),p.path,p.cert)) (fun z h=>⟨?_,?_⟩) (fun p h=>⟨?_,rfl⟩)
 ·obtain⟨⟨⟨h1,h2,h3,⟨h4,h5⟩,h6,h7⟩,h8⟩,⟨h9,kN⟩,iG⟩:=h
  obtain⟨⟨a,b,c,d,i,n⟩,l,k⟩:=z
  have h8:(if i<n then(0:Int) else 100)=0:=h8
  have h8:i<n:=by
   by_cases e:i<n
   ·exact e
   ·rw[if_neg e] at h8;cases h8
  have h7:0<=n/\n<=16:=h7
  have h6:0<=i/\i<=9007199254740992:=h6
  have h3:c.length<=64:=h3
  show mB ⟨a,b,c,d,i,n,l,k⟩=0
  unfold mB
  simp only[bQ,gP,jc,gV,iM]
  exact⟨h1,h2,by omega,h4,h5,h6,h7,⟨h6.1,by omega⟩,h9,kN,iG⟩
 ·simp[jw,aN,lH]
 ·unfold mB at h
  simp only[bQ,gP,jc,gV,iM] at h
  obtain⟨h1,h2,h3,h4,h5,h6,h7,h8,h9,kN,iG⟩:=h
  exact⟨⟨⟨h1,h2,by show p.record.length<=64;omega,⟨h4,h5⟩,h6,h7⟩,if_pos (by show p.index<p.count;omega)⟩,⟨h9,kN⟩,iG⟩
theorem JT:Cd qF (fun z=>(0<=z.1/\z.1<=12)/\(0<=z.2.1/\z.2.1<=9007199254740992)/\(1<=z.2.2.1/\z.2.2.1<=9007199254740992)/\(1<=z.2.2.2/\z.2.2.2<=9007199254740992)) (fun z=>aN [z.1,z.2.1,z.2.2.1,z.2.2.2]):=
 ((j3 12 (by decide)).pair ((jW 0 (by decide)).pair ((jW 1 (by decide)).pair (jW 1 (by decide))))).as (fun z=>Iff.rfl) (fun z h=>by simp[aN])
structure jK (k:Int) (m:aD):Prop where
 kind:m.kind=k
 kindOk:bP m=0
 bare:m=aH m
 sign:m.sign=dx
theorem rI {m:aD} (h:bP m=0):∀{k:Int},m.kind=k->bP {m with kind:=k}=0:=fun e=>by
 have:({m with kind:=m.kind}:aD)=m:=by cases m;rfl
 rw[<-e,this]
 exact h
theorem Yu:Cd (cR 2) (jK 2) cT:=by
 refine(JT.pair FB).map (ok':=jK 2) (b':=cT) (fun z=>{aE with kind:=2,src:=z.1.1,view:=z.1.2.1,seq:=z.1.2.2.1,ah:=z.1.2.2.2,batch:=z.2}) (fun m=>((m.src,m.view,m.seq,m.ah),m.batch)) (fun z h=>⟨⟨rfl,?_,rfl,rfl⟩,?_⟩) (fun m h=>⟨?_,?_⟩)
 ·simp[bP,gI,bQ,gP,iI,kT]
  (try simp at h)
  first|exact h
 ·simp[cT,aN]
 ·have:=rI h.kindOk h.kind
  simp[bP,gI,bQ,gP,iI,kT] at this
  (try simp)
  first|exact this
 ·conv=>rhs;rw[h.bare]
  simp only[aH,h.kind,h.sign]
  rfl
theorem Yv:Cd (cR 3) (jK 3) cT:=by
 refine JT.map (ok':=jK 3) (b':=cT) (fun z=>{aE with kind:=3,src:=z.1,view:=z.2.1,seq:=z.2.2.1,ah:=z.2.2.2}) (fun m=>(m.src,m.view,m.seq,m.ah)) (fun z h=>⟨⟨rfl,?_,rfl,rfl⟩,?_⟩) (fun m h=>⟨?_,?_⟩)
 ·simp[bP,gI,bQ,gP,iI,kT]
  (try simp at h)
  first|exact h
 ·simp[cT,aN]
 ·have:=rI h.kindOk h.kind
  simp[bP,gI,bQ,gP,iI,kT] at this
  (try simp)
  first|exact this
 ·conv=>rhs;rw[h.bare]
  simp only[aH,h.kind,h.sign]
  rfl
theorem Yw:Cd (cR 4) (jK 4) cT:=by
 refine JT.map (ok':=jK 4) (b':=cT) (fun z=>{aE with kind:=4,src:=z.1,view:=z.2.1,seq:=z.2.2.1,ah:=z.2.2.2}) (fun m=>(m.src,m.view,m.seq,m.ah)) (fun z h=>⟨⟨rfl,?_,rfl,rfl⟩,?_⟩) (fun m h=>⟨?_,?_⟩)
 ·simp[bP,gI,bQ,gP,iI,kT]
  (try simp at h)
  first|exact h
 ·simp[cT,aN]
 ·have:=rI h.kindOk h.kind
  simp[bP,gI,bQ,gP,iI,kT] at this
  (try simp)
  first|exact this
 ·conv=>rhs;rw[h.bare]
  simp only[aH,h.kind,h.sign]
  rfl
theorem Yx:Cd (cR 5) (jK 5) cT:=by
 refine((j3 12 (by decide)).pair ((jW 0 (by decide)).pair ((j3 7 (by decide)).pair ((jW 0 (by decide)).pair W7)))).map (ok':=jK 5) (b':=cT) (fun z=>{aE with kind:=5,src:=z.1,view:=z.2.1,bD:=z.2.2.1,time:=z.2.2.2.1,result:=z.2.2.2.2}) (fun m=>(m.src,m.view,m.bD,m.time,m.result)) (fun z h=>⟨⟨rfl,?_,rfl,rfl⟩,?_⟩) (fun m h=>⟨?_,?_⟩)
 ·simp[bP,bQ,gP,kT,iM]
  (try simp at h)
  first|exact h
 ·simp[cT,aN]
 ·have:=rI h.kindOk h.kind
  simp[bP,bQ,gP,kT,iM] at this
  (try simp)
  first|exact this
 ·conv=>rhs;rw[h.bare]
  simp only[aH,h.kind,h.sign]
  rfl
theorem Yy:Cd (cR 6) (jK 6) cT:=by
 refine((j3 12 (by decide)).pair ((jW 1 (by decide)).pair (jW 1 (by decide)))).map (ok':=jK 6) (b':=cT) (fun z=>{aE with kind:=6,src:=z.1,seq:=z.2.1,ah:=z.2.2}) (fun m=>(m.src,m.seq,m.ah)) (fun z h=>⟨⟨rfl,?_,rfl,rfl⟩,?_⟩) (fun m h=>⟨?_,?_⟩)
 ·simp[bP,bQ,iI,kT]
  (try simp at h)
  first|exact h
 ·simp[cT,aN]
 ·have:=rI h.kindOk h.kind
  simp[bP,bQ,iI,kT] at this
  (try simp)
  first|exact this
 ·conv=>rhs;rw[h.bare]
  simp only[aH,h.kind,h.sign]
  rfl
theorem Yz:Cd (cR 8) (jK 8) cT:=by
 refine((j3 12 (by decide)).pair ((jW 1 (by decide)).pair ((zK Rn 13 (by decide)).pair (zK Yr 8 (by decide))))).map (ok':=jK 8) (b':=cT) (fun z=>{aE with kind:=8,src:=z.1,view:=z.2.1,changes:=z.2.2.1,entries:=z.2.2.2}) (fun m=>(m.src,m.view,m.changes,m.entries)) (fun z h=>⟨⟨rfl,?_,rfl,rfl⟩,?_⟩) (fun m h=>⟨?_,?_⟩)
 ·simp[bP,iP,bQ,iI,kT,jc,gV]
  (try simp at h)
  first|simp_all
 ·simp[cT,aN,lH]
 ·have:=rI h.kindOk h.kind
  simp[bP,iP,bQ,iI,kT,jc,gV] at this
  (try simp)
  first|simp_all
 ·conv=>rhs;rw[h.bare]
  simp only[aH,h.kind,h.sign]
  rfl
theorem YA:Cd (cR 9) (jK 9) cT:=by
 refine((j3 12 (by decide)).pair (jW 0 (by decide))).map (ok':=jK 9) (b':=cT) (fun z=>{aE with kind:=9,src:=z.1,seq:=z.2}) (fun m=>(m.src,m.seq)) (fun z h=>⟨⟨rfl,?_,rfl,rfl⟩,?_⟩) (fun m h=>⟨?_,?_⟩)
 ·simp[bP,bQ,gP,kT]
  (try simp at h)
  first|exact h
 ·simp[cT,aN]
 ·have:=rI h.kindOk h.kind
  simp[bP,bQ,gP,kT] at this
  (try simp)
  first|exact this
 ·conv=>rhs;rw[h.bare]
  simp only[aH,h.kind,h.sign]
  rfl
theorem W8:Cd (cR 10) (jK 10) cT:=by
 refine((j3 12 (by decide)).pair (JS.pair (vG 262144 (by decide)))).map (ok':=jK 10) (b':=cT) (fun z=>{aE with kind:=10,src:=z.1,cert:=z.2.1,state:=z.2.2}) (fun m=>(m.src,m.cert,m.state)) (fun z h=>⟨⟨rfl,?_,rfl,rfl⟩,?_⟩) (fun m h=>⟨?_,?_⟩)
 ·simp[bP,bQ,kT,jc]
  (try simp at h)
  first|omega
 ·simp[cT,aN]
 ·have:=rI h.kindOk h.kind
  simp[bP,bQ,kT,jc] at this
  (try simp)
  first|omega
 ·conv=>rhs;rw[h.bare]
  simp only[aH,h.kind,h.sign]
  rfl
theorem W9:Cd (cR 11) (jK 11) cT:=by
 refine((j3 7 (by decide)).pair (Qg.pair (jW 0 (by decide)))).map (ok':=jK 11) (b':=cT) (fun z=>{aE with kind:=11,bD:=z.1,av:=z.2.1,offset:=z.2.2}) (fun m=>(m.bD,m.av,m.offset)) (fun z h=>⟨⟨rfl,?_,rfl,rfl⟩,?_⟩) (fun m h=>⟨?_,?_⟩)
 ·simp[bP,bQ,gP,iM]
  (try simp at h)
  first|exact h
 ·simp[cT,aN]
 ·have:=rI h.kindOk h.kind
  simp[bP,bQ,gP,iM] at this
  (try simp)
  first|exact this
 ·conv=>rhs;rw[h.bare]
  simp only[aH,h.kind,h.sign]
  rfl
theorem Xa:Cd (cR 12) (jK 12) cT:=by
 refine((j3 12 (by decide)).pair Yt).map (ok':=jK 12) (b':=cT) (fun z=>{aE with kind:=12,src:=z.1,proof:=z.2}) (fun m=>(m.src,m.proof)) (fun z h=>⟨⟨rfl,?_,rfl,rfl⟩,?_⟩) (fun m h=>⟨?_,?_⟩)
 ·simp[bP,bQ,kT]
  (try simp at h)
  first|exact h
 ·simp[cT,aN]
 ·have:=rI h.kindOk h.kind
  simp[bP,bQ,kT] at this
  (try simp)
  first|exact this
 ·conv=>rhs;rw[h.bare]
  simp only[aH,h.kind,h.sign]
  rfl
theorem YB:Cd (cR 1) (jK 1) cT:=by
 refine(FB.guard fun l=>if l.length=1 then 0 else 100).map (ok':=jK 1) (b':=cT) (fun l=>{aE with kind:=1,batch:=l}) (fun m=>m.batch) (fun l h=>⟨⟨rfl,?_,rfl,rfl⟩,by simp[cT]⟩) (fun m h=>⟨?_,?_⟩)
 ·obtain⟨h1,h2⟩:=h
  have h2:l.length=1:=by
   by_cases e:l.length=1
   ·exact e
   ·rw[if_neg e] at h2;cases h2
  simp[bP,bQ,iM,h2]
  exact h1
 ·have:=rI h.kindOk h.kind
  simp[bP,bQ,iM] at this
  exact⟨this.2,if_pos (by omega)⟩
 ·conv=>rhs;rw[h.bare]
  simp only[aH,h.kind,h.sign]
  rfl
theorem YC:Cd (cR 7) (fun m=>jK 7 m) (fun m=>match m.changes with|c::_=>fq c|[]=>[]):=by
 refine Rn.map (ok':=fun m=>jK 7 m) (b':=fun m=>match m.changes with|c::_=>fq c|[]=>[]) (fun c=>{aE with kind:=7,src:=c.src,view:=c.view,changes:=[c]}) (fun m=>match m.changes with|c::_=>c|[]=>afS) (fun c h=>⟨⟨rfl,?_,rfl,rfl⟩,rfl⟩) (fun m h=>?_)
 ·simp[bP,bQ,iM,bG,rK,h]
 ·have:=rI h.kindOk h.kind
  simp[bP,bQ,iM] at this
  obtain⟨h1,h2⟩:=this
  obtain⟨c,hc⟩:∃c,m.changes=[c]:=sM (by omega)
  rw[hc] at h2
  simp[bG,rK,bQ] at h2
  obtain⟨h2,h3,h4⟩:=h2
  simp only[hc]
  refine⟨h2,?_⟩
  conv=>rhs;rw[h.bare]
  simp only[aH,h.kind,h.sign,hc,h3,h4]
  rfl
theorem YD {k:Int} (hk:¬(1<=k/\k<=12)):Cd (cR k) (jK k) cT:=by
 have e:cR k=fZ (qM {aE with kind:=k}) fun _=>100:=by
  unfold cR
  rw[if_neg (by omega),if_neg (by omega),if_neg (by omega),if_neg (by omega),if_neg (by omega),if_neg (by omega),if_neg (by omega),if_neg (by omega),if_neg (by omega),if_neg (by omega),if_neg (by omega),if_neg (by omega)]
 rw[e]
 refine{toRd1:=(zJ _).guard _,there:=fun m r h=>?_,back:=fun t h=>?_}
 ·have:=yd h.kindOk
  rw[h.kind] at this
  exact absurd this hk
 ·exact absurd h (by show ¬(100:Int)=0;decide)
def B6 (m:aD):List UInt8:=if m.kind=7 then(match m.changes with|c::_=>fq c|[]=>[]) else cT m
theorem YE (k:Int):Cd (cR k) (jK k) B6:=by
 have q:∀{k:Int},¬k=7->Cd (cR k) (jK k) cT->Cd (cR k) (jK k) B6:=fun h7 h=>h.as (fun _=>Iff.rfl) (fun m hm=>by unfold B6;rw[if_neg (by rw[hm.kind];exact h7)])
 by_cases hk:1<=k/\k<=12
 ·have:k=1\/k=2\/k=3\/k=4\/k=5\/k=6\/k=7\/k=8\/k=9\/k=10\/k=11\/k=12:=by omega
  rcases this with rfl|rfl|rfl|rfl|rfl|rfl|rfl|rfl|rfl|rfl|rfl|rfl
  ·exact q (by decide) YB
  ·exact q (by decide) Yu
  ·exact q (by decide) Yv
  ·exact q (by decide) Yw
  ·exact q (by decide) Yx
  ·exact q (by decide) Yy
  ·exact YC.as (fun _=>Iff.rfl) (fun m hm=>by unfold B6;rw[if_pos hm.kind])
  ·exact q (by decide) Yz
  ·exact q (by decide) YA
  ·exact q (by decide) W8
  ·exact q (by decide) W9
  ·exact q (by decide) Xa
 ·exact q (by omega) (YD hk)
theorem aaJ (k:Int):Cd (jS k) (fun s=>if bW k=true then dw s=0 else s=dx) (fun s=>if bW k=true then cG s else[]):=by
 unfold jS
 cases h:bW k
 ·simp only[Bool.false_eq_true,if_false]
  exact Qd _
 ·simp only[if_true]
  exact zL
theorem aaK {α β:Type} {c:Prop} {_:Decidable c} {f:α->β} {a b:α} {a' b':β} (h:a'=f a) (k:b'=f b):(if c then a' else b')=f (if c then a else b):=by split<;>assumption
def RU (t:bJ) (x:aD):aD:={x with sign:=t}
theorem RV {m:aD} (h:m=aH m) (s:bJ) (hs:bW m.kind=false->s=dx):{m with sign:=s}=aH {m with sign:=s}:=by
 have e:aH {m with sign:=s}=RU (if bW m.kind=true then s else dx) (aH m):=by
  generalize ht:(if bW m.kind=true then s else dx)=t
  unfold aH
  dsimp only
  rw[ht]
  iterate 11 refine aaK (f:=RU t) rfl ?_
  rfl
 rw[e]
 have hz:(if bW m.kind=true then s else dx)=s:=by
  cases hk:bW m.kind
  ·simp[hs hk]
  ·simp
 show _={aH m with sign:=if bW m.kind=true then s else dx}
 rw[hz,<-h]
theorem acJ (m:aD):{m with sign:=m.sign}=m:=by cases m;rfl
theorem Bz:Cd aU (fun m=>eC m=0) kg:=by
 have h:=(j3 MX (by decide)).bind (q:=fun k=>bg (cR k) (jS k)) (fun k=>(C0 k).pair (zG k)) (fun k _=>(YE k).pair (aaJ k))
 refine h.map (ok':=fun m=>eC m=0) (b':=kg) (fun z=>{z.2.1 with sign:=z.2.2}) (fun m=>(m.kind,({m with sign:=dx},m.sign))) (fun z hz=>?_) (fun m hm=>?_)
 ·obtain⟨k,m,s⟩:=z
  obtain⟨hk,hm,hs⟩:=hz
  have hm:jK k m:=hm
  have hs:(if bW k=true then dw s=0 else s=dx):=hs
  have GV:=hm.kind
  have M6:bW m.kind=false->s=dx:=fun e=>by rw[GV] at e;rw[e] at hs;simpa using hs
  have hb:=RV hm.bare s M6
  have hkE:bP {m with sign:=s}=0:=hm.kindOk
  refine⟨?_,?_⟩
  ·show eC {m with sign:=s}=0
   have hE:eX {m with sign:=s}=0:=by
    unfold eX
    rw[bQ]
    refine⟨hkE,?_⟩
    show(if bW m.kind=true then dw s else 0)=0
    rw[GV]
    cases e:bW k
    ·simp
    ·rw[e] at hs;simpa using hs
   unfold eC
   rw[if_neg (fun q=>q.2 hb)]
   exact hE
  ·show kg {m with sign:=s}=aJ k++(B6 m++if bW k=true then cG s else[])
   unfold kg aO B6
   show aJ m.kind++cT m++(if m.kind=7 then(match m.changes with|c::_=>cG c.sign|[]=>[]) else if bW m.kind=true then cG s else[])=_
   rw[GV]
   by_cases h7:k=7
   ·rw[if_pos h7,if_pos h7]
    have hk7:m.kind=7:=by rw[GV,h7]
    have n7:bW k=false:=by rw[h7];rfl
    rw[n7]
    unfold cT
    rw[hk7]
    cases hc:m.changes with
    |nil=>simp
    |cons c r=>simp[fq]
   ·rw[if_neg h7,if_neg h7,List.append_assoc]
 ·obtain⟨h1,h2⟩:=Jc hm
  unfold eX at h1
  rw[bQ] at h1
  obtain⟨h3,h4⟩:=h1
  have hr:=yd h3
  have eE:=Od m
  refine⟨⟨⟨by show 0<=m.kind;omega,by show m.kind<=((MX:Nat):Int);rw[yK];omega⟩,⟨rfl,h3,RV h2 dx (fun _=>rfl),rfl⟩,?_⟩,acJ m⟩
  show if bW m.kind=true then dw m.sign=0 else m.sign=dx
  cases e:bW m.kind
  ·rw[<-h2,e] at eE
   simpa using eE
  ·rw[e] at h4
   simpa using h4
theorem jq {n a b:Int} (h:a<=n/\n<=b) (ha:-9223372036854775808<=a) (hb:b<=9223372036854775807):dI.ok n:=⟨Int.le_trans ha h.1,Int.le_trans h.2 hb⟩
theorem yW {α:Type} {A:Dt α} {l:List α} {m:Nat} (h:l.length<=m) (hm:m<=4194304) (k:∀x∈l,A.ok x):(dL A).ok l:=⟨Nat.le_trans h hm,k⟩
theorem BQ {k:Int} {o:bt} (h:xK k o) (hk:0<=k/\k<=4):fD.ok o:=
 ⟨show dI.ok o.kind by rw[h.kind];exact jq hk (by decide) (by decide),Nat.le_trans h.av (by decide),Nat.le_trans h.group (by decide),jq h.off (by decide) (by decide),yW h.Hj.1 (by decide) fun r hr=>Nat.le_trans (h.Hj.2 r hr) (by decide)⟩
theorem SC {o:bt} (h:bS o=0):fD.ok o:=BQ (RR h) (KD h).1
theorem Ab {s:bJ} (h:dw s=0):iO.ok s:=by
 obtain⟨h1,h2,h3,h4⟩:=JH.1 h
 exact⟨show dI.ok s.key from jq (b:=20) ⟨h1,by omega⟩ (by decide) (by decide),jq ⟨h3,h4⟩ (by decide) (by decide)⟩
theorem Sj {x:ju} (h:iR x=0):su.ok x:=by
 obtain⟨h1,h2,h3⟩:=Q1 h
 exact⟨show dI.ok x.bD from jq (b:=7) ⟨h1.1,by omega⟩ (by decide) (by decide),jq h2 (by decide) (by decide),SC h3⟩
theorem Gb {l:List bX} (h:fA l=0):(dL fX).ok l:=by
 obtain⟨h1,h2⟩:=OR h
 exact yW h1 (by decide) fun s hs=>⟨Sj (h2 s hs).1,Ab (h2 s hs).2⟩
theorem Ri {l:List bJ} (h:lQ l=0):(dL iO).ok l:=by
 unfold lQ at h
 rw[bQ,jc,gV] at h
 exact yW (m:=13) (by omega) (by decide) fun s hs=>Ab (h.2 s hs)
theorem KU {c:gX} (h:jl c=0):je.ok c:=by
 obtain⟨h1,h2,h3⟩:=PR h
 exact⟨jq h1 (by decide) (by decide),jq h2 (by decide) (by decide),Ri h3⟩
theorem adZ {p:jt} (h:jQ p=0):oC.ok p:=by
 unfold jQ at h
 simp only[bQ,gP,iI] at h
 obtain⟨h1,h2,h3,h4,h5,h6⟩:=h
 exact⟨jq h1 (by decide) (by decide),jq h2 (by decide) (by decide),jq h3 (by decide) (by decide),Ab h4,Ri h5,Gb h6⟩
theorem Sk {c:cX} (h:ir c=0):fP.ok c:=by
 obtain⟨h1,h2,h3,h4,h5,h6⟩:=ab6 h
 exact⟨jq h1 (by decide) (by decide),jq h2 (by decide) (by decide),KU h3,yW h4 (by decide) fun p hp=>adZ (h5 p hp),Ab h6⟩
theorem acG {x:gq} (h:mM x=0):jx.ok x:=by
 unfold mM at h
 simp only[bQ,gP,iI] at h
 obtain⟨h1,h2,h3,h4⟩:=h
 exact⟨jq h1 (by decide) (by decide),jq h2 (by decide) (by decide),Gb h3,Ab h4⟩
theorem ad0 {h:j7} (e:mN h=0):yq.ok h:=by
 unfold mN at e
 simp only[bQ,gP,iI] at e
 obtain⟨h1,h2,h3,h4,h5⟩:=e
 exact⟨jq h1 (by decide) (by decide),jq h2 (by decide) (by decide),jq h3 (by decide) (by decide),jq h4 (by decide) (by decide),jq h5 (by decide) (by decide)⟩
theorem acH {p:jX} (h:mB p=0):jY.ok p:=by
 unfold mB at h
 simp only[bQ,gP,jc,gV,iM] at h
 obtain⟨h1,h2,h3,h4,h5,h6,h7,h8,h9,kN,iG⟩:=h
 exact⟨Nat.le_trans (zV h1) (by decide),jq h2 (by decide) (by decide),show p.record.length<=4194304 by omega,(show(dL yq).ok p.headers from yW (m:=64) (by omega) (by decide) fun x hx=>ad0 (h5 x hx)),jq h6 (by decide) (by decide),jq h7 (by decide) (by decide),(show(dL dI).ok p.path from yW (m:=8) (by omega) (by decide) fun x hx=>jq (kN x hx) (by decide) (by decide)),KU iG⟩
theorem dO {α:Type} {A:Dt α}:(dL A).ok []:=⟨Nat.zero_le _,fun x hx=>(List.not_mem_nil hx).elim⟩
theorem bu:dI.ok 0:=⟨by decide,by decide⟩
theorem F2:iO.ok dx:=⟨bu,bu⟩
theorem ry:je.ok nk:=⟨bu,bu,dO⟩
theorem sB:jY.ok oJ:=⟨Nat.zero_le _,bu,Nat.zero_le _,dO,bu,bu,dO,ry⟩
theorem rE:mZ.ok me:=⟨bu,bu⟩
theorem aef {m:aD} (h:eC m=0):bh.ok m:=by
 obtain⟨h1,h2⟩:=Jc h
 unfold eX at h1
 rw[bQ] at h1
 obtain⟨h3,h4⟩:=h1
 have hr:=yd h3
 have hk:dI.ok m.kind:=jq hr (by decide) (by decide)
 have hs:iO.ok m.sign:=by
  cases e:bW m.kind
  ·have:=Od m
   rw[e,<-h2] at this
   rw[show m.sign=dx by simpa using this]
   exact F2
  ·rw[if_pos e] at h4
   exact Ab h4
 have kk:=fun k=>@rI m h3 k
 have dc:m.kind=1\/m.kind=2\/m.kind=3\/m.kind=4\/m.kind=5\/m.kind=6\/m.kind=7\/m.kind=8\/m.kind=9\/m.kind=10\/m.kind=11\/m.kind=12:=by omega
 have wD:∀{n:Int},0<=n/\n<=12->dI.ok n:=fun h=>jq h (by decide) (by decide)
 have b7:∀{n:Int},0<=n/\n<=7->dI.ok n:=fun h=>jq h (by decide) (by decide)
 have bn:∀{n:Int},0<=n/\n<=9007199254740992->dI.ok n:=fun h=>jq h (by decide) (by decide)
 have bp:∀{n:Int},1<=n/\n<=9007199254740992->dI.ok n:=fun h=>jq h (by decide) (by decide)
 rcases dc with k|k|k|k|k|k|k|k|k|k|k|k
 all_goals have g:=kk _ k;simp[bP,gI,iP,bQ,gP,iI,kT,iM,jc,gV] at g;have e:∀(P:aD->Prop),P (aH m)->P m:=fun P hP=>by rw[h2];exact hP
 ·skip
  exact⟨hk,(e (fun m=>dI.ok m.src) (by unfold aH;rw[k];exact bu)),(e (fun m=>dI.ok m.view) (by unfold aH;rw[k];exact bu)),(e (fun m=>dI.ok m.seq) (by unfold aH;rw[k];exact bu)),(e (fun m=>dI.ok m.ah) (by unfold aH;rw[k];exact bu)),(e (fun m=>dI.ok m.bD) (by unfold aH;rw[k];exact bu)),(e (fun m=>dI.ok m.time) (by unfold aH;rw[k];exact bu)),(e (fun m=>mZ.ok m.result) (by unfold aH;rw[k];exact rE)),Gb g.2,(e (fun m=>je.ok m.cert) (by unfold aH;rw[k];exact ry)),(e (fun m=>(dL fP).ok m.changes) (by unfold aH;rw[k];exact dO)),(e (fun m=>(dL jx).ok m.entries) (by unfold aH;rw[k];exact dO)),(e (fun m=>dY.ok m.state) (by unfold aH;rw[k];exact Nat.zero_le _)),(e (fun m=>dS.ok m.av) (by unfold aH;rw[k];exact Nat.zero_le _)),(e (fun m=>dI.ok m.offset) (by unfold aH;rw[k];exact bu)),(e (fun m=>jY.ok m.proof) (by unfold aH;rw[k];exact sB)),hs⟩
 ·skip
  exact⟨hk,wD g.1.1,bn g.1.2.1,bp g.1.2.2.1,bp g.1.2.2.2,(e (fun m=>dI.ok m.bD) (by unfold aH;rw[k];exact bu)),(e (fun m=>dI.ok m.time) (by unfold aH;rw[k];exact bu)),(e (fun m=>mZ.ok m.result) (by unfold aH;rw[k];exact rE)),Gb g.2,(e (fun m=>je.ok m.cert) (by unfold aH;rw[k];exact ry)),(e (fun m=>(dL fP).ok m.changes) (by unfold aH;rw[k];exact dO)),(e (fun m=>(dL jx).ok m.entries) (by unfold aH;rw[k];exact dO)),(e (fun m=>dY.ok m.state) (by unfold aH;rw[k];exact Nat.zero_le _)),(e (fun m=>dS.ok m.av) (by unfold aH;rw[k];exact Nat.zero_le _)),(e (fun m=>dI.ok m.offset) (by unfold aH;rw[k];exact bu)),(e (fun m=>jY.ok m.proof) (by unfold aH;rw[k];exact sB)),hs⟩
 ·skip
  exact⟨hk,wD g.1,bn g.2.1,bp g.2.2.1,bp g.2.2.2,(e (fun m=>dI.ok m.bD) (by unfold aH;rw[k];exact bu)),(e (fun m=>dI.ok m.time) (by unfold aH;rw[k];exact bu)),(e (fun m=>mZ.ok m.result) (by unfold aH;rw[k];exact rE)),(e (fun m=>(dL fX).ok m.batch) (by unfold aH;rw[k];exact dO)),(e (fun m=>je.ok m.cert) (by unfold aH;rw[k];exact ry)),(e (fun m=>(dL fP).ok m.changes) (by unfold aH;rw[k];exact dO)),(e (fun m=>(dL jx).ok m.entries) (by unfold aH;rw[k];exact dO)),(e (fun m=>dY.ok m.state) (by unfold aH;rw[k];exact Nat.zero_le _)),(e (fun m=>dS.ok m.av) (by unfold aH;rw[k];exact Nat.zero_le _)),(e (fun m=>dI.ok m.offset) (by unfold aH;rw[k];exact bu)),(e (fun m=>jY.ok m.proof) (by unfold aH;rw[k];exact sB)),hs⟩
 ·skip
  exact⟨hk,wD g.1,bn g.2.1,bp g.2.2.1,bp g.2.2.2,(e (fun m=>dI.ok m.bD) (by unfold aH;rw[k];exact bu)),(e (fun m=>dI.ok m.time) (by unfold aH;rw[k];exact bu)),(e (fun m=>mZ.ok m.result) (by unfold aH;rw[k];exact rE)),(e (fun m=>(dL fX).ok m.batch) (by unfold aH;rw[k];exact dO)),(e (fun m=>je.ok m.cert) (by unfold aH;rw[k];exact ry)),(e (fun m=>(dL fP).ok m.changes) (by unfold aH;rw[k];exact dO)),(e (fun m=>(dL jx).ok m.entries) (by unfold aH;rw[k];exact dO)),(e (fun m=>dY.ok m.state) (by unfold aH;rw[k];exact Nat.zero_le _)),(e (fun m=>dS.ok m.av) (by unfold aH;rw[k];exact Nat.zero_le _)),(e (fun m=>dI.ok m.offset) (by unfold aH;rw[k];exact bu)),(e (fun m=>jY.ok m.proof) (by unfold aH;rw[k];exact sB)),hs⟩
 ·skip
  exact⟨hk,wD g.1,bn g.2.1,(e (fun m=>dI.ok m.seq) (by unfold aH;rw[k];exact bu)),(e (fun m=>dI.ok m.ah) (by unfold aH;rw[k];exact bu)),b7 g.2.2.1,bn g.2.2.2.1,⟨jq g.2.2.2.2.1 (by decide) (by decide),bn g.2.2.2.2.2⟩,(e (fun m=>(dL fX).ok m.batch) (by unfold aH;rw[k];exact dO)),(e (fun m=>je.ok m.cert) (by unfold aH;rw[k];exact ry)),(e (fun m=>(dL fP).ok m.changes) (by unfold aH;rw[k];exact dO)),(e (fun m=>(dL jx).ok m.entries) (by unfold aH;rw[k];exact dO)),(e (fun m=>dY.ok m.state) (by unfold aH;rw[k];exact Nat.zero_le _)),(e (fun m=>dS.ok m.av) (by unfold aH;rw[k];exact Nat.zero_le _)),(e (fun m=>dI.ok m.offset) (by unfold aH;rw[k];exact bu)),(e (fun m=>jY.ok m.proof) (by unfold aH;rw[k];exact sB)),hs⟩
 ·skip
  exact⟨hk,wD g.1,(e (fun m=>dI.ok m.view) (by unfold aH;rw[k];exact bu)),bp g.2.1,bp g.2.2,(e (fun m=>dI.ok m.bD) (by unfold aH;rw[k];exact bu)),(e (fun m=>dI.ok m.time) (by unfold aH;rw[k];exact bu)),(e (fun m=>mZ.ok m.result) (by unfold aH;rw[k];exact rE)),(e (fun m=>(dL fX).ok m.batch) (by unfold aH;rw[k];exact dO)),(e (fun m=>je.ok m.cert) (by unfold aH;rw[k];exact ry)),(e (fun m=>(dL fP).ok m.changes) (by unfold aH;rw[k];exact dO)),(e (fun m=>(dL jx).ok m.entries) (by unfold aH;rw[k];exact dO)),(e (fun m=>dY.ok m.state) (by unfold aH;rw[k];exact Nat.zero_le _)),(e (fun m=>dS.ok m.av) (by unfold aH;rw[k];exact Nat.zero_le _)),(e (fun m=>dI.ok m.offset) (by unfold aH;rw[k];exact bu)),(e (fun m=>jY.ok m.proof) (by unfold aH;rw[k];exact sB)),hs⟩
 ·obtain⟨g1,g2⟩:=g
  obtain⟨c,hc⟩:∃c,m.changes=[c]:=sM (by omega)
  rw[hc] at g2
  simp[rK,bQ] at g2
  obtain⟨g2,g3,g4⟩:=g2
  have Nl:=Sk g2
  have Cz:(dL fP).ok m.changes:=by rw[hc];exact⟨by simp,fun x hx=>by rw[List.mem_singleton.1 hx];exact Nl⟩
  have h5:dI.ok m.src:=by rw[<-g3];exact Nl.2.1
  have h6:dI.ok m.view:=by rw[<-g4];exact Nl.1
  exact⟨hk,h5,h6,(e (fun m=>dI.ok m.seq) (by unfold aH;rw[k];exact bu)),(e (fun m=>dI.ok m.ah) (by unfold aH;rw[k];exact bu)),(e (fun m=>dI.ok m.bD) (by unfold aH;rw[k];exact bu)),(e (fun m=>dI.ok m.time) (by unfold aH;rw[k];exact bu)),(e (fun m=>mZ.ok m.result) (by unfold aH;rw[k];exact rE)),(e (fun m=>(dL fX).ok m.batch) (by unfold aH;rw[k];exact dO)),(e (fun m=>je.ok m.cert) (by unfold aH;rw[k];exact ry)),Cz,(e (fun m=>(dL jx).ok m.entries) (by unfold aH;rw[k];exact dO)),(e (fun m=>dY.ok m.state) (by unfold aH;rw[k];exact Nat.zero_le _)),(e (fun m=>dS.ok m.av) (by unfold aH;rw[k];exact Nat.zero_le _)),(e (fun m=>dI.ok m.offset) (by unfold aH;rw[k];exact bu)),(e (fun m=>jY.ok m.proof) (by unfold aH;rw[k];exact sB)),hs⟩
 ·skip
  exact⟨hk,wD g.1,bp g.2.1,(e (fun m=>dI.ok m.seq) (by unfold aH;rw[k];exact bu)),(e (fun m=>dI.ok m.ah) (by unfold aH;rw[k];exact bu)),(e (fun m=>dI.ok m.bD) (by unfold aH;rw[k];exact bu)),(e (fun m=>dI.ok m.time) (by unfold aH;rw[k];exact bu)),(e (fun m=>mZ.ok m.result) (by unfold aH;rw[k];exact rE)),(e (fun m=>(dL fX).ok m.batch) (by unfold aH;rw[k];exact dO)),(e (fun m=>je.ok m.cert) (by unfold aH;rw[k];exact ry)),(show(dL fP).ok m.changes from yW (m:=13) (by have:=g.2.2.1;omega) (by decide) fun c hc=>Sk (g.2.2.2.1 c hc)),(show(dL jx).ok m.entries from yW (m:=8) (by have:=g.2.2.2.2.1;omega) (by decide) fun x hx=>acG (g.2.2.2.2.2 x hx)),(e (fun m=>dY.ok m.state) (by unfold aH;rw[k];exact Nat.zero_le _)),(e (fun m=>dS.ok m.av) (by unfold aH;rw[k];exact Nat.zero_le _)),(e (fun m=>dI.ok m.offset) (by unfold aH;rw[k];exact bu)),(e (fun m=>jY.ok m.proof) (by unfold aH;rw[k];exact sB)),hs⟩
 ·skip
  exact⟨hk,wD g.1,(e (fun m=>dI.ok m.view) (by unfold aH;rw[k];exact bu)),bn g.2,(e (fun m=>dI.ok m.ah) (by unfold aH;rw[k];exact bu)),(e (fun m=>dI.ok m.bD) (by unfold aH;rw[k];exact bu)),(e (fun m=>dI.ok m.time) (by unfold aH;rw[k];exact bu)),(e (fun m=>mZ.ok m.result) (by unfold aH;rw[k];exact rE)),(e (fun m=>(dL fX).ok m.batch) (by unfold aH;rw[k];exact dO)),(e (fun m=>je.ok m.cert) (by unfold aH;rw[k];exact ry)),(e (fun m=>(dL fP).ok m.changes) (by unfold aH;rw[k];exact dO)),(e (fun m=>(dL jx).ok m.entries) (by unfold aH;rw[k];exact dO)),(e (fun m=>dY.ok m.state) (by unfold aH;rw[k];exact Nat.zero_le _)),(e (fun m=>dS.ok m.av) (by unfold aH;rw[k];exact Nat.zero_le _)),(e (fun m=>dI.ok m.offset) (by unfold aH;rw[k];exact bu)),(e (fun m=>jY.ok m.proof) (by unfold aH;rw[k];exact sB)),hs⟩
 ·skip
  exact⟨hk,wD g.1,(e (fun m=>dI.ok m.view) (by unfold aH;rw[k];exact bu)),(e (fun m=>dI.ok m.seq) (by unfold aH;rw[k];exact bu)),(e (fun m=>dI.ok m.ah) (by unfold aH;rw[k];exact bu)),(e (fun m=>dI.ok m.bD) (by unfold aH;rw[k];exact bu)),(e (fun m=>dI.ok m.time) (by unfold aH;rw[k];exact bu)),(e (fun m=>mZ.ok m.result) (by unfold aH;rw[k];exact rE)),(e (fun m=>(dL fX).ok m.batch) (by unfold aH;rw[k];exact dO)),KU g.2.1,(e (fun m=>(dL fP).ok m.changes) (by unfold aH;rw[k];exact dO)),(e (fun m=>(dL jx).ok m.entries) (by unfold aH;rw[k];exact dO)),by have:=g.2.2;show m.state.length<=4194304;omega,(e (fun m=>dS.ok m.av) (by unfold aH;rw[k];exact Nat.zero_le _)),(e (fun m=>dI.ok m.offset) (by unfold aH;rw[k];exact bu)),(e (fun m=>jY.ok m.proof) (by unfold aH;rw[k];exact sB)),hs⟩
 ·skip
  exact⟨hk,(e (fun m=>dI.ok m.src) (by unfold aH;rw[k];exact bu)),(e (fun m=>dI.ok m.view) (by unfold aH;rw[k];exact bu)),(e (fun m=>dI.ok m.seq) (by unfold aH;rw[k];exact bu)),(e (fun m=>dI.ok m.ah) (by unfold aH;rw[k];exact bu)),b7 g.1,(e (fun m=>dI.ok m.time) (by unfold aH;rw[k];exact bu)),(e (fun m=>mZ.ok m.result) (by unfold aH;rw[k];exact rE)),(e (fun m=>(dL fX).ok m.batch) (by unfold aH;rw[k];exact dO)),(e (fun m=>je.ok m.cert) (by unfold aH;rw[k];exact ry)),(e (fun m=>(dL fP).ok m.changes) (by unfold aH;rw[k];exact dO)),(e (fun m=>(dL jx).ok m.entries) (by unfold aH;rw[k];exact dO)),(e (fun m=>dY.ok m.state) (by unfold aH;rw[k];exact Nat.zero_le _)),Nat.le_trans (zV g.2.1) (by decide),bn g.2.2,(e (fun m=>jY.ok m.proof) (by unfold aH;rw[k];exact sB)),hs⟩
 ·skip
  exact⟨hk,wD g.1,(e (fun m=>dI.ok m.view) (by unfold aH;rw[k];exact bu)),(e (fun m=>dI.ok m.seq) (by unfold aH;rw[k];exact bu)),(e (fun m=>dI.ok m.ah) (by unfold aH;rw[k];exact bu)),(e (fun m=>dI.ok m.bD) (by unfold aH;rw[k];exact bu)),(e (fun m=>dI.ok m.time) (by unfold aH;rw[k];exact bu)),(e (fun m=>mZ.ok m.result) (by unfold aH;rw[k];exact rE)),(e (fun m=>(dL fX).ok m.batch) (by unfold aH;rw[k];exact dO)),(e (fun m=>je.ok m.cert) (by unfold aH;rw[k];exact ry)),(e (fun m=>(dL fP).ok m.changes) (by unfold aH;rw[k];exact dO)),(e (fun m=>(dL jx).ok m.entries) (by unfold aH;rw[k];exact dO)),(e (fun m=>dY.ok m.state) (by unfold aH;rw[k];exact Nat.zero_le _)),(e (fun m=>dS.ok m.av) (by unfold aH;rw[k];exact Nat.zero_le _)),(e (fun m=>dI.ok m.offset) (by unfold aH;rw[k];exact bu)),acH g.2,hs⟩
def yL:D->Bool
 |.bool _=>true
 |.int _ _=>true
 |.str _=>true
 |_=>false
theorem Jz [Old] {I I':Nat->Prop} {g g':bH} {w w':World} {v:Value} {d:D} (hb:yL d=true) (h:Vr I g w v d):Vr I' g' w' v d:=by
 cases d<;>first|(cases hb;done)|skip
 all_goals
  cases h with
  |rd h=>
   cases h
   first|exact .rd (.bool _)|exact .rd (.int _ _)|exact .rd (.str _)
theorem BY [Wd] {P:Program} {Q:Exit->S->Prop} {f:FuncId} {ar bR:List D} {h:List AO} {c:D->List AO->T} {r:D} (fz:List Nat) (hF:aq P f ar r) (hp:ga.pl ar=true) (hc:aa (D.dj.fl h fz bR) ar) (hb:yL r=true) (k:(c r h).ok P Q):(T.call f bR h c).ok P Q:=by
 refine⟨fun r' h'=>r'=r/\h'=h,⟨hF.1,fun w I g vs hW hd ha=>?_⟩,fun r' h' ⟨e1,e2⟩=>by subst e1 e2;exact k⟩
 have hv:cJ (fun b=>I b\/gM fz g h b) g w vs (D.dj.fl h fz bR):=by
  rw[rF]
  refine⟨by rw[List.length_map];exact ha.1,fun i v d h1 h2=>?_⟩
  rw[List.getElem?_map] at h2
  cases hq:bR[i]? with
  |none=>rw[hq] at h2;cases h2
  |some d0=>
   rw[hq] at h2
   injection h2 with h2
   subst h2
   exact(ha.2 i v d0 h1 hq).dj hd (Wd.aI hW) (fun _ h=>.inl h) (fun _ h=>.inr h)
 have oY:=ur (hc.ok hv) hp
 have oV:Den (fun b=>I b\/gM fz g h b) [] w []:=⟨rfl,fun b hb=>hb.elim (hd.aG b) (fun ho=>hd.lt ho.owned),fun o ao p h1=>by simp at h1,fun o ao p b h1=>by simp at h1,fun o o' ao cA p p' b h1=>by simp at h1⟩
 refine(hF.2 w _ [] vs (Wd.cl hW (fun _ _=>rfl) (fun _ h=>.inl h)) oV oY.Ay).mono ?_
 have fu:∀b,¬dF [] [] b:=by rintro b ⟨o,ao,p,q1,_⟩;simp at q1
 rintro e w' (⟨v,I',mV,r0,h0,rfl,⟨rfl,rfl⟩,mU,rZ,hx,i1,i2,ow,ck⟩|⟨ch,rfl,hp,hx⟩)
 case inr=>exact .inr ⟨ch,rfl,hp,hx.mono (fun x _ ho=>absurd ho (fu x))⟩
 have kZ:Ext (fun _=>False) w w':=hx.mono (fun b _ hb=>fu b hb)
 exact .inl ⟨v,I,g,r0,h,rfl,⟨rfl,rfl⟩,⟨hd.ext kZ (fun _ _=>id) (fun _ _=>id),kZ.mono (fun _ _ h=>h.elim),fun _ h=>h,fun _ h=>.inl h,fun _ _ h=>h,fun _ _ _=>rfl,fun o ao p b ho h1 _ h3=>⟨ao,h1,h3⟩,fun o ao p b ho h1 _ _=>by have:=(List.getElem?_eq_some_iff.1 h1).1;omega⟩,Jz hb rZ⟩
theorem yg [Wd]:gz 227 (.agg [.ptr 0 0]) [] (fun s=>.int .i64 (nR 12 s).1) (fun s=>(nR 12 s).2):=by
 intro s hs
 have h1:=yp 12 s
 refine ak 7 [] func227 ?_
 repeat' (conv=>arg 2;whnf);first|refine gJ ?_|refine cE 0 s (cy 12 s).2 (.int .u64 ((cy 12 s).1:Int)) (gF 12) hs rfl rfl ?_|refine mQ (d:=.int .i64 ((cy 12 s).1:Int)) (.inr rfl) rfl ⟨⟨rfl,rfl⟩,trivial⟩ rfl (.refl _) rfl rfl
theorem Ol [Wd]:gz 229 (.agg [.ptr 0 0]) [] (fun s=>.int .i64 (nR 7 s).1) (fun s=>(nR 7 s).2):=by
 intro s hs
 have h1:=yp 7 s
 refine ak 7 [] func229 ?_
 repeat' (conv=>arg 2;whnf);first|refine gJ ?_|refine cE 0 s (cy 7 s).2 (.int .u64 ((cy 7 s).1:Int)) (gF 7) hs rfl rfl ?_|refine mQ (d:=.int .i64 ((cy 7 s).1:Int)) (.inr rfl) rfl ⟨⟨rfl,rfl⟩,trivial⟩ rfl (.refl _) rfl rfl
theorem Cd.CN {α:Type} {p:RS->α×RS} {ok:α->Prop} {b:α->List UInt8} (h:Cd p ok b) {s:RS} {x:α} {b1:List UInt8} {e1:Int} (q:p s=(x,(b1,e1))) (he:e1=0):ok x:=by
 have e2:=h.toRd1.ok (s:=s) (by rw[q];exact he)
 rw[e2] at q
 have h1:=(h.back s.1 (by rw[q];exact he)).1
 rw[q] at h1
 exact h1
theorem vH [Wd]:gz 172 (.ptr 0 0) [.int .i64 64] (fun s=>.list 1 ((fB 64 s).1.map af)) (fun s=>(fB 64 s).2):=Fe 64 (by decide)
theorem qN {most:Nat} {s:RS} {n:Int} {r:RS} (h:nR most s=(n,r)):0<=n/\n<=most:=by
 have h1:=yp most s
 have h2:((cy most s).1:Int)=n:=congrArg Prod.fst h
 omega
theorem zM {most:Nat} {s:RS} {x:List UInt8} {r:RS} (h:fB most s=(x,r)):x.length<=most:=by
 obtain⟨y,b,e,hy,_,h2⟩:=VL most s
 rw[h] at hy
 cases hy
 exact h2
theorem xx [Wd] {P:Program} {Q:Exit->S->Prop} {e:Int} {t f:T} (h1:e=0->t.ok P Q) (h2:¬e=0->f.ok P Q):(bT (e==0) t f).ok P Q:=an (fun h=>h1 (by simpa using h)) (fun h=>h2 (by simpa using h))
theorem rJ [Wd] {P:Program} {Q:Exit->S->Prop} {e:Int} {t f:T} (h1:¬e=0->t.ok P Q) (h2:e=0->f.ok P Q):(bT (e !=0) t f).ok P Q:=an (fun h=>h1 (by simpa using h)) (fun h=>h2 (by simpa using h))
theorem aaA (k:Int) {b:List UInt8}:fF k (b,0)=(b,k):=rfl
theorem wU (k:Int) {b:List UInt8} {e:Int} (h:¬e=0):fF k (b,e)=(b,e):=if_neg h
theorem aaB [Wd] (b:List UInt8) (e:Int) (hs:b.length<=8388609) {b0:List UInt8} {e0:Int} (q:nR 4 (b,e)=(0,(b0,e0))) (h0:b0.length<=8388609):bC prog 119 [.ptr 0 0] (dn (b,e)) (fun r h=>r=.agg (cC (eF (b,e)).1)/\h=dn (eF (b,e)).2):=by
 have eB:lP 0 (b0,e0)=(⟨0,[],[],0,[]⟩,(b0,e0)):=by unfold lP;simp[qM]
 obtain⟨o,ho⟩:∃o:bt,o=⟨0,[],[],0,[]⟩:=⟨_,rfl⟩
 obtain⟨ef,jV⟩:∃ef:Int,fF (bS o) (b0,e0)=(b0,ef):=⟨(fF (bS o) (b0,e0)).2,Prod.ext (wS _ _) rfl⟩
 have eR:eF (b,e)=if ef=0 then(o,(b0,ef)) else(dW,(b0,ef)):=by
  unfold eF jR fZ bN cN
  simp only[q,eB,<-ho,jV]
 have fN:e0=0->fD.ok o:=fun he=>by
  rw[ho]
  exact BQ ((Bh 0 (by decide)).CN eB he) (by decide)
 have fu:¬e0=0->ef=e0:=fun he=>by
  have:=jV
  rw[wU _ he] at this
  exact(congrArg (fun r:RS=>r.2) this).symm
 have gY:ef=0->eF (b,e)=(o,(b0,ef)):=fun h=>by rw[eR,if_pos h]
 have gN:¬ef=0->eF (b,e)=(dW,(b0,ef)):=fun h=>by rw[eR,if_neg h]
 have gE:¬e0=0->eF (b,e)=(dW,(b0,e0)):=fun h=>by rw[eR,fu h,if_neg h]
 refine ak 59 [] func119 ?_
 repeat' (conv=>arg 2;whnf);first|refine xx (fun h=>?_) (fun hz=>?_)|refine rJ (fun h=>?_) (fun h=>?_)|refine aX 0 (fun x=>D.int .u64 x) q (gF 4) hs ?_|refine bZ (by decide) ?_|refine cE 0 (b0,e0) (b0,e0) (.int .i64 e0) fY h0 rfl rfl ?_|refine iQ (sC o (fN h)) rfl (aa.cons (by rw[ho];exact aa.eU (aa.cons (.refl _) (aa.cons (.refl _) (aa.cons (.refl _) (aa.cons (.refl _) (aa.cons (.nil _) .nil)))))) .nil) ?_|refine cE 0 (b0,e0) (b0,ef) (.aj []) (mJ (bS o)) h0 jV.symm rfl ?_|refine cE 0 (b0,ef) (b0,ef) (.int .i64 ef) fY h0 rfl rfl ?_|refine cU (k:=fun x=>D.agg (cC x)) rfl (gY h) (by rw[ho];exact aa.eU (aa.cons (.refl _) (aa.cons (.refl _) (aa.cons (.refl _) (aa.cons (.refl _) (aa.cons (.nil _) .nil))))))|refine cU (k:=fun x=>D.agg (cC x)) rfl (gN h) .z|refine cU (k:=fun x=>D.agg (cC x)) rfl (gE h) .z|exact absurd h hz
theorem aaC [Wd] (b:List UInt8) (e:Int) (hs:b.length<=8388609) {b0:List UInt8} {e0:Int} (q:nR 4 (b,e)=(1,(b0,e0))) (h0:b0.length<=8388609):bC prog 119 [.ptr 0 0] (dn (b,e)) (fun r h=>r=.agg (cC (eF (b,e)).1)/\h=dn (eF (b,e)).2):=by
 obtain⟨t,b1,e1,q1,l1⟩:=Rd1.get (iB 64) (b0,e0)
 replace l1:b1.length<=b0.length:=l1
 have h1:b1.length<=8388609:=by omega
 have mT:=zM q1
 have eB:lP 1 (b0,e0)=(⟨1,t,[],0,[]⟩,(b1,e1)):=by unfold lP;simp[bN,q1]
 obtain⟨o,ho⟩:∃o:bt,o=⟨1,t,[],0,[]⟩:=⟨_,rfl⟩
 obtain⟨ef,jV⟩:∃ef:Int,fF (bS o) (b1,e1)=(b1,ef):=⟨(fF (bS o) (b1,e1)).2,Prod.ext (wS _ _) rfl⟩
 have eR:eF (b,e)=if ef=0 then(o,(b1,ef)) else(dW,(b1,ef)):=by
  unfold eF jR fZ bN cN
  simp only[q,eB,<-ho,jV]
 have fN:e1=0->fD.ok o:=fun he=>by
  rw[ho]
  exact BQ ((Bh 1 (by decide)).CN eB he) (by decide)
 have fu:¬e1=0->ef=e1:=fun he=>by
  have:=jV
  rw[wU _ he] at this
  exact(congrArg (fun r:RS=>r.2) this).symm
 have gY:ef=0->eF (b,e)=(o,(b1,ef)):=fun h=>by rw[eR,if_pos h]
 have gN:¬ef=0->eF (b,e)=(dW,(b1,ef)):=fun h=>by rw[eR,if_neg h]
 have gE:¬e1=0->eF (b,e)=(dW,(b1,e1)):=fun h=>by rw[eR,fu h,if_neg h]
 refine ak 59 [] func119 ?_
 repeat' (conv=>arg 2;whnf);first|refine xx (fun h=>?_) (fun hz=>?_)|refine rJ (fun h=>?_) (fun h=>?_)|refine aX 0 (fun x=>D.int .u64 x) q (gF 4) hs ?_|refine bZ (by decide) ?_|refine j8 _ rfl ?_|refine aT (by omega) ?_|refine aX 0 (fun x=>D.list 1 (List.map af x)) q1 vH h0 ?_|refine cE 0 (b1,e1) (b1,e1) (.int .i64 e1) fY h1 rfl rfl ?_|refine iQ (sC o (fN h)) rfl (aa.cons (by rw[ho];exact aa.eU (aa.cons (.refl _) (aa.cons (.refl _) (aa.cons (.refl _) (aa.cons (.refl _) (aa.cons (.nil _) .nil)))))) .nil) ?_|refine cE 0 (b1,e1) (b1,ef) (.aj []) (mJ (bS o)) h1 jV.symm rfl ?_|refine cE 0 (b1,ef) (b1,ef) (.int .i64 ef) fY h1 rfl rfl ?_|refine cU (k:=fun x=>D.agg (cC x)) rfl (gY h) (by rw[ho];exact aa.eU (aa.cons (.refl _) (aa.cons (.refl _) (aa.cons (.refl _) (aa.cons (.refl _) (aa.cons (.nil _) .nil))))))|refine cU (k:=fun x=>D.agg (cC x)) rfl (gN h) .z|refine cU (k:=fun x=>D.agg (cC x)) rfl (gE h) .z|exact absurd h hz
theorem aaD [Wd] (b:List UInt8) (e:Int) (hs:b.length<=8388609) {b0:List UInt8} {e0:Int} (q:nR 4 (b,e)=(3,(b0,e0))) (h0:b0.length<=8388609):bC prog 119 [.ptr 0 0] (dn (b,e)) (fun r h=>r=.agg (cC (eF (b,e)).1)/\h=dn (eF (b,e)).2):=by
 obtain⟨t,b1,e1,q1,l1⟩:=Rd1.get (iB 64) (b0,e0)
 replace l1:b1.length<=b0.length:=l1
 have h1:b1.length<=8388609:=by omega
 obtain⟨g,b2,e2,q2,l2⟩:=Rd1.get (iB 64) (b1,e1)
 replace l2:b2.length<=b1.length:=l2
 have h2:b2.length<=8388609:=by omega
 obtain⟨n,b3,e3,q3,l3⟩:=Rd1.get (dD MX) (b2,e2)
 replace l3:b3.length<=b2.length:=l3
 have h3:b3.length<=8388609:=by omega
 have hn:=qN q3
 rw[yK] at hn
 have mT:=zM q1
 have eJ:=zM q2
 have eB:lP 3 (b0,e0)=(⟨3,t,g,n,[]⟩,(b3,e3)):=by unfold lP;simp[bN,bg,cN,q1,q2,q3]
 obtain⟨o,ho⟩:∃o:bt,o=⟨3,t,g,n,[]⟩:=⟨_,rfl⟩
 obtain⟨ef,jV⟩:∃ef:Int,fF (bS o) (b3,e3)=(b3,ef):=⟨(fF (bS o) (b3,e3)).2,Prod.ext (wS _ _) rfl⟩
 have eR:eF (b,e)=if ef=0 then(o,(b3,ef)) else(dW,(b3,ef)):=by
  unfold eF jR fZ bN cN
  simp only[q,eB,<-ho,jV]
 have fN:e3=0->fD.ok o:=fun he=>by
  rw[ho]
  exact BQ ((Bh 3 (by decide)).CN eB he) (by decide)
 have fu:¬e3=0->ef=e3:=fun he=>by
  have:=jV
  rw[wU _ he] at this
  exact(congrArg (fun r:RS=>r.2) this).symm
 have gY:ef=0->eF (b,e)=(o,(b3,ef)):=fun h=>by rw[eR,if_pos h]
 have gN:¬ef=0->eF (b,e)=(dW,(b3,ef)):=fun h=>by rw[eR,if_neg h]
 have gE:¬e3=0->eF (b,e)=(dW,(b3,e3)):=fun h=>by rw[eR,fu h,if_neg h]
 refine ak 59 [] func119 ?_
 repeat' (conv=>arg 2;whnf);first|refine xx (fun h=>?_) (fun hz=>?_)|refine rJ (fun h=>?_) (fun h=>?_)|refine aX 0 (fun x=>D.int .u64 x) q (gF 4) hs ?_|refine bZ (by decide) ?_|refine gJ ?_|refine j8 _ rfl ?_|refine aT (by omega) ?_|refine aX 0 (fun x=>D.list 1 (List.map af x)) q1 vH h0 ?_|refine aX 0 (fun x=>D.list 1 (List.map af x)) q2 vH h1 ?_|refine aX 0 (fun x=>D.int .u64 x) q3 (gF MX) h2 ?_|refine cE 0 (b3,e3) (b3,e3) (.int .i64 e3) fY h3 rfl rfl ?_|refine iQ (sC o (fN h)) rfl (aa.cons (by rw[ho];exact aa.eU (aa.cons (.refl _) (aa.cons (.refl _) (aa.cons (.refl _) (aa.cons (.refl _) (aa.cons (.nil _) .nil)))))) .nil) ?_|refine cE 0 (b3,e3) (b3,ef) (.aj []) (mJ (bS o)) h3 jV.symm rfl ?_|refine cE 0 (b3,ef) (b3,ef) (.int .i64 ef) fY h3 rfl rfl ?_|refine cU (k:=fun x=>D.agg (cC x)) rfl (gY h) (by rw[ho];exact aa.eU (aa.cons (.refl _) (aa.cons (.refl _) (aa.cons (.refl _) (aa.cons (.refl _) (aa.cons (.nil _) .nil))))))|refine cU (k:=fun x=>D.agg (cC x)) rfl (gN h) .z|refine cU (k:=fun x=>D.agg (cC x)) rfl (gE h) .z|exact absurd h hz
theorem aaE [Wd] (b:List UInt8) (e:Int) (hs:b.length<=8388609) {b0:List UInt8} {e0:Int} (q:nR 4 (b,e)=(4,(b0,e0))) (h0:b0.length<=8388609):bC prog 119 [.ptr 0 0] (dn (b,e)) (fun r h=>r=.agg (cC (eF (b,e)).1)/\h=dn (eF (b,e)).2):=by
 obtain⟨t,b1,e1,q1,l1⟩:=Rd1.get (iB 64) (b0,e0)
 replace l1:b1.length<=b0.length:=l1
 have h1:b1.length<=8388609:=by omega
 obtain⟨n,b2,e2,q2,l2⟩:=Rd1.get (dD MX) (b1,e1)
 replace l2:b2.length<=b1.length:=l2
 have h2:b2.length<=8388609:=by omega
 have hn:=qN q2
 rw[yK] at hn
 have mT:=zM q1
 have eB:lP 4 (b0,e0)=(⟨4,t,[],n,[]⟩,(b2,e2)):=by unfold lP;simp[bN,bg,cN,q1,q2]
 obtain⟨o,ho⟩:∃o:bt,o=⟨4,t,[],n,[]⟩:=⟨_,rfl⟩
 obtain⟨ef,jV⟩:∃ef:Int,fF (bS o) (b2,e2)=(b2,ef):=⟨(fF (bS o) (b2,e2)).2,Prod.ext (wS _ _) rfl⟩
 have eR:eF (b,e)=if ef=0 then(o,(b2,ef)) else(dW,(b2,ef)):=by
  unfold eF jR fZ bN cN
  simp only[q,eB,<-ho,jV]
 have fN:e2=0->fD.ok o:=fun he=>by
  rw[ho]
  exact BQ ((Bh 4 (by decide)).CN eB he) (by decide)
 have fu:¬e2=0->ef=e2:=fun he=>by
  have:=jV
  rw[wU _ he] at this
  exact(congrArg (fun r:RS=>r.2) this).symm
 have gY:ef=0->eF (b,e)=(o,(b2,ef)):=fun h=>by rw[eR,if_pos h]
 have gN:¬ef=0->eF (b,e)=(dW,(b2,ef)):=fun h=>by rw[eR,if_neg h]
 have gE:¬e2=0->eF (b,e)=(dW,(b2,e2)):=fun h=>by rw[eR,fu h,if_neg h]
 refine ak 59 [] func119 ?_
 repeat' (conv=>arg 2;whnf);first|refine xx (fun h=>?_) (fun hz=>?_)|refine rJ (fun h=>?_) (fun h=>?_)|refine aX 0 (fun x=>D.int .u64 x) q (gF 4) hs ?_|refine bZ (by decide) ?_|refine gJ ?_|refine j8 _ rfl ?_|refine aT (by omega) ?_|refine aX 0 (fun x=>D.list 1 (List.map af x)) q1 vH h0 ?_|refine aX 0 (fun x=>D.int .u64 x) q2 (gF MX) h1 ?_|refine cE 0 (b2,e2) (b2,e2) (.int .i64 e2) fY h2 rfl rfl ?_|refine iQ (sC o (fN h)) rfl (aa.cons (by rw[ho];exact aa.eU (aa.cons (.refl _) (aa.cons (.refl _) (aa.cons (.refl _) (aa.cons (.refl _) (aa.cons (.nil _) .nil)))))) .nil) ?_|refine cE 0 (b2,e2) (b2,ef) (.aj []) (mJ (bS o)) h2 jV.symm rfl ?_|refine cE 0 (b2,ef) (b2,ef) (.int .i64 ef) fY h2 rfl rfl ?_|refine cU (k:=fun x=>D.agg (cC x)) rfl (gY h) (by rw[ho];exact aa.eU (aa.cons (.refl _) (aa.cons (.refl _) (aa.cons (.refl _) (aa.cons (.refl _) (aa.cons (.nil _) .nil))))))|refine cU (k:=fun x=>D.agg (cC x)) rfl (gN h) .z|refine cU (k:=fun x=>D.agg (cC x)) rfl (gE h) .z|exact absurd h hz
theorem Yp {α:Type} {p:RS->α×RS} {m:Nat} {s s2:RS} {x:α} (h:p s=(x,s2)):dG p (m+1) s=(x::(dG p m s2).1,(dG p m s2).2):=by
 show bN _ (bg p (dG p m)) s=_
 unfold bN bg cN
 rw[h]
theorem aaF [Wd] (b:List UInt8) (e:Int) (hs:b.length<=8388609) {b0:List UInt8} {e0:Int} (q:nR 4 (b,e)=(2,(b0,e0))) (h0:b0.length<=8388609):bC prog 119 [.ptr 0 0] (dn (b,e)) (fun r h=>r=.agg (cC (eF (b,e)).1)/\h=dn (eF (b,e)).2):=by
 obtain⟨t,b1,e1,q1,l1⟩:=Rd1.get (iB 64) (b0,e0)
 replace l1:b1.length<=b0.length:=l1
 have h1:b1.length<=8388609:=by omega
 have mT:=zM q1
 obtain⟨n,b2,e2,qn,hn,l2⟩:=wR 4 (b1,e1)
 replace l2:b2.length<=b1.length:=l2
 have h2:b2.length<=8388609:=by omega
 have q2:nR 4 (b1,e1)=((n:Int),(b2,e2)):=by unfold nR;rw[qn]
 obtain⟨rs,b3,e3,q3,l3⟩:=Rd1.get (w7 (iB 64) n) (b2,e2)
 replace l3:b3.length<=b2.length:=l3
 have h3:b3.length<=8388609:=by omega
 have eB:lP 2 (b0,e0)=(⟨2,t,[],0,rs⟩,(b3,e3)):=by unfold lP;simp[bN,bg,cN,q1,q2,q3]
 obtain⟨o,ho⟩:∃o:bt,o=⟨2,t,[],0,rs⟩:=⟨_,rfl⟩
 obtain⟨ef,jV⟩:∃ef:Int,fF (bS o) (b3,e3)=(b3,ef):=⟨(fF (bS o) (b3,e3)).2,Prod.ext (wS _ _) rfl⟩
 have eR:eF (b,e)=if ef=0 then(o,(b3,ef)) else(dW,(b3,ef)):=by
  unfold eF jR fZ bN cN
  simp only[q,eB,<-ho,jV]
 have fN:e3=0->fD.ok o:=fun he=>by
  rw[ho]
  exact BQ ((Bh 2 (by decide)).CN eB he) (by decide)
 have fu:¬e3=0->ef=e3:=fun he=>by
  have:=jV
  rw[wU _ he] at this
  exact(congrArg (fun r:RS=>r.2) this).symm
 have gY:ef=0->eF (b,e)=(o,(b3,ef)):=fun h=>by rw[eR,if_pos h]
 have gN:¬ef=0->eF (b,e)=(dW,(b3,ef)):=fun h=>by rw[eR,if_neg h]
 have gE:¬e3=0->eF (b,e)=(dW,(b3,e3)):=fun h=>by rw[eR,fu h,if_neg h]
 refine iV 59 [(8,⟨(.one 0 false (.one 2 false (.alt 1 (.one 3 true (.one 4 true (.one 5 true (.one 6 false (.one 7 true .done))))) (.one 3 true (.alt 1 (.one 4 true (.one 5 true (.one 6 false (.one 7 true .done)))) (.one 4 true (.one 1 true (.one 5 true (.one 6 false (.one 7 true .done)))))))))),[0,2,3]⟩)] func119 ?_
 repeat' (conv=>arg 2;whnf);first|refine aX 0 (fun x=>D.int .u64 x) q (gF 4) hs ?_|refine bZ (by decide) ?_|refine j8 _ rfl ?_|refine aT (by omega) ?_|refine aX 0 (fun x=>D.list 1 (List.map af x)) q1 vH h0 ?_|refine aX 0 (fun x=>D.int .u64 x) q2 (gF 4) h1 ?_
 conv=>arg 2;whnf
 refine bE (α:=Nat×RS×List (List UInt8)) (fun a=>match a.2.2 with
  |[]=>⟨[(21,.int .u64 a.1),(20,.int .u64 (n:Int)),(3,.ptr 2 0),(2,.ptr 1 0),(0,.ptr 0 0)],[.cells 235 [.list 1 (a.2.1.1.map af),.int .i64 a.2.1.2,.bool true],.cells 40 [.int .i64 0,.str [],.str [],.int .i64 0,.nils],.cells 40 [.int .i64 2,.str t,.str [],.int .i64 0,.nils]]⟩
  |x::l=>⟨[(21,.int .u64 a.1),(20,.int .u64 (n:Int)),(3,.ptr 2 0),(2,.ptr 1 0),(0,.ptr 0 0)],[.cells 235 [.list 1 (a.2.1.1.map af),.int .i64 a.2.1.2,.bool true],.cells 40 [.int .i64 0,.str [],.str [],.int .i64 0,.nils],.cells 40 [.int .i64 2,.str t,.str [],.int .i64 0,.row 3],.row 51 1 ((x::l).map gS)]⟩) (fun a=>a.1<=n/\a.2.1.1.length<=8388609/\a.2.2.length=a.1/\(rs,(b3,e3))=(a.2.2++(dG (fB 64) (n-a.1) a.2.1).1,(dG (fB 64) (n-a.1) a.2.1).2)) (fun a=>n-a.1) (0,(b2,e2),[]) ⟨Nat.zero_le _,h2,rfl,q3.symm⟩ (Sv.aK [0,1,3]) ?_
 rintro⟨i,⟨bb,ee⟩,out⟩ ⟨hi,hl,oz,hg⟩
 replace hi:i<=n:=hi
 replace hl:bb.length<=8388609:=hl
 replace oz:out.length=i:=oz
 replace hg:(rs,(b3,e3))=(out++(dG (fB 64) (n-i) (bb,ee)).1,(dG (fB 64) (n-i) (bb,ee)).2):=hg
 obtain⟨x,bx,ex,qx,lx⟩:=Rd1.get (iB 64) (bb,ee)
 replace lx:bx.length<=bb.length:=lx
 have hx:bx.length<=8388609:=by omega
 have lG:i<n->(rs,(b3,e3))=((out++[x])++(dG (fB 64) (n-(i+1)) (bx,ex)).1,(dG (fB 64) (n-(i+1)) (bx,ex)).2):=fun hlt=>by
  have e:n-i=(n-(i+1))+1:=by omega
  rw[e,Yp qx] at hg
  rw[hg]
  simp
 have iq:n<=i->rs=out/\b3=bb/\e3=ee:=fun h=>by
  rw[show n-i=0 by omega] at hg
  have hg:(rs,(b3,e3))=(out++[],(bb,ee)):=hg
  rw[List.append_nil] at hg
  cases hg
  exact⟨rfl,rfl,rfl⟩
 cases out with
 |nil=>
  conv=>arg 2;whnf
  refine Lc (fun hlt=>?_) (fun dm=>?_)
  ·replace hlt:i<n:=hlt
   repeat' (conv=>arg 2;whnf);first|refine aX 0 (fun x=>D.list 1 (List.map af x)) qx vH hl ?_|refine aV ?_ ?_|refine aT (by constructor<;>(simp only[List.length_cons,List.length_nil];decide)) ?_|refine bw (G0 (by show 0<=(i:Int)+1;omega) (by show(i:Int)+1<_;omega)) ?_|refine aZ (i+1,(bx,ex),[x]) (Sv.aK [0,1,2,4]) ⟨hlt,hx,by show([x]).length=i+1;simp at oz ⊢;omega,lG hlt⟩ (by show n-(i+1)<n-i;omega)
  ·obtain⟨er,eb,A7⟩:=iq dm
   subst er eb A7
   repeat' (conv=>arg 2;whnf);first|refine xx (fun h=>?_) (fun hz=>?_)|refine rJ (fun h=>?_) (fun h=>?_)|refine bq ?_|refine cE 0 (b3,e3) (b3,e3) (.int .i64 e3) fY h3 rfl rfl ?_|refine iQ (sC o (fN h)) rfl (aa.cons (by rw[ho];exact aa.eU (aa.cons (.refl _) (aa.cons (.refl _) (aa.cons (.refl _) (aa.cons (.refl _) (aa.cons (.nil _) .nil)))))) .nil) ?_|refine cE 0 (b3,e3) (b3,ef) (.aj []) (mJ (bS o)) h3 jV.symm rfl ?_|refine cE 0 (b3,ef) (b3,ef) (.int .i64 ef) fY h3 rfl rfl ?_|refine cU (k:=fun x=>D.agg (cC x)) rfl (gY h) (by rw[ho];exact aa.eU (aa.cons (.refl _) (aa.cons (.refl _) (aa.cons (.refl _) (aa.cons (.refl _) (aa.cons (.nil _) .nil))))))|refine cU (k:=fun x=>D.agg (cC x)) rfl (gN h) .z|refine cU (k:=fun x=>D.agg (cC x)) rfl (gE h) .z|exact absurd h hz
 |cons y out=>
  conv=>arg 2;whnf
  refine Lc (fun hlt=>?_) (fun dm=>?_)
  ·replace hlt:i<n:=hlt
   repeat' (conv=>arg 2;whnf);first|refine aX 0 (fun x=>D.list 1 (List.map af x)) qx vH hl ?_|refine aV ?_ ?_|refine aT (by constructor<;>(simp only[List.length_cons,List.length_nil,List.length_map,maxLen] at oz ⊢;omega)) ?_|refine bw (G0 (by show 0<=(i:Int)+1;omega) (by show(i:Int)+1<_;omega)) ?_|refine aZ (i+1,(bx,ex),(y::out)++[x]) (Sv.mk' [0,1,2,5] rfl ⟨⟨rfl,rfl⟩,⟨rfl,rfl⟩,⟨rfl,rfl⟩,⟨rfl,by simp;rfl⟩,trivial⟩ ⟨rfl,rfl,rfl,rfl,rfl,trivial⟩) ⟨hlt,hx,by show((y::out)++[x]).length=i+1;simp at oz ⊢;omega,lG hlt⟩ (by show n-(i+1)<n-i;omega)
  ·obtain⟨er,eb,A7⟩:=iq dm
   subst er eb A7
   repeat' (conv=>arg 2;whnf);first|refine xx (fun h=>?_) (fun hz=>?_)|refine rJ (fun h=>?_) (fun h=>?_)|refine bq ?_|refine cE 0 (b3,e3) (b3,e3) (.int .i64 e3) fY h3 rfl rfl ?_|refine BY [3] (sC o (fN h)) rfl (by rw[ho];exact aa.refl _) rfl ?_|refine cE 0 (b3,e3) (b3,ef) (.aj []) (mJ (bS o)) h3 jV.symm rfl ?_|refine cE 0 (b3,ef) (b3,ef) (.int .i64 ef) fY h3 rfl rfl ?_|refine qD (k:=fun x=>D.agg (cC x)) [3] rfl (gY h) (by rw[ho];exact .refl _)|refine cU (k:=fun x=>D.agg (cC x)) rfl (gN h) .z|refine cU (k:=fun x=>D.agg (cC x)) rfl (gE h) .z|exact absurd h hz
theorem bC.abK [Wd] {P:Program} {f:FuncId} {ar:List D} {h:List AO} {cZ DP:D->List AO->Prop} (hF:bC P f ar h cZ) (k:∀r h',cZ r h'->∃(o:Nat) (t:TypeId) (cs ds:List D),h'[o]?=some (.cells t cs)/\aa cs ds/\DP r (h'.set o (.cells t ds))):bC P f ar h DP:=by
 refine⟨hF.1,fun w I g vs hW hd ha=>(hF.2 w I g vs hW hd ha).mono ?_⟩
 rintro e w' (⟨v,I',g',r,h',rfl,hP,mU,hv,hx,i1,i2,ow,ck⟩|hp)
 case inr=>exact .inr hp
 obtain⟨o,t,cs,ds,ho,hc,hP'⟩:=k r h' hP
 refine .inl ⟨v,I',g',r,h'.set o (.cells t ds),rfl,hP',mU.yS ho hc,hv,hx,i1,i2,fun b ⟨o',ao,p,h1,h2,h3⟩=>?_,fun o' p t' fU h1 h2=>?_⟩
 ·obtain⟨a,k1,k2⟩:=FL ho h1
  exact ow b ⟨o',a,p,k1,h2,(k2 p b).1 h3⟩
 ·obtain⟨e1,t2,cs2,e2⟩:=ck o' p t' fU h1 h2
  refine⟨e1,?_⟩
  by_cases Cs:o=o'
  ·subst Cs
   exact⟨t,ds,by rw[List.getElem?_set,if_pos rfl,if_pos (List.getElem?_eq_some_iff.1 ho).1]⟩
  ·exact⟨t2,cs2,by rw[List.getElem?_set,if_neg Cs];exact e2⟩
abbrev bz (s:RS):List AO:=[.cells 176 [.list 1 (s.1.map af),.int .i64 s.2]]
abbrev lX [Wd] {α:Type} (f:FuncId) (ar:List D) (p:RS->α×RS) (ok:α->Prop) (R:α->D):Prop:=∀(b:List UInt8) (e:Int),b.length<=8388609->bC prog f (.ptr 0 0::ar) (bz (b,e)) (fun r h=>∃x b' e',au p (b,e) x (b',e')/\ok x/\r=R x/\h=bz (b',e'))
theorem QK [Wd] {f:FuncId} {ar:List D} {h:List AO} {e:Int} {r0:D} (hF:bC prog f ar h (fun r h=>r=r0/\h=[.cells 176 [.nils,.int .i64 e]])):bC prog f ar h (fun r h=>r=r0/\h=bz ([],e)):=
 hF.abK fun r h' ⟨e1,e2⟩=>by subst e2;exact⟨0,_,_,[.list 1 [],.int .i64 e],rfl,.cons (.nil _) (.refl _),e1,rfl⟩
theorem vK [Wd] (b:List UInt8):bC prog 125 [.ptr 0 0,.int .i64 0] (bz (b,0)) (fun r h=>r=.aj []/\h=bz (b,0)):=by
 refine ak 21 [] func125 ?_
 repeat' (conv=>arg 2;whnf);first|exact mL (r:=.aj []) (h':=bz (b,0)) [0] (.inl rfl) rfl rfl ⟨⟨rfl,rfl⟩,trivial⟩ ⟨⟨rfl,rfl⟩,trivial⟩ (.refl _)
theorem kF [Wd] {k:Int} (hk:¬k=0) (b:List UInt8):bC prog 125 [.ptr 0 0,.int .i64 k] (bz (b,0)) (fun r h=>r=.aj []/\h=bz ([],k)):=by
 refine QK ?_
 refine ak 21 [] func125 ?_
 repeat' (conv=>arg 2;whnf);first|refine bY (by simpa using hk) ?_|exact mL (r:=.aj []) (h':=[.cells 176 [.nils,.int .i64 k]]) [0] (.inl rfl) rfl rfl ⟨⟨rfl,rfl⟩,trivial⟩ ⟨⟨rfl,rfl⟩,trivial⟩ (.refl _)
theorem JA [Wd] {e:Int} (he:¬e=0) (k:Int) (b:List UInt8):bC prog 125 [.ptr 0 0,.int .i64 k] (bz (b,e)) (fun r h=>r=.aj []/\h=bz ([],e)):=by
 refine QK ?_
 refine ak 21 [] func125 ?_
 repeat' (conv=>arg 2;whnf);first|refine bB (by simpa using he) ?_|refine bY (by simpa using he) ?_|exact mL (r:=.aj []) (h':=[.cells 176 [.nils,.int .i64 e]]) [0] (.inl rfl) rfl rfl ⟨⟨rfl,rfl⟩,trivial⟩ ⟨⟨rfl,rfl⟩,trivial⟩ (.refl _)
theorem abL [Wd] (b:List UInt8) (e:Int):bC prog 79 [.ptr 0 0] (bz (b,e)) (fun r h=>r=.int .i64 (dA (b,e))/\h=bz (b,e)):=by
 refine ak 20 [] func79 ?_
 repeat' (conv=>arg 2;whnf);first|apply an<;>intro h|(refine mL (r:=.int .i64 _) (h':=bz (b,e)) [0] (.inr rfl) rfl rfl ⟨⟨rfl,rfl⟩,trivial⟩ ⟨⟨rfl,rfl⟩,trivial⟩ (Co.of_eq (congrArg (D.int .i64) ?_));unfold dA;cases b<;>simp_all;done)
theorem DD {most:Nat} {s:RS} {n:Nat} {t:RS} (h:cy most s=(n,t)) (ht:¬t.2=0) {u:RS} (hu:¬u.2=0) (hl:u.1.length<=s.1.length):au (nR most) s 0 u:=
 ⟨fun e=>absurd e hu,fun _=>by show ¬(cy most s).2.2=0;rw[h];exact ht,hl⟩
theorem abM {most:Nat} {s:RS} {n:Int} {t:RS} (h:cy most s=(n.toNat,t)) (hn:n=(n.toNat:Int)):au (nR most) s n t:=by
 have e:nR most s=(n,t):=by
  unfold nR
  rw[h,<-hn]
 refine⟨fun _=>e,fun k=>by rw[e];exact k,?_⟩
 have:=(dD most).len s
 rw[e] at this
 exact this
theorem adf {m q:Nat} {x:UInt8} (hm:m<128^q) (hq:q<=9) (h:q<9\/x.toNat<=1):IntKind.u64.wrap (((x.toNat%128:Nat):Int)*((128^q:Nat):Int))=((x.toNat%128*128^q:Nat):Int)/\IntKind.u64.wrap ((m:Int)+((x.toNat%128*128^q:Nat):Int))=((m+x.toNat%128*128^q:Nat):Int):=by
 have hb:m+x.toNat%128*128^q<18446744073709551616:=by
  rcases h with h|h
  ·have h1:=Kt hm (Nat.mod_lt x.toNat (show 0<128 by decide))
   have h2:128^(q+1)<=128^9:=Nat.pow_le_pow_right (by decide) (by omega)
   have h3:(128:Nat)^9=9223372036854775808:=by decide
   omega
  ·have h2:128^q<=128^9:=Nat.pow_le_pow_right (by decide) hq
   have h3:(128:Nat)^9=9223372036854775808:=by decide
   have h4:x.toNat%128*128^q<=1*128^q:=Nat.mul_le_mul_right _ (by omega)
   omega
 have hw:∀n:Nat,n<18446744073709551616->IntKind.u64.wrap (n:Int)=n:=fun n hn=>by simp[IntKind.wrap,IntKind.bits,IntKind.signed];omega
 refine⟨?_,?_⟩
 ·rw[<-Int.natCast_mul]
  exact hw _ (by omega)
 ·rw[<-Int.natCast_add]
  exact hw _ hb
theorem ZJ {most q m:Nat} {x:UInt8} {bs:List UInt8} (hx:bs[q]?=some x) (hI:eH most 0 0 bs=eH most q m (bs.drop q)) (h9:q=9/\1<x.toNat):cy most (bs,0)=(0,(bs,11)):=by
 have e:eH most 0 0 bs=(0,[],11):=by
  rw[hI,drop_at hx]
  exact IK h9.1 h9.2
 unfold cy
 rw[if_pos rfl]
 simp[e]
theorem mg [Wd] (most:Nat) (ahS:most<18446744073709551616):lX 80 [.int .u64 (most:Int)] (nR most) (fun n=>0<=n/\n<=most) (D.int .u64):=by
 intro bs e hs
 have Eo:(0:Int)<=0/\(0:Int)<=most:=⟨by omega,by omega⟩
 by_cases he:e=0
 ·subst he
  refine ak 87 [] func80 ?_
  repeat' (conv=>arg 2;whnf);first|refine aY ?_
  refine bE (α:=Nat×Int) (fun a=>⟨[(7,.int .i64 a.1),(6,.int .u64 ((128^a.1:Nat):Int)),(5,.int .u64 a.2),(1,.int .u64 (most:Int)),(0,.ptr 0 0)],bz (bs,0)⟩) (fun a=>a.1<=9/\yR most bs a.1 a.2) (fun a=>9-a.1) (0,0) ⟨Nat.zero_le _,⟨fun _=>⟨Nat.zero_le _,0,rfl,by decide,rfl⟩,fun h=>by cases h⟩⟩ (Sv.aK [0]) ?_
  rintro⟨q,A⟩ ⟨hq,hI⟩
  replace hq:q<=9:=hq
  replace hI:yR most bs q A:=hI
  obtain⟨hql,m,rfl,hm,ey⟩:=hI.go (by omega)
  have hlen:((bs.map af).length:Int)=(bs.length:Int):=by rw[List.length_map]
  rcases Nat.lt_or_ge q bs.length with hlt|dm
  ·obtain⟨x,hx⟩:∃x,bs[q]?=some x:=⟨_,List.getElem?_eq_getElem hlt⟩
   have cu:((q:Int)==((bs.map af).length:Int))=false:=by rw[hlen];simp;omega
   have Cw:(bs.map af)[(q:Int).toNat]?=some (af x):=by simp[hx]
   have nC:=x.toNat_lt
   by_cases h9:q=9/\1<x.toNat
   ·have g:=DD (ZJ hx ey h9) (show ¬(11:Int)=0 by decide) (u:=([],11)) (show ¬(11:Int)=0 by decide) (Nat.zero_le _)
    obtain⟨rfl,dh⟩:=h9
    repeat' (conv=>arg 2;whnf);first|refine bB cu ?_|refine bY (by simp;omega) ?_|refine eT (af x) (Int.natCast_nonneg _) Cw ?_|refine cV [0] (kF (k:=11) (by decide) bs) ?_|refine eG ?_|exact bf (r:=.int .u64 0) (h':=bz ([],11)) [0] (.inr rfl) rfl rfl ⟨⟨rfl,rfl⟩,trivial⟩ ⟨⟨rfl,rfl⟩,trivial⟩ (.refl _) ⟨0,[],11,g,Eo,rfl,rfl⟩
   ·obtain⟨w1,w2⟩:=adf (x:=x) hm hq (by omega)
    have w0:IntKind.u64.wrap ((x.toNat:Int).tmod 128)=((x.toNat%128:Nat):Int):=by rw[show(x.toNat:Int).tmod 128=((x.toNat%128:Nat):Int) from rfl];simp[IntKind.wrap,IntKind.bits,IntKind.signed];omega
    have hV:IntKind.u64.wrap ((m:Int)+IntKind.u64.wrap (IntKind.u64.wrap ((x.toNat:Int).tmod 128)*((128^q:Nat):Int)))=((m+x.toNat%128*128^q:Nat):Int):=by rw[w0,w1,w2]
    have hB:IntKind.u64.wrap (((128^q:Nat):Int)*128)=((128^(q+1):Nat):Int)\/x.toNat<128:=by
     rcases Nat.lt_or_ge x.toNat 128 with k|k
     ·exact .inr k
     ·left
      have h2:128^(q+1)<=128^9:=Nat.pow_le_pow_right (by decide) (by omega)
      have h3:(128:Nat)^9=9223372036854775808:=by decide
      have h4:128^(q+1)=128^q*128:=Nat.pow_succ ..
      rw[show((128^q:Nat):Int)*128=((128^(q+1):Nat):Int) by rw[h4,Int.natCast_mul];rfl]
      have hw:∀n:Nat,n<18446744073709551616->IntKind.u64.wrap (n:Int)=n:=fun n hn=>by simp[IntKind.wrap,IntKind.bits,IntKind.signed];omega
      exact hw _ (by omega)
    have Hv:¬x.toNat<128->yR most bs (q+1) ((m+x.toNat%128*128^q:Nat):Int):=fun k=>by
     constructor
     ·intro h9'
      refine⟨by omega,_,rfl,Kt hm (Nat.mod_lt _ (by decide)),?_⟩
      rw[ey,drop_at hx,IJ (by omega) (by omega)]
     ·intro kN
      omega
    have tJ:x.toNat<128->((0<q/\x.toNat=0)\/(most:Int)<((m+x.toNat%128*128^q:Nat):Int))->au (nR most) (bs,0) 0 ([],11):=fun k c=>DD (QB (A:=((m+x.toNat%128*128^q:Nat):Int)) hx ey (fun _=>rfl) hq (by omega) (c.elim .inl fun c=>.inr (.inr c))) (show ¬(11:Int)=0 by decide) (show ¬(11:Int)=0 by decide) (Nat.zero_le _)
    have Sb:x.toNat<128->¬(0<q/\x.toNat=0)->¬(most:Int)<((m+x.toNat%128*128^q:Nat):Int)->au (nR most) (bs,0) ((m+x.toNat%128*128^q:Nat):Int) (bs.drop (q+1),0):=fun k c d=>by
     have g:=Pr (A:=((m+x.toNat%128*128^q:Nat):Int)) hx ey (fun _=>rfl) hq (by omega) c h9 d
     exact abM g.1 g.2
    clear w1 w2 hI ey
    generalize m+x.toNat%128*128^q=V at hV Hv tJ Sb
    have Th:=hV
    simp[w0] at Th
    repeat' (conv=>arg 2;whnf);first|(exfalso;omega)|refine aT (by decide) ?_|refine aT ⟨by(try dsimp only);omega,by(try dsimp only);rw[hlen];omega,by simp⟩ ?_|refine bB cu ?_|(apply an<;>intro h<;>(try simp[w0,Th] at h))|refine eT (af x) (Int.natCast_nonneg _) Cw ?_|refine bZ (by(try dsimp only);omega) ?_|refine cV [0] (kF (k:=11) (by decide) bs) ?_|refine eG ?_|exact bf (r:=.int .u64 0) (h':=bz ([],11)) [0] (.inr rfl) rfl rfl ⟨⟨rfl,rfl⟩,trivial⟩ ⟨⟨rfl,rfl⟩,trivial⟩ (.refl _) ⟨0,[],11,tJ (by omega) (by omega),Eo,rfl,rfl⟩|exact bf (r:=.int .u64 (V:Int)) (h':=bz (bs.drop (q+1),0)) [0] (.inr rfl) rfl rfl ⟨⟨rfl,by show AO.cells _ [.list 1 _,_]=AO.cells _ [.list 1 _,_];rw[from_];rfl⟩,trivial⟩ ⟨⟨rfl,rfl⟩,trivial⟩ (Co.of_eq (congrArg (D.int .u64) hV)) ⟨V,_,_,Sb (by omega) (by omega) (by omega),⟨by omega,by omega⟩,rfl,rfl⟩|refine aZ (q+1,(V:Int)) (Sv.mk' [0] rfl ⟨⟨rfl,rfl⟩,trivial⟩ ⟨rfl,congrArg (D.int .u64) (hB.resolve_right (by omega)),congrArg (D.int .u64) hV,rfl,rfl,trivial⟩) ⟨by show q+1<=9;omega,Hv (by omega)⟩ (by show 9-(q+1)<9-q;omega)
  ·have g:=QC ey dm
   repeat' (conv=>arg 2;whnf);first|refine bY (by simp;omega) ?_|refine cV [0] (kF (k:=10) (by decide) bs) ?_|refine eG ?_|exact bf (r:=.int .u64 0) (h':=bz ([],10)) [0] (.inr rfl) rfl rfl ⟨⟨rfl,rfl⟩,trivial⟩ ⟨⟨rfl,rfl⟩,trivial⟩ (.refl _) ⟨0,[],10,DD g (show ¬(10:Int)=0 by decide) (show ¬(10:Int)=0 by decide) (Nat.zero_le _),Eo,rfl,rfl⟩
 ·have g:=DD (most:=most) (Bl most (bs,e) he) he (u:=([],e)) he (Nat.zero_le _)
  refine ak 87 [] func80 ?_
  repeat' (conv=>arg 2;whnf);first|refine aY ?_
  refine bE (α:=Unit) (fun _=>⟨[(7,.int .i64 0),(6,.int .u64 1),(5,.int .u64 0),(1,.int .u64 (most:Int)),(0,.ptr 0 0)],bz (bs,e)⟩) (fun _=>True) (fun _=>0) () trivial (Sv.aK [0]) ?_
  rintro _ _
  repeat' (conv=>arg 2;whnf);first|refine bY (by simpa using he) ?_|apply an<;>intro h|refine cV [0] (JA he 10 bs) ?_|refine eG ?_|exact bf (r:=.int .u64 0) (h':=bz ([],e)) [0] (.inr rfl) rfl rfl ⟨⟨rfl,rfl⟩,trivial⟩ ⟨⟨rfl,rfl⟩,trivial⟩ (.refl _) ⟨0,[],e,g,Eo,rfl,rfl⟩|exact bf (r:=.int .u64 0) (h':=bz (bs,e)) [0] (.inr rfl) rfl rfl ⟨⟨rfl,rfl⟩,trivial⟩ ⟨⟨rfl,rfl⟩,trivial⟩ (.refl _) ⟨0,bs,e,DD (Bl most (bs,e) he) he he (Nat.le_refl _),Eo,rfl,rfl⟩
theorem eg [Wd] {P:Program} {tb:TT} {rs:List ResultVar} {e:Exit} {s:S} {h:List AO} {r:D} {h':List AO} {ds:List D} {cZ:D->List AO->Prop} (fz σ:List Nat) (he:e=.normal\/e=.ret) (hr:iD tb (s.dj fz) rs=some ds) (hn:nodupB σ=true) (hv:jF (s.dj fz).h σ σ h') (hk:tg 0 h σ h') (iw:Co (lI ds) (r.bO σ)) (hp:cZ r h'):(T.leaf e s).ok P (Lf tb rs h cZ):=
 ⟨he,fz,ds,hr,σ,r,_,h',.mk' hn hv,iw,rfl,fun o t cs ho=>Bv hk o t cs ho |>.imp (fun k=>by simpa using k) (fun k=>by simpa using k),hp⟩
theorem ahJ [Wd] {P:Program} {tb:TT} {rs:List ResultVar} {s:S} {h:List AO} {r:D} {h':List AO} {ds:List D} {cZ:D->List AO->Prop} (fz σ:List Nat) (hr:iD tb (s.dj fz) rs=some ds) (iw:Co (lI ds) (r.bO σ)) (hp:cZ r h') (hn:nodupB σ=true:=by exact rfl) (hv:xO (s.dj fz).h σ=xP σ h':=by exact rfl) (hk:tg 0 h σ h':=by repeat' (first|exact trivial|exact rfl|apply And.intro)):(T.leaf .ret s).ok P (Lf tb rs h cZ):=eg fz σ (.inr rfl) hr hn (Dz hv) hk iw hp
theorem Fq {n:Int} {s:RS} {t:RS} (h:fR n s=([],t)) (ht:¬t.2=0) {u:RS} (hu:¬u.2=0) (hl:u.1.length<=s.1.length):au (fR n) s [] u:=
 ⟨fun e=>absurd e hu,fun _=>by rw[h];exact ht,hl⟩
theorem abN [Wd] (n:Int) (hn:-9223372036854775808<=n/\n<=9223372036854775807):lX 179 [.int .i64 n] (fR n) (fun x=>(x.length:Int)<=n\/x=[]) (fun x=>.list 1 (x.map af)):=by
 intro bs e hs
 have hlen:((bs.map af).length:Int)=(bs.length:Int):=by rw[List.length_map]
 by_cases he:e=0
 ·subst he
  by_cases h0:n<0
  ·have g:fR n (bs,0)=([],(bs,1)):=by unfold fR;rw[if_pos rfl,if_pos h0]
   refine ak 49 [] func179 ?_
   repeat' (conv=>arg 2;whnf);first|refine bY (by simpa using h0) ?_|refine cV [0] (kF (k:=1) (by decide) bs) ?_|exact bf (r:=.list 1 []) (h':=bz ([],1)) [0] (.inr rfl) rfl rfl ⟨⟨rfl,rfl⟩,trivial⟩ ⟨⟨rfl,rfl⟩,trivial⟩ (.nil _) ⟨[],[],1,Fq g (show ¬(1:Int)=0 by decide) (show ¬(1:Int)=0 by decide) (Nat.zero_le _),.inr rfl,rfl,rfl⟩
  ·by_cases h1:(bs.length:Int)<n
   ·have g:fR n (bs,0)=([],(bs,10)):=by unfold fR;rw[if_pos rfl,if_neg h0,if_pos h1]
    refine ak 49 [] func179 ?_
    repeat' (conv=>arg 2;whnf);first|refine bB (by simpa using h0) ?_|refine bY (by simp;omega) ?_|refine cV [0] (kF (k:=10) (by decide) bs) ?_|exact bf (r:=.list 1 []) (h':=bz ([],10)) [0] (.inr rfl) rfl rfl ⟨⟨rfl,rfl⟩,trivial⟩ ⟨⟨rfl,rfl⟩,trivial⟩ (.nil _) ⟨[],[],10,Fq g (show ¬(10:Int)=0 by decide) (show ¬(10:Int)=0 by decide) (Nat.zero_le _),.inr rfl,rfl,rfl⟩
   ·have g:fR n (bs,0)=(bs.take n.toNat,(bs.drop n.toNat,0)):=by unfold fR;rw[if_pos rfl,if_neg h0,if_neg h1]
    have t1:((bs.map af).drop (0:Int).toNat).take (n.toNat-(0:Int).toNat)=(bs.take n.toNat).map af:=by simp[List.map_take]
    have t2:((bs.map af).drop n.toNat).take ((((bs.map af).length:Nat):Int).toNat-n.toNat)=(bs.drop n.toNat).map af:=by
     rw[List.take_of_length_le (by simp),List.map_drop]
    refine ak 49 [] func179 ?_
    repeat' (conv=>arg 2;whnf);first|refine aT ⟨by omega,by rw[hlen];omega,by simp⟩ ?_|refine aT ⟨by omega,by omega,by rw[hlen];omega⟩ ?_|refine aT ⟨by simp[maxLen];omega,by simp;omega⟩ ?_|refine bB (by simpa using h0) ?_|refine bB (by simp;omega) ?_|exact eg (r:=.list 1 ((bs.take n.toNat).map af)) (h':=bz (bs.drop n.toNat,0)) [1] [0] (.inr rfl) rfl rfl ⟨⟨rfl,by show AO.cells _ [.list 1 _,_]=AO.cells _ [.list 1 _,_];rw[t2];rfl⟩,trivial⟩ ⟨⟨rfl,rfl⟩,trivial⟩ (Co.of_eq (congrArg (D.list 1) t1)) ⟨_,_,_,⟨fun _=>g,fun k=>absurd rfl k,by simp⟩,.inl (by rw[List.length_take];omega),rfl,rfl⟩
 ·have g:fR n (bs,e)=([],(bs,e)):=by unfold fR;rw[if_neg he]
  refine ak 49 [] func179 ?_
  repeat' (conv=>arg 2;whnf);first|refine bB (by simpa using he) ?_|refine bY (by simpa using he) ?_|apply an<;>intro h|refine cV [0] (JA he 1 bs) ?_|exact bf (r:=.list 1 []) (h':=bz ([],e)) [0] (.inr rfl) rfl rfl ⟨⟨rfl,rfl⟩,trivial⟩ ⟨⟨rfl,rfl⟩,trivial⟩ (.nil _) ⟨[],[],e,Fq g he he (Nat.zero_le _),.inr rfl,rfl,rfl⟩|exact bf (r:=.list 1 []) (h':=bz (bs,e)) [0] (.inr rfl) rfl rfl ⟨⟨rfl,rfl⟩,trivial⟩ ⟨⟨rfl,rfl⟩,trivial⟩ (.nil _) ⟨[],bs,e,Fq g he he (Nat.le_refl _),.inr rfl,rfl,rfl⟩
theorem J9 [Wd]:gz 119 (.ptr 0 0) [] (fun s=>.agg (cC (eF s).1)) (fun s=>(eF s).2):=by
 rintro⟨b,e⟩ hs
 replace hs:b.length<=8388609:=hs
 obtain⟨k,b0,e0,q,l⟩:=Rd1.get (dD 4) (b,e)
 replace l:b0.length<=b.length:=l
 have h0:b0.length<=8388609:=by omega
 have hk:=qN q
 have:k=0\/k=1\/k=2\/k=3\/k=4:=by omega
 rcases this with rfl|rfl|rfl|rfl|rfl
 ·exact aaB b e hs q h0
 ·exact aaC b e hs q h0
 ·exact aaF b e hs q h0
 ·exact aaD b e hs q h0
 ·exact aaE b e hs q h0
theorem U0 [Wd]:gz 230 (.ptr 0 0) [] (fun s=>.agg (wV (rz s).1)) (fun s=>(rz s).2):=by
 rintro⟨b,e⟩ hs
 replace hs:b.length<=8388609:=hs
 obtain⟨x,b0,e0,q0,l0⟩:=Rd1.get (dD 65536) (b,e)
 replace l0:b0.length<=b.length:=l0
 have h0:b0.length<=8388609:=by omega
 obtain⟨y,b1,e1,q1,l1⟩:=Rd1.get (dD MX) (b0,e0)
 replace l1:b1.length<=b0.length:=l1
 have h1:b1.length<=8388609:=by omega
 have n0:=qN q0
 have n1:=qN q1
 rw[yK] at n1
 have eR:rz (b,e)=if e1=0 then(⟨x,y⟩,(b1,e1)) else(me,(b1,e1)):=by unfold rz jR bN bg cN;simp only[q0,q1]
 have gY:e1=0->rz (b,e)=(⟨x,y⟩,(b1,e1)):=fun h=>by rw[eR,if_pos h]
 have gN:¬e1=0->rz (b,e)=(me,(b1,e1)):=fun h=>by rw[eR,if_neg h]
 refine ak 17 [] func230 ?_
 repeat' (conv=>arg 2;whnf);first|refine rJ (fun h=>?_) (fun h=>?_)|refine gJ ?_|refine aX 0 (fun x=>D.int .u64 x) q0 (gF 65536) hs ?_|refine aX 0 (fun x=>D.int .u64 x) q1 (gF MX) h0 ?_|refine cE 0 (b1,e1) (b1,e1) (.int .i64 e1) fY h1 rfl rfl ?_|refine cU (k:=fun x=>D.agg (wV x)) rfl (gY h) (.refl _)|refine cU (k:=fun x=>D.agg (wV x)) rfl (gN h) (.refl _)
theorem aaG [Wd] (bs:List UInt8) (hl:bs.length<=8388609):aq prog 314 [.list 1 (bs.map af)] (.aj [.agg (sw (jm bs).1),.int .i64 (jm bs).2]):=by
 obtain⟨b,hb⟩:∃b,b=bs:=⟨_,rfl⟩
 obtain⟨e,he⟩:∃e:Int,e=0:=⟨_,rfl⟩
 have hs:b.length<=8388609:=by rw[hb];exact hl
 obtain⟨c,b0,e0,q0,l0⟩:=Rd1.get (dD 7) (b,e)
 replace l0:b0.length<=b.length:=l0
 have h0:b0.length<=8388609:=by omega
 obtain⟨t,b1,e1,q1,l1⟩:=Rd1.get (dD MX) (b0,e0)
 replace l1:b1.length<=b0.length:=l1
 have h1:b1.length<=8388609:=by omega
 obtain⟨o,b2,e2,q2,l2⟩:=Rd1.get DE (b1,e1)
 replace l2:b2.length<=b1.length:=l2
 have h2:b2.length<=8388609:=by omega
 subst hb he
 have n0:=qN q0
 have n1:=qN q1
 rw[yK] at n1
 obtain⟨d,hd⟩:∃d,d=dA (b2,e2):=⟨_,rfl⟩
 have eR:jm b=if d=0 then(if t=0 then(wu,80) else(⟨c,t,o⟩,0)) else(wu,d):=by unfold jm vL bN bg cN;simp only[q0,q1,q2,<-hd]
 have gD:¬d=0->jm b=(wu,d):=fun h=>by rw[eR,if_neg h]
 have gT:d=0->t=0->jm b=(wu,80):=fun h k=>by rw[eR,if_pos h,if_pos k]
 have gY:d=0->¬t=0->jm b=(⟨c,t,o⟩,0):=fun h k=>by rw[eR,if_pos h,if_neg k]
 refine ak 31 [] func314 ?_
 repeat' (conv=>arg 2;whnf);first|refine rJ (fun h=>?_) (fun h=>?_)|refine xx (fun k=>?_) (fun k=>?_)|refine gJ ?_|refine aX 1 (fun x=>D.int .u64 x) q0 (gF 7) hs ?_|refine aX 1 (fun x=>D.int .u64 x) q1 (gF MX) h0 ?_|refine aX 1 (fun x=>D.agg (cC x)) q2 J9 h1 ?_|refine cV [] (zC b (by omega)) ?_|refine cE 1 (b2,e2) (b2,e2) (.int .i64 d) Bt h2 rfl (by rw[hd]) ?_|(rw[gY h k];refine cg)|(rw[gT h k];refine qB (.inr rfl) rfl (aa.oO (aa.cons (aa.eU (aa.cons (.refl _) (aa.cons (.refl _) (aa.cons (.refl _) (aa.cons (.refl _) (aa.cons (.refl _) (aa.cons (.refl _) (aa.cons (.nil _) .nil)))))))) (aa.cons (.refl _) .nil))) rfl)|(rw[gD h];refine qB (.inr rfl) rfl (aa.oO (aa.cons (aa.eU (aa.cons (.refl _) (aa.cons (.refl _) (aa.cons (.refl _) (aa.cons (.refl _) (aa.cons (.refl _) (aa.cons (.refl _) (aa.cons (.nil _) .nil)))))))) (aa.cons (.refl _) .nil))) rfl)
theorem wG [Wd] {α:Type} {Q:Exit->S->Prop} {f:FuncId} {ar bR:List D} {p:RS->α×RS} {ok:α->Prop} {R:α->D} {hb:List AO} {c:D->List AO->T} (o:Nat) (hF:lX f ar p ok R) (b:List UInt8) (e:Int) (hl:b.length<=8388609) (hv:jF hb [o] [o] (bz (b,e))) (hc:aa bR (D.bO.rl [o] (.ptr 0 0::ar))) (hM:([o].all fun o=>(jT hb bR).elem o)=true) (k:∀x b' e',au p (b,e) x (b',e')->ok x->b'.length<=b.length->(c ((R x).bO (mz hb [o] (bz (b,e)) (bz (b',e')))) (lK hb [o] (bz (b,e)) (bz (b',e')))).ok prog Q):(T.call f bR hb c).ok prog Q:=
 KW [o] (hF b e hl) (.mk' rfl hv) hc hM fun r h' ⟨x,b',e',hA,ho,e1,e2⟩=>by subst e1 e2;exact k x b' e' hA ho hA.len
theorem aW [Wd] {α:Type} {Q:Exit->S->Prop} {f:FuncId} {ar bR:List D} {p:RS->α×RS} {ok:α->Prop} {R:α->D} {hb:List AO} {c:D->List AO->T} (o:Nat) (hF:lX f ar p ok R) (b:List UInt8) (e:Int) (hl:b.length<=8388609) (k:∀x b' e',au p (b,e) x (b',e')->ok x->b'.length<=b.length->(c ((R x).bO (mz hb [o] (bz (b,e)) (bz (b',e')))) (lK hb [o] (bz (b,e)) (bz (b',e')))).ok prog Q) (hv:jF hb [o] [o] (bz (b,e)):=by exact⟨⟨rfl,rfl⟩,trivial⟩) (hc:aa bR (D.bO.rl [o] (.ptr 0 0::ar)):=by exact aa.refl _) (hM:([o].all fun o=>(jT hb bR).elem o)=true:=by exact rfl):(T.call f bR hb c).ok prog Q:=
 wG o hF b e hl hv hc hM k
theorem VQ (most:Nat):fB most=bN Prod.snd (cN (nR most) fR):=rfl
theorem afn (m:Nat):(if((m:Nat):Int)<0 then(0:Int) else(m:Int))=m:=if_neg (by omega)
theorem abO {n:Nat} (h:n<18446744073709551616):IntKind.u64.wrap (n:Int)=n:=by simp[IntKind.wrap,IntKind.bits,IntKind.signed];omega
theorem bM {n m:Int} (h:0<=n/\n<=m) (hm:m<=9223372036854775807):dI.ok n:=⟨show(-9223372036854775808:Int)<=n by omega,show n<=9223372036854775807 by omega⟩
theorem i64_in {n:Int} {m:Nat} (h:0<=n/\n<=m) (hm:m<=9223372036854775807):IntKind.i64.wrap n=n:=cj (by omega) (by omega)
theorem sD [Wd] (most:Nat) (hm:most<=4194304):lX 124 [.int .i64 (most:Int)] (fB most) (fun x=>x.length<=most) (fun x=>.list 1 (x.map af)):=by
 intro b0 e0 h0
 refine ak 15 [] func124 ?_
 repeat' (conv=>arg 2;whnf);first|refine lD ?_
 conv=>arg 2;whnf
 refine wG 0 (mg most (by omega)) b0 e0 h0 ⟨⟨rfl,rfl⟩,trivial⟩ (GZ (by rw[afn,abO (by omega)];rfl)) rfl fun x1 b1 e1 a1 o1 l1=>?_
 have h1:b1.length<=8388609:=by omega
 repeat' (conv=>arg 2;whnf);first|refine bw (i64_in o1 (by omega)) ?_
 conv=>arg 2;whnf
 refine aW 0 (abN x1 (by omega)) b1 e1 h1 fun x2 b2 e2 a2 o2 l2=>?_
 have h2:b2.length<=8388609:=by omega
 have hx:x2.length<=most:=by
  rcases o2 with k|k
  ·omega
  ·simp[k]
 repeat' (conv=>arg 2;whnf);first|exact bf (r:=.list 1 (x2.map af)) (h':=bz (b2,e2)) [0] (.inr rfl) rfl rfl ⟨⟨rfl,rfl⟩,trivial⟩ ⟨⟨rfl,rfl⟩,trivial⟩ (.refl _) ⟨x2,_,_,(by rw[VQ];exact(a1.bind a2 JB).map Prod.snd),hx,rfl,rfl⟩
theorem gO [Wd] (least:Int):lX 184 [.int .i64 least] (bF least) (fun n=>0<=n/\n<=9007199254740992) (D.int .i64):=by
 intro b0 e0 h0
 have hM:((MX:Nat):Int)=9007199254740992:=rfl
 refine ak 27 [] func184 ?_
 repeat' (conv=>arg 2;whnf);first|refine aY ?_|refine aV ?_ ?_
 conv=>arg 2;whnf
 refine aW 0 (mg MX (by decide)) b0 e0 h0 fun x1 b1 e1 a1 o1 l1=>?_
 have h1:b1.length<=8388609:=by omega
 rw[hM] at o1
 have z0:(0:Int)<=0/\(0:Int)<=9007199254740992:=by omega
 rw[JC]
 by_cases he:e1=0
 ·subst he
  by_cases hx:x1<least
  ·repeat' (conv=>arg 2;whnf);first|refine gJ ?_|refine bY (by simpa using hx) ?_|refine cV [0] (kF (k:=100) (by decide) b1) ?_|exact bf (r:=.int .i64 0) (h':=bz ([],100)) [0] (.inr rfl) rfl rfl ⟨⟨rfl,rfl⟩,trivial⟩ ⟨⟨rfl,rfl⟩,trivial⟩ (.refl _) ⟨0,_,_,((a1.nM (y:=0) (u:=([],100)) (fun _=>by rw[if_pos hx];decide) (show ¬(100:Int)=0 by decide) (Nat.zero_le _)).zero (fun _=>rfl)),z0,rfl,rfl⟩
  ·repeat' (conv=>arg 2;whnf);first|refine gJ ?_|refine bB (by simpa using hx) ?_|exact bf (r:=.int .i64 x1) (h':=bz (b1,0)) [0] (.inr rfl) rfl rfl ⟨⟨rfl,rfl⟩,trivial⟩ ⟨⟨rfl,rfl⟩,trivial⟩ (.refl _) ⟨x1,_,_,((a1.gQ (fun _=>if_neg hx)).zero (fun _=>rfl)),o1,rfl,rfl⟩
 ·repeat' (conv=>arg 2;whnf);first|refine gJ ?_|refine bB (by simpa using he) ?_|refine bY (by simpa using he) ?_|exact bf (r:=.int .i64 0) (h':=bz (b1,e1)) [0] (.inr rfl) rfl rfl ⟨⟨rfl,rfl⟩,trivial⟩ ⟨⟨rfl,rfl⟩,trivial⟩ (.refl _) ⟨0,_,_,((a1.gQ (fun e=>absurd e he)).zero (fun e=>absurd e he)),z0,rfl,rfl⟩
theorem nK [Wd] (most:Int) (hm:0<=most):lX 248 [.int .i64 most] (ia most) (fun n=>0<=n/\n<=most) (D.int .i64):=by
 intro b0 e0 h0
 refine ak 26 [] func248 ?_
 repeat' (conv=>arg 2;whnf);first|refine aY ?_|refine aV ?_ ?_
 conv=>arg 2;whnf
 refine aW 0 (gO 0) b0 e0 h0 fun x1 b1 e1 a1 o1 l1=>?_
 have h1:b1.length<=8388609:=by omega
 have z0:(0:Int)<=0/\(0:Int)<=most:=by omega
 rw[JD]
 by_cases he:e1=0
 ·subst he
  by_cases hx:x1<=most
  ·repeat' (conv=>arg 2;whnf);first|refine bB (by simpa using hx) ?_|exact bf (r:=.int .i64 x1) (h':=bz (b1,0)) [0] (.inr rfl) rfl rfl ⟨⟨rfl,rfl⟩,trivial⟩ ⟨⟨rfl,rfl⟩,trivial⟩ (.refl _) ⟨x1,_,_,((a1.gQ (f:=fun n=>if n<=most then 0 else 100) (fun _=>if_pos hx)).zero (fun _=>rfl)),⟨o1.1,hx⟩,rfl,rfl⟩
  ·repeat' (conv=>arg 2;whnf);first|refine bY (by simpa using hx) ?_|refine cV [0] (kF (k:=100) (by decide) b1) ?_|exact bf (r:=.int .i64 0) (h':=bz ([],100)) [0] (.inr rfl) rfl rfl ⟨⟨rfl,rfl⟩,trivial⟩ ⟨⟨rfl,rfl⟩,trivial⟩ (.refl _) ⟨0,_,_,((a1.nM (y:=0) (u:=([],100)) (fun _=>by rw[if_neg hx];decide) (show ¬(100:Int)=0 by decide) (Nat.zero_le _)).zero (fun _=>rfl)),z0,rfl,rfl⟩
 ·repeat' (conv=>arg 2;whnf);first|refine bB (by simpa using he) ?_|refine bY (by simpa using he) ?_|exact bf (r:=.int .i64 0) (h':=bz (b1,e1)) [0] (.inr rfl) rfl rfl ⟨⟨rfl,rfl⟩,trivial⟩ ⟨⟨rfl,rfl⟩,trivial⟩ (.refl _) ⟨0,_,_,((a1.gQ (fun e=>absurd e he)).zero (fun e=>absurd e he)),z0,rfl,rfl⟩
theorem kE [Wd]:lX 182 [] cO iO.ok (fun s=>.agg (bL s)):=by
 intro b0 e0 h0
 refine ak 30 [] func182 ?_
 repeat' (conv=>arg 2;whnf);first|refine aY ?_|refine aV ?_ ?_
 conv=>arg 2;whnf
 refine aW 0 (mg 20 (by decide)) b0 e0 h0 fun x1 b1 e1 a1 o1 l1=>?_
 have h1:b1.length<=8388609:=by omega
 repeat' (conv=>arg 2;whnf);first|refine bw (i64_in o1 (by decide)) ?_
 conv=>arg 2;whnf
 refine aW 0 (mg MX (by decide)) b1 e1 h1 fun x2 b2 e2 a2 o2 l2=>?_
 have h2:b2.length<=8388609:=by omega
 have hM:((MX:Nat):Int)=9007199254740992:=rfl
 rw[hM] at o2
 have d1:iO.ok ⟨x1,x2⟩:=⟨bM o1 (by decide),bM o2 (by decide)⟩
 have g:=(a1.pair a2 (dD _)).map (fun z=>(⟨z.1,z.2⟩:bJ))
 rw[FN]
 by_cases he:e2=0
 ·subst he
  by_cases hx:x2=0
  ·subst hx
   repeat' (conv=>arg 2;whnf);first|refine gJ ?_|refine cV [0] (kF (k:=81) (by decide) b2) ?_|exact bf (r:=.agg (bL dx)) (h':=bz ([],81)) [0] (.inr rfl) rfl rfl ⟨⟨rfl,rfl⟩,trivial⟩ ⟨⟨rfl,rfl⟩,trivial⟩ (.refl _) ⟨dx,_,_,((g.nM (y:=dx) (u:=([],81)) (fun _=>show ¬(if(0:Int)=0 then(81:Int) else 0)=0 by decide) (show ¬(81:Int)=0 by decide) (Nat.zero_le _)).zero (fun _=>rfl)),F2,rfl,rfl⟩
  ·repeat' (conv=>arg 2;whnf);first|refine gJ ?_|refine bB (by simpa using hx) ?_|exact bf (r:=.agg (bL ⟨x1,x2⟩)) (h':=bz (b2,0)) [0] (.inr rfl) rfl rfl ⟨⟨rfl,rfl⟩,trivial⟩ ⟨⟨rfl,rfl⟩,trivial⟩ (.refl _) ⟨⟨x1,x2⟩,_,_,((g.gQ (fun _=>if_neg hx)).zero (fun _=>rfl)),d1,rfl,rfl⟩
 ·repeat' (conv=>arg 2;whnf);first|refine gJ ?_|refine bB (by simpa using he) ?_|refine bY (by simpa using he) ?_|exact bf (r:=.agg (bL dx)) (h':=bz (b2,e2)) [0] (.inr rfl) rfl rfl ⟨⟨rfl,rfl⟩,trivial⟩ ⟨⟨rfl,rfl⟩,trivial⟩ (.refl _) ⟨dx,_,_,((g.gQ (fun e=>absurd e he)).zero (fun e=>absurd e he)),F2,rfl,rfl⟩
theorem US [Wd]:lX 185 [] rz mZ.ok (fun s=>.agg (wV s)):=by
 intro b0 e0 h0
 refine ak 18 [] func185 ?_
 repeat' (conv=>arg 2;whnf);first|refine aY ?_|refine aV ?_ ?_
 conv=>arg 2;whnf
 refine aW 0 (mg 65536 (by decide)) b0 e0 h0 fun x1 b1 e1 a1 o1 l1=>?_
 have h1:b1.length<=8388609:=by omega
 repeat' (conv=>arg 2;whnf);first|refine bw (i64_in o1 (by decide)) ?_
 conv=>arg 2;whnf
 refine aW 0 (mg MX (by decide)) b1 e1 h1 fun x2 b2 e2 a2 o2 l2=>?_
 have h2:b2.length<=8388609:=by omega
 have hM:((MX:Nat):Int)=9007199254740992:=rfl
 rw[hM] at o2
 have d1:mZ.ok ⟨x1,x2⟩:=⟨bM o1 (by decide),bM o2 (by decide)⟩
 have g:=(a1.pair a2 (dD _)).map (fun z=>(⟨z.1,z.2⟩:nH))
 unfold rz
 by_cases he:e2=0
 ·subst he
  repeat' (conv=>arg 2;whnf);first|refine gJ ?_|exact bf (r:=.agg (wV ⟨x1,x2⟩)) (h':=bz (b2,0)) [0] (.inr rfl) rfl rfl ⟨⟨rfl,rfl⟩,trivial⟩ ⟨⟨rfl,rfl⟩,trivial⟩ (.refl _) ⟨⟨x1,x2⟩,_,_,(g.zero (fun _=>rfl)),d1,rfl,rfl⟩
 ·repeat' (conv=>arg 2;whnf);first|refine gJ ?_|refine bY (by simpa using he) ?_|exact bf (r:=.agg (wV me)) (h':=bz (b2,e2)) [0] (.inr rfl) rfl rfl ⟨⟨rfl,rfl⟩,trivial⟩ ⟨⟨rfl,rfl⟩,trivial⟩ (.refl _) ⟨me,_,_,(g.zero (fun e=>absurd e he)),rE,rfl,rfl⟩
theorem QL [Wd]:lX 189 [] nS (fun x=>x.length<=64) D.str:=by
 intro b0 e0 h0
 refine ak 20 [] func189 ?_
 repeat' (conv=>arg 2;whnf);first|refine aY ?_|refine aV ?_ ?_
 conv=>arg 2;whnf
 refine aW 0 (sD 64 (by decide)) b0 e0 h0 fun x1 b1 e1 a1 o1 l1=>?_
 have h1:b1.length<=8388609:=by omega
 have hn:=FZ x1 (by omega)
 unfold nS
 by_cases he:e1=0
 ·subst he
  cases hx:jg x1
  ·rw[hx] at hn
   repeat' (conv=>arg 2;whnf);first|refine j8 x1 rfl ?_|refine aT (by omega) ?_|refine okF hn ?_|refine cV [0] (kF (k:=61) (by decide) b1) ?_|exact bf (r:=.str x1) (h':=bz ([],61)) [0] (.inr rfl) rfl rfl ⟨⟨rfl,rfl⟩,trivial⟩ ⟨⟨rfl,rfl⟩,trivial⟩ (.refl _) ⟨x1,_,_,(a1.nM (u:=([],61)) (fun _=>by unfold mh;rw[hx];decide) (show ¬(61:Int)=0 by decide) (Nat.zero_le _)),o1,rfl,rfl⟩
  ·rw[hx] at hn
   repeat' (conv=>arg 2;whnf);first|refine j8 x1 rfl ?_|refine aT (by omega) ?_|refine okF hn ?_|exact bf (r:=.str x1) (h':=bz (b1,0)) [0] (.inr rfl) rfl rfl ⟨⟨rfl,rfl⟩,trivial⟩ ⟨⟨rfl,rfl⟩,trivial⟩ (.refl _) ⟨x1,_,_,(a1.gQ (fun _=>by unfold mh;rw[hx];rfl)),o1,rfl,rfl⟩
 ·repeat' (conv=>arg 2;whnf);first|refine j8 x1 rfl ?_|refine aT (by omega) ?_|refine bB (by simpa using he) ?_|exact bf (r:=.str x1) (h':=bz (b1,e1)) [0] (.inr rfl) rfl rfl ⟨⟨rfl,rfl⟩,trivial⟩ ⟨⟨rfl,rfl⟩,trivial⟩ (.refl _) ⟨x1,_,_,(a1.gQ (fun e=>absurd e he)),o1,rfl,rfl⟩
theorem zw [Wd]:lX 183 [] (nR 12) (fun n=>0<=n/\n<=12) (D.int .i64):=by
 intro b0 e0 h0
 refine ak 6 [] func183 ?_
 repeat' (conv=>arg 2;whnf);first|refine aY ?_|refine aV ?_ ?_
 conv=>arg 2;whnf
 refine aW 0 (mg 12 (by decide)) b0 e0 h0 fun x1 b1 e1 a1 o1 l1=>?_
 have h1:b1.length<=8388609:=by omega
 repeat' (conv=>arg 2;whnf);first|refine bw (i64_in o1 (by decide)) ?_|exact bf (r:=.int .i64 x1) (h':=bz (b1,e1)) [0] (.inr rfl) rfl rfl ⟨⟨rfl,rfl⟩,trivial⟩ ⟨⟨rfl,rfl⟩,trivial⟩ (.refl _) ⟨x1,_,_,a1,o1,rfl,rfl⟩
theorem OH [Wd]:lX 250 [] jA yq.ok (fun x=>.agg (eO x)):=by
 intro b0 e0 h0
 refine ak 20 [] func250 ?_
 repeat' (conv=>arg 2;whnf);first|refine aY ?_|refine aV ?_ ?_
 conv=>arg 2;whnf
 refine aW 0 (gO 1) b0 e0 h0 fun x1 b1 e1 a1 o1 l1=>?_
 have h1:b1.length<=8388609:=by omega
 repeat' (conv=>arg 2;whnf);first|refine aY ?_|refine aV ?_ ?_
 conv=>arg 2;whnf
 refine aW 0 (gO 0) b1 e1 h1 fun x2 b2 e2 a2 o2 l2=>?_
 have h2:b2.length<=8388609:=by omega
 repeat' (conv=>arg 2;whnf);first|refine aY ?_|refine aV ?_ ?_
 conv=>arg 2;whnf
 refine aW 0 (gO 0) b2 e2 h2 fun x3 b3 e3 a3 o3 l3=>?_
 have h3:b3.length<=8388609:=by omega
 repeat' (conv=>arg 2;whnf);first|refine aY ?_|refine aV ?_ ?_
 conv=>arg 2;whnf
 refine aW 0 (gO 0) b3 e3 h3 fun x4 b4 e4 a4 o4 l4=>?_
 have h4:b4.length<=8388609:=by omega
 repeat' (conv=>arg 2;whnf);first|refine aY ?_|refine aV ?_ ?_
 conv=>arg 2;whnf
 refine aW 0 (gO 0) b4 e4 h4 fun x5 b5 e5 a5 o5 l5=>?_
 have h5:b5.length<=8388609:=by omega
 have d1:yq.ok ⟨x1,x2,x3,x4,x5⟩:=⟨bM o1 (by decide),bM o2 (by decide),bM o3 (by decide),bM o4 (by decide),bM o5 (by decide)⟩
 repeat' (conv=>arg 2;whnf);first|exact bf (r:=.agg (eO ⟨x1,x2,x3,x4,x5⟩)) (h':=bz (b5,e5)) [0] (.inr rfl) rfl rfl ⟨⟨rfl,rfl⟩,trivial⟩ ⟨⟨rfl,rfl⟩,trivial⟩ (.refl _) ⟨⟨x1,x2,x3,x4,x5⟩,_,_,((a1.pair (a2.pair (a3.pair (a4.pair a5 (bV _)) ((bV _).pair (bV _))) ((bV _).pair ((bV _).pair (bV _)))) ((bV _).pair ((bV _).pair ((bV _).pair (bV _))))).map _),d1,rfl,rfl⟩
theorem J8 [Wd] (m:aD):lX 181 [.agg (aC m)] qF (fun z=>(0<=z.1/\z.1<=12)/\(0<=z.2.1/\z.2.1<=9007199254740992)/\(0<=z.2.2.1/\z.2.2.1<=9007199254740992)/\(0<=z.2.2.2/\z.2.2.2<=9007199254740992)) (fun z=>.agg (aC {m with src:=z.1,view:=z.2.1,seq:=z.2.2.1,ah:=z.2.2.2})):=by
 intro b0 e0 h0
 refine ak 18 [] func181 ?_
 repeat' (conv=>arg 2;whnf);first|refine aY ?_|refine aV ?_ ?_
 conv=>arg 2;whnf
 refine aW 0 (zw) b0 e0 h0 fun x1 b1 e1 a1 o1 l1=>?_
 have h1:b1.length<=8388609:=by omega
 repeat' (conv=>arg 2;whnf);first|refine aY ?_|refine aV ?_ ?_
 conv=>arg 2;whnf
 refine aW 0 (gO 0) b1 e1 h1 fun x2 b2 e2 a2 o2 l2=>?_
 have h2:b2.length<=8388609:=by omega
 repeat' (conv=>arg 2;whnf);first|refine aY ?_|refine aV ?_ ?_
 conv=>arg 2;whnf
 refine aW 0 (gO 1) b2 e2 h2 fun x3 b3 e3 a3 o3 l3=>?_
 have h3:b3.length<=8388609:=by omega
 repeat' (conv=>arg 2;whnf);first|refine aY ?_|refine aV ?_ ?_
 conv=>arg 2;whnf
 refine aW 0 (gO 1) b3 e3 h3 fun x4 b4 e4 a4 o4 l4=>?_
 have h4:b4.length<=8388609:=by omega
 repeat' (conv=>arg 2;whnf);first|exact bf (r:=.agg (aC {m with src:=x1,view:=x2,seq:=x3,ah:=x4})) (h':=bz (b4,e4)) [0] (.inr rfl) rfl rfl ⟨⟨rfl,rfl⟩,trivial⟩ ⟨⟨rfl,rfl⟩,trivial⟩ (.refl _) ⟨(x1,x2,x3,x4),_,_,(a1.pair (a2.pair (a3.pair a4 (bV _)) ((bV _).pair (bV _))) ((bV _).pair ((bV _).pair (bV _)))),⟨o1,o2,o3,o4⟩,rfl,rfl⟩
theorem Rm {α:Type} {p:RS->α×RS} {m:Nat} {b:List UInt8} {s2:RS} {x:α} (h:p (b,0)=(x,s2)):aP p (m+1) (b,0)=(x::(aP p m s2).1,(aP p m s2).2):=by
 conv=>lhs;unfold aP
 rw[if_pos rfl,h]
theorem acI {α:Type} {p:RS->α×RS} {m:Nat} {b:List UInt8} {s2:RS} {x:α} (h:p (b,0)=(x,s2)) (hb:¬s2.2=0):aP p (m+1) (b,0)=([x],s2):=by
 rw[Rm h,vJ _ _ _ hb]
theorem Sq [Wd] {P:Program} {Q:Exit->S->Prop} {a b:Nat} {t f:T} (h1:a<b->t.ok P Q) (h2:b<=a->f.ok P Q):(bT (decide ((a:Int)<(b:Int))) t f).ok P Q:=an (fun h=>h1 (by simpa using h)) (fun h=>h2 (by simpa using h))
theorem Vq [Wd]:gz 278 (.ptr 0 0) [] (fun s=>.list 9 ((jZ s).1.map bI)) (fun s=>(jZ s).2):=by
 rintro⟨b,e⟩ hs
 replace hs:b.length<=8388609:=hs
 obtain⟨n,b0,e0,qn,hn,l0⟩:=wR 4 (b,e)
 replace l0:b0.length<=b.length:=l0
 have h0:b0.length<=8388609:=by omega
 have q0:nR 4 (b,e)=((n:Int),(b0,e0)):=by unfold nR;rw[qn]
 obtain⟨rs,b3,e3,q3,l3⟩:=Rd1.get (uB oB n) (b0,e0)
 replace l3:b3.length<=b0.length:=l3
 have h3:b3.length<=8388609:=by omega
 obtain⟨ef,jV⟩:∃ef:Int,fF (fA rs) (b3,e3)=(b3,ef):=⟨(fF (fA rs) (b3,e3)).2,Prod.ext (wS _ _) rfl⟩
 have eR:jZ (b,e)=if ef=0 then(rs,(b3,ef)) else([],(b3,ef)):=by
  unfold jZ jR fZ bN cN
  simp only[q0,Int.toNat_natCast,q3,jV]
 have fN:e3=0->(dL fX).ok rs:=fun he=>by
  have h:=(RT Ok n).CN q3 he
  exact⟨by rw[h.1];omega,fun x hx=>⟨Sj (h.2 x hx).1,Ab (h.2 x hx).2⟩⟩
 have fu:¬e3=0->ef=e3:=fun he=>by
  have:=jV
  rw[wU _ he] at this
  exact(congrArg (fun r:RS=>r.2) this).symm
 have gY:ef=0->jZ (b,e)=(rs,(b3,ef)):=fun h=>by rw[eR,if_pos h]
 have gN:¬ef=0->jZ (b,e)=([],(b3,ef)):=fun h=>by rw[eR,if_neg h]
 have gE:¬e3=0->jZ (b,e)=([],(b3,e3)):=fun h=>by rw[eR,fu h,if_neg h]
 refine ak 43 [(9,⟨[(0,false),(1,false),(2,false),(3,true),(4,false),(5,true),(6,true),(7,false)],[0,1]⟩)] func278 ?_
 repeat' (conv=>arg 2;whnf);first|refine aX 0 (fun x=>D.int .u64 x) q0 (gF 4) hs ?_
 conv=>arg 2;whnf
 refine bE (α:=Nat×RS×List bX) (fun a=>match a.2.2 with
  |[]=>⟨[(9,.int .u64 a.1),(8,.int .u64 (n:Int)),(3,.nils),(2,.nils),(0,.ptr 0 0)],[.cells 235 [.list 1 (a.2.1.1.map af),.int .i64 a.2.1.2,.bool true]]⟩
  |x::l=>⟨[(9,.int .u64 a.1),(8,.int .u64 (n:Int)),(3,.row 1),(2,.nils),(0,.ptr 0 0)],[.cells 235 [.list 1 (a.2.1.1.map af),.int .i64 a.2.1.2,.bool true],.row 183 9 ((x::l).map bI)]⟩) (fun a=>a.1<=n/\a.2.1.1.length<=8388609/\a.2.2.length=a.1/\(rs,(b3,e3))=(a.2.2++(aP jj (n-a.1) a.2.1).1,(aP jj (n-a.1) a.2.1).2)) (fun a=>n-a.1) (0,(b0,e0),[]) ⟨Nat.zero_le _,h0,rfl,q3.symm⟩ (Sv.aK [0]) ?_
 rintro⟨i,⟨bb,ee⟩,out⟩ ⟨hi,hl,oz,hg⟩
 replace hi:i<=n:=hi
 replace hl:bb.length<=8388609:=hl
 replace oz:out.length=i:=oz
 replace hg:(rs,(b3,e3))=(out++(aP jj (n-i) (bb,ee)).1,(aP jj (n-i) (bb,ee)).2):=hg
 obtain⟨x,b1,e1,q1,l1⟩:=Rd1.get (iB 1024) (bb,ee)
 replace l1:b1.length<=bb.length:=l1
 have h1:b1.length<=8388609:=by omega
 have nC:=zM q1
 obtain⟨y,k,qk⟩:∃(y:ju) (k:Int),jm x=(y,k):=⟨_,_,rfl⟩
 have qp:aq prog 314 [.list 1 (x.map af)] (.aj [.agg (sw y),.int .i64 k]):=by
  have:=aaG x (by omega)
  rw[qk] at this
  exact this
 obtain⟨sg,b2,e2,q2,l2⟩:=Rd1.get eM (b1,k)
 replace l2:b2.length<=b1.length:=l2
 have h2:b2.length<=8388609:=by omega
 have afa:e1=0->ee=0:=fun h=>by
  have:=(iB 1024).ok (s:=(bb,ee)) (by rw[q1];exact h)
  exact congrArg Prod.snd this
 have qs:e1=0->jj (bb,ee)=(⟨y,sg⟩,(b2,e2)):=fun h=>by
  rw[h] at q1
  unfold jj bN bg cN fZ
  simp only[q1,qk,aaA,q2]
 have lG:i<n->e1=0->(rs,(b3,e3))=((out++[⟨y,sg⟩])++(aP jj (n-(i+1)) (b2,e2)).1,(aP jj (n-(i+1)) (b2,e2)).2):=fun hlt h=>by
  have e:n-i=(n-(i+1))+1:=by omega
  have hs:=qs h
  rw[afa h] at hs hg
  rw[e,Rm hs] at hg
  rw[hg]
  simp
 have tJ:i<n->¬e1=0->jZ (b,e)=([],(b1,e1)):=fun hlt h=>by
  have e':n-i=(n-(i+1))+1:=by omega
  have key:b3=b1/\e3=e1:=by
   by_cases he:ee=0
   ·have hs:(jj (bb,ee)).2=(b1,e1):=by
     unfold jj bN bg cN fZ
     simp only[q1,wU _ h]
     have h1:(cO (b1,e1)).2=(b1,e1):=by
      rw[FN]
      unfold jR fZ bN bg cN nR
      simp only[Bl 20 (b1,e1) h,Bl MX (b1,e1) h,wU _ h,if_neg h]
     exact h1
    have kD:jj (bb,0)=((jj (bb,ee)).1,(b1,e1)):=by rw[<-hs,he]
    rw[e',he,acI kD h] at hg
    have:=congrArg (fun r:List bX×RS=>r.2) hg
    exact⟨congrArg Prod.fst this,congrArg Prod.snd this⟩
   ·rw[vJ _ _ _ he] at hg
    have:=congrArg (fun r:List bX×RS=>r.2) hg
    have hq:fB 1024 (bb,ee)=([],(bb,ee)):=by
     unfold fB
     rw[Bl 1024 (bb,ee) he]
     exact Oj _ (bb,ee) he
    rw[hq] at q1
    have g2:=congrArg (fun r:List UInt8×RS=>r.2) q1
    exact⟨(congrArg Prod.fst this).trans (congrArg Prod.fst g2),(congrArg Prod.snd this).trans (congrArg Prod.snd g2)⟩
  obtain⟨k1,k2⟩:=key
  subst k1 k2
  exact gE h
 have iq:n<=i->rs=out/\b3=bb/\e3=ee:=fun h=>by
  rw[show n-i=0 by omega] at hg
  have hg:(rs,(b3,e3))=(out++[],(bb,ee)):=hg
  rw[List.append_nil] at hg
  cases hg
  exact⟨rfl,rfl,rfl⟩
 cases out with
 |nil=>
  conv=>arg 2;whnf
  refine Sq (fun hlt=>?_) (fun dm=>?_)
  ·replace hlt:i<n:=hlt
   repeat' (conv=>arg 2;whnf);first|refine aX 0 (fun x=>D.list 1 (List.map af x)) q1 (Fe 1024 (by decide)) hl ?_|refine cE 0 (b1,e1) (b1,e1) (.int .i64 e1) fY h1 rfl rfl ?_|refine okF qp ?_|refine cE 0 (b1,e1) (b1,k) (.aj []) (mJ k) h1 (by rw[h];rfl) rfl ?_|refine aX 0 (fun x=>D.agg (bL x)) q2 It h1 ?_|refine rJ (fun h=>?_) (fun h=>?_)|refine aT (by constructor<;>(simp only[List.length_cons,List.length_nil];decide)) ?_|refine bw (G0 (by show 0<=(i:Int)+1;omega) (by show(i:Int)+1<_;omega)) ?_|refine aZ (i+1,(b2,e2),[⟨y,sg⟩]) (Sv.aK [0,6]) ⟨hlt,h2,by show([⟨y,sg⟩]).length=i+1;simp at oz ⊢;omega,lG hlt h⟩ (by show n-(i+1)<n-i;omega)|refine eG ?_|refine cU (k:=fun x=>D.list 9 (List.map bI x)) rfl (tJ hlt h) (.nil _)
  ·obtain⟨er,eb,A7⟩:=iq dm
   subst er eb A7
   repeat' (conv=>arg 2;whnf);first|refine xx (fun h=>?_) (fun hz=>?_)|refine rJ (fun h=>?_) (fun h=>?_)|refine bq ?_|refine cE 0 (b3,e3) (b3,e3) (.int .i64 e3) fY h3 rfl rfl ?_|refine iQ (C7 [] (fN h)) rfl (aa.cons (.nil _) .nil) ?_|refine cE 0 (b3,e3) (b3,ef) (.aj []) (mJ (fA [])) h3 jV.symm rfl ?_|refine cE 0 (b3,ef) (b3,ef) (.int .i64 ef) fY h3 rfl rfl ?_|refine cU (k:=fun x=>D.list 9 (List.map bI x)) rfl (gY h) (.nil _)|refine cU (k:=fun x=>D.list 9 (List.map bI x)) rfl (gN h) (.nil _)|refine cU (k:=fun x=>D.list 9 (List.map bI x)) rfl (gE h) (.nil _)|exact absurd h hz
 |cons z out=>
  conv=>arg 2;whnf
  refine Sq (fun hlt=>?_) (fun dm=>?_)
  ·replace hlt:i<n:=hlt
   repeat' (conv=>arg 2;whnf);first|refine aX 0 (fun x=>D.list 1 (List.map af x)) q1 (Fe 1024 (by decide)) hl ?_|refine cE 0 (b1,e1) (b1,e1) (.int .i64 e1) fY h1 rfl rfl ?_|refine okF qp ?_|refine cE 0 (b1,e1) (b1,k) (.aj []) (mJ k) h1 (by rw[h];rfl) rfl ?_|refine aX 0 (fun x=>D.agg (bL x)) q2 It h1 ?_|refine rJ (fun h=>?_) (fun h=>?_)|refine aT (by constructor<;>(simp only[List.length_cons,List.length_nil,List.length_map,maxLen] at oz ⊢;omega)) ?_|refine bw (G0 (by show 0<=(i:Int)+1;omega) (by show(i:Int)+1<_;omega)) ?_|refine aZ (i+1,(b2,e2),((z::out)++[(⟨y,sg⟩:bX)])) (Sv.mk' [0,7] rfl ⟨⟨rfl,rfl⟩,⟨rfl,by simp;rfl⟩,trivial⟩ ⟨rfl,rfl,rfl,rfl,rfl,trivial⟩) ⟨hlt,h2,by show(((z::out)++[(⟨y,sg⟩:bX)])).length=i+1;simp at oz ⊢;omega,lG hlt h⟩ (by show n-(i+1)<n-i;omega)|refine eG ?_|refine cU (k:=fun x=>D.list 9 (List.map bI x)) rfl (tJ hlt h) (.nil _)
  ·obtain⟨er,eb,A7⟩:=iq dm
   subst er eb A7
   repeat' (conv=>arg 2;whnf);first|refine xx (fun h=>?_) (fun hz=>?_)|refine rJ (fun h=>?_) (fun h=>?_)|refine bq ?_|refine cE 0 (b3,e3) (b3,e3) (.int .i64 e3) fY h3 rfl rfl ?_|refine BY [1] (C7 (z::out) (fN h)) rfl (aa.refl _) rfl ?_|refine cE 0 (b3,e3) (b3,ef) (.aj []) (mJ (fA (z::out))) h3 jV.symm rfl ?_|refine cE 0 (b3,ef) (b3,ef) (.int .i64 ef) fY h3 rfl rfl ?_|refine qD (k:=fun x=>D.list 9 (List.map bI x)) [1] rfl (gY h) (.refl _)|refine cU (k:=fun x=>D.list 9 (List.map bI x)) rfl (gN h) (.nil _)|refine cU (k:=fun x=>D.list 9 (List.map bI x)) rfl (gE h) (.nil _)|exact absurd h hz
theorem N8 {α β:Type} {p:RS->α×RS} {q:α->RS->β×RS} {s t:RS} {x:α} (h:au p s x t) (ht:t.2=0) (k:¬(q x t).2.2=0):¬(cN p q s).2.2=0:=by
 unfold cN
 rw[h.kM ht]
 exact k
theorem CZ {α β:Type} {p:RS->α×RS} {q:α->RS->β×RS} {s:RS} (k:∀x,Rd1 (q x)) (h:¬(p s).2.2=0):¬(cN p q s).2.2=0:=(k _).stay _ h
theorem C8 {α β:Type} {f:α->β} {p:RS->α×RS} {s:RS} (h:¬(p s).2.2=0):¬(bN f p s).2.2=0:=h
theorem au.cY {α:Type} {p:RS->α×RS} (k:Rd1 p) {m n:Int} {s t u:RS} {l:List α} (h:au (ia m) s n t) (g:au (aP p n.toNat) t l u):au (cY p m) s l u:=au.map Prod.snd (au.bind (q:=fun n:Int=>aP p n.toNat) h g (fun n=>uB k n.toNat))
theorem XY {b0 b2 b3:List UInt8} {e0 x1 x2 x3:Int} (g:au (bg (bF 0) (bF 0)) (b0,e0) (x1,x2) (b2,0)) (hm:((x1==0)==(x2==0))=true) (L6:au (ia (if x1=0 then 0 else 13)) (b2,0) x3 (b3,0)) {l:List bJ} {u:RS} (hG:au (aP cO x3.toNat) (b3,0) l u) (kb:∀z:Int×Int,Rd1 (cY cO (if z.1=0 then 0 else 13))):au lT (b0,e0) ⟨x1,x2,l⟩ u:=by
 have gY:=g.gQ (f:=fun z=>if(z.1==0)==(z.2==0) then 0 else 100) (fun _=>if_pos hm)
 have hL:=L6.cY eM hG
 have hB:=au.bind (q:=fun z:Int×Int=>cY cO (if z.1=0 then 0 else 13)) gY hL kb
 rw[zF]
 exact hB.map (fun z:(Int×Int)×List bJ=>(⟨z.1.1,z.1.2,z.2⟩:gX))
theorem OI {α:Type} {p:RS->α×RS} (k:Rd1 p) {m:Int} {s:RS} (h:¬(ia m s).2.2=0):¬(cY p m s).2.2=0:=CZ (q:=fun n:Int=>aP p n.toNat) (fun n=>uB k n.toNat) h
theorem jh:fD.ok dW:=⟨bu,Nat.zero_le _,Nat.zero_le _,bu,dO⟩
theorem Dp {s:RS} {m v e:Int} {b:List UInt8} (h:bF 0 s=(v,(b,e))):(e=0/\v<=m->ia m s=(v,(b,e)))/\(¬(e=0/\v<=m)->¬(ia m s).2.2=0):=by
 unfold ia lS
 rw[h]
 by_cases he:e=0
 ·by_cases hv:v<=m
  ·simp[he,hv]
  ·simp[he,hv]
 ·simp[he]
theorem au.aeh {s t:RS} {n m:Int} (hm:0<=m) (h:au (ia m) s n t):(t.2=0->n=0->au (ia 0) s n t)/\(¬(t.2=0/\n<=0)->¬(ia 0 s).2.2=0):=by
 obtain⟨v,b,e,hv⟩:∃v b e,bF 0 s=(v,(b,e)):=⟨_,_,_,rfl⟩
 by_cases hc:e=0/\v<=m
 ·have e1:=(Dp (m:=m) hv).1 hc
  have ht:t.2=0:=h.done.2 (by rw[e1];exact hc.1)
  have e2:=h.kM ht
  rw[e1] at e2
  injection e2 with e2 e3
  subst e2 e3
  refine⟨fun _ hn=>?_,fun hn=>(Dp hv).2 (fun k=>hn ⟨ht,k.2⟩)⟩
  have e4:=(Dp (m:=0) hv).1 ⟨hc.1,by omega⟩
  exact⟨fun _=>e4,fun k=>absurd ht k,h.len⟩
 ·have e1:=(Dp (m:=m) hv).2 hc
  have ht:¬t.2=0:=fun k=>e1 (h.done.1 k)
  have e2:=(Dp (m:=0) hv).2 (fun k=>hc ⟨k.1,by omega⟩)
  exact⟨fun k=>absurd k ht,fun _=>e2⟩
theorem ZK [Wd]:lX 291 [] uC (dL iO).ok (fun l=>.list 2 (l.map bL)):=by
 intro b0 e0 h0
 refine ak 26 [] func291 ?_
 repeat' (conv=>arg 2;whnf);first|refine aY ?_|refine aV ?_ ?_
 conv=>arg 2;whnf
 refine aW 0 (nK 13 (by decide)) b0 e0 h0 fun x1 b1 e1 a1 o1 l1=>?_
 have h1:b1.length<=8388609:=by omega
 repeat' (conv=>arg 2;whnf);first|refine aY ?_|refine aV ?_ ?_
 conv=>arg 2;whnf
 refine bE (α:=Nat×List bJ×List UInt8×Int) (fun a=>match a.2.1 with
  |[]=>⟨[(5,.int .i64 a.1),(4,.nils),(3,.int .i64 x1),(0,.ptr 0 0)],[.cells 176 [.list 1 (a.2.2.1.map af),.int .i64 a.2.2.2]]⟩
  |y::k=>⟨[(5,.int .i64 a.1),(4,.row 1),(3,.int .i64 x1),(0,.ptr 0 0)],[.cells 176 [.list 1 (a.2.2.1.map af),.int .i64 a.2.2.2],.row 57 2 ((y::k).map bL)]⟩) (fun a=>a.1<=x1.toNat/\au (dG cO a.1) (b1,e1) a.2.1 (a.2.2.1,a.2.2.2)/\(∀z∈a.2.1,iO.ok z)/\a.2.1.length=a.1) (fun a=>x1.toNat-a.1) (0,[],b1,e1) ⟨Nat.zero_le _,au.nil _,fun z hz=>(List.not_mem_nil hz).elim,rfl⟩ (Sv.aK [0]) ?_
 rintro⟨q,l,bl,el⟩ ⟨hq,hA,hO,hn⟩
 replace hq:q<=x1.toNat:=hq
 replace hA:au (dG cO q) (b1,e1) l (bl,el):=hA
 replace hO:∀z∈l,iO.ok z:=hO
 replace hn:l.length=q:=hn
 have dJ:bl.length<=8388609:=Nat.le_trans hA.len (by assumption)
 have fL:l.length<=4194304:=by omega
 cases l with
 |nil=>
  by_cases ey:(q:Int)<x1/\el=0
  ·obtain⟨hlt,rfl⟩:=ey
   repeat' (conv=>arg 2;whnf);first|refine bZ (by(try dsimp only);omega) ?_|refine bY (by simp;omega) ?_|refine aW 0 (kE) bl 0 dJ fun x9 b9 e9 a9 o9 l9=>?_|refine aT (by constructor<;>(simp only[List.length_cons,List.length_nil,maxLen] at hn ⊢;omega)) ?_|exact aZ (q+1,[x9],b9,e9) (Sv.mk' [0,2] rfl ⟨⟨rfl,rfl⟩,⟨rfl,by show AO.row _ _ ([]++[bL x9])=AO.row _ _ _;simp⟩,trivial⟩ ⟨rfl,rfl,rfl,rfl,trivial⟩) ⟨by show q+1<=_;omega,hA.snoc eM a9,fun z hz=>by first|(rcases List.mem_append.1 hz with hz|hz;exact hO z hz;rw[List.mem_singleton.1 hz];exact o9)|(rw[List.mem_singleton.1 hz];exact o9),by simp at hn ⊢;omega⟩ (by show x1.toNat-(q+1)<x1.toNat-q;omega)
  ·have hx:q=x1.toNat\/¬el=0:=by omega
   have hG:au (aP cO x1.toNat) (b1,e1) [] (bl,el):=hA.list eM hq hx
   rcases(show(¬(q:Int)<x1)\/((q:Int)<x1/\¬el=0) by omega) with dh|⟨dh,jU⟩
   all_goals
    repeat' (conv=>arg 2;whnf);first|refine bY (by simp;omega) ?_|refine bB (by simp;omega) ?_|refine bq ?_|(refine eg (r:=.list 2 (([]:List bJ).map bL)) (h':=bz (bl,el)) [] [0] (.inr rfl) rfl rfl ⟨⟨rfl,rfl⟩,trivial⟩ ⟨⟨rfl,rfl⟩,trivial⟩ (.nil _) ⟨_,_,_,(show au (cY cO 13) _ _ _ from a1.cY eM hG),⟨fL,hO⟩,rfl,rfl⟩)
 |cons y k=>
  by_cases ey:(q:Int)<x1/\el=0
  ·obtain⟨hlt,rfl⟩:=ey
   repeat' (conv=>arg 2;whnf);first|refine bZ (by(try dsimp only);omega) ?_|refine bY (by simp;omega) ?_|refine aW 0 (kE) bl 0 dJ fun x9 b9 e9 a9 o9 l9=>?_|refine aT (by constructor<;>(simp only[List.length_cons,List.length_nil,List.length_map,maxLen] at hn ⊢;omega)) ?_|exact aZ (q+1,((y::k)++[x9]),b9,e9) (Sv.mk' [0,3] rfl ⟨⟨rfl,rfl⟩,⟨rfl,by show AO.row _ _ ((y::k).map bL++[bL x9])=AO.row _ _ _;simp⟩,trivial⟩ ⟨rfl,rfl,rfl,rfl,trivial⟩) ⟨by show q+1<=_;omega,hA.snoc eM a9,fun z hz=>by first|(rcases List.mem_append.1 hz with hz|hz;exact hO z hz;rw[List.mem_singleton.1 hz];exact o9)|(rw[List.mem_singleton.1 hz];exact o9),by simp at hn ⊢;omega⟩ (by show x1.toNat-(q+1)<x1.toNat-q;omega)
  ·have hx:q=x1.toNat\/¬el=0:=by omega
   have hG:au (aP cO x1.toNat) (b1,e1) (y::k) (bl,el):=hA.list eM hq hx
   rcases(show(¬(q:Int)<x1)\/((q:Int)<x1/\¬el=0) by omega) with dh|⟨dh,jU⟩
   all_goals
    repeat' (conv=>arg 2;whnf);first|refine bY (by simp;omega) ?_|refine bB (by simp;omega) ?_|refine bq ?_|(refine eg (r:=.list 2 (((y::k):List bJ).map bL)) (h':=bz (bl,el)) [1] [0] (.inr rfl) rfl rfl ⟨⟨rfl,rfl⟩,trivial⟩ ⟨⟨rfl,rfl⟩,trivial⟩ (.refl _) ⟨_,_,_,(show au (cY cO 13) _ _ _ from a1.cY eM hG),⟨fL,hO⟩,rfl,rfl⟩)
theorem BA [Wd]:lX 188 [] lT je.ok (fun c=>.agg (mj c)):=by
 intro b0 e0 h0
 refine iV 66 [(11,⟨(.one 0 false (.one 2 false (.alt 1 (.one 3 true (.one 4 true (.one 5 true (.one 6 false (.one 7 true .done))))) (.one 3 true (.alt 1 (.one 4 true (.one 5 true (.one 6 false (.one 7 true .done)))) (.one 4 true (.one 1 true (.one 5 true (.one 6 false (.one 7 true .done)))))))))),[0,2,3]⟩)] func188 ?_
 repeat' (conv=>arg 2;whnf);first|refine aY ?_|refine aV ?_ ?_
 conv=>arg 2;whnf
 refine aW 0 (gO 0) b0 e0 h0 fun x1 b1 e1 a1 o1 l1=>?_
 have h1:b1.length<=8388609:=by omega
 repeat' (conv=>arg 2;whnf);first|refine aY ?_|refine aV ?_ ?_
 conv=>arg 2;whnf
 refine aW 0 (gO 0) b1 e1 h1 fun x2 b2 e2 a2 o2 l2=>?_
 have h2:b2.length<=8388609:=by omega
 have g:=a1.pair a2 (bV _)
 have kb:∀z:Int×Int,Rd1 (cY cO (if z.1=0 then 0 else 13)):=fun z=>jL eM _
 by_cases he:e2=0
 ·subst he
  by_cases hm:((x1==0)==(x2==0))=true
  ·have gY:=g.gQ (f:=fun z=>if(z.1==0)==(z.2==0) then 0 else 100) (fun _=>if_pos hm)
   repeat' (conv=>arg 2;whnf);first|refine bB (by simpa using hm) ?_
   conv=>arg 2;whnf
   refine aW 0 (nK 13 (by decide)) b2 0 h2 fun x3 b3 e3 a3 o3 l3=>?_
   have h3:b3.length<=8388609:=by omega
   have hz:=a3.aeh (by decide)
   by_cases oS:e3=0
   ·subst oS
    by_cases Ti:x1=0/\0<x3
    ·have wr:¬(lT (b0,e0)).2.2=0:=by
      rw[zF]
      refine C8 (N8 gY rfl ?_)
      show ¬(cY cO (if x1=0 then 0 else 13) (b2,0)).2.2=0
      rw[if_pos Ti.1]
      exact OI eM (hz.2 (fun k=>by have:=k.2;omega))
     repeat' (conv=>arg 2;whnf);first|refine bY (by simp;omega) ?_|refine cV [0] (kF (k:=100) (by decide) b3) ?_
     conv=>arg 2;whnf
     refine bE (α:=Unit) (fun _=>⟨[(5,.int .i64 0),(4,.int .i64 x3),(3,.ptr 2 0),(2,.ptr 1 0),(0,.ptr 0 0)],[.cells 176 [.list 1 (([]:List UInt8).map af),.int .i64 100],.cells 48 [.int .i64 0,.int .i64 0,.nils],.cells 48 [.int .i64 x1,.int .i64 x2,.nils]]⟩) (fun _=>True) (fun _=>0) () trivial (Sv.aK [0,1,3]) ?_
     rintro _ _
     repeat' (conv=>arg 2;whnf);first|apply an<;>intro h|refine bq ?_|exact eg (r:=.agg (mj ⟨x1,x2,[]⟩)) (h':=bz ([],100)) [] [0] (.inr rfl) rfl rfl ⟨⟨rfl,rfl⟩,trivial⟩ ⟨⟨rfl,rfl⟩,trivial⟩ (aa.eU (.cons (.refl _) (.cons (.refl _) (.cons (.nil _) .nil)))) ⟨_,_,_,au.xu wr (show ¬(100:Int)=0 by decide) (Nat.zero_le _),⟨bM o1 (by decide),bM o2 (by decide),dO⟩,rfl,rfl⟩
    ·have HL:∀{l:List bJ} {u:RS},au (aP cO x3.toNat) (b3,0) l u->au lT (b0,e0) ⟨x1,x2,l⟩ u:=fun hG=>by
      have L6:au (ia (if x1=0 then 0 else 13)) (b2,0) x3 (b3,0):=by
       by_cases dh:x1=0
       ·rw[if_pos dh];exact hz.1 rfl (show x3=0 from Classical.byContradiction fun k=>Ti ⟨dh,by have:0<=x3/\x3<=13:=o3;omega⟩)
       ·rw[if_neg dh];exact a3
      exact XY g hm L6 hG kb
     repeat' (conv=>arg 2;whnf);first|(exfalso;omega)|(apply an<;>intro h<;>simp at h)
     all_goals
      conv=>arg 2;whnf
      refine bE (α:=Nat×List bJ×List UInt8×Int) (fun a=>match a.2.1 with
       |[]=>⟨[(5,.int .i64 a.1),(4,.int .i64 x3),(3,.ptr 2 0),(2,.ptr 1 0),(0,.ptr 0 0)],[.cells 176 [.list 1 (a.2.2.1.map af),.int .i64 a.2.2.2],.cells 48 [.int .i64 0,.int .i64 0,.nils],.cells 48 [.int .i64 x1,.int .i64 x2,.nils]]⟩
       |y::k=>⟨[(5,.int .i64 a.1),(4,.int .i64 x3),(3,.ptr 2 0),(2,.ptr 1 0),(0,.ptr 0 0)],[.cells 176 [.list 1 (a.2.2.1.map af),.int .i64 a.2.2.2],.cells 48 [.int .i64 0,.int .i64 0,.nils],.cells 48 [.int .i64 x1,.int .i64 x2,.row 3],.row 57 2 ((y::k).map bL)]⟩) (fun a=>a.1<=x3.toNat/\au (dG cO a.1) (b3,0) a.2.1 (a.2.2.1,a.2.2.2)/\(∀z∈a.2.1,iO.ok z)/\a.2.1.length=a.1) (fun a=>x3.toNat-a.1) (0,[],b3,0) ⟨Nat.zero_le _,au.nil _,fun z hz=>(List.not_mem_nil hz).elim,rfl⟩ (Sv.aK [0,1,3]) ?_
      rintro⟨q,l,bl,el⟩ ⟨hq,hA,hO,hn⟩
      replace hq:q<=x3.toNat:=hq
      replace hA:au (dG cO q) (b3,0) l (bl,el):=hA
      replace hO:∀z∈l,iO.ok z:=hO
      replace hn:l.length=q:=hn
      have dJ:bl.length<=8388609:=Nat.le_trans hA.len (by assumption)
      have fL:l.length<=4194304:=by omega
      cases l with
      |nil=>
       by_cases ey:(q:Int)<x3/\el=0
       ·obtain⟨hlt,rfl⟩:=ey
        repeat' (conv=>arg 2;whnf);first|(exfalso;omega)|refine bZ (by(try dsimp only);omega) ?_|refine aV ?_ ?_|refine bY (by simp;omega) ?_|refine aW 0 (kE) bl 0 dJ fun x9 b9 e9 a9 o9 l9=>?_|refine aT (by constructor<;>(simp only[List.length_cons,List.length_nil,maxLen] at hn ⊢;omega)) ?_|exact aZ (q+1,[x9],b9,e9) (Sv.mk' [0,1,2,4] rfl ⟨⟨rfl,rfl⟩,⟨rfl,rfl⟩,⟨rfl,rfl⟩,⟨rfl,by show AO.row _ _ ([]++[bL x9])=AO.row _ _ _;simp⟩,trivial⟩ ⟨rfl,rfl,rfl,rfl,rfl,trivial⟩) ⟨by show q+1<=_;omega,hA.snoc eM a9,fun z hz=>by first|(rcases List.mem_append.1 hz with hz|hz;exact hO z hz;rw[List.mem_singleton.1 hz];exact o9)|(rw[List.mem_singleton.1 hz];exact o9),by simp at hn ⊢;omega⟩ (by show x3.toNat-(q+1)<x3.toNat-q;omega)
       ·have hx:q=x3.toNat\/¬el=0:=by omega
        have hG:au (aP cO x3.toNat) (b3,0) [] (bl,el):=hA.list eM hq hx
        rcases(show(¬(q:Int)<x3)\/((q:Int)<x3/\¬el=0) by omega) with dh|⟨dh,jU⟩
        all_goals
         repeat' (conv=>arg 2;whnf);first|(exfalso;omega)|refine bY (by simp;omega) ?_|refine bB (by simp;omega) ?_|refine bq ?_|exact eg (r:=.agg (mj ⟨x1,x2,[]⟩)) (h':=bz (bl,el)) [] [0] (.inr rfl) rfl rfl ⟨⟨rfl,rfl⟩,trivial⟩ ⟨⟨rfl,rfl⟩,trivial⟩ (aa.eU (.cons (.refl _) (.cons (.refl _) (.cons (.nil _) .nil)))) ⟨_,_,_,HL hG,⟨bM o1 (by decide),bM o2 (by decide),⟨fL,hO⟩⟩,rfl,rfl⟩
      |cons y k=>
       by_cases ey:(q:Int)<x3/\el=0
       ·obtain⟨hlt,rfl⟩:=ey
        repeat' (conv=>arg 2;whnf);first|(exfalso;omega)|refine bZ (by(try dsimp only);omega) ?_|refine aV ?_ ?_|refine bY (by simp;omega) ?_|refine aW 0 (kE) bl 0 dJ fun x9 b9 e9 a9 o9 l9=>?_|refine aT (by constructor<;>(simp only[List.length_cons,List.length_nil,List.length_map,maxLen] at hn ⊢;omega)) ?_|exact aZ (q+1,((y::k)++[x9]),b9,e9) (Sv.mk' [0,1,2,5] rfl ⟨⟨rfl,rfl⟩,⟨rfl,rfl⟩,⟨rfl,rfl⟩,⟨rfl,by show AO.row _ _ ((y::k).map bL++[bL x9])=AO.row _ _ _;simp⟩,trivial⟩ ⟨rfl,rfl,rfl,rfl,rfl,trivial⟩) ⟨by show q+1<=_;omega,hA.snoc eM a9,fun z hz=>by first|(rcases List.mem_append.1 hz with hz|hz;exact hO z hz;rw[List.mem_singleton.1 hz];exact o9)|(rw[List.mem_singleton.1 hz];exact o9),by simp at hn ⊢;omega⟩ (by show x3.toNat-(q+1)<x3.toNat-q;omega)
       ·have hx:q=x3.toNat\/¬el=0:=by omega
        have hG:au (aP cO x3.toNat) (b3,0) (y::k) (bl,el):=hA.list eM hq hx
        rcases(show(¬(q:Int)<x3)\/((q:Int)<x3/\¬el=0) by omega) with dh|⟨dh,jU⟩
        all_goals
         repeat' (conv=>arg 2;whnf);first|(exfalso;omega)|refine bY (by simp;omega) ?_|refine bB (by simp;omega) ?_|refine bq ?_|exact eg (r:=.agg (mj ⟨x1,x2,(y::k)⟩)) (h':=bz (bl,el)) [3] [0] (.inr rfl) rfl rfl ⟨⟨rfl,rfl⟩,trivial⟩ ⟨⟨rfl,rfl⟩,trivial⟩ (aa.eU (.cons (.refl _) (.cons (.refl _) (.cons (.refl _) .nil)))) ⟨_,_,_,HL hG,⟨bM o1 (by decide),bM o2 (by decide),⟨fL,hO⟩⟩,rfl,rfl⟩
   ·have wr:¬(lT (b0,e0)).2.2=0:=by
     rw[zF]
     refine C8 (N8 gY rfl ?_)
     show ¬(cY cO (if x1=0 then 0 else 13) (b2,0)).2.2=0
     refine OI eM ?_
     split
     ·exact hz.2 (fun k=>oS k.1)
     ·exact a3.bad oS
    repeat' (conv=>arg 2;whnf);first|refine bB (by simpa using oS) ?_
    conv=>arg 2;whnf
    refine bE (α:=Unit) (fun _=>⟨[(5,.int .i64 0),(4,.int .i64 x3),(3,.ptr 2 0),(2,.ptr 1 0),(0,.ptr 0 0)],[.cells 176 [.list 1 ((b3:List UInt8).map af),.int .i64 e3],.cells 48 [.int .i64 0,.int .i64 0,.nils],.cells 48 [.int .i64 x1,.int .i64 x2,.nils]]⟩) (fun _=>True) (fun _=>0) () trivial (Sv.aK [0,1,3]) ?_
    rintro _ _
    repeat' (conv=>arg 2;whnf);first|refine bB (by simpa using oS) ?_|apply an<;>intro h|refine bq ?_|exact eg (r:=.agg (mj ⟨x1,x2,[]⟩)) (h':=bz (b3,e3)) [] [0] (.inr rfl) rfl rfl ⟨⟨rfl,rfl⟩,trivial⟩ ⟨⟨rfl,rfl⟩,trivial⟩ (aa.eU (.cons (.refl _) (.cons (.refl _) (.cons (.nil _) .nil)))) ⟨_,_,_,au.xu wr oS (Nat.le_trans l3 (Nat.le_trans l2 l1)),⟨bM o1 (by decide),bM o2 (by decide),dO⟩,rfl,rfl⟩
  ·have gN:=g.nM (y:=(x1,x2)) (u:=([],100)) (f:=fun z=>if(z.1==0)==(z.2==0) then 0 else 100) (fun _=>by rw[if_neg hm];decide) (show ¬(100:Int)=0 by decide) (Nat.zero_le _)
   have wr:¬(lT (b0,e0)).2.2=0:=by rw[zF];exact C8 <| CZ kb (gN.bad (show ¬(100:Int)=0 by decide))
   repeat' (conv=>arg 2;whnf);first|refine bY (by simp_all) ?_|refine cV [0] (kF (k:=100) (by decide) b2) ?_
   conv=>arg 2;whnf
   refine wG 0 (nK 13 (by decide)) [] 100 (Nat.zero_le _) ⟨⟨rfl,rfl⟩,trivial⟩ (aa.refl _) rfl fun x3 b3 e3 a3 o3 l3=>?_
   have h3:b3.length<=8388609:=Nat.le_trans l3 (by decide)
   have oS:¬e3=0:=a3.stay (uu 13) (show ¬(100:Int)=0 by decide)
   repeat' (conv=>arg 2;whnf);first|refine bB (by simpa using oS) ?_
   conv=>arg 2;whnf
   refine bE (α:=Unit) (fun _=>⟨[(5,.int .i64 0),(4,.int .i64 x3),(3,.ptr 2 0),(2,.ptr 1 0),(0,.ptr 0 0)],[.cells 176 [.list 1 ((b3:List UInt8).map af),.int .i64 e3],.cells 48 [.int .i64 0,.int .i64 0,.nils],.cells 48 [.int .i64 x1,.int .i64 x2,.nils]]⟩) (fun _=>True) (fun _=>0) () trivial (Sv.aK [0,1,3]) ?_
   rintro _ _
   repeat' (conv=>arg 2;whnf);first|refine bB (by simpa using oS) ?_|apply an<;>intro h|refine bq ?_|exact eg (r:=.agg (mj ⟨x1,x2,[]⟩)) (h':=bz (b3,e3)) [] [0] (.inr rfl) rfl rfl ⟨⟨rfl,rfl⟩,trivial⟩ ⟨⟨rfl,rfl⟩,trivial⟩ (aa.eU (.cons (.refl _) (.cons (.refl _) (.cons (.nil _) .nil)))) ⟨_,_,_,au.xu wr oS (Nat.le_trans l3 (Nat.zero_le _)),⟨bM o1 (by decide),bM o2 (by decide),dO⟩,rfl,rfl⟩
 ·have wr:¬(lT (b0,e0)).2.2=0:=by rw[zF];exact C8 <| CZ kb ((g.gQ (f:=fun z=>if(z.1==0)==(z.2==0) then 0 else 100) (fun e=>absurd e he)).bad he)
  repeat' (conv=>arg 2;whnf);first|refine bB (by simpa using he) ?_
  conv=>arg 2;whnf
  refine aW 0 (nK 13 (by decide)) b2 e2 h2 fun x3 b3 e3 a3 o3 l3=>?_
  have h3:b3.length<=8388609:=by omega
  have oS:¬e3=0:=a3.stay (uu 13) he
  repeat' (conv=>arg 2;whnf);first|refine bB (by simpa using oS) ?_
  conv=>arg 2;whnf
  refine bE (α:=Unit) (fun _=>⟨[(5,.int .i64 0),(4,.int .i64 x3),(3,.ptr 2 0),(2,.ptr 1 0),(0,.ptr 0 0)],[.cells 176 [.list 1 ((b3:List UInt8).map af),.int .i64 e3],.cells 48 [.int .i64 0,.int .i64 0,.nils],.cells 48 [.int .i64 x1,.int .i64 x2,.nils]]⟩) (fun _=>True) (fun _=>0) () trivial (Sv.aK [0,1,3]) ?_
  rintro _ _
  repeat' (conv=>arg 2;whnf);first|refine bB (by simpa using oS) ?_|apply an<;>intro h|refine bq ?_|exact eg (r:=.agg (mj ⟨x1,x2,[]⟩)) (h':=bz (b3,e3)) [] [0] (.inr rfl) rfl rfl ⟨⟨rfl,rfl⟩,trivial⟩ ⟨⟨rfl,rfl⟩,trivial⟩ (aa.eU (.cons (.refl _) (.cons (.refl _) (.cons (.nil _) .nil)))) ⟨_,_,_,au.xu wr oS (Nat.le_trans l3 (Nat.le_trans l2 l1)),⟨bM o1 (by decide),bM o2 (by decide),dO⟩,rfl,rfl⟩
theorem Dq [Wd] (bs:List UInt8):bC prog 77 [.list 1 (bs.map af)] [] (fun r h=>r=.ptr 0 0/\h=bz (bs,0)):=by
 refine ak 6 [] func77 ?_
 repeat' (conv=>arg 2;whnf);first|exact mL (r:=.ptr 0 0) (h':=bz (bs,0)) [0] (.inr rfl) rfl rfl ⟨⟨rfl,rfl⟩,trivial⟩ trivial (.refl _)
theorem OJ [Wd]:lX 78 [] eF fD.ok (fun x=>.agg (cC x)):=by
 intro b0 e0 h0
 refine iV 70 [(14,⟨(.one 0 false (.one 2 false (.alt 1 (.one 3 true (.one 4 true (.one 5 true (.one 6 true (.one 7 false (.one 8 true .done)))))) (.one 3 true (.alt 1 (.one 4 true (.one 5 true (.one 6 true (.one 7 false (.one 8 true .done))))) (.one 4 true (.alt 1 (.one 5 true (.one 6 true (.one 7 false (.one 8 true .done)))) (.one 5 true (.one 1 true (.one 6 true (.one 7 false (.one 8 true .done)))))))))))),[0,2,3]⟩)] func78 ?_
 repeat' (conv=>arg 2;whnf);first|refine aY ?_|refine aV ?_ ?_
 conv=>arg 2;whnf
 refine aW 0 (mg 4 (by decide)) b0 e0 h0 fun x1 b1 e1 a1 o1 l1=>?_
 have h1:b1.length<=8388609:=by omega
 have hM:((MX:Nat):Int)=9007199254740992:=rfl
 unfold eF
 have hk5:x1=0\/x1=1\/x1=2\/x1=3\/x1=4:=by omega
 have BX:∀{x:bt} {u:RS},au (lP x1) (b1,e1) x u->au (bN Prod.snd (cN (nR 4) lP)) (b0,e0) x u:=fun h=>(a1.bind h IP).map Prod.snd
 rcases hk5 with rfl|rfl|rfl|rfl|rfl
 ·have hf:=E0 0 (by decide) (by decide) (by decide) (by decide)
  repeat' (conv=>arg 2;whnf);first|refine bw (by decide) ?_|refine okF hf ?_
  have gb:=BX ((au.pure (⟨0,[],[],0,[]⟩:bt) (b1,e1)).to (by unfold lP;rw[if_pos rfl]) rfl)
  have hc:=pq (⟨0,[],[],0,[]⟩:bt) jh
  by_cases hE:e1=0
  ·subst hE
   by_cases hk:bS (⟨0,[],[],0,[]⟩:bt)=0
   ·rw[hk] at hc
    repeat' (conv=>arg 2;whnf);first|refine iU hc (.cons .z .nil) ?_|refine cV [0] (vK b1) ?_|(refine eg (r:=.agg (cC (⟨0,[],[],0,[]⟩:bt))) (h':=bz (b1,0)) [] [0] (.inr rfl) rfl rfl ⟨⟨rfl,rfl⟩,trivial⟩ ⟨⟨rfl,rfl⟩,trivial⟩ .z ⟨_,_,_,((gb.gQ (fun _=>hk)).zero (fun _=>rfl)),jh,rfl,rfl⟩;done)
   ·repeat' (conv=>arg 2;whnf);first|refine iU hc (.cons .z .nil) ?_|refine cV [0] (kF hk b1) ?_|(refine eg (r:=.agg (cC dW)) (h':=bz ([],bS (⟨0,[],[],0,[]⟩:bt))) [] [0] (.inr rfl) rfl rfl ⟨⟨rfl,rfl⟩,trivial⟩ ⟨⟨rfl,rfl⟩,trivial⟩ .z ⟨_,_,_,((gb.nM (y:=dW) (u:=([],bS (⟨0,[],[],0,[]⟩:bt))) (fun _=>hk) hk (Nat.zero_le _)).zero (fun _=>rfl)),jh,rfl,rfl⟩;done)
  ·repeat' (conv=>arg 2;whnf);first|refine bB (by simpa using hE) ?_|refine bY (by simpa using hE) ?_|(refine eg (r:=.agg (cC dW)) (h':=bz (b1,e1)) [] [0] (.inr rfl) rfl rfl ⟨⟨rfl,rfl⟩,trivial⟩ ⟨⟨rfl,rfl⟩,trivial⟩ .z ⟨_,_,_,((gb.gQ (fun e=>absurd e hE)).zero (fun e=>absurd e hE)),jh,rfl,rfl⟩;done)
 ·have hf:=ID
  repeat' (conv=>arg 2;whnf);first|refine bw (by decide) ?_|refine okF hf ?_
  conv=>arg 2;whnf
  refine aW 0 (sD 64 (by decide)) b1 e1 h1 fun x2 b2 e2 a2 o2 l2=>?_
  have h2:b2.length<=8388609:=by omega
  repeat' (conv=>arg 2;whnf);first|refine j8 x2 rfl ?_|refine aT (by omega) ?_
  have gb:=BX ((a2.map (fun t=>(⟨1,t,[],0,[]⟩:bt))).to (by unfold lP;rw[if_neg (by decide),if_pos rfl]) rfl)
  have hc:=pq (⟨1,x2,[],0,[]⟩:bt) ⟨bM (n:=1) (m:=1) (by omega) (by decide),(Nat.le_trans o2 (by decide)),Nat.zero_le _,bu,dO⟩
  by_cases hE:e2=0
  ·subst hE
   by_cases hk:bS (⟨1,x2,[],0,[]⟩:bt)=0
   ·rw[hk] at hc
    repeat' (conv=>arg 2;whnf);first|refine iU hc (.cons .z .nil) ?_|refine cV [0] (vK b2) ?_|(refine eg (r:=.agg (cC (⟨1,x2,[],0,[]⟩:bt))) (h':=bz (b2,0)) [] [0] (.inr rfl) rfl rfl ⟨⟨rfl,rfl⟩,trivial⟩ ⟨⟨rfl,rfl⟩,trivial⟩ .z ⟨_,_,_,((gb.gQ (fun _=>hk)).zero (fun _=>rfl)),⟨bM (n:=1) (m:=1) (by omega) (by decide),(Nat.le_trans o2 (by decide)),Nat.zero_le _,bu,dO⟩,rfl,rfl⟩;done)
   ·repeat' (conv=>arg 2;whnf);first|refine iU hc (.cons .z .nil) ?_|refine cV [0] (kF hk b2) ?_|refine bY (by simpa using hk) ?_|(refine eg (r:=.agg (cC dW)) (h':=bz ([],bS (⟨1,x2,[],0,[]⟩:bt))) [] [0] (.inr rfl) rfl rfl ⟨⟨rfl,rfl⟩,trivial⟩ ⟨⟨rfl,rfl⟩,trivial⟩ .z ⟨_,_,_,((gb.nM (y:=dW) (u:=([],bS (⟨1,x2,[],0,[]⟩:bt))) (fun _=>hk) hk (Nat.zero_le _)).zero (fun _=>rfl)),jh,rfl,rfl⟩;done)
  ·repeat' (conv=>arg 2;whnf);first|refine bB (by simpa using hE) ?_|refine bY (by simpa using hE) ?_|(refine eg (r:=.agg (cC dW)) (h':=bz (b2,e2)) [] [0] (.inr rfl) rfl rfl ⟨⟨rfl,rfl⟩,trivial⟩ ⟨⟨rfl,rfl⟩,trivial⟩ .z ⟨_,_,_,((gb.gQ (fun e=>absurd e hE)).zero (fun e=>absurd e hE)),jh,rfl,rfl⟩;done)
 ·have hf:=IE
  repeat' (conv=>arg 2;whnf);first|refine bw (by decide) ?_|refine okF hf ?_
  conv=>arg 2;whnf
  refine aW 0 (sD 64 (by decide)) b1 e1 h1 fun x2 b2 e2 a2 o2 l2=>?_
  have h2:b2.length<=8388609:=by omega
  repeat' (conv=>arg 2;whnf);first|refine j8 x2 rfl ?_|refine aT (by omega) ?_
  conv=>arg 2;whnf
  refine aW 0 (mg 4 (by decide)) b2 e2 h2 fun x3 b3 e3 a3 o3 l3=>?_
  have h3:b3.length<=8388609:=by omega
  repeat' (conv=>arg 2;whnf);first|refine gJ ?_
  conv=>arg 2;whnf
  refine bE (α:=Nat×List (List UInt8)×List UInt8×Int) (fun a=>match a.2.1 with
   |[]=>⟨[(9,.int .i64 a.1),(8,.int .i64 x3),(3,.ptr 2 0),(2,.ptr 1 0),(0,.ptr 0 0)],[.cells 176 [.list 1 (a.2.2.1.map af),.int .i64 a.2.2.2],.cells 40 [.int .i64 0,.str [],.str [],.int .i64 0,.nils],.cells 40 [.int .i64 2,.str x2,.str [],.int .i64 0,.nils]]⟩
   |y::k=>⟨[(9,.int .i64 a.1),(8,.int .i64 x3),(3,.ptr 2 0),(2,.ptr 1 0),(0,.ptr 0 0)],[.cells 176 [.list 1 (a.2.2.1.map af),.int .i64 a.2.2.2],.cells 40 [.int .i64 0,.str [],.str [],.int .i64 0,.nils],.cells 40 [.int .i64 2,.str x2,.str [],.int .i64 0,.row 3],.row 51 1 ((y::k).map gS)]⟩) (fun a=>a.1<=x3.toNat/\au (dG (fB 64) a.1) (b3,e3) a.2.1 (a.2.2.1,a.2.2.2)/\(∀z∈a.2.1,(fun x=>x.length<=64) z)/\a.2.1.length=a.1) (fun a=>x3.toNat-a.1) (0,[],b3,e3) ⟨Nat.zero_le _,au.nil _,fun z hz=>(List.not_mem_nil hz).elim,rfl⟩ (Sv.aK [0,1,3]) ?_
  rintro⟨q,l,bl,el⟩ ⟨hq,hA,hO,hn⟩
  replace hq:q<=x3.toNat:=hq
  replace hA:au (dG (fB 64) q) (b3,e3) l (bl,el):=hA
  replace hO:∀z∈l,(fun x=>x.length<=64) z:=hO
  replace hn:l.length=q:=hn
  have dJ:bl.length<=8388609:=Nat.le_trans hA.len (by assumption)
  have fL:l.length<=4194304:=by omega
  cases l with
  |nil=>
   by_cases ey:(q:Int)<x3
   ·have hlt:=ey
    repeat' (conv=>arg 2;whnf);first|refine bZ (by(try dsimp only);omega) ?_|refine aV ?_ ?_|refine bY (by simp;omega) ?_|refine aW 0 (sD 64 (by decide)) bl el dJ fun x9 b9 e9 a9 o9 l9=>?_|refine aT (by constructor<;>(simp only[List.length_cons,List.length_nil,List.length_map,maxLen] at hn ⊢;omega)) ?_|exact aZ (q+1,[x9],b9,e9) (Sv.mk' [0,1,2,5] rfl ⟨⟨rfl,rfl⟩,⟨rfl,rfl⟩,⟨rfl,rfl⟩,⟨rfl,by show AO.row _ _ ([]++[gS x9])=AO.row _ _ _;simp⟩,trivial⟩ ⟨rfl,rfl,rfl,rfl,rfl,trivial⟩) ⟨by show q+1<=_;omega,hA.snoc (iB 64) a9,fun z hz=>by first|(rcases List.mem_append.1 hz with hz|hz;exact hO z hz;rw[List.mem_singleton.1 hz];exact o9)|(rw[List.mem_singleton.1 hz];exact o9),by simp at hn ⊢;omega⟩ (by show x3.toNat-(q+1)<x3.toNat-q;omega)
   ·have hx:q=x3.toNat:=by omega
    have hG:=hA.all hx
    all_goals
     repeat' (conv=>arg 2;whnf);first|refine bB (by simp;omega) ?_|refine bq ?_
     have gb:=BX (((a2.pair ((a3.bind (q:=fun n:Int=>dG (fB 64) n.toNat) hG (fun n=>w7 (iB 64) _)).map Prod.snd) (((dD 4).bind fun n=>w7 (iB 64) _).map Prod.snd)).map (fun z=>(⟨2,z.1,[],0,z.2⟩:bt))).to (by unfold lP;rw[if_neg (by decide),if_neg (by decide),if_pos rfl]) rfl)
     have hc:=pq (⟨2,x2,[],0,[]⟩:bt) ⟨bM (n:=2) (m:=2) (by omega) (by decide),(Nat.le_trans o2 (by decide)),Nat.zero_le _,bu,fL,fun z hz=>Nat.le_trans (hO z hz) (by decide)⟩
     by_cases hE:el=0
     ·subst hE
      by_cases hk:bS (⟨2,x2,[],0,[]⟩:bt)=0
      ·rw[hk] at hc
       repeat' (conv=>arg 2;whnf);first|refine iU hc (.cons .z .nil) ?_|refine cV [0] (vK bl) ?_|(refine eg (r:=.agg (cC (⟨2,x2,[],0,[]⟩:bt))) (h':=bz (bl,0)) [] [0] (.inr rfl) rfl rfl ⟨⟨rfl,rfl⟩,trivial⟩ ⟨⟨rfl,rfl⟩,trivial⟩ .z ⟨_,_,_,((gb.gQ (fun _=>hk)).zero (fun _=>rfl)),⟨bM (n:=2) (m:=2) (by omega) (by decide),(Nat.le_trans o2 (by decide)),Nat.zero_le _,bu,fL,fun z hz=>Nat.le_trans (hO z hz) (by decide)⟩,rfl,rfl⟩;done)
      ·repeat' (conv=>arg 2;whnf);first|refine iU hc (.cons .z .nil) ?_|refine cV [0] (kF hk bl) ?_|refine bY (by simpa using hk) ?_|(refine eg (r:=.agg (cC dW)) (h':=bz ([],bS (⟨2,x2,[],0,[]⟩:bt))) [] [0] (.inr rfl) rfl rfl ⟨⟨rfl,rfl⟩,trivial⟩ ⟨⟨rfl,rfl⟩,trivial⟩ .z ⟨_,_,_,((gb.nM (y:=dW) (u:=([],bS (⟨2,x2,[],0,[]⟩:bt))) (fun _=>hk) hk (Nat.zero_le _)).zero (fun _=>rfl)),jh,rfl,rfl⟩;done)
     ·repeat' (conv=>arg 2;whnf);first|refine bB (by simpa using hE) ?_|refine bY (by simpa using hE) ?_|(refine eg (r:=.agg (cC dW)) (h':=bz (bl,el)) [] [0] (.inr rfl) rfl rfl ⟨⟨rfl,rfl⟩,trivial⟩ ⟨⟨rfl,rfl⟩,trivial⟩ .z ⟨_,_,_,((gb.gQ (fun e=>absurd e hE)).zero (fun e=>absurd e hE)),jh,rfl,rfl⟩;done)
  |cons y k=>
   by_cases ey:(q:Int)<x3
   ·have hlt:=ey
    repeat' (conv=>arg 2;whnf);first|refine bZ (by(try dsimp only);omega) ?_|refine aV ?_ ?_|refine bY (by simp;omega) ?_|refine aW 0 (sD 64 (by decide)) bl el dJ fun x9 b9 e9 a9 o9 l9=>?_|refine aT (by constructor<;>(simp only[List.length_cons,List.length_nil,List.length_map,maxLen] at hn ⊢;omega)) ?_|exact aZ (q+1,((y::k)++[x9]),b9,e9) (Sv.mk' [0,1,2,6] rfl ⟨⟨rfl,rfl⟩,⟨rfl,rfl⟩,⟨rfl,rfl⟩,⟨rfl,by show AO.row _ _ ((y::k).map gS++[gS x9])=AO.row _ _ _;simp⟩,trivial⟩ ⟨rfl,rfl,rfl,rfl,rfl,trivial⟩) ⟨by show q+1<=_;omega,hA.snoc (iB 64) a9,fun z hz=>by first|(rcases List.mem_append.1 hz with hz|hz;exact hO z hz;rw[List.mem_singleton.1 hz];exact o9)|(rw[List.mem_singleton.1 hz];exact o9),by simp at hn ⊢;omega⟩ (by show x3.toNat-(q+1)<x3.toNat-q;omega)
   ·have hx:q=x3.toNat:=by omega
    have hG:=hA.all hx
    all_goals
     repeat' (conv=>arg 2;whnf);first|refine bB (by simp;omega) ?_|refine bq ?_
     have gb:=BX (((a2.pair ((a3.bind (q:=fun n:Int=>dG (fB 64) n.toNat) hG (fun n=>w7 (iB 64) _)).map Prod.snd) (((dD 4).bind fun n=>w7 (iB 64) _).map Prod.snd)).map (fun z=>(⟨2,z.1,[],0,z.2⟩:bt))).to (by unfold lP;rw[if_neg (by decide),if_neg (by decide),if_pos rfl]) rfl)
     have hc:=pq (⟨2,x2,[],0,(y::k)⟩:bt) ⟨bM (n:=2) (m:=2) (by omega) (by decide),(Nat.le_trans o2 (by decide)),Nat.zero_le _,bu,fL,fun z hz=>Nat.le_trans (hO z hz) (by decide)⟩
     by_cases hE:el=0
     ·subst hE
      by_cases hk:bS (⟨2,x2,[],0,(y::k)⟩:bt)=0
      ·rw[hk] at hc
       repeat' (conv=>arg 2;whnf);first|refine BY [3] hc rfl (.cons .z .nil) rfl ?_|refine cV [0] (vK bl) ?_|(refine eg (r:=.agg (cC (⟨2,x2,[],0,(y::k)⟩:bt))) (h':=bz (bl,0)) [3] [0] (.inr rfl) rfl rfl ⟨⟨rfl,rfl⟩,trivial⟩ ⟨⟨rfl,rfl⟩,trivial⟩ .z ⟨_,_,_,((gb.gQ (fun _=>hk)).zero (fun _=>rfl)),⟨bM (n:=2) (m:=2) (by omega) (by decide),(Nat.le_trans o2 (by decide)),Nat.zero_le _,bu,fL,fun z hz=>Nat.le_trans (hO z hz) (by decide)⟩,rfl,rfl⟩;done)
      ·repeat' (conv=>arg 2;whnf);first|refine BY [3] hc rfl (.cons .z .nil) rfl ?_|refine cV [0] (kF hk bl) ?_|refine bY (by simpa using hk) ?_|(refine eg (r:=.agg (cC dW)) (h':=bz ([],bS (⟨2,x2,[],0,(y::k)⟩:bt))) [] [0] (.inr rfl) rfl rfl ⟨⟨rfl,rfl⟩,trivial⟩ ⟨⟨rfl,rfl⟩,trivial⟩ .z ⟨_,_,_,((gb.nM (y:=dW) (u:=([],bS (⟨2,x2,[],0,(y::k)⟩:bt))) (fun _=>hk) hk (Nat.zero_le _)).zero (fun _=>rfl)),jh,rfl,rfl⟩;done)
     ·repeat' (conv=>arg 2;whnf);first|refine bB (by simpa using hE) ?_|refine bY (by simpa using hE) ?_|(refine eg (r:=.agg (cC dW)) (h':=bz (bl,el)) [] [0] (.inr rfl) rfl rfl ⟨⟨rfl,rfl⟩,trivial⟩ ⟨⟨rfl,rfl⟩,trivial⟩ .z ⟨_,_,_,((gb.gQ (fun e=>absurd e hE)).zero (fun e=>absurd e hE)),jh,rfl,rfl⟩;done)
 ·have hf:=IF
  repeat' (conv=>arg 2;whnf);first|refine bw (by decide) ?_|refine okF hf ?_
  conv=>arg 2;whnf
  refine aW 0 (sD 64 (by decide)) b1 e1 h1 fun x2 b2 e2 a2 o2 l2=>?_
  have h2:b2.length<=8388609:=by omega
  repeat' (conv=>arg 2;whnf);first|refine j8 x2 rfl ?_|refine aT (by omega) ?_
  conv=>arg 2;whnf
  refine aW 0 (sD 64 (by decide)) b2 e2 h2 fun x3 b3 e3 a3 o3 l3=>?_
  have h3:b3.length<=8388609:=by omega
  repeat' (conv=>arg 2;whnf);first|refine j8 x3 rfl ?_|refine aT (by omega) ?_
  conv=>arg 2;whnf
  refine aW 0 (mg MX (by decide)) b3 e3 h3 fun x4 b4 e4 a4 o4 l4=>?_
  have h4:b4.length<=8388609:=by omega
  repeat' (conv=>arg 2;whnf);first|refine gJ ?_
  have gb:=BX (((a2.pair (a3.pair a4 (dD _)) ((iB _).pair (dD _))).map (fun z=>(⟨3,z.1,z.2.1,z.2.2,[]⟩:bt))).to (by unfold lP;rw[if_neg (by decide),if_neg (by decide),if_neg (by decide),if_pos rfl]) rfl)
  have hc:=pq (⟨3,x2,x3,x4,[]⟩:bt) ⟨bM (n:=3) (m:=3) (by omega) (by decide),(Nat.le_trans o2 (by decide)),(Nat.le_trans o3 (by decide)),bM o4 (by decide),dO⟩
  by_cases hE:e4=0
  ·subst hE
   by_cases hk:bS (⟨3,x2,x3,x4,[]⟩:bt)=0
   ·rw[hk] at hc
    repeat' (conv=>arg 2;whnf);first|refine iU hc (.cons .z .nil) ?_|refine cV [0] (vK b4) ?_|(refine eg (r:=.agg (cC (⟨3,x2,x3,x4,[]⟩:bt))) (h':=bz (b4,0)) [] [0] (.inr rfl) rfl rfl ⟨⟨rfl,rfl⟩,trivial⟩ ⟨⟨rfl,rfl⟩,trivial⟩ .z ⟨_,_,_,((gb.gQ (fun _=>hk)).zero (fun _=>rfl)),⟨bM (n:=3) (m:=3) (by omega) (by decide),(Nat.le_trans o2 (by decide)),(Nat.le_trans o3 (by decide)),bM o4 (by decide),dO⟩,rfl,rfl⟩;done)
   ·repeat' (conv=>arg 2;whnf);first|refine iU hc (.cons .z .nil) ?_|refine cV [0] (kF hk b4) ?_|refine bY (by simpa using hk) ?_|(refine eg (r:=.agg (cC dW)) (h':=bz ([],bS (⟨3,x2,x3,x4,[]⟩:bt))) [] [0] (.inr rfl) rfl rfl ⟨⟨rfl,rfl⟩,trivial⟩ ⟨⟨rfl,rfl⟩,trivial⟩ .z ⟨_,_,_,((gb.nM (y:=dW) (u:=([],bS (⟨3,x2,x3,x4,[]⟩:bt))) (fun _=>hk) hk (Nat.zero_le _)).zero (fun _=>rfl)),jh,rfl,rfl⟩;done)
  ·repeat' (conv=>arg 2;whnf);first|refine bB (by simpa using hE) ?_|refine bY (by simpa using hE) ?_|(refine eg (r:=.agg (cC dW)) (h':=bz (b4,e4)) [] [0] (.inr rfl) rfl rfl ⟨⟨rfl,rfl⟩,trivial⟩ ⟨⟨rfl,rfl⟩,trivial⟩ .z ⟨_,_,_,((gb.gQ (fun e=>absurd e hE)).zero (fun e=>absurd e hE)),jh,rfl,rfl⟩;done)
 ·have hf:=IG
  repeat' (conv=>arg 2;whnf);first|refine bw (by decide) ?_|refine okF hf ?_
  conv=>arg 2;whnf
  refine aW 0 (sD 64 (by decide)) b1 e1 h1 fun x2 b2 e2 a2 o2 l2=>?_
  have h2:b2.length<=8388609:=by omega
  repeat' (conv=>arg 2;whnf);first|refine j8 x2 rfl ?_|refine aT (by omega) ?_
  conv=>arg 2;whnf
  refine aW 0 (mg MX (by decide)) b2 e2 h2 fun x3 b3 e3 a3 o3 l3=>?_
  have h3:b3.length<=8388609:=by omega
  repeat' (conv=>arg 2;whnf);first|refine gJ ?_
  have gb:=BX (((a2.pair a3 (dD _)).map (fun z=>(⟨4,z.1,[],z.2,[]⟩:bt))).to (by unfold lP;rw[if_neg (by decide),if_neg (by decide),if_neg (by decide),if_neg (by decide)]) rfl)
  have hc:=pq (⟨4,x2,[],x3,[]⟩:bt) ⟨bM (n:=4) (m:=4) (by omega) (by decide),(Nat.le_trans o2 (by decide)),Nat.zero_le _,bM o3 (by decide),dO⟩
  by_cases hE:e3=0
  ·subst hE
   by_cases hk:bS (⟨4,x2,[],x3,[]⟩:bt)=0
   ·rw[hk] at hc
    repeat' (conv=>arg 2;whnf);first|refine iU hc (.cons .z .nil) ?_|refine cV [0] (vK b3) ?_|(refine eg (r:=.agg (cC (⟨4,x2,[],x3,[]⟩:bt))) (h':=bz (b3,0)) [] [0] (.inr rfl) rfl rfl ⟨⟨rfl,rfl⟩,trivial⟩ ⟨⟨rfl,rfl⟩,trivial⟩ .z ⟨_,_,_,((gb.gQ (fun _=>hk)).zero (fun _=>rfl)),⟨bM (n:=4) (m:=4) (by omega) (by decide),(Nat.le_trans o2 (by decide)),Nat.zero_le _,bM o3 (by decide),dO⟩,rfl,rfl⟩;done)
   ·repeat' (conv=>arg 2;whnf);first|refine iU hc (.cons .z .nil) ?_|refine cV [0] (kF hk b3) ?_|refine bY (by simpa using hk) ?_|(refine eg (r:=.agg (cC dW)) (h':=bz ([],bS (⟨4,x2,[],x3,[]⟩:bt))) [] [0] (.inr rfl) rfl rfl ⟨⟨rfl,rfl⟩,trivial⟩ ⟨⟨rfl,rfl⟩,trivial⟩ .z ⟨_,_,_,((gb.nM (y:=dW) (u:=([],bS (⟨4,x2,[],x3,[]⟩:bt))) (fun _=>hk) hk (Nat.zero_le _)).zero (fun _=>rfl)),jh,rfl,rfl⟩;done)
  ·repeat' (conv=>arg 2;whnf);first|refine bB (by simpa using hE) ?_|refine bY (by simpa using hE) ?_|(refine eg (r:=.agg (cC dW)) (h':=bz (b3,e3)) [] [0] (.inr rfl) rfl rfl ⟨⟨rfl,rfl⟩,trivial⟩ ⟨⟨rfl,rfl⟩,trivial⟩ .z ⟨_,_,_,((gb.gQ (fun e=>absurd e hE)).zero (fun e=>absurd e hE)),jh,rfl,rfl⟩;done)
theorem JE {s:RS} (h:¬s.2=0):dA s=s.2:=if_neg h
theorem F3 {b:List UInt8} {e:Int} (h:dA (b,e)=0):e=0:=Classical.byContradiction fun n=>n ((JE (s:=(b,e)) n).symm.trans h)
def Rz (bs:List UInt8) (x:ju) (k:Int):Prop:=su.ok x/\(k=0->jm bs=(x,0))/\(¬k=0->¬(jm bs).2=0)
theorem abP {bs b:List UInt8} {x:ju} {e:Int} (g:au vL (bs,0) x (b,e)):(dA (b,e)=0->¬x.time=0->jm bs=(x,0))/\((¬dA (b,e)=0\/x.time=0)->¬(jm bs).2=0):=by
 by_cases he:e=0
 ·subst he
  have e1:=g.kM rfl
  unfold jm
  rw[e1]
  refine⟨fun h1 h2=>?_,fun h=>?_⟩
  ·simp only[h1,if_true]
   rw[if_neg h2]
  ·simp only
   split
   ·rename_i h1
    rw[if_pos (h.resolve_left (fun n=>n h1))]
    decide
   ·assumption
 ·have hb:=g.bad he
  have hd:dA (vL (bs,0)).2=(vL (bs,0)).2.2:=JE hb
  refine⟨fun h=>absurd (F3 h) he,fun _=>?_⟩
  unfold jm
  rw[hd,if_neg hb]
  exact hb
theorem E5 {s t:RS} {x b9:List UInt8} {y:ju} {k:Int} {z:bJ} (a:au (fB 1024) s x (b9,0)) (q:Rz x y k) (h:(k=0/\au cO (b9,0) z t)\/(¬k=0/\au cO ([],k) z t)):au jj s ⟨y,z⟩ t:=by
 rcases h with⟨hk,h⟩|⟨hk,h⟩
 ·have e1:=q.2.1 hk
  have g:=((a.gQ (f:=fun x=>(jm x).2) (fun _=>by rw[e1])).pair h eM).map (fun z:List UInt8×bJ=>(⟨(jm z.1).1,z.2⟩:bX))
  exact g.to rfl (by simp[e1])
 ·have g:=((a.nM (y:=x) (u:=([],k)) (f:=fun x=>(jm x).2) (fun _=>q.2.2 hk) hk (Nat.zero_le _)).pair h eM).map (fun z:List UInt8×bJ=>(⟨(jm z.1).1,z.2⟩:bX))
  exact .xu (g.bad (h.stay eM hk)) (h.stay eM hk) g.len
theorem N9 {s t:RS} {x:List UInt8} (a:au (fB 1024) s x t) (h:¬t.2=0):¬(jj s).2.2=0:=
 C8 <| CZ (p:=fZ (fB 1024) fun x=>(jm x).2) (q:=fun _=>cO) (fun _=>eM) ((a.gQ (f:=fun x=>(jm x).2) (fun e=>absurd e h)).bad h)
theorem Bm:Rd1 uC:=jL eM _
theorem ZL {s0 s1 s2 s3 s4 s5 s6:RS} {x1 x2 x3:Int} {x4:bJ} {x5:List bJ} {x6:List bX} (a1:au (bF 0) s0 x1 s1) (a2:au (bF 1) s1 x2 s2) (a3:au (bF 1) s2 x3 s3) (a4:au cO s3 x4 s4) (a5:au uC s4 x5 s5) (a6:au jZ s5 x6 s6):au jB s0 ⟨x1,x2,x3,x4,x5,x6⟩ s6:=
 (a1.pair (a2.pair (a3.pair (a4.pair (a5.pair a6 oD) (Bm.pair oD)) (eM.pair (Bm.pair oD))) ((bV _).pair (eM.pair (Bm.pair oD)))) ((bV _).pair ((bV _).pair (eM.pair (Bm.pair oD))))).map (fun z:Int×Int×Int×bJ×List bJ×List bX=>(⟨z.1,z.2.1,z.2.2.1,z.2.2.2.1,z.2.2.2.2.1,z.2.2.2.2.2⟩:jt))
theorem QM {s0 s1 s2 s3 s4 s5 s6:RS} {x1 x2 x4:Int} {x3:gX} {l:List jt} {x7:bJ} (a1:au (bF 1) s0 x1 s1) (a2:au (nR 12) s1 x2 s2) (a3:au lT s2 x3 s3) (a4:au (ia 8) s3 x4 s4) (hG:au (aP jB x4.toNat) s4 l s5) (a7:au cO s5 x7 s6):au iE s0 ⟨x1,x2,x3,l,x7⟩ s6:=
 (a1.pair (a2.pair (a3.pair ((a4.cY uv hG).pair a7 eM) ((jL uv _).pair eM)) (uw.pair ((jL uv _).pair eM))) ((dD _).pair (uw.pair ((jL uv _).pair eM)))).map (fun z:Int×Int×gX×List jt×bJ=>(⟨z.1,z.2.1,z.2.2.1,z.2.2.2.1,z.2.2.2.2⟩:cX))
theorem qG [Wd] {Q:Exit->S->Prop} {bR:List D} {hb:List AO} {c:D->List AO->T} (o:Nat) (b:List UInt8) (e:Int) (hv:jF hb [o] [o] (bz (b,e))) (hc:aa bR [.ptr o 0]) (hM:([o].all fun o=>(jT hb bR).elem o)=true) (k:(c (.int .i64 (dA (b,e))) (lK hb [o] (bz (b,e)) (bz (b,e)))).ok prog Q):(T.call 79 bR hb c).ok prog Q:=
 mA [o] (abL b e) (.mk' rfl hv) hc hM k
theorem NN [Wd] (bs:List UInt8) (kC:bs.length<=8388609):bC prog 247 [.list 1 (bs.map af)] [] (fun r h=>(∃x k,Rz bs x k/\r=.aj [.agg (sw x),.int .i64 k])/\h=[]):=by
 refine ak 32 [] func247 ?_
 repeat' (conv=>arg 2;whnf);first|refine cV [] (Dq bs) ?_
 conv=>arg 2;whnf
 refine aW 1 (mg 7 (by decide)) bs 0 kC fun x1 b1 e1 a1 o1 l1=>?_
 have h1:b1.length<=8388609:=by omega
 have Ep:0<=x1/\x1<=7:=o1
 repeat' (conv=>arg 2;whnf);first|refine gJ ?_
 conv=>arg 2;whnf
 refine aW 1 (mg MX (by decide)) b1 e1 h1 fun x2 b2 e2 a2 o2 l2=>?_
 have h2:b2.length<=8388609:=by omega
 have L7:0<=x2/\x2<=9007199254740992:=o2
 repeat' (conv=>arg 2;whnf);first|refine gJ ?_
 conv=>arg 2;whnf
 refine aW 1 (OJ) b2 e2 h2 fun x3 b3 e3 a3 o3 l3=>?_
 have h3:b3.length<=8388609:=by omega
 have g:au vL (bs,0) ⟨x1,x2,x3⟩ (b3,e3):=(a1.pair (a2.pair a3 DE) ((dD _).pair DE)).map (fun z:Int×Int×bt=>(⟨z.1,z.2.1,z.2.2⟩:ju))
 obtain⟨q1,q2⟩:=abP g
 have d1:su.ok ⟨x1,x2,x3⟩:=⟨bM Ep (by decide),bM L7 (by decide),o3⟩
 have dz:su.ok wu:=⟨bu,bu,jh⟩
 by_cases hD:dA (b3,e3)=0
 ·by_cases ht:x2=0
  ·repeat' (conv=>arg 2;whnf);first|refine qG 1 b3 e3 ⟨⟨rfl,rfl⟩,trivial⟩ (aa.refl _) rfl ?_|(rw[hD])|refine bY (by simpa using ht) ?_|exact bf (r:=.aj [.agg (sw wu),.int .i64 80]) (h':=[]) [] (.inr rfl) rfl rfl trivial trivial .y ⟨⟨_,_,⟨dz,fun h=>absurd h (by decide),fun _=>q2 (.inr ht)⟩,rfl⟩,rfl⟩
  ·repeat' (conv=>arg 2;whnf);first|refine qG 1 b3 e3 ⟨⟨rfl,rfl⟩,trivial⟩ (aa.refl _) rfl ?_|refine bY (by simpa using hD) ?_|refine bB (by simpa using ht) ?_|refine bB (by simpa using hD) ?_|exact bf (r:=.aj [.agg (sw ⟨x1,x2,x3⟩),.int .i64 0]) (h':=[]) [] (.inr rfl) rfl rfl trivial trivial .y ⟨⟨_,_,⟨d1,fun _=>q1 hD ht,fun h=>absurd rfl h⟩,rfl⟩,rfl⟩
 ·repeat' (conv=>arg 2;whnf);first|refine qG 1 b3 e3 ⟨⟨rfl,rfl⟩,trivial⟩ (aa.refl _) rfl ?_|refine bB (by simpa using hD) ?_|refine bY (by simpa using hD) ?_|exact bf (r:=.aj [.agg (sw wu),.int .i64 (dA (b3,e3))]) (h':=[]) [] (.inr rfl) rfl rfl trivial trivial .y ⟨⟨_,_,⟨dz,fun h=>absurd h hD,fun _=>q2 (.inl hD)⟩,rfl⟩,rfl⟩
theorem zk [Wd]:lX 180 [] jZ (dL fX).ok (fun l=>.list 9 (l.map bI)):=by
 intro b0 e0 h0
 refine iV 61 [(10,⟨.of [(0,false),(1,false),(2,false),(3,true),(4,false),(5,true),(6,true),(7,false)],[0,1,1003,1006]⟩)] func180 ?_
 repeat' (conv=>arg 2;whnf);first|refine aY ?_|refine aV ?_ ?_
 conv=>arg 2;whnf
 refine aW 0 (mg 4 (by decide)) b0 e0 h0 fun x1 b1 e1 a1 o1 l1=>?_
 have h1:b1.length<=8388609:=by omega
 repeat' (conv=>arg 2;whnf);first|refine gJ ?_
 conv=>arg 2;whnf
 refine bE (α:=Nat×List bX×List UInt8×Int) (fun a=>match a.2.1 with
  |[]=>⟨[(5,.int .i64 a.1),(4,.nils),(3,.int .i64 x1),(0,.ptr 0 0)],[.cells 176 [.list 1 (a.2.2.1.map af),.int .i64 a.2.2.2]]⟩
  |y::k=>⟨[(5,.int .i64 a.1),(4,.row 1),(3,.int .i64 x1),(0,.ptr 0 0)],[.cells 176 [.list 1 (a.2.2.1.map af),.int .i64 a.2.2.2],.row 183 9 ((y::k).map bI)]⟩) (fun a=>a.1<=x1.toNat/\au (dG jj a.1) (b1,e1) a.2.1 (a.2.2.1,a.2.2.2)/\(∀z∈a.2.1,fX.ok z)/\a.2.1.length=a.1) (fun a=>x1.toNat-a.1) (0,[],b1,e1) ⟨Nat.zero_le _,au.nil _,fun z hz=>(List.not_mem_nil hz).elim,rfl⟩ (Sv.aK [0]) ?_
 rintro⟨q,l,bl,el⟩ ⟨hq,hA,hO,hn⟩
 replace hq:q<=x1.toNat:=hq
 replace hA:au (dG jj q) (b1,e1) l (bl,el):=hA
 replace hO:∀z∈l,fX.ok z:=hO
 replace hn:l.length=q:=hn
 have dJ:bl.length<=8388609:=Nat.le_trans hA.len (by assumption)
 have fL:l.length<=4194304:=by omega
 cases l with
 |nil=>
  by_cases ey:(q:Int)<x1/\el=0
  ·obtain⟨hlt,rfl⟩:=ey
   repeat' (conv=>arg 2;whnf);first|refine bY (by simp;omega) ?_
   conv=>arg 2;whnf
   refine aW 0 (sD 1024 (by decide)) bl 0 dJ fun x9 b9 e9 a9 o9 l9=>?_
   have h9:b9.length<=8388609:=by omega
   by_cases oq:e9=0
   ·subst oq
    repeat' (conv=>arg 2;whnf);first|refine eI (NN x9 (by omega)) rfl (aa.refl _) fun r ⟨y9,k9,q9,er⟩=>?_
    subst er
    by_cases hk:k9=0
    ·subst hk
     repeat' (conv=>arg 2;whnf);first|refine cV [0] (vK b9) ?_
     conv=>arg 2;whnf
     refine aW 0 kE (b9) (0) (by omega) fun iW tX uW yX u0 l10=>?_
     have aS:=E5 a9 q9 (.inl ⟨rfl,yX⟩)
     have L8:tX.length<=8388609:=Nat.le_trans l10 (by first|assumption|exact Nat.zero_le _)
     repeat' (conv=>arg 2;whnf);first|refine bZ (by(try dsimp only);omega) ?_|refine aT (by constructor<;>(simp only[List.length_cons,List.length_nil,maxLen] at hn ⊢;omega)) ?_|exact aZ (q+1,[bX.mk y9 iW],tX,uW) (Sv.mk' [0,5] rfl (And.intro (And.intro rfl rfl) (And.intro (And.intro rfl (by show AO.row _ _ ([]++[bI (bX.mk y9 iW)])=AO.row _ _ _;simp)) trivial)) ⟨rfl,rfl,rfl,rfl,trivial⟩) ⟨by show q+1<=_;omega,hA.snoc oB aS,fun z hz=>by first|(rcases List.mem_append.1 hz with hz|hz;exact hO z hz;rw[List.mem_singleton.1 hz];exact⟨q9.1,u0⟩)|(rw[List.mem_singleton.1 hz];exact⟨q9.1,u0⟩),by simp at hn ⊢;omega⟩ (by show x1.toNat-(q+1)<x1.toNat-q;omega)
    ·skip
     repeat' (conv=>arg 2;whnf);first|refine cV [0] (kF hk b9) ?_
     conv=>arg 2;whnf
     refine wG 0 kE ([]) (k9) (Nat.zero_le _) ⟨⟨rfl,rfl⟩,trivial⟩ (aa.refl _) rfl fun iW tX uW yX u0 l10=>?_
     have aS:=E5 a9 q9 (.inr ⟨hk,yX⟩)
     have L8:tX.length<=8388609:=Nat.le_trans l10 (by first|assumption|exact Nat.zero_le _)
     repeat' (conv=>arg 2;whnf);first|refine bZ (by(try dsimp only);omega) ?_|refine aT (by constructor<;>(simp only[List.length_cons,List.length_nil,maxLen] at hn ⊢;omega)) ?_|exact aZ (q+1,[bX.mk y9 iW],tX,uW) (Sv.mk' [0,5] rfl (And.intro (And.intro rfl rfl) (And.intro (And.intro rfl (by show AO.row _ _ ([]++[bI (bX.mk y9 iW)])=AO.row _ _ _;simp)) trivial)) ⟨rfl,rfl,rfl,rfl,trivial⟩) ⟨by show q+1<=_;omega,hA.snoc oB aS,fun z hz=>by first|(rcases List.mem_append.1 hz with hz|hz;exact hO z hz;rw[List.mem_singleton.1 hz];exact⟨q9.1,u0⟩)|(rw[List.mem_singleton.1 hz];exact⟨q9.1,u0⟩),by simp at hn ⊢;omega⟩ (by show x1.toNat-(q+1)<x1.toNat-q;omega)
   ·have aS:au jj (bl,0) QN (b9,e9):=.xu (N9 a9 oq) oq a9.len
    have hG:au (aP jj x1.toNat) (b1,e1) _ (b9,e9):=(hA.snoc oB aS).list oB (by omega) (.inr oq)
    have gm:=(a1.bind (q:=fun n:Int=>aP jj n.toNat) hG (fun n=>uB oB _)).map Prod.snd
    repeat' (conv=>arg 2;whnf);first|refine bY (by simpa using oq) ?_|refine bB (by simpa using oq) ?_|(refine eg (r:=.list 9 (([]:List bX).map bI)) (h':=bz (b9,e9)) [] [0] (.inr rfl) rfl rfl ⟨⟨rfl,rfl⟩,trivial⟩ ⟨⟨rfl,rfl⟩,trivial⟩ (.nil _) ⟨_,_,_,((gm.gQ (fun e=>absurd e oq)).zero (fun e=>absurd e oq)),dO,rfl,rfl⟩;done)
  ·have hx:q=x1.toNat\/¬el=0:=by omega
   have hG:au (aP jj x1.toNat) (b1,e1) [] (bl,el):=hA.list oB hq hx
   rcases(show(¬(q:Int)<x1)\/((q:Int)<x1/\¬el=0) by omega) with dh|⟨dh,jU⟩
   all_goals
    have gm:=((a1.bind (q:=fun n:Int=>aP jj n.toNat) hG (fun n=>uB oB _)).map Prod.snd)
    by_cases hE:el=0
    ·subst hE
     by_cases hk:fA []=0
     ·repeat' (conv=>arg 2;whnf);first|(exfalso;omega)|refine bB (by simp;omega) ?_|refine bq ?_|refine iU (vB [] ⟨Nat.zero_le _,hO⟩) (.cons (.nil _) .nil) ?_|(rw[hk];refine cV [0] (vK bl) ?_)|(refine eg (r:=.list 9 (([]:List bX).map bI)) (h':=bz (bl,0)) [] [0] (.inr rfl) rfl rfl ⟨⟨rfl,rfl⟩,trivial⟩ ⟨⟨rfl,rfl⟩,trivial⟩ (.nil _) ⟨_,_,_,((gm.gQ (fun _=>hk)).zero (fun _=>rfl)),⟨fL,hO⟩,rfl,rfl⟩;done)
     ·repeat' (conv=>arg 2;whnf);first|(exfalso;omega)|refine bB (by simp;omega) ?_|refine bq ?_|refine iU (vB [] ⟨Nat.zero_le _,hO⟩) (.cons (.nil _) .nil) ?_|refine cV [0] (kF hk bl) ?_|(refine eg (r:=.list 9 (([]:List bX).map bI)) (h':=bz ([],(fA []))) [] [0] (.inr rfl) rfl rfl ⟨⟨rfl,rfl⟩,trivial⟩ ⟨⟨rfl,rfl⟩,trivial⟩ (.nil _) ⟨_,_,_,((gm.nM (y:=[]) (u:=([],fA [])) (fun _=>hk) hk (Nat.zero_le _)).zero (fun _=>rfl)),dO,rfl,rfl⟩;done)
    ·repeat' (conv=>arg 2;whnf);first|refine bY (by simp;omega) ?_|refine bB (by simp;omega) ?_|(refine eg (r:=.list 9 (([]:List bX).map bI)) (h':=bz (bl,el)) [] [0] (.inr rfl) rfl rfl ⟨⟨rfl,rfl⟩,trivial⟩ ⟨⟨rfl,rfl⟩,trivial⟩ (.nil _) ⟨_,_,_,((gm.gQ (fun e=>absurd e hE)).zero (fun e=>absurd e hE)),dO,rfl,rfl⟩;done)
 |cons y k=>
  by_cases ey:(q:Int)<x1/\el=0
  ·obtain⟨hlt,rfl⟩:=ey
   repeat' (conv=>arg 2;whnf);first|refine bY (by simp;omega) ?_
   conv=>arg 2;whnf
   refine aW 0 (sD 1024 (by decide)) bl 0 dJ fun x9 b9 e9 a9 o9 l9=>?_
   have h9:b9.length<=8388609:=by omega
   by_cases oq:e9=0
   ·subst oq
    repeat' (conv=>arg 2;whnf);first|refine eI (NN x9 (by omega)) rfl (aa.refl _) fun r ⟨y9,k9,q9,er⟩=>?_
    subst er
    by_cases hk:k9=0
    ·subst hk
     repeat' (conv=>arg 2;whnf);first|refine cV [0] (vK b9) ?_
     conv=>arg 2;whnf
     refine aW 0 kE (b9) (0) (by omega) fun iW tX uW yX u0 l10=>?_
     have aS:=E5 a9 q9 (.inl ⟨rfl,yX⟩)
     have L8:tX.length<=8388609:=Nat.le_trans l10 (by first|assumption|exact Nat.zero_le _)
     repeat' (conv=>arg 2;whnf);first|refine bZ (by(try dsimp only);omega) ?_|refine aT (by constructor<;>(simp only[List.length_cons,List.length_nil,List.length_map,maxLen] at hn ⊢;omega)) ?_|exact aZ (q+1,((y::k)++[bX.mk y9 iW]),tX,uW) (Sv.mk' [0,6] rfl (And.intro (And.intro rfl rfl) (And.intro (And.intro rfl (by show AO.row _ _ ((y::k).map bI++[bI (bX.mk y9 iW)])=AO.row _ _ _;simp)) trivial)) ⟨rfl,rfl,rfl,rfl,trivial⟩) ⟨by show q+1<=_;omega,hA.snoc oB aS,fun z hz=>by first|(rcases List.mem_append.1 hz with hz|hz;exact hO z hz;rw[List.mem_singleton.1 hz];exact⟨q9.1,u0⟩)|(rw[List.mem_singleton.1 hz];exact⟨q9.1,u0⟩),by simp at hn ⊢;omega⟩ (by show x1.toNat-(q+1)<x1.toNat-q;omega)
    ·skip
     repeat' (conv=>arg 2;whnf);first|refine cV [0] (kF hk b9) ?_
     conv=>arg 2;whnf
     refine wG 0 kE ([]) (k9) (Nat.zero_le _) ⟨⟨rfl,rfl⟩,trivial⟩ (aa.refl _) rfl fun iW tX uW yX u0 l10=>?_
     have aS:=E5 a9 q9 (.inr ⟨hk,yX⟩)
     have L8:tX.length<=8388609:=Nat.le_trans l10 (by first|assumption|exact Nat.zero_le _)
     repeat' (conv=>arg 2;whnf);first|refine bZ (by(try dsimp only);omega) ?_|refine aT (by constructor<;>(simp only[List.length_cons,List.length_nil,List.length_map,maxLen] at hn ⊢;omega)) ?_|exact aZ (q+1,((y::k)++[bX.mk y9 iW]),tX,uW) (Sv.mk' [0,6] rfl (And.intro (And.intro rfl rfl) (And.intro (And.intro rfl (by show AO.row _ _ ((y::k).map bI++[bI (bX.mk y9 iW)])=AO.row _ _ _;simp)) trivial)) ⟨rfl,rfl,rfl,rfl,trivial⟩) ⟨by show q+1<=_;omega,hA.snoc oB aS,fun z hz=>by first|(rcases List.mem_append.1 hz with hz|hz;exact hO z hz;rw[List.mem_singleton.1 hz];exact⟨q9.1,u0⟩)|(rw[List.mem_singleton.1 hz];exact⟨q9.1,u0⟩),by simp at hn ⊢;omega⟩ (by show x1.toNat-(q+1)<x1.toNat-q;omega)
   ·have aS:au jj (bl,0) QN (b9,e9):=.xu (N9 a9 oq) oq a9.len
    have hG:au (aP jj x1.toNat) (b1,e1) _ (b9,e9):=(hA.snoc oB aS).list oB (by omega) (.inr oq)
    have gm:=(a1.bind (q:=fun n:Int=>aP jj n.toNat) hG (fun n=>uB oB _)).map Prod.snd
    repeat' (conv=>arg 2;whnf);first|refine bY (by simpa using oq) ?_|refine bB (by simpa using oq) ?_|(refine eg (r:=.list 9 (([]:List bX).map bI)) (h':=bz (b9,e9)) [] [0] (.inr rfl) rfl rfl ⟨⟨rfl,rfl⟩,trivial⟩ ⟨⟨rfl,rfl⟩,trivial⟩ (.nil _) ⟨_,_,_,((gm.gQ (fun e=>absurd e oq)).zero (fun e=>absurd e oq)),dO,rfl,rfl⟩;done)
  ·have hx:q=x1.toNat\/¬el=0:=by omega
   have hG:au (aP jj x1.toNat) (b1,e1) (y::k) (bl,el):=hA.list oB hq hx
   rcases(show(¬(q:Int)<x1)\/((q:Int)<x1/\¬el=0) by omega) with dh|⟨dh,jU⟩
   all_goals
    have gm:=((a1.bind (q:=fun n:Int=>aP jj n.toNat) hG (fun n=>uB oB _)).map Prod.snd)
    by_cases hE:el=0
    ·subst hE
     by_cases hk:fA (y::k)=0
     ·repeat' (conv=>arg 2;whnf);first|(exfalso;omega)|refine bB (by simp;omega) ?_|refine bq ?_|refine BY [1] (vB (y::k) ⟨fL,hO⟩) rfl (aa.refl _) rfl ?_|(rw[hk];refine cV [0] (vK bl) ?_)|(refine eg (r:=.list 9 (((y::k):List bX).map bI)) (h':=bz (bl,0)) [1] [0] (.inr rfl) rfl rfl ⟨⟨rfl,rfl⟩,trivial⟩ ⟨⟨rfl,rfl⟩,trivial⟩ (.refl _) ⟨_,_,_,((gm.gQ (fun _=>hk)).zero (fun _=>rfl)),⟨fL,hO⟩,rfl,rfl⟩;done)
     ·repeat' (conv=>arg 2;whnf);first|(exfalso;omega)|refine bY (by simp;omega) ?_|refine bB (by simp;omega) ?_|refine bq ?_|refine BY [1] (vB (y::k) ⟨fL,hO⟩) rfl (aa.refl _) rfl ?_|refine cV [0] (kF hk bl) ?_|(refine eg (r:=.list 9 (([]:List bX).map bI)) (h':=bz ([],(fA (y::k)))) [] [0] (.inr rfl) rfl rfl ⟨⟨rfl,rfl⟩,trivial⟩ ⟨⟨rfl,rfl⟩,trivial⟩ (.nil _) ⟨_,_,_,((gm.nM (y:=[]) (u:=([],fA (y::k))) (fun _=>hk) hk (Nat.zero_le _)).zero (fun _=>rfl)),dO,rfl,rfl⟩;done)
    ·repeat' (conv=>arg 2;whnf);first|refine bY (by simp;omega) ?_|refine bB (by simp;omega) ?_|(refine eg (r:=.list 9 (([]:List bX).map bI)) (h':=bz (bl,el)) [] [0] (.inr rfl) rfl rfl ⟨⟨rfl,rfl⟩,trivial⟩ ⟨⟨rfl,rfl⟩,trivial⟩ (.nil _) ⟨_,_,_,((gm.gQ (fun e=>absurd e hE)).zero (fun e=>absurd e hE)),dO,rfl,rfl⟩;done)
theorem NO [Wd]:lX 249 [] jB oC.ok (fun x=>.agg (fk x)):=by
 intro b0 e0 h0
 refine ak 23 [] func249 ?_
 repeat' (conv=>arg 2;whnf);first|refine aY ?_|refine aV ?_ ?_
 conv=>arg 2;whnf
 refine aW 0 (gO 0) b0 e0 h0 fun x1 b1 e1 a1 o1 l1=>?_
 have h1:b1.length<=8388609:=by omega
 repeat' (conv=>arg 2;whnf);first|refine aY ?_|refine aV ?_ ?_
 conv=>arg 2;whnf
 refine aW 0 (gO 1) b1 e1 h1 fun x2 b2 e2 a2 o2 l2=>?_
 have h2:b2.length<=8388609:=by omega
 repeat' (conv=>arg 2;whnf);first|refine aY ?_|refine aV ?_ ?_
 conv=>arg 2;whnf
 refine aW 0 (gO 1) b2 e2 h2 fun x3 b3 e3 a3 o3 l3=>?_
 have h3:b3.length<=8388609:=by omega
 repeat' (conv=>arg 2;whnf);first|refine aY ?_|refine aV ?_ ?_
 conv=>arg 2;whnf
 refine aW 0 (kE) b3 e3 h3 fun x4 b4 e4 a4 o4 l4=>?_
 have h4:b4.length<=8388609:=by omega
 repeat' (conv=>arg 2;whnf);first|refine aY ?_|refine aV ?_ ?_
 conv=>arg 2;whnf
 refine aW 0 (ZK) b4 e4 h4 fun x5 b5 e5 a5 o5 l5=>?_
 have h5:b5.length<=8388609:=by omega
 repeat' (conv=>arg 2;whnf);first|refine aY ?_|refine aV ?_ ?_
 conv=>arg 2;whnf
 refine aW 0 (zk) b5 e5 h5 fun x6 b6 e6 a6 o6 l6=>?_
 have h6:b6.length<=8388609:=by omega
 repeat' (conv=>arg 2;whnf);first|exact bf (r:=.agg (fk ⟨x1,x2,x3,x4,x5,x6⟩)) (h':=bz (b6,e6)) [0] (.inr rfl) rfl rfl ⟨⟨rfl,rfl⟩,trivial⟩ ⟨⟨rfl,rfl⟩,trivial⟩ (.refl _) ⟨⟨x1,x2,x3,x4,x5,x6⟩,_,_,ZL a1 a2 a3 a4 a5 a6,⟨bM o1 (by decide),bM o2 (by decide),bM o3 (by decide),o4,o5,o6⟩,rfl,rfl⟩
theorem Ft [Wd]:lX 186 [] iE fP.ok (fun c=>.agg (bU c)):=by
 intro b0 e0 h0
 refine iV 41 [(8,⟨(.one 0 false (.one 2 false (.alt 1 (.one 3 true (.one 4 true (.one 5 true (.one 6 false (.one 7 true .done))))) (.one 3 true (.alt 1 (.one 4 true (.one 5 true (.one 6 false (.one 7 true .done)))) (.one 4 true (.one 1 true (.one 5 true (.one 6 false (.one 7 true .done)))))))))),[0,2,3]⟩)] func186 ?_
 repeat' (conv=>arg 2;whnf);first|refine aY ?_|refine aV ?_ ?_
 conv=>arg 2;whnf
 refine aW 0 (gO 1) b0 e0 h0 fun x1 b1 e1 a1 o1 l1=>?_
 have h1:b1.length<=8388609:=by omega
 repeat' (conv=>arg 2;whnf);first|refine aY ?_|refine aV ?_ ?_
 conv=>arg 2;whnf
 refine aW 0 (mg 12 (by decide)) b1 e1 h1 fun x2 b2 e2 a2 o2 l2=>?_
 have h2:b2.length<=8388609:=by omega
 repeat' (conv=>arg 2;whnf);first|refine bw (i64_in o2 (by decide)) ?_
 conv=>arg 2;whnf
 refine aW 0 (BA) b2 e2 h2 fun x3 b3 e3 a3 o3 l3=>?_
 have h3:b3.length<=8388609:=by omega
 repeat' (conv=>arg 2;whnf);first|refine aY ?_|refine aV ?_ ?_
 conv=>arg 2;whnf
 refine aW 0 (nK 8 (by decide)) b3 e3 h3 fun x4 b4 e4 a4 o4 l4=>?_
 have h4:b4.length<=8388609:=by omega
 have L9:0<=x4/\x4<=8:=o4
 repeat' (conv=>arg 2;whnf);first|refine aY ?_|refine aV ?_ ?_|(apply an<;>intro h<;>simp at h)
 conv=>arg 2;whnf
 refine bE (α:=Nat×List jt×List UInt8×Int) (fun a=>match a.2.1 with
  |[]=>⟨[(5,.int .i64 a.1),(4,.int .i64 x4),(3,.ptr 2 0),(2,.ptr 1 0),(0,.ptr 0 0)],[.cells 176 [.list 1 (a.2.2.1.map af),.int .i64 a.2.2.2],.cells 145 [.int .i64 0,.int .i64 0,.int .i64 0,.int .i64 0,.nils,.nils,.int .i64 0,.int .i64 0],.cells 145 [.int .i64 x1,.int .i64 x2,.int .i64 x3.seq,.int .i64 x3.ah,.list 2 (x3.cM.map bL),.nils,.int .i64 0,.int .i64 0]]⟩
  |y::k=>⟨[(5,.int .i64 a.1),(4,.int .i64 x4),(3,.ptr 2 0),(2,.ptr 1 0),(0,.ptr 0 0)],[.cells 176 [.list 1 (a.2.2.1.map af),.int .i64 a.2.2.2],.cells 145 [.int .i64 0,.int .i64 0,.int .i64 0,.int .i64 0,.nils,.nils,.int .i64 0,.int .i64 0],.cells 145 [.int .i64 x1,.int .i64 x2,.int .i64 x3.seq,.int .i64 x3.ah,.list 2 (x3.cM.map bL),.row 3,.int .i64 0,.int .i64 0],.row 190 7 ((y::k).map fk)]⟩) (fun a=>a.1<=x4.toNat/\au (dG jB a.1) (b4,e4) a.2.1 (a.2.2.1,a.2.2.2)/\(∀z∈a.2.1,oC.ok z)/\a.2.1.length=a.1) (fun a=>x4.toNat-a.1) (0,[],b4,e4) ⟨Nat.zero_le _,au.nil _,fun z hz=>(List.not_mem_nil hz).elim,rfl⟩ (Sv.aK [0,1,3]) ?_
 rintro⟨q,l,bl,el⟩ ⟨hq,hA,hO,hn⟩
 replace hq:q<=x4.toNat:=hq
 replace hA:au (dG jB q) (b4,e4) l (bl,el):=hA
 replace hO:∀z∈l,oC.ok z:=hO
 replace hn:l.length=q:=hn
 have dJ:bl.length<=8388609:=Nat.le_trans hA.len (by assumption)
 have fL:l.length<=4194304:=by omega
 cases l with
 |nil=>
  by_cases ey:(q:Int)<x4/\el=0
  ·obtain⟨hlt,rfl⟩:=ey
   repeat' (conv=>arg 2;whnf);first|refine bZ (by(try dsimp only);omega) ?_|refine aV ?_ ?_|refine bY (by simp;omega) ?_|refine aW 0 (NO) bl 0 dJ fun x9 b9 e9 a9 o9 l9=>?_|refine aT (by constructor<;>(simp only[List.length_cons,List.length_nil,maxLen] at hn ⊢;omega)) ?_|exact aZ (q+1,[x9],b9,e9) (Sv.mk' [0,1,2,4] rfl ⟨⟨rfl,rfl⟩,⟨rfl,rfl⟩,⟨rfl,rfl⟩,⟨rfl,by show AO.row _ _ ([]++[fk x9])=AO.row _ _ _;simp⟩,trivial⟩ ⟨rfl,rfl,rfl,rfl,rfl,trivial⟩) ⟨by show q+1<=_;omega,hA.snoc uv a9,fun z hz=>by first|(rcases List.mem_append.1 hz with hz|hz;exact hO z hz;rw[List.mem_singleton.1 hz];exact o9)|(rw[List.mem_singleton.1 hz];exact o9),by simp at hn ⊢;omega⟩ (by show x4.toNat-(q+1)<x4.toNat-q;omega)
  ·have hx:q=x4.toNat\/¬el=0:=by omega
   have hG:au (aP jB x4.toNat) (b4,e4) [] (bl,el):=hA.list uv hq hx
   rcases(show(¬(q:Int)<x4)\/((q:Int)<x4/\¬el=0) by omega) with dh|⟨dh,jU⟩
   all_goals
    repeat' (conv=>arg 2;whnf);first|refine bY (by simp;omega) ?_|refine bB (by simp;omega) ?_|refine bq ?_
    conv=>arg 2;whnf
    refine aW 0 (kE) bl el dJ fun x7 b7 e7 a7 o7 l7=>?_
    have h7:b7.length<=8388609:=by omega
    repeat' (conv=>arg 2;whnf);first|exact eg (r:=.agg (bU ⟨x1,x2,x3,[],x7⟩)) (h':=bz (b7,e7)) [] [0] (.inr rfl) rfl rfl ⟨⟨rfl,rfl⟩,trivial⟩ ⟨⟨rfl,rfl⟩,trivial⟩ .z ⟨_,_,_,QM a1 a2 a3 a4 hG a7,⟨bM o1 (by decide),bM o2 (by decide),o3,⟨fL,hO⟩,o7⟩,rfl,rfl⟩
 |cons y k=>
  by_cases ey:(q:Int)<x4/\el=0
  ·obtain⟨hlt,rfl⟩:=ey
   repeat' (conv=>arg 2;whnf);first|refine bZ (by(try dsimp only);omega) ?_|refine aV ?_ ?_|refine bY (by simp;omega) ?_|refine aW 0 (NO) bl 0 dJ fun x9 b9 e9 a9 o9 l9=>?_|refine aT (by constructor<;>(simp only[List.length_cons,List.length_nil,List.length_map,maxLen] at hn ⊢;omega)) ?_|exact aZ (q+1,((y::k)++[x9]),b9,e9) (Sv.mk' [0,1,2,5] rfl ⟨⟨rfl,rfl⟩,⟨rfl,rfl⟩,⟨rfl,rfl⟩,⟨rfl,by show AO.row _ _ ((y::k).map fk++[fk x9])=AO.row _ _ _;simp⟩,trivial⟩ ⟨rfl,rfl,rfl,rfl,rfl,trivial⟩) ⟨by show q+1<=_;omega,hA.snoc uv a9,fun z hz=>by first|(rcases List.mem_append.1 hz with hz|hz;exact hO z hz;rw[List.mem_singleton.1 hz];exact o9)|(rw[List.mem_singleton.1 hz];exact o9),by simp at hn ⊢;omega⟩ (by show x4.toNat-(q+1)<x4.toNat-q;omega)
  ·have hx:q=x4.toNat\/¬el=0:=by omega
   have hG:au (aP jB x4.toNat) (b4,e4) (y::k) (bl,el):=hA.list uv hq hx
   rcases(show(¬(q:Int)<x4)\/((q:Int)<x4/\¬el=0) by omega) with dh|⟨dh,jU⟩
   all_goals
    repeat' (conv=>arg 2;whnf);first|refine bY (by simp;omega) ?_|refine bB (by simp;omega) ?_|refine bq ?_
    conv=>arg 2;whnf
    refine aW 0 (kE) bl el dJ fun x7 b7 e7 a7 o7 l7=>?_
    have h7:b7.length<=8388609:=by omega
    repeat' (conv=>arg 2;whnf);first|exact eg (r:=.agg (bU ⟨x1,x2,x3,(y::k),x7⟩)) (h':=bz (b7,e7)) [3] [0] (.inr rfl) rfl rfl ⟨⟨rfl,rfl⟩,trivial⟩ ⟨⟨rfl,rfl⟩,trivial⟩ .z ⟨_,_,_,QM a1 a2 a3 a4 hG a7,⟨bM o1 (by decide),bM o2 (by decide),o3,⟨fL,hO⟩,o7⟩,rfl,rfl⟩
abbrev QO:RS->(List UInt8×Int×List UInt8×List j7×Int×Int)×RS:=bg nS (bg (bF 0) (bg (fB 64) (bg (cY jA 64) (bg (bF 0) (ia 16)))))
abbrev w8 (z:List UInt8×Int×List UInt8×List j7×Int×Int):Int:=if z.2.2.2.2.1<z.2.2.2.2.2 then 0 else 100
theorem Oa {s0 s1 s2 s3 s4 s5 s6 s7:RS} {x1 x3:List UInt8} {x2 x4 x5 x6:Int} {l:List j7} (a1:au nS s0 x1 s1) (a2:au (bF 0) s1 x2 s2) (a3:au (fB 64) s2 x3 s3) (a4:au (ia 64) s3 x4 s4) (hG:au (aP jA x4.toNat) s4 l s5) (a5:au (bF 0) s5 x5 s6) (a6:au (ia 16) s6 x6 s7):au QO s0 (x1,x2,x3,l,x5,x6) s7:=
 a1.pair (a2.pair (a3.pair ((a4.cY ux hG).pair (a5.pair a6 (uu _)) ((bV _).pair (uu _))) ((jL ux _).pair ((bV _).pair (uu _)))) ((iB _).pair ((jL ux _).pair ((bV _).pair (uu _))))) ((bV _).pair ((iB _).pair ((jL ux _).pair ((bV _).pair (uu _)))))
theorem Fu {s0 u s7 s8 s9:RS} {x1 x3:List UInt8} {x2 x5 x6 x7:Int} {l:List j7} {p:List Int} {x8:gX} (hu:au (fZ QO w8) s0 (x1,x2,x3,l,x5,x6) u) (a7:au (ia 8) u x7 s7) (hP:au (aP (bF 0) x7.toNat) s7 p s8) (a8:au lT s8 x8 s9):au uD s0 ⟨x1,x2,x3,l,x5,x6,p,x8⟩ s9:=
 (hu.pair ((a7.cY (bV 0) hP).pair a8 uw) ((jL (bV 0) _).pair uw)).map (fun z:(List UInt8×Int×List UInt8×List j7×Int×Int)×List Int×gX=>(⟨z.1.1,z.1.2.1,z.1.2.2.1,z.1.2.2.2.1,z.1.2.2.2.2.1,z.1.2.2.2.2.2,z.2.1,z.2.2⟩:jX))
theorem ZM [Wd]:lX 190 [] uD jY.ok (fun c=>.agg (jv c)):=by
 intro b0 e0 h0
 refine iV 82 [(8,⟨(.one 0 false (.one 2 false (.alt 1 (.one 3 true (.one 4 true (.one 5 true (.one 6 false (.one 7 true .done))))) (.one 3 true (.alt 1 (.one 4 true (.one 5 true (.one 6 false (.one 7 true .done)))) (.one 4 true (.one 1 true (.one 5 true (.one 6 false (.one 7 true .done)))))))))),[0,2,3]⟩),(17,⟨(.one 0 false (.one 2 false (.alt 1 (.one 3 true (.one 4 true (.one 5 true (.one 6 false (.one 7 true .done))))) (.one 3 true (.alt 1 (.one 4 true (.one 5 true (.one 6 false (.one 7 true .done)))) (.one 4 true (.one 1 true (.one 5 true (.one 6 false (.one 7 true .done)))))))))),[0,2,3,4]⟩)] func190 ?_
 repeat' (conv=>arg 2;whnf);first|refine aY ?_|refine aV ?_ ?_
 conv=>arg 2;whnf
 refine aW 0 (QL) b0 e0 h0 fun x1 b1 e1 a1 o1 l1=>?_
 have h1:b1.length<=8388609:=by omega
 repeat' (conv=>arg 2;whnf);first|refine aY ?_|refine aV ?_ ?_
 conv=>arg 2;whnf
 refine aW 0 (gO 0) b1 e1 h1 fun x2 b2 e2 a2 o2 l2=>?_
 have h2:b2.length<=8388609:=by omega
 repeat' (conv=>arg 2;whnf);first|refine aY ?_|refine aV ?_ ?_
 conv=>arg 2;whnf
 refine aW 0 (sD 64 (by decide)) b2 e2 h2 fun x3 b3 e3 a3 o3 l3=>?_
 have h3:b3.length<=8388609:=by omega
 repeat' (conv=>arg 2;whnf);first|refine aY ?_|refine aV ?_ ?_
 conv=>arg 2;whnf
 refine aW 0 (nK 64 (by decide)) b3 e3 h3 fun x4 b4 e4 a4 o4 l4=>?_
 have h4:b4.length<=8388609:=by omega
 have L9:0<=x4/\x4<=64:=o4
 repeat' (conv=>arg 2;whnf);first|refine aY ?_|refine aV ?_ ?_|(apply an<;>intro h<;>simp at h)
 conv=>arg 2;whnf
 refine bE (α:=Nat×List j7×List UInt8×Int) (fun a=>match a.2.1 with
  |[]=>⟨[(5,.int .i64 a.1),(4,.int .i64 x4),(3,.ptr 2 0),(2,.ptr 1 0),(0,.ptr 0 0)],[.cells 176 [.list 1 (a.2.2.1.map af),.int .i64 a.2.2.2],.cells 55 [.str [],.int .i64 0,.nils,.nils,.int .i64 0,.int .i64 0,.nils,.int .i64 0,.int .i64 0,.nils],.cells 55 [.str x1,.int .i64 x2,.list 1 (x3.map af),.nils,.int .i64 0,.int .i64 0,.nils,.int .i64 0,.int .i64 0,.nils]]⟩
  |y::k=>⟨[(5,.int .i64 a.1),(4,.int .i64 x4),(3,.ptr 2 0),(2,.ptr 1 0),(0,.ptr 0 0)],[.cells 176 [.list 1 (a.2.2.1.map af),.int .i64 a.2.2.2],.cells 55 [.str [],.int .i64 0,.nils,.nils,.int .i64 0,.int .i64 0,.nils,.int .i64 0,.int .i64 0,.nils],.cells 55 [.str x1,.int .i64 x2,.list 1 (x3.map af),.row 3,.int .i64 0,.int .i64 0,.nils,.int .i64 0,.int .i64 0,.nils],.row 187 5 ((y::k).map eO)]⟩) (fun a=>a.1<=x4.toNat/\au (dG jA a.1) (b4,e4) a.2.1 (a.2.2.1,a.2.2.2)/\(∀z∈a.2.1,yq.ok z)/\a.2.1.length=a.1) (fun a=>x4.toNat-a.1) (0,[],b4,e4) ⟨Nat.zero_le _,au.nil _,fun z hz=>(List.not_mem_nil hz).elim,rfl⟩ (Sv.aK [0,1,3]) ?_
 rintro⟨q,l,bl,el⟩ ⟨hq,hA,hO,hn⟩
 replace hq:q<=x4.toNat:=hq
 replace hA:au (dG jA q) (b4,e4) l (bl,el):=hA
 replace hO:∀z∈l,yq.ok z:=hO
 replace hn:l.length=q:=hn
 have dJ:bl.length<=8388609:=Nat.le_trans hA.len (by assumption)
 have fL:l.length<=4194304:=by omega
 cases l with
 |nil=>
  by_cases ey:(q:Int)<x4/\el=0
  ·obtain⟨hlt,rfl⟩:=ey
   repeat' (conv=>arg 2;whnf);first|refine bZ (by(try dsimp only);omega) ?_|refine aV ?_ ?_|refine bY (by simp;omega) ?_|refine aW 0 (OH) bl 0 dJ fun x9 b9 e9 a9 o9 l9=>?_|refine aT (by constructor<;>(simp only[List.length_cons,List.length_nil,maxLen] at hn ⊢;omega)) ?_|exact aZ (q+1,[x9],b9,e9) (Sv.mk' [0,1,2,4] rfl ⟨⟨rfl,rfl⟩,⟨rfl,rfl⟩,⟨rfl,rfl⟩,⟨rfl,by show AO.row _ _ ([]++[eO x9])=AO.row _ _ _;simp⟩,trivial⟩ ⟨rfl,rfl,rfl,rfl,rfl,trivial⟩) ⟨by show q+1<=_;omega,hA.snoc ux a9,fun z hz=>by first|(rcases List.mem_append.1 hz with hz|hz;exact hO z hz;rw[List.mem_singleton.1 hz];exact o9)|(rw[List.mem_singleton.1 hz];exact o9),by simp at hn ⊢;omega⟩ (by show x4.toNat-(q+1)<x4.toNat-q;omega)
  ·have hx:q=x4.toNat\/¬el=0:=by omega
   have hG:au (aP jA x4.toNat) (b4,e4) [] (bl,el):=hA.list ux hq hx
   rcases(show(¬(q:Int)<x4)\/((q:Int)<x4/\¬el=0) by omega) with dh|⟨dh,jU⟩
   all_goals
    repeat' (conv=>arg 2;whnf);first|refine bY (by simp;omega) ?_|refine bB (by simp;omega) ?_|refine bq ?_
    conv=>arg 2;whnf
    refine aW 0 (gO 0) bl el dJ fun x5 b5 e5 a5 o5 l5=>?_
    have h5:b5.length<=8388609:=by omega
    repeat' (conv=>arg 2;whnf);first|refine aY ?_|refine aV ?_ ?_
    conv=>arg 2;whnf
    refine aW 0 (nK 16 (by decide)) b5 e5 h5 fun x6 b6 e6 a6 o6 l6=>?_
    have h6:b6.length<=8388609:=by omega
    have aB:=Oa a1 a2 a3 a4 hG a5 a6
    have oX:=hO
    have u5:=fL
    clear hA hO hn fL dJ ey hx hG
    try clear dh jU
    have rY:(e6=0/\x5<x6)\/(e6=0/\¬x5<x6)\/¬e6=0:=by omega
    rcases rY with⟨rfl,hlt⟩|⟨rfl,dm⟩|Er
    focus
     have hu:=aB.gQ (f:=w8) (fun _=>if_pos hlt)
     repeat' (conv=>arg 2;whnf);first|refine bB (by simp;omega) ?_
     conv=>arg 2;whnf
     refine aW 0 (nK 8 (by decide)) b6 0 h6 fun x7 b7 e7 a7 o7 l7=>?_
     have h7:b7.length<=8388609:=by omega
    rotate_left
    focus
     have hu:=aB.nM (y:=(x1,x2,x3,[],x5,x6)) (u:=([],100)) (f:=w8) (fun _=>by rw[show w8 (x1,x2,x3,[],x5,x6)=100 from if_neg dm];decide) (show ¬(100:Int)=0 by decide) (Nat.zero_le _)
     repeat' (conv=>arg 2;whnf);first|refine bY (by simp;omega) ?_|refine cV [0] (kF (k:=100) (by decide) b6) ?_
     conv=>arg 2;whnf
     refine wG 0 (nK 8 (by decide)) [] 100 (Nat.zero_le _) ⟨⟨rfl,rfl⟩,trivial⟩ (aa.refl _) rfl fun x7 b7 e7 a7 o7 l7=>?_
     have h7:b7.length<=8388609:=Nat.le_trans l7 (by decide)
    rotate_left
    focus
     have hu:=aB.gQ (f:=w8) (fun e=>absurd e Er)
     repeat' (conv=>arg 2;whnf);first|refine bB (by simpa using Er) ?_
     conv=>arg 2;whnf
     refine aW 0 (nK 8 (by decide)) b6 e6 h6 fun x7 b7 e7 a7 o7 l7=>?_
     have h7:b7.length<=8388609:=by omega
    all_goals
     have o7':0<=x7/\x7<=8:=o7
     conv=>arg 2;whnf
     refine bE (α:=Nat×List Int×List UInt8×Int) (fun a=>match a.2.1 with
      |[]=>⟨[(6,.int .i64 a.1),(4,.int .i64 x7),(3,.ptr 2 0),(2,.ptr 1 0),(0,.ptr 0 0)],[.cells 176 [.list 1 (a.2.2.1.map af),.int .i64 a.2.2.2],.cells 55 [.str [],.int .i64 0,.nils,.nils,.int .i64 0,.int .i64 0,.nils,.int .i64 0,.int .i64 0,.nils],.cells 55 [.str x1,.int .i64 x2,.list 1 (x3.map af),.nils,.int .i64 x5,.int .i64 x6,.nils,.int .i64 0,.int .i64 0,.nils]]⟩
      |y::k=>⟨[(6,.int .i64 a.1),(4,.int .i64 x7),(3,.ptr 2 0),(2,.ptr 1 0),(0,.ptr 0 0)],[.cells 176 [.list 1 (a.2.2.1.map af),.int .i64 a.2.2.2],.cells 55 [.str [],.int .i64 0,.nils,.nils,.int .i64 0,.int .i64 0,.nils,.int .i64 0,.int .i64 0,.nils],.cells 55 [.str x1,.int .i64 x2,.list 1 (x3.map af),.nils,.int .i64 x5,.int .i64 x6,.row 3,.int .i64 0,.int .i64 0,.nils],.row 41 1 ((y::k).map eD)]⟩) (fun a=>a.1<=x7.toNat/\au (dG (bF 0) a.1) (b7,e7) a.2.1 (a.2.2.1,a.2.2.2)/\(∀z∈a.2.1,(fun n:Int=>0<=n/\n<=9007199254740992) z)/\a.2.1.length=a.1) (fun a=>x7.toNat-a.1) (0,[],b7,e7) ⟨Nat.zero_le _,au.nil _,fun z hz=>(List.not_mem_nil hz).elim,rfl⟩ (Sv.aK [0,1,2]) ?_
     rintro⟨q,l,bl,el⟩ ⟨hq,hA,hO,hn⟩
     replace hq:q<=x7.toNat:=hq
     replace hA:au (dG (bF 0) q) (b7,e7) l (bl,el):=hA
     replace hO:∀z∈l,(fun n:Int=>0<=n/\n<=9007199254740992) z:=hO
     replace hn:l.length=q:=hn
     have dJ:bl.length<=8388609:=Nat.le_trans hA.len (by assumption)
     have fL:l.length<=4194304:=by omega
     cases l with
     |nil=>
      by_cases ey:(q:Int)<x7/\el=0
      ·obtain⟨hlt,rfl⟩:=ey
       repeat' (conv=>arg 2;whnf);first|refine bZ (by(try dsimp only);omega) ?_|refine aV ?_ ?_|refine bY (by simp;omega) ?_|refine aW 0 (gO 0) bl 0 dJ fun x9 b9 e9 a9 o9 l9=>?_|refine aT (by constructor<;>(simp only[List.length_cons,List.length_nil,maxLen] at hn ⊢;omega)) ?_|exact aZ (q+1,[x9],b9,e9) (Sv.mk' [0,1,2,4] rfl ⟨⟨rfl,rfl⟩,⟨rfl,rfl⟩,⟨rfl,rfl⟩,⟨rfl,by show AO.row _ _ ([]++[eD x9])=AO.row _ _ _;simp⟩,trivial⟩ ⟨rfl,rfl,rfl,rfl,rfl,trivial⟩) ⟨by show q+1<=_;omega,hA.snoc (bV 0) a9,fun z hz=>by first|(rcases List.mem_append.1 hz with hz|hz;exact hO z hz;rw[List.mem_singleton.1 hz];exact o9)|(rw[List.mem_singleton.1 hz];exact o9),by simp at hn ⊢;omega⟩ (by show x7.toNat-(q+1)<x7.toNat-q;omega)
      ·have hx:q=x7.toNat\/¬el=0:=by omega
       have hG:au (aP (bF 0) x7.toNat) (b7,e7) [] (bl,el):=hA.list (bV 0) hq hx
       rcases(show(¬(q:Int)<x7)\/((q:Int)<x7/\¬el=0) by omega) with dh|⟨dh,jU⟩
       all_goals
        repeat' (conv=>arg 2;whnf);first|refine bY (by simp;omega) ?_|refine bB (by simp;omega) ?_|refine bq ?_
        conv=>arg 2;whnf
        refine aW 0 (BA) bl el dJ fun x8 b8 e8 a8 o8 l8=>?_
        have h8:b8.length<=8388609:=by omega
        repeat' (conv=>arg 2;whnf);first|exact eg (r:=.agg (jv ⟨x1,x2,x3,[],x5,x6,[],x8⟩)) (h':=bz (b8,e8)) [] [0] (.inr rfl) rfl rfl ⟨⟨rfl,rfl⟩,trivial⟩ ⟨⟨rfl,rfl⟩,trivial⟩ .z ⟨_,_,_,Fu hu a7 hG a8,⟨Nat.le_trans o1 (by decide),bM o2 (by decide),Nat.le_trans o3 (by decide),⟨u5,oX⟩,bM o5 (by decide),bM o6 (by decide),⟨fL,fun z hz=>bM (hO z hz) (by decide)⟩,o8⟩,rfl,rfl⟩
     |cons y k=>
      by_cases ey:(q:Int)<x7/\el=0
      ·obtain⟨hlt,rfl⟩:=ey
       repeat' (conv=>arg 2;whnf);first|refine bZ (by(try dsimp only);omega) ?_|refine aV ?_ ?_|refine bY (by simp;omega) ?_|refine aW 0 (gO 0) bl 0 dJ fun x9 b9 e9 a9 o9 l9=>?_|refine aT (by constructor<;>(simp only[List.length_cons,List.length_nil,List.length_map,maxLen] at hn ⊢;omega)) ?_|exact aZ (q+1,((y::k)++[x9]),b9,e9) (Sv.mk' [0,1,2,5] rfl ⟨⟨rfl,rfl⟩,⟨rfl,rfl⟩,⟨rfl,rfl⟩,⟨rfl,by show AO.row _ _ ((y::k).map eD++[eD x9])=AO.row _ _ _;simp⟩,trivial⟩ ⟨rfl,rfl,rfl,rfl,rfl,trivial⟩) ⟨by show q+1<=_;omega,hA.snoc (bV 0) a9,fun z hz=>by first|(rcases List.mem_append.1 hz with hz|hz;exact hO z hz;rw[List.mem_singleton.1 hz];exact o9)|(rw[List.mem_singleton.1 hz];exact o9),by simp at hn ⊢;omega⟩ (by show x7.toNat-(q+1)<x7.toNat-q;omega)
      ·have hx:q=x7.toNat\/¬el=0:=by omega
       have hG:au (aP (bF 0) x7.toNat) (b7,e7) (y::k) (bl,el):=hA.list (bV 0) hq hx
       rcases(show(¬(q:Int)<x7)\/((q:Int)<x7/\¬el=0) by omega) with dh|⟨dh,jU⟩
       all_goals
        repeat' (conv=>arg 2;whnf);first|refine bY (by simp;omega) ?_|refine bB (by simp;omega) ?_|refine bq ?_
        conv=>arg 2;whnf
        refine aW 0 (BA) bl el dJ fun x8 b8 e8 a8 o8 l8=>?_
        have h8:b8.length<=8388609:=by omega
        repeat' (conv=>arg 2;whnf);first|exact eg (r:=.agg (jv ⟨x1,x2,x3,[],x5,x6,(y::k),x8⟩)) (h':=bz (b8,e8)) [3] [0] (.inr rfl) rfl rfl ⟨⟨rfl,rfl⟩,trivial⟩ ⟨⟨rfl,rfl⟩,trivial⟩ .z ⟨_,_,_,Fu hu a7 hG a8,⟨Nat.le_trans o1 (by decide),bM o2 (by decide),Nat.le_trans o3 (by decide),⟨u5,oX⟩,bM o5 (by decide),bM o6 (by decide),⟨fL,fun z hz=>bM (hO z hz) (by decide)⟩,o8⟩,rfl,rfl⟩
 |cons y k=>
  by_cases ey:(q:Int)<x4/\el=0
  ·obtain⟨hlt,rfl⟩:=ey
   repeat' (conv=>arg 2;whnf);first|refine bZ (by(try dsimp only);omega) ?_|refine aV ?_ ?_|refine bY (by simp;omega) ?_|refine aW 0 (OH) bl 0 dJ fun x9 b9 e9 a9 o9 l9=>?_|refine aT (by constructor<;>(simp only[List.length_cons,List.length_nil,List.length_map,maxLen] at hn ⊢;omega)) ?_|exact aZ (q+1,((y::k)++[x9]),b9,e9) (Sv.mk' [0,1,2,5] rfl ⟨⟨rfl,rfl⟩,⟨rfl,rfl⟩,⟨rfl,rfl⟩,⟨rfl,by show AO.row _ _ ((y::k).map eO++[eO x9])=AO.row _ _ _;simp⟩,trivial⟩ ⟨rfl,rfl,rfl,rfl,rfl,trivial⟩) ⟨by show q+1<=_;omega,hA.snoc ux a9,fun z hz=>by first|(rcases List.mem_append.1 hz with hz|hz;exact hO z hz;rw[List.mem_singleton.1 hz];exact o9)|(rw[List.mem_singleton.1 hz];exact o9),by simp at hn ⊢;omega⟩ (by show x4.toNat-(q+1)<x4.toNat-q;omega)
  ·have hx:q=x4.toNat\/¬el=0:=by omega
   have hG:au (aP jA x4.toNat) (b4,e4) (y::k) (bl,el):=hA.list ux hq hx
   rcases(show(¬(q:Int)<x4)\/((q:Int)<x4/\¬el=0) by omega) with dh|⟨dh,jU⟩
   all_goals
    repeat' (conv=>arg 2;whnf);first|refine bY (by simp;omega) ?_|refine bB (by simp;omega) ?_|refine bq ?_
    conv=>arg 2;whnf
    refine aW 0 (gO 0) bl el dJ fun x5 b5 e5 a5 o5 l5=>?_
    have h5:b5.length<=8388609:=by omega
    repeat' (conv=>arg 2;whnf);first|refine aY ?_|refine aV ?_ ?_
    conv=>arg 2;whnf
    refine aW 0 (nK 16 (by decide)) b5 e5 h5 fun x6 b6 e6 a6 o6 l6=>?_
    have h6:b6.length<=8388609:=by omega
    have aB:=Oa a1 a2 a3 a4 hG a5 a6
    have oX:=hO
    have u5:=fL
    clear hA hO hn fL dJ ey hx hG
    try clear dh jU
    have rY:(e6=0/\x5<x6)\/(e6=0/\¬x5<x6)\/¬e6=0:=by omega
    rcases rY with⟨rfl,hlt⟩|⟨rfl,dm⟩|Er
    focus
     have hu:=aB.gQ (f:=w8) (fun _=>if_pos hlt)
     repeat' (conv=>arg 2;whnf);first|refine bB (by simp;omega) ?_
     conv=>arg 2;whnf
     refine aW 0 (nK 8 (by decide)) b6 0 h6 fun x7 b7 e7 a7 o7 l7=>?_
     have h7:b7.length<=8388609:=by omega
    rotate_left
    focus
     have hu:=aB.nM (y:=(x1,x2,x3,(y::k),x5,x6)) (u:=([],100)) (f:=w8) (fun _=>by rw[show w8 (x1,x2,x3,(y::k),x5,x6)=100 from if_neg dm];decide) (show ¬(100:Int)=0 by decide) (Nat.zero_le _)
     repeat' (conv=>arg 2;whnf);first|refine bY (by simp;omega) ?_|refine cV [0] (kF (k:=100) (by decide) b6) ?_
     conv=>arg 2;whnf
     refine wG 0 (nK 8 (by decide)) [] 100 (Nat.zero_le _) ⟨⟨rfl,rfl⟩,trivial⟩ (aa.refl _) rfl fun x7 b7 e7 a7 o7 l7=>?_
     have h7:b7.length<=8388609:=Nat.le_trans l7 (by decide)
    rotate_left
    focus
     have hu:=aB.gQ (f:=w8) (fun e=>absurd e Er)
     repeat' (conv=>arg 2;whnf);first|refine bB (by simpa using Er) ?_
     conv=>arg 2;whnf
     refine aW 0 (nK 8 (by decide)) b6 e6 h6 fun x7 b7 e7 a7 o7 l7=>?_
     have h7:b7.length<=8388609:=by omega
    all_goals
     have o7':0<=x7/\x7<=8:=o7
     conv=>arg 2;whnf
     refine bE (α:=Nat×List Int×List UInt8×Int) (fun a=>match a.2.1 with
      |[]=>⟨[(6,.int .i64 a.1),(4,.int .i64 x7),(3,.ptr 2 0),(2,.ptr 1 0),(0,.ptr 0 0)],[.cells 176 [.list 1 (a.2.2.1.map af),.int .i64 a.2.2.2],.cells 55 [.str [],.int .i64 0,.nils,.nils,.int .i64 0,.int .i64 0,.nils,.int .i64 0,.int .i64 0,.nils],.cells 55 [.str x1,.int .i64 x2,.list 1 (x3.map af),.row 3,.int .i64 x5,.int .i64 x6,.nils,.int .i64 0,.int .i64 0,.nils],.row 187 5 ((y::k).map eO)]⟩
      |Y::K=>⟨[(6,.int .i64 a.1),(4,.int .i64 x7),(3,.ptr 2 0),(2,.ptr 1 0),(0,.ptr 0 0)],[.cells 176 [.list 1 (a.2.2.1.map af),.int .i64 a.2.2.2],.cells 55 [.str [],.int .i64 0,.nils,.nils,.int .i64 0,.int .i64 0,.nils,.int .i64 0,.int .i64 0,.nils],.cells 55 [.str x1,.int .i64 x2,.list 1 (x3.map af),.row 3,.int .i64 x5,.int .i64 x6,.row 4,.int .i64 0,.int .i64 0,.nils],.row 187 5 ((y::k).map eO),.row 41 1 ((Y::K).map eD)]⟩) (fun a=>a.1<=x7.toNat/\au (dG (bF 0) a.1) (b7,e7) a.2.1 (a.2.2.1,a.2.2.2)/\(∀z∈a.2.1,(fun n:Int=>0<=n/\n<=9007199254740992) z)/\a.2.1.length=a.1) (fun a=>x7.toNat-a.1) (0,[],b7,e7) ⟨Nat.zero_le _,au.nil _,fun z hz=>(List.not_mem_nil hz).elim,rfl⟩ (Sv.aK [0,1,2,3]) ?_
     rintro⟨q,l,bl,el⟩ ⟨hq,hA,hO,hn⟩
     replace hq:q<=x7.toNat:=hq
     replace hA:au (dG (bF 0) q) (b7,e7) l (bl,el):=hA
     replace hO:∀z∈l,(fun n:Int=>0<=n/\n<=9007199254740992) z:=hO
     replace hn:l.length=q:=hn
     have dJ:bl.length<=8388609:=Nat.le_trans hA.len (by assumption)
     have fL:l.length<=4194304:=by omega
     cases l with
     |nil=>
      by_cases ey:(q:Int)<x7/\el=0
      ·obtain⟨hlt,rfl⟩:=ey
       repeat' (conv=>arg 2;whnf);first|refine bZ (by(try dsimp only);omega) ?_|refine aV ?_ ?_|refine bY (by simp;omega) ?_|refine aW 0 (gO 0) bl 0 dJ fun x9 b9 e9 a9 o9 l9=>?_|refine aT (by constructor<;>(simp only[List.length_cons,List.length_nil,maxLen] at hn ⊢;omega)) ?_|exact aZ (q+1,[x9],b9,e9) (Sv.mk' [0,1,2,3,5] rfl ⟨⟨rfl,rfl⟩,⟨rfl,rfl⟩,⟨rfl,rfl⟩,⟨rfl,rfl⟩,⟨rfl,by show AO.row _ _ ([]++[eD x9])=AO.row _ _ _;simp⟩,trivial⟩ ⟨rfl,rfl,rfl,rfl,rfl,trivial⟩) ⟨by show q+1<=_;omega,hA.snoc (bV 0) a9,fun z hz=>by first|(rcases List.mem_append.1 hz with hz|hz;exact hO z hz;rw[List.mem_singleton.1 hz];exact o9)|(rw[List.mem_singleton.1 hz];exact o9),by simp at hn ⊢;omega⟩ (by show x7.toNat-(q+1)<x7.toNat-q;omega)
      ·have hx:q=x7.toNat\/¬el=0:=by omega
       have hG:au (aP (bF 0) x7.toNat) (b7,e7) [] (bl,el):=hA.list (bV 0) hq hx
       rcases(show(¬(q:Int)<x7)\/((q:Int)<x7/\¬el=0) by omega) with dh|⟨dh,jU⟩
       all_goals
        repeat' (conv=>arg 2;whnf);first|refine bY (by simp;omega) ?_|refine bB (by simp;omega) ?_|refine bq ?_
        conv=>arg 2;whnf
        refine aW 0 (BA) bl el dJ fun x8 b8 e8 a8 o8 l8=>?_
        have h8:b8.length<=8388609:=by omega
        repeat' (conv=>arg 2;whnf);first|exact eg (r:=.agg (jv ⟨x1,x2,x3,(y::k),x5,x6,[],x8⟩)) (h':=bz (b8,e8)) [3] [0] (.inr rfl) rfl rfl ⟨⟨rfl,rfl⟩,trivial⟩ ⟨⟨rfl,rfl⟩,trivial⟩ .z ⟨_,_,_,Fu hu a7 hG a8,⟨Nat.le_trans o1 (by decide),bM o2 (by decide),Nat.le_trans o3 (by decide),⟨u5,oX⟩,bM o5 (by decide),bM o6 (by decide),⟨fL,fun z hz=>bM (hO z hz) (by decide)⟩,o8⟩,rfl,rfl⟩
     |cons Y K=>
      by_cases ey:(q:Int)<x7/\el=0
      ·obtain⟨hlt,rfl⟩:=ey
       repeat' (conv=>arg 2;whnf);first|refine bZ (by(try dsimp only);omega) ?_|refine aV ?_ ?_|refine bY (by simp;omega) ?_|refine aW 0 (gO 0) bl 0 dJ fun x9 b9 e9 a9 o9 l9=>?_|refine aT (by constructor<;>(simp only[List.length_cons,List.length_nil,List.length_map,maxLen] at hn ⊢;omega)) ?_|exact aZ (q+1,((Y::K)++[x9]),b9,e9) (Sv.mk' [0,1,2,3,6] rfl ⟨⟨rfl,rfl⟩,⟨rfl,rfl⟩,⟨rfl,rfl⟩,⟨rfl,rfl⟩,⟨rfl,by show AO.row _ _ ((Y::K).map eD++[eD x9])=AO.row _ _ _;simp⟩,trivial⟩ ⟨rfl,rfl,rfl,rfl,rfl,trivial⟩) ⟨by show q+1<=_;omega,hA.snoc (bV 0) a9,fun z hz=>by first|(rcases List.mem_append.1 hz with hz|hz;exact hO z hz;rw[List.mem_singleton.1 hz];exact o9)|(rw[List.mem_singleton.1 hz];exact o9),by simp at hn ⊢;omega⟩ (by show x7.toNat-(q+1)<x7.toNat-q;omega)
      ·have hx:q=x7.toNat\/¬el=0:=by omega
       have hG:au (aP (bF 0) x7.toNat) (b7,e7) (Y::K) (bl,el):=hA.list (bV 0) hq hx
       rcases(show(¬(q:Int)<x7)\/((q:Int)<x7/\¬el=0) by omega) with dh|⟨dh,jU⟩
       all_goals
        repeat' (conv=>arg 2;whnf);first|refine bY (by simp;omega) ?_|refine bB (by simp;omega) ?_|refine bq ?_
        conv=>arg 2;whnf
        refine aW 0 (BA) bl el dJ fun x8 b8 e8 a8 o8 l8=>?_
        have h8:b8.length<=8388609:=by omega
        repeat' (conv=>arg 2;whnf);first|exact eg (r:=.agg (jv ⟨x1,x2,x3,(y::k),x5,x6,(Y::K),x8⟩)) (h':=bz (b8,e8)) [3,4] [0] (.inr rfl) rfl rfl ⟨⟨rfl,rfl⟩,trivial⟩ ⟨⟨rfl,rfl⟩,trivial⟩ .z ⟨_,_,_,Fu hu a7 hG a8,⟨Nat.le_trans o1 (by decide),bM o2 (by decide),Nat.le_trans o3 (by decide),⟨u5,oX⟩,bM o5 (by decide),bM o6 (by decide),⟨fL,fun z hz=>bM (hO z hz) (by decide)⟩,o8⟩,rfl,rfl⟩
theorem Fv {s0 s1 s2 s3 s4:RS} {x1 x2:Int} {x3:List bX} {x4:bJ} (a1:au (bF 0) s0 x1 s1) (a2:au (bF 1) s1 x2 s2) (a3:au jZ s2 x3 s3) (a4:au cO s3 x4 s4):au iC s0 ⟨x1,x2,x3,x4⟩ s4:=
 (a1.pair (a2.pair (a3.pair a4 eM) (oD.pair eM)) ((bV _).pair (oD.pair eM))).map (fun z:Int×Int×List bX×bJ=>(⟨z.1,z.2.1,z.2.2.1,z.2.2.2⟩:gq))
abbrev Hw:RS->((Int×Int×List cX×List gq)×bJ)×RS:=bg (bg (nR 12) (bg (bF 1) (bg (cY iE 13) (cY iC 8)))) cO
theorem Gm {s0 s1 s2 s3 s4 s5 s6 s7:RS} {x1 x2 x3 x4:Int} {l:List cX} {p:List gq} {x5:bJ} (a1:au (nR 12) s0 x1 s1) (a2:au (bF 1) s1 x2 s2) (a3:au (ia 13) s2 x3 s3) (hC:au (aP iE x3.toNat) s3 l s4) (a4:au (ia 8) s4 x4 s5) (hE:au (aP iC x4.toNat) s5 p s6) (a5:au cO s6 x5 s7):au Hw s0 ((x1,x2,l,p),x5) s7:=
 (a1.pair (a2.pair ((a3.cY sI hC).pair (a4.cY pE hE) (jL pE _)) ((jL sI _).pair (jL pE _))) ((bV _).pair ((jL sI _).pair (jL pE _)))).pair a5 eM
theorem WG [Wd]:lX 187 [.agg [.int .i64 8,.int .i64 0,.int .i64 0,.int .i64 0,.int .i64 0,.int .i64 0,.int .i64 0,.int .i64 0,.int .i64 0,.nils,.int .i64 0,.int .i64 0,.nils,.nils,.nils,.nils,.str [],.int .i64 0,.str [],.int .i64 0,.nils,.nils,.int .i64 0,.int .i64 0,.nils,.int .i64 0,.int .i64 0,.nils,.int .i64 0,.int .i64 0]] Hw (fun z=>(0<=z.1.1/\z.1.1<=12)/\(0<=z.1.2.1/\z.1.2.1<=9007199254740992)/\(dL fP).ok z.1.2.2.1/\(dL jx).ok z.1.2.2.2/\iO.ok z.2) (fun z=>.agg (aC {aE with kind:=8,src:=z.1.1,view:=z.1.2.1,changes:=z.1.2.2.1,entries:=z.1.2.2.2,sign:=z.2})):=by
 intro b0 e0 h0
 refine iV 72 [(7,⟨(.one 0 false (.one 2 false (.alt 1 (.one 3 true (.one 4 true (.one 5 true (.one 6 false (.one 7 true .done))))) (.one 3 true (.alt 1 (.one 4 true (.one 5 true (.one 6 false (.one 7 true .done)))) (.one 4 true (.one 1 true (.one 5 true (.one 6 false (.one 7 true .done)))))))))),[0,1,3]⟩)] func187 ?_
 repeat' (conv=>arg 2;whnf);first|refine aY ?_|refine aV ?_ ?_
 conv=>arg 2;whnf
 refine aW 0 (zw) b0 e0 h0 fun x1 b1 e1 a1 o1 l1=>?_
 have h1:b1.length<=8388609:=by omega
 repeat' (conv=>arg 2;whnf);first|refine aY ?_|refine aV ?_ ?_
 conv=>arg 2;whnf
 refine aW 0 (gO 1) b1 e1 h1 fun x2 b2 e2 a2 o2 l2=>?_
 have h2:b2.length<=8388609:=by omega
 repeat' (conv=>arg 2;whnf);first|refine aY ?_|refine aV ?_ ?_
 conv=>arg 2;whnf
 refine aW 0 (nK 13 (by decide)) b2 e2 h2 fun x3 b3 e3 a3 o3 l3=>?_
 have h3:b3.length<=8388609:=by omega
 have o3':0<=x3/\x3<=13:=o3
 repeat' (conv=>arg 2;whnf);first|refine aY ?_|refine aV ?_ ?_|(apply an<;>intro h<;>simp at h)
 conv=>arg 2;whnf
 refine bE (α:=Nat×List cX×List UInt8×Int) (fun a=>match a.2.1 with
  |[]=>⟨[(6,.int .i64 a.1),(5,.int .i64 x3),(4,.ptr 2 0),(3,.ptr 1 0),(0,.ptr 0 0)],[.cells 176 [.list 1 (a.2.2.1.map af),.int .i64 a.2.2.2],.cells 59 [.int .i64 8,.int .i64 x1,.int .i64 x2,.int .i64 0,.int .i64 0,.int .i64 0,.int .i64 0,.int .i64 0,.int .i64 0,.nils,.int .i64 0,.int .i64 0,.nils,.nils,.nils,.nils,.str [],.int .i64 0,.str [],.int .i64 0,.nils,.nils,.int .i64 0,.int .i64 0,.nils,.int .i64 0,.int .i64 0,.nils,.int .i64 0,.int .i64 0],.cells 59 [.int .i64 0,.int .i64 0,.int .i64 0,.int .i64 0,.int .i64 0,.int .i64 0,.int .i64 0,.int .i64 0,.int .i64 0,.nils,.int .i64 0,.int .i64 0,.nils,.nils,.nils,.nils,.str [],.int .i64 0,.str [],.int .i64 0,.nils,.nils,.int .i64 0,.int .i64 0,.nils,.int .i64 0,.int .i64 0,.nils,.int .i64 0,.int .i64 0]]⟩
  |y::k=>⟨[(6,.int .i64 a.1),(5,.int .i64 x3),(4,.ptr 2 0),(3,.ptr 1 0),(0,.ptr 0 0)],[.cells 176 [.list 1 (a.2.2.1.map af),.int .i64 a.2.2.2],.cells 59 [.int .i64 8,.int .i64 x1,.int .i64 x2,.int .i64 0,.int .i64 0,.int .i64 0,.int .i64 0,.int .i64 0,.int .i64 0,.nils,.int .i64 0,.int .i64 0,.nils,.row 3,.nils,.nils,.str [],.int .i64 0,.str [],.int .i64 0,.nils,.nils,.int .i64 0,.int .i64 0,.nils,.int .i64 0,.int .i64 0,.nils,.int .i64 0,.int .i64 0],.cells 59 [.int .i64 0,.int .i64 0,.int .i64 0,.int .i64 0,.int .i64 0,.int .i64 0,.int .i64 0,.int .i64 0,.int .i64 0,.nils,.int .i64 0,.int .i64 0,.nils,.nils,.nils,.nils,.str [],.int .i64 0,.str [],.int .i64 0,.nils,.nils,.int .i64 0,.int .i64 0,.nils,.int .i64 0,.int .i64 0,.nils,.int .i64 0,.int .i64 0],.row 145 8 ((y::k).map bU)]⟩) (fun a=>a.1<=x3.toNat/\au (dG iE a.1) (b3,e3) a.2.1 (a.2.2.1,a.2.2.2)/\(∀z∈a.2.1,fP.ok z)/\a.2.1.length=a.1) (fun a=>x3.toNat-a.1) (0,[],b3,e3) ⟨Nat.zero_le _,au.nil _,fun z hz=>(List.not_mem_nil hz).elim,rfl⟩ (Sv.aK [0,1,2]) ?_
 rintro⟨q,l,bl,el⟩ ⟨hq,hA,hO,hn⟩
 replace hq:q<=x3.toNat:=hq
 replace hA:au (dG iE q) (b3,e3) l (bl,el):=hA
 replace hO:∀z∈l,fP.ok z:=hO
 replace hn:l.length=q:=hn
 have dJ:bl.length<=8388609:=Nat.le_trans hA.len (by assumption)
 have fL:l.length<=4194304:=by omega
 cases l with
 |nil=>
  by_cases ey:(q:Int)<x3/\el=0
  ·obtain⟨hlt,rfl⟩:=ey
   repeat' (conv=>arg 2;whnf);first|refine bZ (by(try dsimp only);omega) ?_|refine aV ?_ ?_|refine bY (by simp;omega) ?_|refine aW 0 (Ft) bl 0 dJ fun x9 b9 e9 a9 o9 l9=>?_|refine aT (by constructor<;>(simp only[List.length_cons,List.length_nil,maxLen] at hn ⊢;omega)) ?_|exact aZ (q+1,[x9],b9,e9) (Sv.mk' [0,1,2,4] rfl ⟨⟨rfl,rfl⟩,⟨rfl,rfl⟩,⟨rfl,rfl⟩,⟨rfl,by show AO.row _ _ ([]++[bU x9])=AO.row _ _ _;simp⟩,trivial⟩ ⟨rfl,rfl,rfl,rfl,rfl,trivial⟩) ⟨by show q+1<=_;omega,hA.snoc sI a9,fun z hz=>by first|(rcases List.mem_append.1 hz with hz|hz;exact hO z hz;rw[List.mem_singleton.1 hz];exact o9)|(rw[List.mem_singleton.1 hz];exact o9),by simp at hn ⊢;omega⟩ (by show x3.toNat-(q+1)<x3.toNat-q;omega)
  ·have hx:q=x3.toNat\/¬el=0:=by omega
   have hG:au (aP iE x3.toNat) (b3,e3) [] (bl,el):=hA.list sI hq hx
   rcases(show(¬(q:Int)<x3)\/((q:Int)<x3/\¬el=0) by omega) with dh|⟨dh,jU⟩
   all_goals
    repeat' (conv=>arg 2;whnf);first|refine bY (by simp;omega) ?_|refine bB (by simp;omega) ?_|refine bq ?_
    conv=>arg 2;whnf
    refine aW 0 (nK 8 (by decide)) bl el dJ fun x4 b4 e4 a4 o4 l4=>?_
    have h4:b4.length<=8388609:=by omega
    have hC:=hG
    have oX:=hO
    have u5:=fL
    clear hA hO hn fL ey hx hG
    try clear dh jU
    have L9:0<=x4/\x4<=8:=o4
    conv=>arg 2;whnf
    refine bE (α:=Nat×List gq×List UInt8×Int) (fun a=>match a.2.1 with
     |[]=>⟨[(7,.int .i64 a.1),(5,.int .i64 x4),(4,.ptr 2 0),(3,.ptr 1 0),(0,.ptr 0 0)],[.cells 176 [.list 1 (a.2.2.1.map af),.int .i64 a.2.2.2],.cells 59 [.int .i64 8,.int .i64 x1,.int .i64 x2,.int .i64 0,.int .i64 0,.int .i64 0,.int .i64 0,.int .i64 0,.int .i64 0,.nils,.int .i64 0,.int .i64 0,.nils,.nils,.nils,.nils,.str [],.int .i64 0,.str [],.int .i64 0,.nils,.nils,.int .i64 0,.int .i64 0,.nils,.int .i64 0,.int .i64 0,.nils,.int .i64 0,.int .i64 0],.cells 59 [.int .i64 0,.int .i64 0,.int .i64 0,.int .i64 0,.int .i64 0,.int .i64 0,.int .i64 0,.int .i64 0,.int .i64 0,.nils,.int .i64 0,.int .i64 0,.nils,.nils,.nils,.nils,.str [],.int .i64 0,.str [],.int .i64 0,.nils,.nils,.int .i64 0,.int .i64 0,.nils,.int .i64 0,.int .i64 0,.nils,.int .i64 0,.int .i64 0]]⟩
     |y::k=>⟨[(7,.int .i64 a.1),(5,.int .i64 x4),(4,.ptr 2 0),(3,.ptr 1 0),(0,.ptr 0 0)],[.cells 176 [.list 1 (a.2.2.1.map af),.int .i64 a.2.2.2],.cells 59 [.int .i64 8,.int .i64 x1,.int .i64 x2,.int .i64 0,.int .i64 0,.int .i64 0,.int .i64 0,.int .i64 0,.int .i64 0,.nils,.int .i64 0,.int .i64 0,.nils,.nils,.row 3,.nils,.str [],.int .i64 0,.str [],.int .i64 0,.nils,.nils,.int .i64 0,.int .i64 0,.nils,.int .i64 0,.int .i64 0,.nils,.int .i64 0,.int .i64 0],.cells 59 [.int .i64 0,.int .i64 0,.int .i64 0,.int .i64 0,.int .i64 0,.int .i64 0,.int .i64 0,.int .i64 0,.int .i64 0,.nils,.int .i64 0,.int .i64 0,.nils,.nils,.nils,.nils,.str [],.int .i64 0,.str [],.int .i64 0,.nils,.nils,.int .i64 0,.int .i64 0,.nils,.int .i64 0,.int .i64 0,.nils,.int .i64 0,.int .i64 0],.row 159 5 ((y::k).map dV)]⟩) (fun a=>a.1<=x4.toNat/\au (dG iC a.1) (b4,e4) a.2.1 (a.2.2.1,a.2.2.2)/\(∀z∈a.2.1,jx.ok z)/\a.2.1.length=a.1) (fun a=>x4.toNat-a.1) (0,[],b4,e4) ⟨Nat.zero_le _,au.nil _,fun z hz=>(List.not_mem_nil hz).elim,rfl⟩ (Sv.aK [0,1,2]) ?_
    rintro⟨q,l,bl,el⟩ ⟨hq,hA,hO,hn⟩
    replace hq:q<=x4.toNat:=hq
    replace hA:au (dG iC q) (b4,e4) l (bl,el):=hA
    replace hO:∀z∈l,jx.ok z:=hO
    replace hn:l.length=q:=hn
    have dJ:bl.length<=8388609:=Nat.le_trans hA.len (by assumption)
    have fL:l.length<=4194304:=by omega
    cases l with
    |nil=>
     by_cases ey:(q:Int)<x4/\el=0
     ·obtain⟨hlt,rfl⟩:=ey
      repeat' (conv=>arg 2;whnf);first|refine bY (by simp;omega) ?_
      conv=>arg 2;whnf
      refine aW 0 (gO 0) bl 0 dJ fun u7 u9 AA a21 va Ma=>?_
      have AB:u9.length<=8388609:=by omega
      repeat' (conv=>arg 2;whnf);first|refine aY ?_|refine aV ?_ ?_
      conv=>arg 2;whnf
      refine aW 0 (gO 1) u9 AA AB fun vc ve AD AE vf Mb=>?_
      have AF:ve.length<=8388609:=by omega
      repeat' (conv=>arg 2;whnf);first|refine aY ?_|refine aV ?_ ?_
      conv=>arg 2;whnf
      refine aW 0 (zk) ve AD AF fun vg vh AG AH vi Mc=>?_
      have AI:vh.length<=8388609:=by omega
      repeat' (conv=>arg 2;whnf);first|refine aY ?_|refine aV ?_ ?_
      conv=>arg 2;whnf
      refine aW 0 (kE) vh AG AI fun vk vl AJ a24 vm Md=>?_
      have Me:vl.length<=8388609:=by omega
      repeat' (conv=>arg 2;whnf);first|refine bZ (by(try dsimp only);omega) ?_|refine aT (by constructor<;>(simp only[List.length_cons,List.length_nil,maxLen] at hn ⊢;omega)) ?_|exact aZ (q+1,[(gq.mk u7 vc vg vk)],vl,AJ) (Sv.mk' [0,1,2,8] rfl ⟨⟨rfl,rfl⟩,⟨rfl,rfl⟩,⟨rfl,rfl⟩,⟨rfl,by show AO.row _ _ ([]++[dV (gq.mk u7 vc vg vk)])=AO.row _ _ _;simp⟩,trivial⟩ ⟨rfl,rfl,rfl,rfl,rfl,trivial⟩) ⟨by show q+1<=_;omega,hA.snoc pE (Fv a21 AE AH a24),fun z hz=>by first|(rcases List.mem_append.1 hz with hz|hz;exact hO z hz;rw[List.mem_singleton.1 hz];exact⟨bM va (by decide),bM vf (by decide),vi,vm⟩)|(rw[List.mem_singleton.1 hz];exact⟨bM va (by decide),bM vf (by decide),vi,vm⟩),by simp at hn ⊢;omega⟩ (by show x4.toNat-(q+1)<x4.toNat-q;omega)
     ·have hx:q=x4.toNat\/¬el=0:=by omega
      have hG:au (aP iC x4.toNat) (b4,e4) [] (bl,el):=hA.list pE hq hx
      rcases(show(¬(q:Int)<x4)\/((q:Int)<x4/\¬el=0) by omega) with dh|⟨dh,jU⟩
      all_goals
       repeat' (conv=>arg 2;whnf);first|refine bY (by simp;omega) ?_|refine bB (by simp;omega) ?_|refine bq ?_
       conv=>arg 2;whnf
       refine aW 0 (kE) bl el dJ fun x5 b5 e5 a5 o5 l5=>?_
       have h5:b5.length<=8388609:=by omega
       repeat' (conv=>arg 2;whnf);first|exact eg (r:=.agg (aC {aE with kind:=8,src:=x1,view:=x2,changes:=[],entries:=[],sign:=x5})) (h':=bz (b5,e5)) [] [0] (.inr rfl) rfl rfl ⟨⟨rfl,rfl⟩,trivial⟩ ⟨⟨rfl,rfl⟩,trivial⟩ .z ⟨((x1,x2,[],[]),x5),_,_,Gm a1 a2 a3 hC a4 hG a5,⟨o1,o2,⟨u5,oX⟩,⟨fL,hO⟩,o5⟩,rfl,rfl⟩
    |cons y k=>
     by_cases ey:(q:Int)<x4/\el=0
     ·obtain⟨hlt,rfl⟩:=ey
      repeat' (conv=>arg 2;whnf);first|refine bY (by simp;omega) ?_
      conv=>arg 2;whnf
      refine aW 0 (gO 0) bl 0 dJ fun u7 u9 AA a21 va Ma=>?_
      have AB:u9.length<=8388609:=by omega
      repeat' (conv=>arg 2;whnf);first|refine aY ?_|refine aV ?_ ?_
      conv=>arg 2;whnf
      refine aW 0 (gO 1) u9 AA AB fun vc ve AD AE vf Mb=>?_
      have AF:ve.length<=8388609:=by omega
      repeat' (conv=>arg 2;whnf);first|refine aY ?_|refine aV ?_ ?_
      conv=>arg 2;whnf
      refine aW 0 (zk) ve AD AF fun vg vh AG AH vi Mc=>?_
      have AI:vh.length<=8388609:=by omega
      repeat' (conv=>arg 2;whnf);first|refine aY ?_|refine aV ?_ ?_
      conv=>arg 2;whnf
      refine aW 0 (kE) vh AG AI fun vk vl AJ a24 vm Md=>?_
      have Me:vl.length<=8388609:=by omega
      repeat' (conv=>arg 2;whnf);first|refine bZ (by(try dsimp only);omega) ?_|refine aT (by constructor<;>(simp only[List.length_cons,List.length_nil,List.length_map,maxLen] at hn ⊢;omega)) ?_|exact aZ (q+1,((y::k)++[(gq.mk u7 vc vg vk)]),vl,AJ) (Sv.mk' [0,1,2,9] rfl ⟨⟨rfl,rfl⟩,⟨rfl,rfl⟩,⟨rfl,rfl⟩,⟨rfl,by show AO.row _ _ ((y::k).map dV++[dV (gq.mk u7 vc vg vk)])=AO.row _ _ _;simp⟩,trivial⟩ ⟨rfl,rfl,rfl,rfl,rfl,trivial⟩) ⟨by show q+1<=_;omega,hA.snoc pE (Fv a21 AE AH a24),fun z hz=>by first|(rcases List.mem_append.1 hz with hz|hz;exact hO z hz;rw[List.mem_singleton.1 hz];exact⟨bM va (by decide),bM vf (by decide),vi,vm⟩)|(rw[List.mem_singleton.1 hz];exact⟨bM va (by decide),bM vf (by decide),vi,vm⟩),by simp at hn ⊢;omega⟩ (by show x4.toNat-(q+1)<x4.toNat-q;omega)
     ·have hx:q=x4.toNat\/¬el=0:=by omega
      have hG:au (aP iC x4.toNat) (b4,e4) (y::k) (bl,el):=hA.list pE hq hx
      rcases(show(¬(q:Int)<x4)\/((q:Int)<x4/\¬el=0) by omega) with dh|⟨dh,jU⟩
      all_goals
       repeat' (conv=>arg 2;whnf);first|refine bY (by simp;omega) ?_|refine bB (by simp;omega) ?_|refine bq ?_
       conv=>arg 2;whnf
       refine aW 0 (kE) bl el dJ fun x5 b5 e5 a5 o5 l5=>?_
       have h5:b5.length<=8388609:=by omega
       repeat' (conv=>arg 2;whnf);first|exact eg (r:=.agg (aC {aE with kind:=8,src:=x1,view:=x2,changes:=[],entries:=(y::k),sign:=x5})) (h':=bz (b5,e5)) [3] [0] (.inr rfl) rfl rfl ⟨⟨rfl,rfl⟩,trivial⟩ ⟨⟨rfl,rfl⟩,trivial⟩ .z ⟨((x1,x2,[],(y::k)),x5),_,_,Gm a1 a2 a3 hC a4 hG a5,⟨o1,o2,⟨u5,oX⟩,⟨fL,hO⟩,o5⟩,rfl,rfl⟩
 |cons y k=>
  by_cases ey:(q:Int)<x3/\el=0
  ·obtain⟨hlt,rfl⟩:=ey
   repeat' (conv=>arg 2;whnf);first|refine bZ (by(try dsimp only);omega) ?_|refine aV ?_ ?_|refine bY (by simp;omega) ?_|refine aW 0 (Ft) bl 0 dJ fun x9 b9 e9 a9 o9 l9=>?_|refine aT (by constructor<;>(simp only[List.length_cons,List.length_nil,List.length_map,maxLen] at hn ⊢;omega)) ?_|exact aZ (q+1,((y::k)++[x9]),b9,e9) (Sv.mk' [0,1,2,5] rfl ⟨⟨rfl,rfl⟩,⟨rfl,rfl⟩,⟨rfl,rfl⟩,⟨rfl,by show AO.row _ _ ((y::k).map bU++[bU x9])=AO.row _ _ _;simp⟩,trivial⟩ ⟨rfl,rfl,rfl,rfl,rfl,trivial⟩) ⟨by show q+1<=_;omega,hA.snoc sI a9,fun z hz=>by first|(rcases List.mem_append.1 hz with hz|hz;exact hO z hz;rw[List.mem_singleton.1 hz];exact o9)|(rw[List.mem_singleton.1 hz];exact o9),by simp at hn ⊢;omega⟩ (by show x3.toNat-(q+1)<x3.toNat-q;omega)
  ·have hx:q=x3.toNat\/¬el=0:=by omega
   have hG:au (aP iE x3.toNat) (b3,e3) (y::k) (bl,el):=hA.list sI hq hx
   rcases(show(¬(q:Int)<x3)\/((q:Int)<x3/\¬el=0) by omega) with dh|⟨dh,jU⟩
   all_goals
    repeat' (conv=>arg 2;whnf);first|refine bY (by simp;omega) ?_|refine bB (by simp;omega) ?_|refine bq ?_
    conv=>arg 2;whnf
    refine aW 0 (nK 8 (by decide)) bl el dJ fun x4 b4 e4 a4 o4 l4=>?_
    have h4:b4.length<=8388609:=by omega
    have hC:=hG
    have oX:=hO
    have u5:=fL
    clear hA hO hn fL ey hx hG
    try clear dh jU
    have L9:0<=x4/\x4<=8:=o4
    conv=>arg 2;whnf
    refine bE (α:=Nat×List gq×List UInt8×Int) (fun a=>match a.2.1 with
     |[]=>⟨[(7,.int .i64 a.1),(5,.int .i64 x4),(4,.ptr 2 0),(3,.ptr 1 0),(0,.ptr 0 0)],[.cells 176 [.list 1 (a.2.2.1.map af),.int .i64 a.2.2.2],.cells 59 [.int .i64 8,.int .i64 x1,.int .i64 x2,.int .i64 0,.int .i64 0,.int .i64 0,.int .i64 0,.int .i64 0,.int .i64 0,.nils,.int .i64 0,.int .i64 0,.nils,.row 3,.nils,.nils,.str [],.int .i64 0,.str [],.int .i64 0,.nils,.nils,.int .i64 0,.int .i64 0,.nils,.int .i64 0,.int .i64 0,.nils,.int .i64 0,.int .i64 0],.cells 59 [.int .i64 0,.int .i64 0,.int .i64 0,.int .i64 0,.int .i64 0,.int .i64 0,.int .i64 0,.int .i64 0,.int .i64 0,.nils,.int .i64 0,.int .i64 0,.nils,.nils,.nils,.nils,.str [],.int .i64 0,.str [],.int .i64 0,.nils,.nils,.int .i64 0,.int .i64 0,.nils,.int .i64 0,.int .i64 0,.nils,.int .i64 0,.int .i64 0],.row 145 8 ((y::k).map bU)]⟩
     |Y::K=>⟨[(7,.int .i64 a.1),(5,.int .i64 x4),(4,.ptr 2 0),(3,.ptr 1 0),(0,.ptr 0 0)],[.cells 176 [.list 1 (a.2.2.1.map af),.int .i64 a.2.2.2],.cells 59 [.int .i64 8,.int .i64 x1,.int .i64 x2,.int .i64 0,.int .i64 0,.int .i64 0,.int .i64 0,.int .i64 0,.int .i64 0,.nils,.int .i64 0,.int .i64 0,.nils,.row 3,.row 4,.nils,.str [],.int .i64 0,.str [],.int .i64 0,.nils,.nils,.int .i64 0,.int .i64 0,.nils,.int .i64 0,.int .i64 0,.nils,.int .i64 0,.int .i64 0],.cells 59 [.int .i64 0,.int .i64 0,.int .i64 0,.int .i64 0,.int .i64 0,.int .i64 0,.int .i64 0,.int .i64 0,.int .i64 0,.nils,.int .i64 0,.int .i64 0,.nils,.nils,.nils,.nils,.str [],.int .i64 0,.str [],.int .i64 0,.nils,.nils,.int .i64 0,.int .i64 0,.nils,.int .i64 0,.int .i64 0,.nils,.int .i64 0,.int .i64 0],.row 145 8 ((y::k).map bU),.row 159 5 ((Y::K).map dV)]⟩) (fun a=>a.1<=x4.toNat/\au (dG iC a.1) (b4,e4) a.2.1 (a.2.2.1,a.2.2.2)/\(∀z∈a.2.1,jx.ok z)/\a.2.1.length=a.1) (fun a=>x4.toNat-a.1) (0,[],b4,e4) ⟨Nat.zero_le _,au.nil _,fun z hz=>(List.not_mem_nil hz).elim,rfl⟩ (Sv.aK [0,1,2,3]) ?_
    rintro⟨q,l,bl,el⟩ ⟨hq,hA,hO,hn⟩
    replace hq:q<=x4.toNat:=hq
    replace hA:au (dG iC q) (b4,e4) l (bl,el):=hA
    replace hO:∀z∈l,jx.ok z:=hO
    replace hn:l.length=q:=hn
    have dJ:bl.length<=8388609:=Nat.le_trans hA.len (by assumption)
    have fL:l.length<=4194304:=by omega
    cases l with
    |nil=>
     by_cases ey:(q:Int)<x4/\el=0
     ·obtain⟨hlt,rfl⟩:=ey
      repeat' (conv=>arg 2;whnf);first|refine bY (by simp;omega) ?_
      conv=>arg 2;whnf
      refine aW 0 (gO 0) bl 0 dJ fun u7 u9 AA a21 va Ma=>?_
      have AB:u9.length<=8388609:=by omega
      repeat' (conv=>arg 2;whnf);first|refine aY ?_|refine aV ?_ ?_
      conv=>arg 2;whnf
      refine aW 0 (gO 1) u9 AA AB fun vc ve AD AE vf Mb=>?_
      have AF:ve.length<=8388609:=by omega
      repeat' (conv=>arg 2;whnf);first|refine aY ?_|refine aV ?_ ?_
      conv=>arg 2;whnf
      refine aW 0 (zk) ve AD AF fun vg vh AG AH vi Mc=>?_
      have AI:vh.length<=8388609:=by omega
      repeat' (conv=>arg 2;whnf);first|refine aY ?_|refine aV ?_ ?_
      conv=>arg 2;whnf
      refine aW 0 (kE) vh AG AI fun vk vl AJ a24 vm Md=>?_
      have Me:vl.length<=8388609:=by omega
      repeat' (conv=>arg 2;whnf);first|refine bZ (by(try dsimp only);omega) ?_|refine aT (by constructor<;>(simp only[List.length_cons,List.length_nil,maxLen] at hn ⊢;omega)) ?_|exact aZ (q+1,[(gq.mk u7 vc vg vk)],vl,AJ) (Sv.mk' [0,1,2,3,9] rfl ⟨⟨rfl,rfl⟩,⟨rfl,rfl⟩,⟨rfl,rfl⟩,⟨rfl,rfl⟩,⟨rfl,by show AO.row _ _ ([]++[dV (gq.mk u7 vc vg vk)])=AO.row _ _ _;simp⟩,trivial⟩ ⟨rfl,rfl,rfl,rfl,rfl,trivial⟩) ⟨by show q+1<=_;omega,hA.snoc pE (Fv a21 AE AH a24),fun z hz=>by first|(rcases List.mem_append.1 hz with hz|hz;exact hO z hz;rw[List.mem_singleton.1 hz];exact⟨bM va (by decide),bM vf (by decide),vi,vm⟩)|(rw[List.mem_singleton.1 hz];exact⟨bM va (by decide),bM vf (by decide),vi,vm⟩),by simp at hn ⊢;omega⟩ (by show x4.toNat-(q+1)<x4.toNat-q;omega)
     ·have hx:q=x4.toNat\/¬el=0:=by omega
      have hG:au (aP iC x4.toNat) (b4,e4) [] (bl,el):=hA.list pE hq hx
      rcases(show(¬(q:Int)<x4)\/((q:Int)<x4/\¬el=0) by omega) with dh|⟨dh,jU⟩
      all_goals
       repeat' (conv=>arg 2;whnf);first|refine bY (by simp;omega) ?_|refine bB (by simp;omega) ?_|refine bq ?_
       conv=>arg 2;whnf
       refine aW 0 (kE) bl el dJ fun x5 b5 e5 a5 o5 l5=>?_
       have h5:b5.length<=8388609:=by omega
       repeat' (conv=>arg 2;whnf);first|exact eg (r:=.agg (aC {aE with kind:=8,src:=x1,view:=x2,changes:=(y::k),entries:=[],sign:=x5})) (h':=bz (b5,e5)) [3] [0] (.inr rfl) rfl rfl ⟨⟨rfl,rfl⟩,trivial⟩ ⟨⟨rfl,rfl⟩,trivial⟩ .z ⟨((x1,x2,(y::k),[]),x5),_,_,Gm a1 a2 a3 hC a4 hG a5,⟨o1,o2,⟨u5,oX⟩,⟨fL,hO⟩,o5⟩,rfl,rfl⟩
    |cons Y K=>
     by_cases ey:(q:Int)<x4/\el=0
     ·obtain⟨hlt,rfl⟩:=ey
      repeat' (conv=>arg 2;whnf);first|refine bY (by simp;omega) ?_
      conv=>arg 2;whnf
      refine aW 0 (gO 0) bl 0 dJ fun u7 u9 AA a21 va Ma=>?_
      have AB:u9.length<=8388609:=by omega
      repeat' (conv=>arg 2;whnf);first|refine aY ?_|refine aV ?_ ?_
      conv=>arg 2;whnf
      refine aW 0 (gO 1) u9 AA AB fun vc ve AD AE vf Mb=>?_
      have AF:ve.length<=8388609:=by omega
      repeat' (conv=>arg 2;whnf);first|refine aY ?_|refine aV ?_ ?_
      conv=>arg 2;whnf
      refine aW 0 (zk) ve AD AF fun vg vh AG AH vi Mc=>?_
      have AI:vh.length<=8388609:=by omega
      repeat' (conv=>arg 2;whnf);first|refine aY ?_|refine aV ?_ ?_
      conv=>arg 2;whnf
      refine aW 0 (kE) vh AG AI fun vk vl AJ a24 vm Md=>?_
      have Me:vl.length<=8388609:=by omega
      repeat' (conv=>arg 2;whnf);first|refine bZ (by(try dsimp only);omega) ?_|refine aT (by constructor<;>(simp only[List.length_cons,List.length_nil,List.length_map,maxLen] at hn ⊢;omega)) ?_|exact aZ (q+1,((Y::K)++[(gq.mk u7 vc vg vk)]),vl,AJ) (Sv.mk' [0,1,2,3,10] rfl ⟨⟨rfl,rfl⟩,⟨rfl,rfl⟩,⟨rfl,rfl⟩,⟨rfl,rfl⟩,⟨rfl,by show AO.row _ _ ((Y::K).map dV++[dV (gq.mk u7 vc vg vk)])=AO.row _ _ _;simp⟩,trivial⟩ ⟨rfl,rfl,rfl,rfl,rfl,trivial⟩) ⟨by show q+1<=_;omega,hA.snoc pE (Fv a21 AE AH a24),fun z hz=>by first|(rcases List.mem_append.1 hz with hz|hz;exact hO z hz;rw[List.mem_singleton.1 hz];exact⟨bM va (by decide),bM vf (by decide),vi,vm⟩)|(rw[List.mem_singleton.1 hz];exact⟨bM va (by decide),bM vf (by decide),vi,vm⟩),by simp at hn ⊢;omega⟩ (by show x4.toNat-(q+1)<x4.toNat-q;omega)
     ·have hx:q=x4.toNat\/¬el=0:=by omega
      have hG:au (aP iC x4.toNat) (b4,e4) (Y::K) (bl,el):=hA.list pE hq hx
      rcases(show(¬(q:Int)<x4)\/((q:Int)<x4/\¬el=0) by omega) with dh|⟨dh,jU⟩
      all_goals
       repeat' (conv=>arg 2;whnf);first|refine bY (by simp;omega) ?_|refine bB (by simp;omega) ?_|refine bq ?_
       conv=>arg 2;whnf
       refine aW 0 (kE) bl el dJ fun x5 b5 e5 a5 o5 l5=>?_
       have h5:b5.length<=8388609:=by omega
       repeat' (conv=>arg 2;whnf);first|exact eg (r:=.agg (aC {aE with kind:=8,src:=x1,view:=x2,changes:=(y::k),entries:=(Y::K),sign:=x5})) (h':=bz (b5,e5)) [3,4] [0] (.inr rfl) rfl rfl ⟨⟨rfl,rfl⟩,trivial⟩ ⟨⟨rfl,rfl⟩,trivial⟩ .z ⟨((x1,x2,(y::k),(Y::K)),x5),_,_,Gm a1 a2 a3 hC a4 hG a5,⟨o1,o2,⟨u5,oX⟩,⟨fL,hO⟩,o5⟩,rfl,rfl⟩
class qW [Wd]:Prop where
 LX:∀{I:Nat->Prop} {w:World},Wd.W I w->qS I w
instance ahU (p:Prop):@qW (yD p):=@qW.mk (yD p) (fun h=>h)
theorem qS.Te {I:Nat->Prop} {w:World} (h:qS I w) (hi:∀b,I b->b<w.heap.size):qT w:=fun w' hb=>(h.cl (fun b k=>hb.block b (hi b k)) (fun _ k=>k)).D0
theorem bC.Lj [Wd] [qW] {P:Program} {f:FuncId} {ar:List D} {r:D} {v:Value} (hv:∀I w,Dr I w v r) (xz:rj P f=true) (h:∀w I vs,qS I w->(∀b,I b->b<w.heap.size)->dQ I w vs ar->Calls P f vs.toArray w fun e w'=>e=.returned v/\B w w') (hp:ga.pl ar=true):aq P f ar r:=by
 refine⟨xz,fun w I g vs hW hd ha=>(h w I vs (qW.LX hW) hd.aG (ur ha hp)).mono ?_⟩
 rintro e w' ⟨rfl,hb⟩
 have hg:g=[]:=List.eq_nil_of_length_eq_zero hd.len
 subst hg
 exact .inl ⟨v,I,[],r,[],rfl,⟨rfl,rfl⟩,hd.later hb,.rd (hv I w'),Ext.of_B hb,fun _ h=>h,fun _ h=>.inl h,fun b h=>.inl h,fun o p t cs _ h=>by simp at h⟩
theorem F0 [Wd] [qW]:yE:=fun n hn=>bC.Lj (v:=.string (aA (Lib.itoa n))) (fun _ _=>.str _) (by kernel_rfl) (fun w I vs hW hi hd=>by
 obtain⟨u,rfl,h1⟩:=hd.vR
 rw[(Vr.rd (g:=[]) h1).nI]
 exact BW (hW.Te hi) hn) rfl
theorem iN [Wd] [qW]:Ag:=fun n hn=>bC.Lj (v:=.string (aA (Lib.itoa n))) (fun _ _=>.str _) (by kernel_rfl) (fun w I vs hW hi hd=>by
 obtain⟨u,rfl,h1⟩:=hd.vR
 rw[(Vr.rd (g:=[]) h1).nI]
 exact abo hW.D0 hn) rfl
theorem QD [Wd] [qW]:Kw:=by
 intro s hs
 refine⟨by kernel_rfl,fun w I g vs hW hd ha=>?_⟩
 obtain⟨v,xN,rfl,h1,h2⟩:=ha.zW
 obtain rfl:=h2.Dm
 rw[h1.nJ]
 have hg:g=[]:=List.eq_nil_of_length_eq_zero hd.len
 subst hg
 have hS:=qW.LX hW
 have hz:(aA s).size=s.length:=by simp[aA,ByteArray.size]
 have wF:(aA s).data.toList=s:=by simp[aA]
 rcases hA:Lib.atoiAll s with n|_|_
 ·skip
  refine(Any.strconv_Atoi_ok Tryz.Jx (aA s) (by omega) n (by rw[wF];exact hA) w).mono ?_
  rintro e w' ⟨rfl,hw⟩
  have hb:B w w':=by
   rcases hw with rfl|⟨t,rfl⟩
   ·exact Below.refl _ _
   ·exact Nx _ _ _
  refine .inl ⟨_,I,[],wk s,[],rfl,⟨rfl,rfl⟩,hd.later hb,?_,Ext.of_B hb,fun _ h=>h,fun _ h=>.inl h,fun b h=>.inl h,fun o p t cs _ h=>by simp at h⟩
  unfold wk
  rw[hA]
  exact Vr.oO (vs:=[.int .i64 n,.nilIface]) (.cons (.rd (.int _ _)) (.cons .oQ .nil))
 ·skip
  obtain⟨tp,p,hv⟩:=hS.G1
  refine(Any.strconv_Atoi_syntax_var Tryz.Jx (aA s) (by omega) (by rw[wF];exact hA) tp p w hv).mono ?_
  rintro e w' ⟨N,rfl,_,_,hb⟩
  replace hb:B w w':=hb
  refine .inl ⟨_,I,[],wk s,[],rfl,⟨rfl,rfl⟩,hd.later hb,?_,Ext.of_B hb,fun _ h=>h,fun _ h=>.inl h,fun b h=>.inl h,fun o p t cs _ h=>by simp at h⟩
  unfold wk
  rw[hA]
  exact Vr.oO (vs:=[.int .i64 0,.iface _ _]) (.cons (.rd (.int _ _)) (.cons (.gj _ _) .nil))
 ·skip
  obtain⟨tp,p,hv⟩:=hS.G2
  refine(Any.strconv_Atoi_range_var Tryz.Jx (aA s) (by omega) (by rw[wF];exact hA) tp p w hv).mono ?_
  rintro e w' ⟨N,rfl,_,_,hb⟩
  replace hb:B w w':=hb
  refine .inl ⟨_,I,[],wk s,[],rfl,⟨rfl,rfl⟩,hd.later hb,?_,Ext.of_B hb,fun _ h=>h,fun _ h=>.inl h,fun b h=>.inl h,fun o p t cs _ h=>by simp at h⟩
  unfold wk
  rw[hA,wF]
  exact Vr.oO (vs:=[.int .i64 (Lib.atoiSat s),.iface _ _]) (.cons (.rd (.int _ _)) (.cons (.gj _ _) .nil))
theorem ZA [Wd] [qW] (s:List UInt8) (hs:s.length<=4194304):aq prog 34 [.str s,.str [32]] (.list 1 (cW (fc s))):=by
 refine⟨by kernel_rfl,fun w I g vs hW hd ha=>?_⟩
 obtain⟨v,xN,rfl,h1,h2⟩:=ha.zW
 obtain⟨v2,ahV,rfl,h3,h4⟩:=h2.zW
 obtain rfl:=h4.Dm
 rw[h1.nJ,h3.nJ]
 have hg:g=[]:=List.eq_nil_of_length_eq_zero hd.len
 subst hg
 obtain⟨m,hm⟩:=(qW.LX hW).G3
 have hz:(aA s).size=s.length:=by simp[aA,ByteArray.size]
 have wF:(aA s).data.toList=s:=by simp[aA]
 have SA:(aA [32]).data.toList=[32]:=by simp[aA]
 have At:(Lib.splitB (aA [32]) 0 (Lib.countB (aA s) (aA [32])) (aA s)).map (·.data.toList)=fc s:=by
  rw[Lib.splitB_data,SA,wF]
  show Lib.splitK [32] 0 (Lib.count (aA s).data.toList (aA [32]).data.toList) s=_
  rw[wF,SA]
  exact Pu s
 have iK:(Lib.splitB (aA [32]) 0 (Lib.countB (aA s) (aA [32])) (aA s))=(fc s).map aA:=by
  rw[<-At,List.map_map]
  conv=>lhs;rw[<-List.map_id (Lib.splitB _ _ _ _)]
  refine List.map_congr_left fun x _=>?_
  show x=aA x.data.toList
  simp[aA]
 have Tf:Lib.countB (aA s) (aA [32])+1=(fc s).length:=by
  have:=Lib.splitB_all (aA [32]) (by decide) 0 _ (aA s) rfl
  rw[iK,List.length_map] at this
  exact this.symm
 have hle:=IL s
 refine(Tryz.strings_Split (aA s) (aA [32]) m w (by omega) hm (by decide)).mono ?_
 rintro e w' ⟨rfl,rfl⟩
 rw[Tf,iK]
 have hb:B w (w.alloc (.cells (((fc s).map aA).map Value.string).toArray 9)):=B.j9 _ _
 have eE:(w.alloc (.cells (((fc s).map aA).map Value.string).toArray 9)).heap.size=w.heap.size+1:=Array.size_push _
 refine .inl ⟨_,fun b=>I b\/b=w.heap.size,[],.list 1 (cW (fc s)),[],rfl,⟨rfl,rfl⟩,(hd.later hb).Al (fun _ h=>.inl h) ?_ ?_,.rd (.list (some ⟨w.heap.size,0,none⟩) _ 1 _ _ (fun i _=>.string (aA ((fc s).getD i []))) (by simp[cW]) (Nat.le_refl _) (Nat.le_trans (show(fc s).length<=4194305 by omega) (by decide)) (fun h=>by cases h) ?_ ?_ ?_ ?_),Ext.of_B hb,fun _ h=>.inl h,?_,fun b h=>.inl h,fun o p t cs _ h=>by simp at h⟩
 ·rintro b (h|rfl)
  ·have:=hd.aG b h;omega
  ·omega
 ·rintro b _ ⟨o,ao,p,k1,_⟩
  simp at k1
 ·intro x hx
  simp only[cW,List.mem_map] at hx
  obtain⟨y,_,rfl⟩:=hx
  rfl
 ·intro _
  refine⟨w.heap.size,0,rfl,by omega,.inr rfl,fun i x j d h1 h2=>?_⟩
  simp only[cW,List.getElem?_map,Option.map_eq_some_iff] at h1
  obtain⟨y,hy,rfl⟩:=h1
  cases j with
  |succ j=>simp at h2
  |zero=>
   have:(w.alloc (.cells (((fc s).map aA).map Value.string).toArray 9)).heap[w.heap.size]?=some (.cells (((fc s).map aA).map Value.string).toArray 9 (0,0)):=by
    show(w.heap.push _)[w.heap.size]?=_
    rw[Array.getElem?_push_size]
   simp only[World.cell?,this]
   simp[hy,List.getD_eq_getElem?_getD]
 ·intro i x j d _ _
  rfl
 ·intro i x j d h1 h2
  simp only[cW,List.getElem?_map,Option.map_eq_some_iff] at h1
  obtain⟨y,hy,rfl⟩:=h1
  cases j with
  |succ j=>simp at h2
  |zero=>
   simp at h2
   subst h2
   simp only[List.getD_eq_getElem?_getD,hy,Option.getD_some]
   exact .str y
 ·rintro b (h|rfl)
  ·exact .inl h
  ·exact .inr (.inr (Nat.le_refl _))
def kO (ws:List (List UInt8)):Prop:=ws.length<=4194305/\∀w∈ws,w.length<=4194304
theorem kO.tail {s:List UInt8} {r:List (List UInt8)} (h:kO (s::r)):kO r:=⟨by have:=h.1;simp at this;omega,fun w hw=>h.2 w (by simp[hw])⟩
theorem kO.head {s:List UInt8} {r:List (List UInt8)} (h:kO (s::r)):s.length<=4194304:=h.2 s (by simp)
theorem kO.split {s:List UInt8} (h:s.length<=4194304):kO (fc s):=⟨by have:=IL s;omega,fun w hw=>by have:=VM s w hw;omega⟩
section
open Go.RowKit Go.Deep
def aQ (c:Nat):Nat:=if 48<=c/\c<=57 then c-48 else if 97<=c/\c<=102 then c-87 else 16
def pO:List UInt8->Option (List UInt8)
 |[]=>some []
 |[_]=>none
 |x::y::r=>if aQ x.toNat<16/\aQ y.toNat<16 then(pO r).map (UInt8.ofNat (16*aQ x.toNat+aQ y.toNat)::·) else none
def dU:List UInt8->Option (List UInt8)
 |[]=>none
 |x::r=>if x=120 then pO r else none
theorem OV (n:Nat) (h:n<16):aQ (kX n).toNat=n:=by
 rw[IQ h]
 unfold aQ
 split
 ·rw[if_pos (by omega)];omega
 ·rw[if_neg (by omega),if_pos (by omega)];omega
theorem Fp (b:List UInt8):dU (gw b)=some b:=by
 have h:∀b:List UInt8,pO (b.flatMap fun c=>[kX (c.toNat/16),kX (c.toNat%16)])=some b:=by
  intro b
  induction b with
  |nil=>rfl
  |cons c r ih=>
   have hc:=c.toNat_lt
   simp only[List.flatMap_cons,List.cons_append,List.nil_append,pO,ih]
   rw[OV _ (by omega),OV _ (by omega),if_pos (by omega)]
   simp only[Option.map_some,Option.some.injEq,List.cons.injEq,and_true]
   apply UInt8.toNat_inj.1
   rw[UInt8.toNat_ofNat']
   omega
 simp[dU,gw,h]
end
end Go.Proofs.YtafomdobfmmleaaGreatDoor
