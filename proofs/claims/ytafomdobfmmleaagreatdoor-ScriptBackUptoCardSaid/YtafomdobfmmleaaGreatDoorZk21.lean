/- Lemmas and contracts, part 21. -/
import Derived.Test.YtafomdobfmmleaaGreatDoorZk20
import Derived.Lib.ItoaLen
import Derived.Deep.Light
import Derived.Deep.QuietTactic
import Derived.BigQuiet
/- Lemmas and contracts. -/
namespace Go.Proofs.YtafomdobfmmleaaGreatDoor
open Go.RowKit Go.Deep
set_option linter.unusedVariables false
theorem gB.one {ay:Nat->Prop} {w:World} {cs:List Value} {x:aS} (h:gB.rd ay w cs x):cs.toArray.size=40/\cs.toArray.all (·.oneCell')=true:=by
 obtain⟨oc,b,mc,rfl,OQ,ho,hb,hm⟩:=gB.Nv h
 have h1:=cL.one ho
 have h2:=gJ.one hm
 have l1:oc.length=5:=cL.len ho
 have l2:mc.length=30:=by have:=gJ.len hm;simpa using this
 obtain⟨u,hu,qT,_⟩:=hb
 injection hu with hu _
 subst hu
 obtain⟨A1,c1,e1⟩:=qT.rd.slice
 subst e1
 refine⟨by simp[s7,l1,l2],?_⟩
 simp only[List.all_toArray,s7,List.all_append,List.all_eq_true.2 h1,List.all_eq_true.2 h2]
 simp[Value.oneCell']
theorem E8 (M:Nat):∀l:List (List UInt8),(∀y∈l,y.length<=M)->(iy l).length<=l.length*(M+1)
 |[],_=>by simp[iy]
 |[x],h=>by have:=h x (by simp);simp[iy];omega
 |x::y::r,h=>by
  have h1:=h x (by simp)
  have h2:=E8 M (y::r) (fun z hz=>h z (by simp[hz]))
  simp only[iy,List.length_append,List.length_cons] at h2 ⊢
  rw[Nat.add_mul (r.length+1) 1,Nat.one_mul]
  omega
theorem Mx (n:Nat) (s:Bool):(iQ n s).length<=10:=by
 unfold iQ
 split
 all_goals first|(simp[tV,uH,uj,uI,uv,s6,uJ,uw,ux,uK,uy];done)|(cases s<;>simp[sS,sU])
theorem Tb {ay:Nat->Prop} {w:World} {cs:List Value} {x:aS} (hx:gB.rd ay w cs x) (hk:lC x):(∀y∈eG x,y.length<=8388610)/\(eG x).length<=4:=by
 obtain⟨oc,b,mc,rfl,⟨b1,b2,b3⟩,ho,hb,hm⟩:=gB.Nv hx
 obtain⟨hr,h6,gP⟩:=hk
 have i1:=Lib.itoa_length_le x.aL b2.1 b2.2
 have i2:=Lib.itoa_length_le x.num b3.1 b3.2
 have hy:=tY.le hb
 unfold eG
 constructor
 ·intro y jT
  rcases List.mem_cons.1 jT with rfl|jT
  ·have:=Mx x.kind.toNat x.fL;omega
  ·unfold iH at jT
   split at jT
   ·simp at jT;subst jT;omega
   split at jT
   ·simp at jT;subst jT;omega
   split at jT
   ·rename_i k6
    simp at jT
    rcases jT with rfl|rfl
    ·omega
    ·exact Cp _ 0 (by have:=xj (h6 k6);omega)
   split at jT
   ·simp at jT;rcases jT with rfl|rfl<;>omega
   split at jT
   ·simp at jT;subst jT;exact Cp _ 0 hy
   split at jT
   ·rename_i j4
    have hw:=gP j4
    have hu:=Cf (tQ (tN hw.1.1))
    rw[vh] at hu
    have ob:=Xi hm
    simp[kJ,oH] at jT
    rcases jT with rfl|rfl|rfl
    ·omega
    ·exact Cp _ 0 (by omega)
    ·have e1:=gQ (cH x.msg).key.toNat (by omega)
     have e2:=gQ (cH x.msg).an.toNat (by omega)
     exact Cp _ 0 (by rw[List.length_append];omega)
   ·simp at jT
 ·unfold iH
  repeat' split
  all_goals simp[kJ]
theorem Tc {ay:Nat->Prop} {w:World} {cs:List Value} {x:aS} (hx:gB.rd ay w cs x) (hk:lC x):(eP x).length<=33554448:=by
 obtain⟨h1,h2⟩:=Tb hx hk
 have:=E8 8388610 (eG x) h1
 have h3:(eG x).length*(8388610+1)<=4*(8388610+1):=Nat.mul_le_mul_right _ h2
 unfold eP
 omega
def Cq (w:World) (x:aS) (r:Ending) (w':World):Prop:=open Classical in
 (r=if gR x then .returned (.tuple #[.string (au (eP x)),.int .i64 0]) else .returned (.tuple #[.string ⟨#[]⟩,.int .i64 1]))/\B w w'
end Go.Proofs.YtafomdobfmmleaaGreatDoor

/- Lemmas and contracts. -/
namespace Go.Proofs.YtafomdobfmmleaaGreatDoor
open Go.RowKit Go.Deep
set_option linter.unusedVariables false
def xN:List UInt8:=[119,111,114,108,100]
def lA (s:dX):List (List UInt8):=[xN,Lib.itoa s.f,Lib.itoa s.eU,Lib.itoa s.eO,Lib.itoa s.room,s.av]
def eW (s:dX):List UInt8:=iy (lA s)
theorem ML {x:Int} (h:0<=x/\x<=9223372036854775807):IntKind.i64.wrap x=x:=by
 simp[IntKind.wrap,IntKind.signed,IntKind.bits];omega
theorem J6 {ay:Nat->Prop} {w:World} {cs:List Value} {s:dX} (h:jz.rd ay w cs s):(eW s).length<=30000000:=by
 obtain⟨_,b1,b2,b3,b4,b5⟩:=jz.parts h
 have i1:=Lib.itoa_length_le s.f b1.1 b1.2
 have i2:=Lib.itoa_length_le s.eU (by omega) (by omega)
 have i3:=Lib.itoa_length_le s.eO (by omega) (by omega)
 have i4:=Lib.itoa_length_le s.room b4.1 b4.2
 have:=E8 4194304 (lA s) (by
  intro y hy
  simp only[lA,List.mem_cons,List.not_mem_nil,or_false] at hy
  rcases hy with rfl|rfl|rfl|rfl|rfl|rfl
  ·simp[xN]
  all_goals omega)
 unfold eW
 have e:(lA s).length=6:=rfl
 rw[e] at this
 omega
set_option maxRecDepth 20000 in
set_option maxHeartbeats 8000000 in
theorem U0 {ay:Nat->Prop} {w:World} {cs:List Value} {s:dX} (h:jz.rd ay w cs s) (hk:dQ s.av=false):
 Calls Tryz.prog 8 #[.agg cs.toArray] w fun r w'=>r=.returned (.tuple #[.string ⟨#[]⟩,.int .i64 1])/\B w w':=by
 obtain⟨rfl,b1,b2,b3,b4,b5⟩:=jz.parts h
 have HN:=Lib.hid (fun w'=>Ak w' s.av b5)
 rw[hk] at HN
 have HS:=Lib.hid (aR.new (St.nil w) 25 #[.int .i64 s.f,.int .u16 s.eU,.int .u16 s.eO,.int .i64 s.room,.string (au s.av)])
 clear h hk
 go_enter Tryz.func8,Tryz.ntmps8
 go_wp2_with (first|(go_at_call 27;(with_reducible refine cA (HN.out _) ?_);rintro r w1 ⟨rfl,hb⟩;replace HS:=Lib.hid (HS.out.on.later hb);clear hb)|fail)
 go_ret2
 exact⟨rfl,HS.out.b⟩
set_option maxRecDepth 20000 in
set_option maxHeartbeats 8000000 in
theorem U1 {ay:Nat->Prop} {w:World} {cs:List Value} {s:dX} (hT:nS w) (h:jz.rd ay w cs s) (hk:dQ s.av=true):
 Calls Tryz.prog 8 #[.agg cs.toArray] w fun r w'=>r=.returned (.tuple #[.string (au (eW s)),.int .i64 0])/\B w w':=by
 have HJ:=Lib.hid (show(iy (lA s)).length<=140737488355328 from by have:=J6 h;unfold eW at this;omega)
 obtain⟨rfl,b1,b2,b3,b4,b5⟩:=jz.parts h
 have HN:=Lib.hid (fun w'=>Ak w' s.av b5)
 rw[hk] at HN
 have HS:=Lib.hid (aR.new (St.nil w) 25 #[.int .i64 s.f,.int .u16 s.eU,.int .u16 s.eO,.int .i64 s.room,.string (au s.av)])
 have HT:=Lib.hid hT
 have D9:=Lib.hid b1
 have I7:=Lib.hid b2
 have I8:=Lib.hid b3
 have vg:=Lib.hid b4
 have w1k:IntKind.i64.wrap s.eU=s.eU:=ML (by omega)
 have w2k:IntKind.i64.wrap s.eO=s.eO:=ML (by omega)
 clear h hk hT
 go_enter Tryz.func8,Tryz.ntmps8
 go_wp2_with (first|(go_at_call 27;(with_reducible refine cA (HN.out _) ?_);rintro r w1 ⟨rfl,hb⟩;replace HS:=Lib.hid (HS.out.on.later hb);clear hb)|fail)
 have HSW:=HS
 obtain⟨SS,H0,nZ,tK,wV⟩:∃SS:World->Prop,SS w1.drew/\(∀w',SS w'->B w w')/\(∀w' oQ,SS w'->B w' oQ->SS oQ)/\(∀w',SS w'->cm w' w.heap.size 25 #[.int .i64 s.f,.int .u16 s.eU,.int .u16 s.eO,.int .i64 s.room,.string (au s.av)]):=
  ⟨fun w'=>B w1 w',(Below.refl _ _).drew,fun w' hb=>HS.out.b.trans hb,fun w' oQ h1 h2=>h1.trans h2,fun w' hb=>aR.get (HS.out.later hb)⟩
 replace H0:=Lib.hid H0
 replace nZ:=Lib.hid nZ
 replace tK:=Lib.hid tK
 replace wV:=Lib.hid wV
 clear HS HSW
 refine wp_region_held_drew (S:=SS) (by kernel_rfl) H0.out (fun HS=>?_)
 replace HS:=Lib.hid HS
 generalize World.drew _=W1 at*
 refine nB (i:=0) (d:=some 8) (v:=.pointer (some ⟨w.heap.size,0,none⟩)) rfl rfl (by kernel_rfl) (by kernel_rfl) (by kernel_rfl) (fun _ _ _ h=>h) rfl (fun w' hS=>by go_simp) HS.out ?_
 simp only[Act.put,List.setIfInBounds_toArray,List.set_cons_zero,List.set_cons_succ]
 refine nB (i:=1) (d:=some 9) (v:=.int .i64 s.f) rfl rfl (by kernel_rfl) (by kernel_rfl) (by kernel_rfl) (fun _ _ _ h=>h) rfl (fun w' hS=>by exact zn (ty:=3) rfl rfl (AE (by rw[(wV.out w' hS).cell 0];rfl) Tryz.underlying3 rfl)) HS.out ?_
 simp only[Act.put,List.setIfInBounds_toArray,List.set_cons_zero,List.set_cons_succ]
 refine nB (i:=3) (d:=some 11) (v:=.pointer (some ⟨w.heap.size,1,none⟩)) rfl rfl (by kernel_rfl) (by kernel_rfl) (by kernel_rfl) (fun _ _ _ h=>h) rfl (fun w' hS=>by go_simp) HS.out ?_
 simp only[Act.put,List.setIfInBounds_toArray,List.set_cons_zero,List.set_cons_succ]
 refine nB (i:=4) (d:=some 12) (v:=.int .u16 s.eU) rfl rfl (by kernel_rfl) (by kernel_rfl) (by kernel_rfl) (fun _ _ _ h=>h) rfl (fun w' hS=>by exact zn (ty:=23) rfl rfl (AE (by rw[(wV.out w' hS).cell 1];rfl) Tryz.underlying23 rfl)) HS.out ?_
 simp only[Act.put,List.setIfInBounds_toArray,List.set_cons_zero,List.set_cons_succ]
 refine nB (i:=5) (d:=some 13) (v:=.int .i64 s.eU) rfl rfl (by kernel_rfl) (by kernel_rfl) (by kernel_rfl) (fun _ _ _ h=>h) rfl (fun w' hS=>by go_simp) HS.out ?_
 simp only[Act.put,List.setIfInBounds_toArray,List.set_cons_zero,List.set_cons_succ]
 refine nB (i:=7) (d:=some 15) (v:=.pointer (some ⟨w.heap.size,2,none⟩)) rfl rfl (by kernel_rfl) (by kernel_rfl) (by kernel_rfl) (fun _ _ _ h=>h) rfl (fun w' hS=>by go_simp) HS.out ?_
 simp only[Act.put,List.setIfInBounds_toArray,List.set_cons_zero,List.set_cons_succ]
 refine nB (i:=8) (d:=some 16) (v:=.int .u16 s.eO) rfl rfl (by kernel_rfl) (by kernel_rfl) (by kernel_rfl) (fun _ _ _ h=>h) rfl (fun w' hS=>by exact zn (ty:=23) rfl rfl (AE (by rw[(wV.out w' hS).cell 2];rfl) Tryz.underlying23 rfl)) HS.out ?_
 simp only[Act.put,List.setIfInBounds_toArray,List.set_cons_zero,List.set_cons_succ]
 refine nB (i:=9) (d:=some 17) (v:=.int .i64 s.eO) rfl rfl (by kernel_rfl) (by kernel_rfl) (by kernel_rfl) (fun _ _ _ h=>h) rfl (fun w' hS=>by go_simp) HS.out ?_
 simp only[Act.put,List.setIfInBounds_toArray,List.set_cons_zero,List.set_cons_succ]
 refine nB (i:=11) (d:=some 19) (v:=.pointer (some ⟨w.heap.size,3,none⟩)) rfl rfl (by kernel_rfl) (by kernel_rfl) (by kernel_rfl) (fun _ _ _ h=>h) rfl (fun w' hS=>by go_simp) HS.out ?_
 simp only[Act.put,List.setIfInBounds_toArray,List.set_cons_zero,List.set_cons_succ]
 refine nB (i:=12) (d:=some 20) (v:=.int .i64 s.room) rfl rfl (by kernel_rfl) (by kernel_rfl) (by kernel_rfl) (fun _ _ _ h=>h) rfl (fun w' hS=>by exact zn (ty:=3) rfl rfl (AE (by rw[(wV.out w' hS).cell 3];rfl) Tryz.underlying3 rfl)) HS.out ?_
 simp only[Act.put,List.setIfInBounds_toArray,List.set_cons_zero,List.set_cons_succ]
 refine nB (i:=14) (d:=some 22) (v:=.pointer (some ⟨w.heap.size,4,none⟩)) rfl rfl (by kernel_rfl) (by kernel_rfl) (by kernel_rfl) (fun _ _ _ h=>h) rfl (fun w' hS=>by go_simp) HS.out ?_
 simp only[Act.put,List.setIfInBounds_toArray,List.set_cons_zero,List.set_cons_succ]
 refine nB (i:=15) (d:=some 23) (v:=.string (au s.av)) rfl rfl (by kernel_rfl) (by kernel_rfl) (by kernel_rfl) (fun _ _ _ h=>h) rfl (fun w' hS=>by exact zn (ty:=9) rfl rfl (AE (by rw[(wV.out w' hS).cell 4];rfl) Tryz.underlying9 rfl)) HS.out ?_
 simp only[Act.put,List.setIfInBounds_toArray,List.set_cons_zero,List.set_cons_succ]
 refine zJ (i:=2) (d:=some 10) (v:=.string (au (Lib.itoa s.f))) (by kernel_rfl) rfl rfl rfl (by go_simp) (yj (HT.out.later (nZ.out _ HS.out)) D9.out) (fun w' hb=>tK.out _ _ HS.out hb) (fun w' HS=>?_)
 replace HS:=Lib.hid HS
 simp only[Act.put,List.setIfInBounds_toArray,List.set_cons_zero,List.set_cons_succ]
 refine zJ (i:=6) (d:=some 14) (v:=.string (au (Lib.itoa s.eU))) (by kernel_rfl) rfl rfl rfl (by go_simp) (yj (HT.out.later (nZ.out _ HS.out)) (by have:=I7.out;omega)) (fun w' hb=>tK.out _ _ HS.out hb) (fun w' HS=>?_)
 replace HS:=Lib.hid HS
 simp only[Act.put,List.setIfInBounds_toArray,List.set_cons_zero,List.set_cons_succ]
 refine zJ (i:=10) (d:=some 18) (v:=.string (au (Lib.itoa s.eO))) (by kernel_rfl) rfl rfl rfl (by go_simp) (yj (HT.out.later (nZ.out _ HS.out)) (by have:=I8.out;omega)) (fun w' hb=>tK.out _ _ HS.out hb) (fun w' HS=>?_)
 replace HS:=Lib.hid HS
 simp only[Act.put,List.setIfInBounds_toArray,List.set_cons_zero,List.set_cons_succ]
 refine zJ (i:=13) (d:=some 21) (v:=.string (au (Lib.itoa s.room))) (by kernel_rfl) rfl rfl rfl (by go_simp) (yj (HT.out.later (nZ.out _ HS.out)) vg.out) (fun w' hb=>tK.out _ _ HS.out hb) (fun w' HS=>?_)
 replace HS:=Lib.hid HS
 simp only[Act.put,List.setIfInBounds_toArray,List.set_cons_zero,List.set_cons_succ]
 have h1:=uN.new (St.nil w') (lA s) (by simp[lA,maxLen]) (cs:=#[.string ⟨#[119,111,114,108,100]⟩,.string (au (Lib.itoa s.f)),.string (au (Lib.itoa s.eU)),.string (au (Lib.itoa s.eO)),.string (au (Lib.itoa s.room)),.string (au s.av)]) rfl (n:=6) rfl
 refine Wq (i:=16) (d:=some 24) (v:=.slice (some ⟨w'.heap.size,0,none⟩) 6 6) (w':=w'.alloc (.cells #[.string ⟨#[119,111,114,108,100]⟩,.string (au (Lib.itoa s.f)),.string (au (Lib.itoa s.eU)),.string (au (Lib.itoa s.eO)),.string (au (Lib.itoa s.room)),.string (au s.av)] 9)) (by kernel_rfl) rfl rfl rfl (by go_simp) (tK.out _ _ HS.out (B.jV _ _)) ?_
 simp only[Act.put,List.setIfInBounds_toArray,List.set_cons_zero,List.set_cons_succ]
 replace HS:=Lib.hid (tK.out _ _ HS.out (B.jV w' (.cells #[.string ⟨#[119,111,114,108,100]⟩,.string (au (Lib.itoa s.f)),.string (au (Lib.itoa s.eU)),.string (au (Lib.itoa s.eO)),.string (au (Lib.itoa s.room)),.string (au s.av)] 9)))
 refine zJ (i:=17) (d:=some 25) (v:=.string (au (eW s))) (by kernel_rfl) rfl rfl rfl (by go_simp) (Xh (s:=⟨#[32]⟩) h1 HJ.out (by simp[lA]) rfl) (fun w' hb=>tK.out _ _ HS.out hb) (fun w' HS=>?_)
 replace HS:=Lib.hid HS
 simp only[Act.put,List.setIfInBounds_toArray,List.set_cons_zero,List.set_cons_succ]
 refine nB (i:=18) (d:=some 2) (v:=.string (au (eW s))) rfl rfl (by kernel_rfl) (by kernel_rfl) (by kernel_rfl) (fun _ _ _ h=>h) rfl (fun w' hS=>by go_simp) HS.out ?_
 simp only[Act.put,List.setIfInBounds_toArray,List.set_cons_zero,List.set_cons_succ]
 refine nB (i:=19) (d:=some 3) (v:=.int .i64 0) rfl rfl (by kernel_rfl) (by kernel_rfl) (by kernel_rfl) (fun _ _ _ h=>h) rfl (fun w' hS=>by go_simp) HS.out ?_
 simp only[Act.put,List.setIfInBounds_toArray,List.set_cons_zero,List.set_cons_succ]
 refine wpAnyH_done (by kernel_rfl) ?_ _
 go_wp2_with fail
 go_ret2
 exact⟨rfl,nZ.out _ HS.out⟩
theorem FK {ay:Nat->Prop} {w:World} {cs:List Value} {s:dX} (hT:nS w) (h:jz.rd ay w cs s):
 Calls Tryz.prog 8 #[.agg cs.toArray] w fun r w'=>(r=if dQ s.av=true then .returned (.tuple #[.string (au (eW s)),.int .i64 0]) else .returned (.tuple #[.string ⟨#[]⟩,.int .i64 1]))/\B w w':=by
 cases hk:dQ s.av with
 |true=>simpa using U1 hT h hk
 |false=>simpa using U0 h hk
end Go.Proofs.YtafomdobfmmleaaGreatDoor

/- Lemmas and contracts. -/
namespace Go.Proofs.YtafomdobfmmleaaGreatDoor
open Go.RowKit
set_option linter.unusedVariables false
set_option maxRecDepth 20000
def yF:Nat:=3
theorem NL:Tryz.prog.globalNamed "internal/strconv.uint64pow10"=some yF:=by kernel_rfl
abbrev yg:Wd where
 A:=fun _=>False
 aI:=fun _ _ h=>h.elim
 jq:=fun _=>False
 W I w:=I yF/\Lib.TabIs Tryz.prog w "internal/strconv.uint64pow10" .u64 Lib.pow10Tab
 cl:=by
  rintro I I' w w' ⟨h1,h2⟩ hb hI
  refine⟨hI _ h1,?_⟩
  unfold Lib.TabIs World.var? at*
  rw[NL] at h2 ⊢
  simp only[Option.bind_some] at h2 ⊢
  rw[hb yF h1]
  exact h2
theorem Sq (s:dX):mM.ok s=(dI.ok s.f/\dW.ok s.eU/\dW.ok s.eO/\dI.ok s.room/\dS.ok s.av):=rfl
end Go.Proofs.YtafomdobfmmleaaGreatDoor

/- Lemmas and contracts. -/
namespace Go.Proofs.YtafomdobfmmleaaGreatDoor
open Go.RowKit
set_option linter.unusedVariables false
set_option maxRecDepth 20000
section
variable [Wd] {P:Program} {Q:Exit->S->Prop}
theorem Dg {f:FuncId} {ar cu:List D} {hs hb:List AO} {c:D->List AO->T} {cQ:D->List AO->Prop} (σ:List Nat) (hF:bf P f ar hs cQ) (V:View σ hb hs) (hc:aa cu (D.bG.rl σ ar)) (hM:(σ.all fun o=>(kg hb cu).elem o)=true) (k:∀r h',cQ r h'->(c (r.bG (mY hb σ hs h')) (mW hb σ hs h')).ok P Q):(T.call f cu hb c).ok P Q:=
 ⟨_,hF.bz V hc (fun o ho=>by have:=List.all_eq_true.1 hM o ho;simpa using this),fun r' h' ⟨r0,h0,e1,e3,e4⟩=>by subst e3 e4;exact k r0 h0 e1⟩
theorem gW {f:FuncId} {ar cu:List D} {h:List AO} {c:D->List AO->T} {R:D->Prop} (hF:bf P f ar [] (fun r h'=>R r/\h'=[])) (hp:gh.pl ar=true) (hc:aa cu ar) (k:∀r,R r->(c r h).ok P Q):(T.call f cu h c).ok P Q:=
 ⟨_,hF.pure hp hc,fun r' h' ⟨e1,e2⟩=>by subst e2;exact k r' e1⟩
theorem iT {tb:TT} {rs:List ResultVar} {e:Exit} {s:S} {h:List AO} {r:D} {h':List AO} {ds:List D} {cQ:D->List AO->Prop} (σ:List Nat) (he:e=.normal\/e=.ret) (hr:jG tb s rs=some ds) (hn:nodupB σ=true) (hv:kK s.h σ σ h') (hk:rJ 0 h σ h') (iZ:Co (lJ ds) (r.bG σ)) (hp:cQ r h'):
 (T.leaf e s).ok P (Lf tb rs h cQ):=
 ⟨he,[],ds,by rw[vJ];exact hr,σ,r,_,h',by rw[vJ];exact .mk' hn hv,iZ,rfl,fun o t cs h1=>by have:=xu hk o t cs h1;simpa using this,hp⟩
theorem Nq {v:Value} (h:Wd.jq [{v:=v,recovered:=false}]):(T.die v).ok P Q:=h
end
theorem vQ [Wd] (hp:Wd.jq ou) (b:Bool):bf Tryz.prog 35 [.bool b] [] (fun r h=>(b=true/\r=.aD [])/\h=[]):=by
 refine aF 6 [] Tryz.func35 rfl (by kernel_rfl) ?_
 repeat' (conv=>arg 2;whnf);first|refine aG (fun h=>?_) (fun h=>?_)|exact Nq hp|exact iT (r:=.aD []) (h':=[]) [] (.inl rfl) rfl rfl trivial trivial (.refl _) ⟨⟨by simpa using h,rfl⟩,rfl⟩
def cW (ws:List (List UInt8)):List (List D):=ws.map fun s=>[.str s]
def ez (ws:List (List UInt8)):List AO:=[.cells 83 [.list 1 (cW ws)]]
theorem MZ [Wd] (hp:Wd.jq ou) (ws:List (List UInt8)) (hl:ws.length<=4194305):bf Tryz.prog 36 [.ptr 0 0] (ez ws) (fun r h=>∃s rest,ws=s::rest/\r=.str s/\h=ez rest):=by
 cases ws with
 |nil=>
  refine aF 26 [] Tryz.func36 rfl (by kernel_rfl) ?_
  repeat' (conv=>arg 2;whnf);first|(refine gW (vQ hp _) rfl (aa.refl _) ?_;rintro r ⟨hr,rfl⟩)|(exfalso;simp[cW] at hr;done)
 |cons s rest=>
  refine aF 26 [] Tryz.func36 rfl (by kernel_rfl) ?_
  repeat' (conv=>arg 2;whnf);first|(refine gW (vQ hp _) rfl (aa.refl _) ?_;rintro r ⟨hr,rfl⟩)|refine af (by simp[cW];omega) ?_|refine kS [.str s] (by decide) rfl ?_
  conv=>arg 2;whnf
  refine iT (r:=.str s) (h':=ez rest) [0] (.inr rfl) rfl rfl ⟨⟨rfl,?_⟩,trivial⟩ ⟨⟨rfl,rfl⟩,trivial⟩ (.refl _) ⟨s,rest,rfl,rfl,rfl⟩
  show AO.cells _ [.list 1 _]=AO.cells _ [.list 1 _]
  simp[cW,List.take_of_length_le]
def jx [Wd]:Prop:=∀n:Int,-9223372036854775808<=n/\n<=9223372036854775807->aJ Tryz.prog 29 [.int .i64 n] (.str (Lib.itoa n))
def F9 [Wd]:Prop:=∀s:List UInt8,s.length<=4194304->aJ Tryz.prog 65 [.str s] (rM s)
theorem Eu {s:List UInt8} {v:Int} (h:Lib.atoiAll s=.ok v):-9223372036854775808<=v/\v<=9223372036854775807:=by
 unfold Lib.atoiAll at h
 split at h
 ·cases h
 ·simp only at h
  split at h
  ·cases h
  ·cases h
  ·rename_i u _
   split at h
   ·cases h
   ·rename_i h1
    split at h
    ·cases h
    ·rename_i h2
     injection h with h
     subst h
     split
     ·rename_i hn
      have:¬9223372036854775808<u:=fun k=>h2 ⟨hn,k⟩
      omega
     ·rename_i hn
      have:¬9223372036854775808<=u:=fun k=>h1 ⟨hn,k⟩
      omega
theorem L9 [Wd] (hp:Wd.jq ou) (hn:jx) (ha:F9) (ws:List (List UInt8)) (hl:ws.length<=4194305) (hw:∀w∈ws,w.length<=4194304):bf Tryz.prog 37 [.ptr 0 0] (ez ws) (fun r h=>∃n rest,(-9223372036854775808<=n/\n<=9223372036854775807)/\ws=Lib.itoa n::rest/\r=.int .i64 n/\h=ez rest):=by
 refine aF 23 [] Tryz.func37 rfl (by kernel_rfl) ?_
 repeat' (conv=>arg 2;whnf);first|(refine Dg [0] (MZ hp ws hl) (.mk' rfl ⟨⟨rfl,rfl⟩,trivial⟩) (aa.refl _) rfl ?_;rintro r h' ⟨s,rest,rfl,rfl,rfl⟩;have hs:s.length<=4194304:=hw s (by simp))|(refine ak (ha _ hs) rfl (aa.refl _) ?_;unfold rM;cases hA:Lib.atoiAll s)|refine ah ?_|refine aj ?_|refine ak (hn _ (Eu hA)) rfl (aa.refl _) ?_|(refine gW (vQ hp _) rfl (aa.refl _) ?_;rintro r ⟨hr,rfl⟩)|exact iT (h':=ez rest) (r:=.int .i64 _) [0] (.inr rfl) rfl rfl ⟨⟨rfl,rfl⟩,trivial⟩ ⟨⟨rfl,rfl⟩,trivial⟩ (.refl _) ⟨_,rest,Eu hA,by simp at hr;rw[hr],rfl,rfl⟩|(exfalso;simp at hr;done)
theorem xM [Wd]:aJ Tryz.prog 35 [.bool true] (.aD []):=by
 refine aF 6 [] Tryz.func35 rfl (by kernel_rfl) ?_
 repeat' (conv=>arg 2;whnf);first|refine aG (fun h=>?_) (fun h=>?_)|(exfalso;simp at h;done)|exact bq (.inl rfl) rfl (.refl _) rfl
theorem Ga [Wd] (s:List UInt8) (rest:List (List UInt8)) (hl:rest.length<=4194304):bf Tryz.prog 36 [.ptr 0 0] (ez (s::rest)) (fun r h=>r=.str s/\h=ez rest):=by
 have hk:(decide (((cW (s::rest)).length:Int)>0))=true:=by simp[cW]
 refine aF 26 [] Tryz.func36 rfl (by kernel_rfl) ?_
 repeat' (conv=>arg 2;whnf);first|(refine ak xM rfl (by rw[hk];exact aa.refl _) ?_)|refine af (by simp[cW];omega) ?_|refine kS [.str s] (by decide) rfl ?_
 conv=>arg 2;whnf
 refine mL (r:=.str s) (h':=ez rest) [0] (.inr rfl) rfl rfl ⟨⟨rfl,?_⟩,trivial⟩ ⟨⟨rfl,rfl⟩,trivial⟩ (.refl _)
 show AO.cells _ [.list 1 _]=AO.cells _ [.list 1 _]
 simp[cW,List.take_of_length_le]
theorem Ac [Wd] (hn:jx) (ha:F9) (n:Int) (h0:-9223372036854775808<=n/\n<=9223372036854775807) (rest:List (List UInt8)) (hl:rest.length<=4194304):bf Tryz.prog 37 [.ptr 0 0] (ez (Lib.itoa n::rest)) (fun r h=>r=.int .i64 n/\h=ez rest):=by
 have hA:rM (Lib.itoa n)=.aD [.int .i64 n,.eZ true]:=by unfold rM;rw[Kq n h0.1 h0.2]
 have hlen:=Lib.itoa_length_le n h0.1 h0.2
 have hk:(bif true then decide (Lib.itoa n=Lib.itoa n) else false)=true:=by simp
 refine aF 23 [] Tryz.func37 rfl (by kernel_rfl) ?_
 repeat' (conv=>arg 2;whnf);first|refine dx [0] (Ga _ rest hl) (.mk' rfl ⟨⟨rfl,rfl⟩,trivial⟩) (aa.refl _) rfl ?_|(refine ak (ha _ (by omega)) rfl (aa.refl _) ?_;rw[hA])|refine ah ?_|refine aj ?_|refine ak (hn n h0) rfl (aa.refl _) ?_|(refine ak xM rfl (by rw[hk];exact aa.refl _) ?_)|exact mL (h':=ez rest) (r:=.int .i64 n) [0] (.inr rfl) rfl rfl ⟨⟨rfl,rfl⟩,trivial⟩ ⟨⟨rfl,rfl⟩,trivial⟩ (.refl _)
end Go.Proofs.YtafomdobfmmleaaGreatDoor

/- Lemmas and contracts. -/
namespace Go.Proofs.YtafomdobfmmleaaGreatDoor
open Go.RowKit
set_option linter.unusedVariables false
set_option maxRecDepth 20000
class kq [Wd]:Prop where
 DM:∀{I:Nat->Prop} {w:World},Wd.W I w->nQ I w
instance abF (p:Prop):@kq (sM p):=@kq.mk (sM p) (fun h=>h)
theorem nQ.DN {I:Nat->Prop} {w:World} (h:nQ I w) (hi:∀b,I b->b<w.heap.size):nS w:=fun w' hb=>(h.cl (fun b k=>hb.block b (hi b k)) (fun _ k=>k)).Du
theorem bf.Dx [Wd] [kq] {P:Program} {f:FuncId} {ar:List D} {r:D} {v:Value} (hv:∀I w,Dr I w v r) (qz:nC P f=true) (h:∀w I vs,nQ I w->(∀b,I b->b<w.heap.size)->cC I w vs ar->Calls P f vs.toArray w fun e w'=>e=.returned v/\B w w') (hp:gh.pl ar=true):aJ P f ar r:=by
 refine⟨qz,fun w I g vs hW hd ha=>(h w I vs (kq.DM hW) hd.ay (lS ha hp)).mono ?_⟩
 rintro e w' ⟨rfl,hb⟩
 have hg:g=[]:=List.eq_nil_of_length_eq_zero hd.len
 subst hg
 exact .inl ⟨v,I,[],r,[],rfl,⟨rfl,rfl⟩,hd.later hb,.rd (hv I w'),Ext.of_B hb,fun _ h=>h,fun _ h=>.inl h,fun b h=>.inl h,fun o p t cs _ h=>by simp at h⟩
theorem uh [Wd] [kq]:jx:=fun n hn=>bf.Dx (v:=.string (au (Lib.itoa n))) (fun _ _=>.str _) (by kernel_rfl) (fun w I vs hW hi hd=>by
 obtain⟨u,rfl,h1⟩:=hd.nE
 rw[(Vr.rd (g:=[]) h1).lX]
 exact yj (hW.DN hi) hn) rfl
theorem vK [Wd] [kq]:F9:=by
 intro s hs
 refine⟨by kernel_rfl,fun w I g vs hW hd ha=>?_⟩
 obtain⟨v,rY,rfl,h1,h2⟩:=ha.sN
 obtain rfl:=h2.xF
 rw[h1.kB]
 have hg:g=[]:=List.eq_nil_of_length_eq_zero hd.len
 subst hg
 have hS:=kq.DM hW
 have hz:(au s).size=s.length:=by simp[au,ByteArray.size]
 have qd:(au s).data.toList=s:=by simp[au]
 rcases hA:Lib.atoiAll s with n|_|_
 ·skip
  refine(Any.strconv_Atoi_ok Tryz.Fg (au s) (by omega) n (by rw[qd];exact hA) w).mono ?_
  rintro e w' ⟨rfl,hw⟩
  have hb:B w w':=by
   rcases hw with rfl|⟨t,rfl⟩
   ·exact Below.refl _ _
   ·exact Jm _ _ _
  refine .inl ⟨_,I,[],rM s,[],rfl,⟨rfl,rfl⟩,hd.later hb,?_,Ext.of_B hb,fun _ h=>h,fun _ h=>.inl h,fun b h=>.inl h,fun o p t cs _ h=>by simp at h⟩
  unfold rM
  rw[hA]
  exact Vr.fG (vs:=[.int .i64 n,.nilIface]) (.cons (.rd (.int _ _)) (.cons .mu .nil))
 ·skip
  obtain⟨tp,p,hv⟩:=hS.Dv
  refine(Any.strconv_Atoi_syntax_var Tryz.Fg (au s) (by omega) (by rw[qd];exact hA) tp p w hv).mono ?_
  rintro e w' ⟨N,rfl,_,_,hb⟩
  replace hb:B w w':=hb
  refine .inl ⟨_,I,[],rM s,[],rfl,⟨rfl,rfl⟩,hd.later hb,?_,Ext.of_B hb,fun _ h=>h,fun _ h=>.inl h,fun b h=>.inl h,fun o p t cs _ h=>by simp at h⟩
  unfold rM
  rw[hA]
  exact Vr.fG (vs:=[.int .i64 0,.iface _ _]) (.cons (.rd (.int _ _)) (.cons (.eZ _ _) .nil))
 ·skip
  obtain⟨tp,p,hv⟩:=hS.Dw
  refine(Any.strconv_Atoi_range_var Tryz.Fg (au s) (by omega) (by rw[qd];exact hA) tp p w hv).mono ?_
  rintro e w' ⟨N,rfl,_,_,hb⟩
  replace hb:B w w':=hb
  refine .inl ⟨_,I,[],rM s,[],rfl,⟨rfl,rfl⟩,hd.later hb,?_,Ext.of_B hb,fun _ h=>h,fun _ h=>.inl h,fun b h=>.inl h,fun o p t cs _ h=>by simp at h⟩
  unfold rM
  rw[hA,qd]
  exact Vr.fG (vs:=[.int .i64 (Lib.atoiSat s),.iface _ _]) (.cons (.rd (.int _ _)) (.cons (.eZ _ _) .nil))
theorem Fh [Wd] [kq] (s:List UInt8) (hs:s.length<=4194304):aJ Tryz.prog 34 [.str s,.str [32]] (.list 1 (cW (eV s))):=by
 refine⟨by kernel_rfl,fun w I g vs hW hd ha=>?_⟩
 obtain⟨v,rY,rfl,h1,h2⟩:=ha.sN
 obtain⟨v2,YV,rfl,h3,h4⟩:=h2.sN
 obtain rfl:=h4.xF
 rw[h1.kB,h3.kB]
 have hg:g=[]:=List.eq_nil_of_length_eq_zero hd.len
 subst hg
 obtain⟨m,hm⟩:=(kq.DM hW).AN
 have hz:(au s).size=s.length:=by simp[au,ByteArray.size]
 have qd:(au s).data.toList=s:=by simp[au]
 have NN:(au [32]).data.toList=[32]:=by simp[au]
 have wD:(Lib.splitB (au [32]) 0 (Lib.countB (au s) (au [32])) (au s)).map (·.data.toList)=eV s:=by
  rw[Lib.splitB_data,NN,qd]
  show Lib.splitK [32] 0 (Lib.count (au s).data.toList (au [32]).data.toList) s=_
  rw[qd,NN]
  exact K8 s
 have lM:(Lib.splitB (au [32]) 0 (Lib.countB (au s) (au [32])) (au s))=(eV s).map au:=by
  rw[<-wD,List.map_map]
  conv=>lhs;rw[<-List.map_id (Lib.splitB _ _ _ _)]
  refine List.map_congr_left fun x _=>?_
  show x=au x.data.toList
  simp[au]
 have Om:Lib.countB (au s) (au [32])+1=(eV s).length:=by
  have:=Lib.splitB_all (au [32]) (by decide) 0 _ (au s) rfl
  rw[lM,List.length_map] at this
  exact this.symm
 have hle:=JM s
 refine(Tryz.strings_Split (au s) (au [32]) m w (by omega) hm (by decide)).mono ?_
 rintro e w' ⟨rfl,rfl⟩
 rw[Om,lM]
 have hb:B w (w.alloc (.cells (((eV s).map au).map Value.string).toArray 9)):=B.jV _ _
 have cT:(w.alloc (.cells (((eV s).map au).map Value.string).toArray 9)).heap.size=w.heap.size+1:=Array.size_push _
 refine .inl ⟨_,fun b=>I b\/b=w.heap.size,[],.list 1 (cW (eV s)),[],rfl,⟨rfl,rfl⟩,(hd.later hb).wk (fun _ h=>.inl h) ?_ ?_,.rd (.list (some ⟨w.heap.size,0,none⟩) _ 1 _ _ (fun i _=>.string (au ((eV s).getD i []))) (by simp[cW]) (Nat.le_refl _) (Nat.le_trans (show(eV s).length<=4194305 by omega) (by decide)) (fun h=>by cases h) ?_ ?_ ?_ ?_),Ext.of_B hb,fun _ h=>.inl h,?_,fun b h=>.inl h,fun o p t cs _ h=>by simp at h⟩
 ·rintro b (h|rfl)
  ·have:=hd.ay b h;omega
  ·omega
 ·rintro b _ ⟨o,ao,p,k1,_⟩
  simp at k1
 ·intro x hx
  simp only[cW,List.mem_map] at hx
  obtain⟨y,_,rfl⟩:=hx
  rfl
 ·intro _
  refine⟨w.heap.size,0,rfl,by omega,.inr rfl,fun i x j d h1 h2=>?_⟩
  simp only[cW,List.getElem?_map,Option.map_eq_some_iff] at h1
  obtain⟨y,hy,rfl⟩:=h1
  cases j with
  |succ j=>simp at h2
  |zero=>
   have:(w.alloc (.cells (((eV s).map au).map Value.string).toArray 9)).heap[w.heap.size]?=some (.cells (((eV s).map au).map Value.string).toArray 9 (0,0)):=by
    show(w.heap.push _)[w.heap.size]?=_
    rw[Array.getElem?_push_size]
   simp only[World.cell?,this]
   simp[hy,List.getD_eq_getElem?_getD]
 ·intro i x j d _ _
  rfl
 ·intro i x j d h1 h2
  simp only[cW,List.getElem?_map,Option.map_eq_some_iff] at h1
  obtain⟨y,hy,rfl⟩:=h1
  cases j with
  |succ j=>simp at h2
  |zero=>
   simp at h2
   subst h2
   simp only[List.getD_eq_getElem?_getD,hy,Option.getD_some]
   exact .str y
 ·rintro b (h|rfl)
  ·exact .inl h
  ·exact .inr (.inr (Nat.le_refl _))
def CY (s:dX):D:=.aD (if dQ s.av=true then[.str (eW s),.int .i64 0] else[.str [],.int .i64 1])
theorem K9 [Wd] [kq] (s:dX) (hs:mM.ok s):aJ Tryz.prog 8 [.agg (vR s)] (CY s):=by
 refine bf.Dx (v:=if dQ s.av=true then .tuple #[.string (au (eW s)),.int .i64 0] else .tuple #[.string ⟨#[]⟩,.int .i64 1]) (fun I w=>?_) (by kernel_rfl) (fun w I vs hW hi hd=>?_) ?_
 ·unfold CY
  split
  ·exact .aD [.string (au (eW s)),.int .i64 0] [.str (eW s),.int .i64 0] rfl (fun i v d k1 k2=>by
    match i with
    |0=>simp at k1 k2;subst k1 k2;exact .str _
    |1=>simp at k1 k2;subst k1 k2;exact .int _ _
    |i+2=>simp at k1)
  ·exact .aD [.string (au []),.int .i64 1] [.str [],.int .i64 1] rfl (fun i v d k1 k2=>by
    match i with
    |0=>simp at k1 k2;subst k1 k2;exact .str _
    |1=>simp at k1 k2;subst k1 k2;exact .int _ _
    |i+2=>simp at k1)
 ·obtain⟨u,rfl,h1⟩:=hd.nE
  obtain⟨us,rfl,k1,k2⟩:=(Vr.rd (g:=[]) h1).ot
  refine(FK (hW.DN hi) (Ma.of (lS k1 rfl) hs)).mono ?_
  rintro e w' ⟨rfl,hb⟩
  exact⟨by split<;>rfl,hb⟩
 ·rfl
end Go.Proofs.YtafomdobfmmleaaGreatDoor

/- Lemmas and contracts. -/
namespace Go.Proofs.YtafomdobfmmleaaGreatDoor
open Go.RowKit
set_option linter.unusedVariables false
set_option maxRecDepth 20000
theorem SA (s:ByteArray) (pos j:Nat) (hj:j<(Utf8.decode s pos).2) (h:(s.get! (pos+j)).toNat=32):j=0/\(Utf8.decode s pos).1=32:=by
 rcases j with _|j
 ·refine⟨rfl,?_⟩
  simp only[Nat.add_zero] at h
  simp[Utf8.decode,Nat.add_zero,h]
 ·exfalso
  have h1:=Fi s pos
  have e:j=0\/j=1\/j=2:=by omega
  clear h1
  simp only[Utf8.decode] at hj
  repeat' split at hj
  all_goals (try omega)
  all_goals rename_i hc _;simp only[Bool.and_eq_true,beq_iff_eq,decide_eq_true_eq] at hc;rcases e with rfl|rfl|rfl<;>simp at h hj hc<;>omega
theorem Jx (s:ByteArray):∀(k pos n m:Nat),s.size<=pos+k->kC s k pos n=some m->∀i,pos<=i->i<s.size->(s.get! i).toNat≠32
 |0,pos,n,m,hk,h,i,h1,h2=>by omega
 |k+1,pos,n,m,hk,h,i,h1,h2=>by
  simp only[kC] at h
  rw[if_pos (by omega)] at h
  split at h
  ·cases h
  ·rename_i hb
   have hw:=BZ s pos (by omega)
   intro Be
   by_cases hi:i<pos+(Utf8.decode s pos).2
   ·obtain⟨j,rfl⟩:∃j,i=pos+j:=⟨i-pos,by omega⟩
    obtain⟨_,e⟩:=SA s pos j (by omega) Be
    rw[e] at hb
    exact hb (by decide)
   ·exact Jx s k _ _ m (by omega) h i (by omega) h2 Be
theorem RE {s:List UInt8} (h:dQ s=true):vL s:=by
 intro c hc e
 subst e
 unfold dQ sO at h
 obtain⟨i,hi,hs⟩:=List.getElem_of_mem hc
 simp only[decide_eq_true_eq] at h
 split at h
 ·omega
 ·rename_i m hm
  refine Jx (au s) _ 0 0 m (by rw[sx];omega) hm i (Nat.zero_le _) (by rw[sx];exact hi) ?_
  have:(au s).get! i=s[i]:=by
   simp[au,ByteArray.get!,hi]
  rw[this,hs]
  rfl
def jI (ws:List (List UInt8)):Prop:=ws.length<=4194305/\∀w∈ws,w.length<=4194304
theorem jI.tail {s:List UInt8} {r:List (List UInt8)} (h:jI (s::r)):jI r:=⟨by have:=h.1;simp at this;omega,fun w hw=>h.2 w (by simp[hw])⟩
theorem jI.head {s:List UInt8} {r:List (List UInt8)} (h:jI (s::r)):s.length<=4194304:=h.2 s (by simp)
theorem jI.split {s:List UInt8} (h:s.length<=4194304):jI (eV s):=⟨by have:=JM s;omega,fun w hw=>by have:=QZ s w hw;omega⟩
theorem xh (n:Int):0<=IntKind.u16.wrap n/\IntKind.u16.wrap n<=65535:=by
 have e:IntKind.u16.wrap n=n%65536:=by simp[IntKind.wrap,IntKind.bits,IntKind.signed]
 rw[e]
 omega
theorem Ck {a b c d:Int} {t:List UInt8} (h1:-9223372036854775808<=a/\a<=9223372036854775807) (h2:0<=b/\b<=65535) (h3:0<=c/\c<=65535) (h4:-9223372036854775808<=d/\d<=9223372036854775807) (h5:t.length<=4194304):mM.ok ⟨a,b,c,d,t⟩:=⟨h1,h2,h3,h4,h5⟩
theorem Kr [Wd] [kq] (s:dX) (hs:mM.ok s) (hn:dQ s.av=true):aJ Tryz.prog 8 [.agg (vR s)] (.aD [.str (eW s),.int .i64 0]):=by
 have h:=K9 s hs
 unfold CY at h
 rw[if_pos hn] at h
 exact h
theorem SC [Wd] [kq] (s:dX) (hs:mM.ok s) (hn:dQ s.av=false):aJ Tryz.prog 8 [.agg (vR s)] (.aD [.str [],.int .i64 1]):=by
 have h:=K9 s hs
 unfold CY at h
 rw[if_neg (by rw[hn];decide)] at h
 exact h
def yX (line:List UInt8) (s:dX):List AO:=[.cells 9 [.str line],.cells 25 (vR s)]
def me:dX:=⟨0,0,0,0,[]⟩
theorem SD [Wd] [kq] (hp:Wd.jq ou) (line:List UInt8) (hl:line.length<=4194304):bf Tryz.prog 33 [.ptr 0 0,.ptr 1 0] (yX line me) (fun r h=>∃s,mM.ok s/\dQ s.av=true/\line=eW s/\r=.aD []/\h=yX line s):=by
 obtain⟨ws,uW⟩:∃ws,ws=eV line:=⟨_,rfl⟩
 have hb:jI ws:=uW▸jI.split hl
 have HS:aJ Tryz.prog 34 [.str line,.str [32]] (.list 1 (cW ws)):=uW▸Fh line hl
 clear uW
 refine aF 51 [] Tryz.func33 rfl (by kernel_rfl) ?_
 repeat' (conv=>arg 2;whnf);first|refine ak HS rfl (aa.refl _) ?_|(refine Dg [2] (MZ hp _ hb.1) (.mk' rfl ⟨⟨rfl,rfl⟩,trivial⟩) (aa.refl _) rfl ?_;rintro r h' ⟨s,rest,rfl,rfl,rfl⟩;have hs:=hb.head;replace hb:=hb.tail)|(refine Dg [2] (L9 hp uh vK _ hb.1 hb.2) (.mk' rfl ⟨⟨rfl,rfl⟩,trivial⟩) (aa.refl _) rfl ?_;rintro r h' ⟨n,rest,hn,rfl,rfl,rfl⟩;replace hb:=hb.tail)|(refine gW (vQ hp _) rfl (aa.refl _) ?_;rintro r ⟨hr,rfl⟩)|refine uG ?_
 rename_i s0 DO n1 h1 n2 h2 n3 h3
 cases hN:dQ s
 all_goals
  repeat' (conv=>arg 2;whnf);first|refine ak (SC ⟨n1,IntKind.u16.wrap n2,IntKind.u16.wrap n3,n,s⟩ (Ck h1 (xh n2) (xh n3) hn hs) hN) rfl (aa.refl _) ?_|refine ak (Kr ⟨n1,IntKind.u16.wrap n2,IntKind.u16.wrap n3,n,s⟩ (Ck h1 (xh n2) (xh n3) hn hs) hN) rfl (aa.refl _) ?_|refine ah ?_|refine aj ?_|refine aG (fun h=>?_) (fun h=>?_)|(refine gW (vQ hp _) rfl (aa.refl _) ?_;rintro r ⟨hr,rfl⟩)|(cases hr;done)|exact iT (r:=.aD []) (h':=yX line ⟨n1,IntKind.u16.wrap n2,IntKind.u16.wrap n3,n,s⟩) [0,1] (.inl rfl) rfl rfl ⟨⟨rfl,rfl⟩,⟨rfl,rfl⟩,trivial⟩ ⟨⟨rfl,rfl⟩,⟨rfl,rfl⟩,trivial⟩ (.refl _) ⟨_,Ck h1 (xh n2) (xh n3) hn hs,hN,by simp at hr;exact hr.symm,rfl,rfl⟩
theorem Ei {s:dX} (hn:dQ s.av=true):eV (eW s)=lA s:=by
 refine Ev _ (by simp[lA]) (fun x hx=>?_)
 simp only[lA,List.mem_cons,List.not_mem_nil,or_false] at hx
 rcases hx with rfl|rfl|rfl|rfl|rfl|rfl
 ·intro c hc e
  subst e
  revert hc
  decide
 ·exact vm _
 ·exact vm _
 ·exact vm _
 ·exact vm _
 ·exact RE hn
theorem SE [Wd] [kq] (s:dX) (hs:mM.ok s) (hn:dQ s.av=true) (hl:(eW s).length<=4194304):bf Tryz.prog 33 [.ptr 0 0,.ptr 1 0] (yX (eW s) me) (fun r h=>r=.aD []/\h=yX (eW s) s):=by
 have DO:=hs
 rw[Sq] at hs
 obtain⟨b1,b2,b3,b4,b5⟩:=hs
 replace b1:-9223372036854775808<=s.f/\s.f<=9223372036854775807:=b1
 replace b2:0<=s.eU/\s.eU<=65535:=b2
 replace b3:0<=s.eO/\s.eO<=65535:=b3
 replace b4:-9223372036854775808<=s.room/\s.room<=9223372036854775807:=b4
 have w1:IntKind.u16.wrap s.eU=s.eU:=by simp[IntKind.wrap,IntKind.bits,IntKind.signed];omega
 have w2:IntKind.u16.wrap s.eO=s.eO:=by simp[IntKind.wrap,IntKind.bits,IntKind.signed];omega
 have cS:decide (xN=(⟨#[119,111,114,108,100]⟩:ByteArray).data.toList)=true:=rfl
 have hk:(bif true then decide (eW s=eW s) else false)=true:=by simp
 have HS:aJ Tryz.prog 34 [.str (eW s),.str [32]] (.list 1 (cW [xN,Lib.itoa s.f,Lib.itoa s.eU,Lib.itoa s.eO,Lib.itoa s.room,s.av])):=by
  have:=Fh (eW s) hl
  rw[Ei hn] at this
  exact this
 refine aF 51 [] Tryz.func33 rfl (by kernel_rfl) ?_
 repeat' (conv=>arg 2;whnf);first|refine ak HS rfl (aa.refl _) ?_|refine dx [2] (Ga _ _ (by simp)) (.mk' rfl ⟨⟨rfl,rfl⟩,trivial⟩) (aa.refl _) rfl ?_|refine dx [2] (Ac uh vK s.f b1 _ (by simp)) (.mk' rfl ⟨⟨rfl,rfl⟩,trivial⟩) (aa.refl _) rfl ?_|refine dx [2] (Ac uh vK s.eU (by omega) _ (by simp)) (.mk' rfl ⟨⟨rfl,rfl⟩,trivial⟩) (aa.refl _) rfl ?_|refine dx [2] (Ac uh vK s.eO (by omega) _ (by simp)) (.mk' rfl ⟨⟨rfl,rfl⟩,trivial⟩) (aa.refl _) rfl ?_|refine dx [2] (Ac uh vK s.room b4 _ (by simp)) (.mk' rfl ⟨⟨rfl,rfl⟩,trivial⟩) (aa.refl _) rfl ?_|refine aP w1 ?_|refine aP w2 ?_|(refine ak xM rfl (by rw[cS];exact aa.refl _) ?_)|(refine ak xM rfl (by rw[hk];exact aa.refl _) ?_)|(rw[w1,w2];refine ak (Kr s DO hn) rfl (aa.refl _) ?_)|refine ah ?_|refine aj ?_|exact mL (r:=.aD []) (h':=yX (eW s) s) [0,1] (.inl rfl) rfl rfl ⟨⟨rfl,rfl⟩,⟨rfl,rfl⟩,trivial⟩ ⟨⟨rfl,rfl⟩,⟨rfl,rfl⟩,trivial⟩ (.refl _)
end Go.Proofs.YtafomdobfmmleaaGreatDoor

/- Lemmas and contracts. -/
namespace Go.Proofs.YtafomdobfmmleaaGreatDoor
open Go.RowKit
set_option linter.unusedVariables false
set_option maxRecDepth 20000
attribute [local instance] oA
theorem Cl {q:Prop} {Q:Exit->S->Prop} {F:FuncId} {n:Nat} {eI Dh:List D} {hs hb:List AO} {c:D->List AO->T} {cQ:D->List AO->Prop} (σ:List Nat) (hF:@bf (sM q) Tryz.prog F eI hs cQ) (V:View σ hb hs) (hc:aa Dh (D.bG.rl σ eI)) (hM:(σ.all fun o=>(kg hb [.fn F n Dh]).elem o)=true)
 (k1:∀r0 h0,cQ r0 h0->(c (.bool true) (mW hb σ hs h0)).ok Tryz.prog Q) (k2:q->(c (.bool false) (nL (kg hb [.fn F n Dh]) hb)).ok Tryz.prog Q):(T.call 32 [.fn F n Dh] hb c).ok Tryz.prog Q:=by
 refine⟨_,T4 (@bf.bz (sM q) _ _ _ _ _ hF _ _ V _ hc _ (fun o ho=>by have:=List.all_eq_true.1 hM o ho;simpa using this)),fun r h' hp=>?_⟩
 rcases hp with⟨rfl,r0,r1,h0,hp,_,rfl⟩|⟨rfl,hq,rfl⟩
 ·exact k1 r1 h0 hp
 ·exact k2 hq
def FL (line:List UInt8) (s:dX):Prop:=mM.ok s/\dQ s.av=true/\line=eW s
theorem SF (line:List UInt8) (hl:line.length<=4194304) (s:dX) (hs:FL line s):aJ Tryz.prog 10 [.str line] (.aD [.agg (vR s),.bool true]):=by
 obtain⟨h1,h2,rfl⟩:=hs
 refine aF 12 [] Tryz.func10 rfl (by kernel_rfl) ?_
 repeat' (conv=>arg 2;whnf);first|(refine Cl [0,2] (SE s h1 h2 hl) (.mk' rfl ⟨⟨rfl,rfl⟩,⟨rfl,rfl⟩,trivial⟩) (aa.refl _) rfl ?_ (fun h=>h.elim);rintro r0 h0 ⟨rfl,rfl⟩)|refine ah ?_|refine aj ?_|exact bq (.inr rfl) rfl (.refl _) rfl
theorem SG (line:List UInt8) (hl:line.length<=4194304) (hs:¬∃s,FL line s):aJ Tryz.prog 10 [.str line] (.aD [.agg (vR me),.bool false]):=by
 refine aF 12 [] Tryz.func10 rfl (by kernel_rfl) ?_
 repeat' (conv=>arg 2;whnf);first|refine Cl [0,2] (@SD (sM True) _ ⟨trivial,rfl⟩ line hl) (.mk' rfl ⟨⟨rfl,rfl⟩,⟨rfl,rfl⟩,trivial⟩) (aa.refl _) rfl (fun r0 h0 hp=>by obtain⟨s,q1,q2,q3,_⟩:=hp;exact absurd ⟨s,q1,q2,q3⟩ hs) (fun _=>?_)|refine ah ?_|refine aj ?_|exact bq (.inr rfl) rfl (.refl _) rfl
end Go.Proofs.YtafomdobfmmleaaGreatDoor

/- Lemmas and contracts. -/
namespace Go.Proofs.YtafomdobfmmleaaGreatDoor
open Go.RowKit
set_option linter.unusedVariables false
theorem JW (m:aN):(aH m).sign=if dc m.kind then m.sign else dD:=by
 unfold aH
 simp only[apply_ite aN.sign,ite_self]
def jF {α:Type} (f:α->List UInt8) (l:List α):List UInt8:=aW (l.length:Int)++l.flatMap f
end Go.Proofs.YtafomdobfmmleaaGreatDoor

/- Lemmas and contracts. -/
namespace Go.Proofs.YtafomdobfmmleaaGreatDoor
open Go.RowKit
set_option linter.unusedVariables false
end Go.Proofs.YtafomdobfmmleaaGreatDoor

/- Lemmas and contracts. -/
namespace Go.Proofs.YtafomdobfmmleaaGreatDoor
open Go.RowKit
set_option linter.unusedVariables false
end Go.Proofs.YtafomdobfmmleaaGreatDoor

/- Lemmas and contracts. -/
namespace Go.Proofs.YtafomdobfmmleaaGreatDoor
open Go.RowKit
set_option linter.unusedVariables false
section
variable {P:Program} {Q:Exit->S->Prop} {I:Nat->Prop} {g:aX} {w:World} {h:List AO} {o:Nat} {t:TypeId} {cs ds:List D}
end
end Go.Proofs.YtafomdobfmmleaaGreatDoor

/- Lemmas and contracts. -/
namespace Go.Proofs.YtafomdobfmmleaaGreatDoor
open Go.RowKit
set_option linter.unusedVariables false
set_option maxRecDepth 20000
end Go.Proofs.YtafomdobfmmleaaGreatDoor

/- Lemmas and contracts. -/
namespace Go.Proofs.YtafomdobfmmleaaGreatDoor
open Go.RowKit
set_option linter.unusedVariables false
set_option maxRecDepth 20000
section
variable {Q:Exit->S->Prop}
end
theorem drop_at {α:Type} {l:List α} {q:Nat} {x:α} (h:l[q]?=some x):l.drop q=x::l.drop (q+1):=by
 obtain⟨h1,h2⟩:=List.getElem?_eq_some_iff.1 h
 rw[<-h2,List.getElem_cons_drop]
end Go.Proofs.YtafomdobfmmleaaGreatDoor

/- Lemmas and contracts. -/
namespace Go.Proofs.YtafomdobfmmleaaGreatDoor
open Go.RowKit
set_option linter.unusedVariables false
set_option maxRecDepth 20000
abbrev RS:=List UInt8×Int
abbrev dz (s:RS):List AO:=[.cells 235 [.list 1 (s.1.map aE),.int .i64 s.2,.bool true]]
def eX (k:Int) (s:RS):RS:=if s.2=0 then(s.1,k) else s
def bL (aq:Nat) (s:RS):Nat×RS:=
 if s.2=0 then(if(dy aq 0 0 s.1).2.2=0 then((dy aq 0 0 s.1).1,((dy aq 0 0 s.1).2.1,0)) else(0,(s.1,(dy aq 0 0 s.1).2.2))) else(0,s)
def gI (n:Int) (s:RS):List UInt8×RS:=
 if s.2=0 then(if n<0 then([],(s.1,1)) else if(s.1.length:Int)<n then([],(s.1,10)) else(s.1.take n.toNat,(s.1.drop n.toNat,0))) else([],s)
def gy (s:RS):Int:=if s.2=0 then(if s.1=[] then 0 else 12) else s.2
abbrev fP [Wd] (f:FuncId) (a0:D) (ar:List D) (R:RS->D) (F:RS->RS):Prop:=∀s:RS,s.1.length<=8388609->bf Tryz.prog f (a0::ar) (dz s) (fun r h=>r=R s/\h=dz (F s))
section
variable {Q:Exit->S->Prop}
theorem aC [Wd] {f:FuncId} {a0:D} {ar cu:List D} {R:RS->D} {F:RS->RS} {hb:List AO} {c:D->List AO->T} (o:Nat) (s s':RS) (r:D) (hF:fP f a0 ar R F) (hs:s.1.length<=8388609) (e:s'=F s) (er:r=R s) (hv:kK hb [o] [o] (dz s)) (hc:aa cu (D.bG.rl [o] (a0::ar))) (hM:([o].all fun o=>(kg hb cu).elem o)=true) (kk:(c (r.bG (mY hb [o] (dz s) (dz s'))) (mW hb [o] (dz s) (dz s'))).ok Tryz.prog Q):(T.call f cu hb c).ok Tryz.prog Q:=by
 subst e er
 exact dx [o] (hF s hs) (.mk' rfl hv) hc hM kk
theorem bE [Wd] {tb:TT} {rs:List ResultVar} {ex:Exit} {S0:S} {x:List UInt8} {y:Int} {s s':RS} {d R:D} {ds:List D} (he:ex=.normal\/ex=.ret) (hr:jG tb S0 rs=some ds) {ys:List (List D)} (hv:kK S0.h [0] [0] [.cells 235 [.list 1 ys,.int .i64 y,.bool true]]) (hy:ys=x.map aE) (iZ:Co (lJ ds) (d.bG [0])) (hx:(x,y)=s') (hd:d=R):(T.leaf ex S0).ok Tryz.prog (Lf tb rs (dz s) (fun r h=>r=R/\h=dz s')):=by
 subst hx hd hy
 exact mL [0] he hr rfl hv ⟨⟨rfl,rfl⟩,trivial⟩ iZ
end
theorem vl [Wd]:fP 175 (.ptr 0 0) [] (fun s=>.bool (s.2 !=0)) (fun s=>s):=by
 intro s hs
 refine aF 19 [] Tryz.func175 rfl (by kernel_rfl) ?_
 repeat' (conv=>arg 2;whnf);first|refine af (by kernel_rfl) ?_|refine ah ?_|refine aj ?_|refine aG (fun h=>?_) (fun h=>?_)|exact bE (d:=.bool (s.2 !=0)) (.inr rfl) rfl ⟨⟨rfl,rfl⟩,trivial⟩ rfl (.refl _) rfl rfl
theorem dh [Wd]:fP 173 (.ptr 0 0) [] (fun s=>.int .i64 s.2) (fun s=>s):=by
 intro s hs
 refine aF 16 [] Tryz.func173 rfl (by kernel_rfl) ?_
 repeat' (conv=>arg 2;whnf);first|refine af (by kernel_rfl) ?_|refine ah ?_|refine aj ?_|refine aG (fun h=>?_) (fun h=>?_)|exact bE (d:=.int .i64 s.2) (.inr rfl) rfl ⟨⟨rfl,rfl⟩,trivial⟩ rfl (.refl _) rfl rfl
theorem j6 [Wd] (k:Int):fP 174 (.ptr 0 0) [.int .i64 k] (fun _=>.aD []) (eX k):=by
 intro s hs
 refine aF 11 [] Tryz.func174 rfl (by kernel_rfl) ?_
 repeat' (conv=>arg 2;whnf);first|refine af (by kernel_rfl) ?_|refine aC 0 s s (.bool (s.2 !=0)) vl hs rfl rfl ⟨⟨rfl,rfl⟩,trivial⟩ (aa.refl _) rfl ?_|refine ah ?_|refine aj ?_|refine aG (fun h=>?_) (fun h=>?_)|(refine bE (d:=.aD []) (.inl rfl) rfl ⟨⟨rfl,rfl⟩,trivial⟩ rfl (.refl _) ?_ rfl;unfold eX;simp at h;first|(rw[if_pos h];done)|(rw[if_neg h];done))
theorem xp [Wd]:fP 120 (.ptr 0 0) [] (fun s=>.int .i64 (gy s)) (fun s=>s):=by
 intro s hs
 refine aF 15 [] Tryz.func120 rfl (by kernel_rfl) ?_
 repeat' (conv=>arg 2;whnf);first|refine af (by kernel_rfl) ?_|refine aC 0 s s (.int .i64 s.2) dh hs rfl rfl ⟨⟨rfl,rfl⟩,trivial⟩ (aa.refl _) rfl ?_|refine ah ?_|refine aj ?_|refine aG (fun h=>?_) (fun h=>?_)|(refine bE (d:=.int .i64 _) (.inr rfl) rfl ⟨⟨rfl,rfl⟩,trivial⟩ rfl (.refl _) rfl ?_;unfold gy;simp_all;done)|(refine bE (d:=.int .i64 _) (.inr rfl) rfl ⟨⟨rfl,rfl⟩,trivial⟩ rfl (.refl _) rfl ?_;unfold gy;obtain⟨x,y⟩:=s;cases x<;>simp_all;done)
theorem VV {aq q m:Nat} {x:UInt8} {bs:List UInt8} {A:Int} (hx:bs[q]?=some x) (hI:dy aq 0 0 bs=dy aq q m (bs.drop q)) (hA:(q<9\/x.toNat<=1)->A=((m+x.toNat%128*128^q:Nat):Int)) (hq:q<=9) (h1:x.toNat<=127) (h2:(0<q/\x.toNat=0)\/(q=9/\1<x.toNat)\/(aq:Int)<A):bL aq (bs,0)=(0,(bs,11)):=by
 have e:dy aq 0 0 bs=(0,[],11):=by
  rw[hI,drop_at hx]
  by_cases h9:q=9/\1<x.toNat
  ·exact JI h9.1 h9.2
  ·refine Su h1 ?_
   rcases h2 with h2|h2|h2
   ·exact .inl h2
   ·exact absurd h2 h9
   ·rw[hA (by omega),Nat.mod_eq_of_lt (by omega)] at h2
    exact .inr (by omega)
 unfold bL
 rw[if_pos rfl]
 simp[e]
theorem TY {aq q m:Nat} {x:UInt8} {bs:List UInt8} {A:Int} (hx:bs[q]?=some x) (hI:dy aq 0 0 bs=dy aq q m (bs.drop q)) (hA:(q<9\/x.toNat<=1)->A=((m+x.toNat%128*128^q:Nat):Int)) (hq:q<=9) (h1:x.toNat<=127) (h2:¬(0<q/\x.toNat=0)) (h3:¬(q=9/\1<x.toNat)) (h4:¬(aq:Int)<A):bL aq (bs,0)=(A.toNat,(bs.drop (q+1),0))/\A=(A.toNat:Int):=by
 have yW:=hA (by omega)
 rw[Nat.mod_eq_of_lt (by omega)] at yW
 have e:dy aq 0 0 bs=(m+x.toNat*128^q,bs.drop (q+1),0):=by
  rw[hI,drop_at hx]
  exact JJ h1 h3 (fun h=>by
   rcases h with h|h
   ·exact h2 h
   ·exact h4 (by rw[yW];omega))
 unfold bL
 rw[if_pos rfl]
 refine⟨?_,by rw[yW];omega⟩
 rw[e]
 rw[yW,Int.toNat_natCast]
 rfl
theorem VW {aq q m:Nat} {bs:List UInt8} (hI:dy aq 0 0 bs=dy aq q m (bs.drop q)) (hq:bs.length<=q):bL aq (bs,0)=(0,(bs,10)):=by
 have e:dy aq 0 0 bs=(0,[],10):=by
  rw[hI,List.drop_eq_nil_of_le hq]
  rfl
 unfold bL
 rw[if_pos rfl]
 simp[e]
structure AM (aq:Nat) (bs:List UInt8) (q:Nat) (A:Int):Prop where
 go:q<10->q<=bs.length/\∃m:Nat,A=m/\m<128^q/\dy aq 0 0 bs=dy aq q m (bs.drop q)
 out:q=10->bL aq (bs,0)=(0,(bs,11))
def nX (A:Int) (q:Nat) (x:UInt8):Int:=bits .or .u64 A (IntKind.u64.wrap (IntKind.u64.wrap (bits .and .u8 (x.toNat:Int) 127)*2^min (7*(q:Int)).toNat IntKind.u64.bits))
theorem F7 {m q:Nat} {x:UInt8} (hm:m<128^q) (hq:q<=9):(∃s:Nat,nX m q x=s)/\((q<9\/x.toNat<=1)->nX m q x=((m+x.toNat%128*128^q:Nat):Int)):=by
 obtain⟨d,e,s,h1,h2,h3,h4⟩:=VU m q x.toNat x.toNat_lt hq hm
 have YS:min (7*(q:Int)).toNat IntKind.u64.bits=7*q:=by
  have:IntKind.u64.bits=64:=rfl
  omega
 have hd:nX m q x=s:=by
  unfold nX
  rw[YS,h1,h2,h3]
 exact⟨⟨s,hd⟩,fun h=>by rw[hd,h4 h]⟩
theorem AM.next {aq:Nat} {bs:List UInt8} {q:Nat} {A:Int} {x:UInt8} (h:AM aq bs q A) (hq:q<10) (hx:bs[q]?=some x) (h1:127<x.toNat):AM aq bs (q+1) (nX A q x):=by
 obtain⟨h2,m,rfl,h3,h4⟩:=h.go hq
 have hl:=(List.getElem?_eq_some_iff.1 hx).1
 obtain⟨_,h5⟩:=F7 (x:=x) h3 (show q<=9 by omega)
 constructor
 ·intro h9
  refine⟨by omega,m+x.toNat%128*128^q,h5 (.inl (by omega)),W0 h3 (Nat.mod_lt _ (by decide)),?_⟩
  rw[h4,drop_at hx,JH h1 (by omega)]
 ·intro jQ
  have e:dy aq 0 0 bs=(0,[],11):=by
   rw[h4,drop_at hx,JI (by omega) (by omega)]
  unfold bL
  rw[if_pos rfl]
  simp[e]
theorem from_ (bs:List UInt8) (q:Nat):(((bs.map aE).drop ((q:Int)+1).toNat).take ((((bs.map aE).length:Nat):Int).toNat-((q:Int)+1).toNat))=(bs.drop (q+1)).map aE:=by
 have e:((q:Int)+1).toNat=q+1:=by omega
 rw[e,List.take_of_length_le (by simp),List.map_drop]
theorem fD [Wd] (aq:Nat):fP 121 (.ptr 0 0) [.int .u64 (aq:Int)] (fun s=>.int .u64 ((bL aq s).1:Int)) (fun s=>(bL aq s).2):=by
 rintro⟨bs,e⟩ hs
 replace hs:bs.length<=8388609:=hs
 by_cases he:e=0
 ·subst he
  refine aF 72 [] Tryz.func121 rfl (by kernel_rfl) ?_
  repeat' (conv=>arg 2;whnf);first|refine af (by kernel_rfl) ?_|refine aC 0 (bs,0) (bs,0) (.bool ((0:Int)!=0)) vl hs rfl rfl ⟨⟨rfl,rfl⟩,trivial⟩ (aa.refl _) rfl ?_|refine ah ?_|refine aj ?_
  conv=>arg 2;whnf
  refine cD (α:=Nat×Int) (fun a=>⟨[(10,.int .i64 a.1),(5,.int .u64 a.2),(1,.int .u64 (aq:Int)),(0,.ptr 0 0)],dz (bs,0)⟩) (fun a=>a.1<=10/\AM aq bs a.1 a.2) (fun a=>10-a.1) (0,0) ⟨Nat.zero_le _,⟨fun _=>⟨Nat.zero_le _,0,rfl,by decide,rfl⟩,fun h=>by cases h⟩⟩ (Sv.mk' [0] rfl ⟨⟨rfl,rfl⟩,trivial⟩ ⟨rfl,rfl,rfl,rfl,trivial⟩) ?_
  rintro⟨q,A⟩ ⟨hq,hI⟩
  replace hq:q<=10:=hq
  replace hI:AM aq bs q A:=hI
  have f1:q<10->bs.length<=q->bL aq (bs,0)=(0,(bs,10)):=fun a b=>by
   obtain⟨_,m,_,_,h⟩:=hI.go a
   exact VW h b
  have f2:∀x,bs[q]?=some x->q<10->x.toNat<=127->((0<q/\x.toNat=0)\/(q=9/\1<x.toNat)\/(aq:Int)<nX A q x)->bL aq (bs,0)=(0,(bs,11)):=fun x hx a b c=>by
   obtain⟨_,m,rfl,h3,h⟩:=hI.go a
   exact VV hx h (F7 h3 (by omega)).2 (by omega) b c
  have f3:∀x,bs[q]?=some x->q<10->x.toNat<=127->¬(0<q/\x.toNat=0)->¬(q=9/\1<x.toNat)->¬(aq:Int)<nX A q x->bL aq (bs,0)=((nX A q x).toNat,(bs.drop (q+1),0))/\nX A q x=((nX A q x).toNat:Int):=fun x hx a b c d e=>by
   obtain⟨_,m,rfl,h3,h⟩:=hI.go a
   exact TY hx h (F7 h3 (by omega)).2 (by omega) b c d e
  conv=>arg 2;whnf
  refine aG (fun hlt=>?_) (fun dn=>?_)
  ·replace hlt:q<10:=by simp at hlt;omega
   repeat'
    (conv=>arg 2;whnf)
    first
    |refine af (by kernel_rfl) ?_
    |refine af (by omega) ?_
    |refine af ⟨by omega,by have:=(List.getElem?_eq_some_iff.1 hx).1;simp;omega,by simp⟩ ?_
    |refine aA ?_ ?_
    |refine ah ?_
    |refine aj ?_
    |refine aG (fun h=>?_) (fun h=>?_)
    |(refine cV (l:=bs) (by simp at h;omega) (fun x hx=>?_);replace hx:bs[q]?=some x:=hx)
    |refine aP (aZ (by omega) (by omega)) ?_
    |refine uG ?_
    |refine aC 0 (bs,0) (bs,10) (.aD []) (j6 10) hs rfl rfl ⟨⟨rfl,rfl⟩,trivial⟩ (aa.refl _) rfl ?_
    |refine aC 0 (bs,0) (bs,11) (.aD []) (j6 11) hs rfl rfl ⟨⟨rfl,rfl⟩,trivial⟩ (aa.refl _) rfl ?_
    |refine bV (q+1,nX A q x) (Sv.mk' [0] rfl ⟨⟨rfl,rfl⟩,trivial⟩ ⟨rfl,rfl,rfl,rfl,trivial⟩) ⟨hlt,hI.next hlt hx (by simp at h;omega)⟩ (by show 10-(q+1)<10-q;omega)
    |refine bD ?_
    |refine fF ?_
    |(refine bE (d:=.int .u64 0) (.inr rfl) rfl ⟨⟨rfl,rfl⟩,trivial⟩ rfl (.refl _) (congrArg Prod.snd (f1 hlt (by simp at h;omega))).symm (congrArg (fun r:Nat×RS=>D.int .u64 (r.1:Int)) (f1 hlt (by simp at h;omega))).symm)
    |(have g:=f2 x hx hlt (by clear f1 f2 f3 hI;simp_all<;>omega) (by clear f1 f2 f3 hI;first|(refine .inr (.inr ?_);simp_all [nX];done)|(refine .inl ?_;simp_all<;>omega)|(refine .inr (.inl ?_);simp_all<;>omega))
      refine bE (d:=.int .u64 0) (.inr rfl) rfl ⟨⟨rfl,rfl⟩,trivial⟩ rfl (.refl _) (congrArg Prod.snd g).symm (congrArg (fun r:Nat×RS=>D.int .u64 (r.1:Int)) g).symm)
    |(have g:=f3 x hx hlt (by clear f1 f2 f3 hI;simp_all<;>omega) (by clear f1 f2 f3 hI;simp_all<;>omega) (by clear f1 f2 f3 hI;simp_all<;>omega) (by clear f1 f2 f3 hI;simp_all [nX]<;>omega)
      refine bE (x:=bs.drop (q+1)) (d:=.int .u64 (nX A q x)) (.inr rfl) rfl ⟨⟨rfl,rfl⟩,trivial⟩ (from_ bs q) (.refl _) (congrArg Prod.snd g.1).symm ((congrArg (D.int .u64) g.2).trans (congrArg (fun r:Nat×RS=>D.int .u64 (r.1:Int)) g.1).symm))
  ·replace dn:¬q<10:=by simp at dn;omega
   repeat' (conv=>arg 2;whnf);first|refine aC 0 (bs,0) (bs,11) (.aD []) (j6 11) hs rfl rfl ⟨⟨rfl,rfl⟩,trivial⟩ (aa.refl _) rfl ?_|refine bD ?_|(refine bE (d:=.int .u64 0) (.inr rfl) rfl ⟨⟨rfl,rfl⟩,trivial⟩ rfl (.refl _) (congrArg Prod.snd (hI.out (by omega))).symm (congrArg (fun r:Nat×RS=>D.int .u64 (r.1:Int)) (hI.out (by omega))).symm)
 ·have e1:bL aq (bs,e)=(0,(bs,e)):=by unfold bL;rw[if_neg he]
  refine aF 72 [] Tryz.func121 rfl (by kernel_rfl) ?_
  repeat' (conv=>arg 2;whnf);first|refine af (by kernel_rfl) ?_|refine aC 0 (bs,e) (bs,e) (.bool (e !=0)) vl hs rfl rfl ⟨⟨rfl,rfl⟩,trivial⟩ (aa.refl _) rfl ?_|refine ah ?_|refine aG (fun h=>?_) (fun h=>?_)|(refine bE (d:=.int .u64 0) (.inr rfl) rfl ⟨⟨rfl,rfl⟩,trivial⟩ rfl (.refl _) (congrArg Prod.snd e1).symm (congrArg (fun r:Nat×RS=>D.int .u64 (r.1:Int)) e1).symm)|(exfalso;simp_all;done)
end Go.Proofs.YtafomdobfmmleaaGreatDoor

/- Lemmas and contracts. -/
namespace Go.Proofs.YtafomdobfmmleaaGreatDoor
open Go.RowKit
set_option linter.unusedVariables false
set_option maxRecDepth 20000
theorem ug (aq:Nat) (s:RS):(bL aq s).1<=aq:=by
 unfold bL
 split
 ·split
  ·exact K5 aq s.1 0 0
  ·exact Nat.zero_le _
 ·exact Nat.zero_le _
theorem vq (aq:Nat) (s:RS):(bL aq s).2.1.length<=s.1.length:=by
 unfold bL
 split
 ·split
  ·exact(Km aq s.1 0 0).1
  ·exact Nat.le_refl _
 ·exact Nat.le_refl _
theorem EJ (n:Int) (s:RS):(gI n s).2.1.length<=s.1.length:=by
 unfold gI
 split
 ·split
  ·exact Nat.le_refl _
  ·split
   ·exact Nat.le_refl _
   ·simp
 ·exact Nat.le_refl _
def fU (aq:Nat) (s:RS):List UInt8×RS:=gI ((bL aq s).1:Int) (bL aq s).2
theorem RA (aq:Nat) (s:RS):(fU aq s).2.1.length<=s.1.length:=Nat.le_trans (EJ _ _) (vq _ _)
theorem GP {a b:List D} (h:a=b):aa a b:=h▸aa.refl a
theorem XS (bs:List UInt8) (n:Nat):((bs.map aE).drop (0:Int).toNat).take (((n:Nat):Int).toNat-(0:Int).toNat)=(bs.take n).map aE:=by
 simp[List.map_take]
theorem XT (bs:List UInt8) (n:Nat):((bs.map aE).drop ((n:Nat):Int).toNat).take ((((bs.map aE).length:Nat):Int).toNat-((n:Nat):Int).toNat)=(bs.drop n).map aE:=by
 have e:((n:Nat):Int).toNat=n:=Int.toNat_natCast n
 rw[e,List.take_of_length_le (by simp),List.map_drop]
theorem Kn [Wd] (bs:List UInt8) (hl:bs.length<=8388609):aJ Tryz.prog 171 [.list 1 (bs.map aE)] (.list 1 (bs.map aE)):=
 xB (by unfold bz;omega) (by kernel_rfl) (fun w I vs hv=>by
  obtain⟨v,rfl,h1⟩:=hv.nE
  exact VT (h1.bs (by unfold bz;omega))) rfl
theorem TZ [Wd] (n:Nat):fP 223 (.ptr 0 0) [.int .i64 (n:Int)] (fun s=>.list 1 ((gI n s).1.map aE)) (fun s=>(gI n s).2):=by
 rintro⟨bs,e⟩ hs
 replace hs:bs.length<=8388609:=hs
 by_cases he:e=0
 ·subst he
  by_cases hn:(bs.length:Int)<n
  ·have g:gI n (bs,0)=([],(bs,10)):=by unfold gI;rw[if_pos rfl,if_neg (by omega),if_pos hn]
   refine aF 43 [] Tryz.func223 rfl (by kernel_rfl) ?_
   repeat' (conv=>arg 2;whnf);first|refine af (by kernel_rfl) ?_|refine aC 0 (bs,0) (bs,0) (.bool ((0:Int)!=0)) vl hs rfl rfl ⟨⟨rfl,rfl⟩,trivial⟩ (aa.refl _) rfl ?_|refine aC 0 (bs,0) (bs,10) (.aD []) (j6 10) hs rfl rfl ⟨⟨rfl,rfl⟩,trivial⟩ (aa.refl _) rfl ?_|refine aC 0 (bs,10) (bs,10) (.bool ((10:Int)!=0)) vl hs rfl rfl ⟨⟨rfl,rfl⟩,trivial⟩ (aa.refl _) rfl ?_|refine ah ?_|refine aj ?_|refine aG (fun h=>?_) (fun h=>?_)|refine bE (d:=.list 1 []) (.inr rfl) rfl ⟨⟨rfl,rfl⟩,trivial⟩ rfl (.nil _) (congrArg Prod.snd g).symm (congrArg (fun r:List UInt8×RS=>D.list 1 (r.1.map aE)) g).symm|(exfalso;simp at h;omega)
  ·have g:gI n (bs,0)=(bs.take n,(bs.drop n,0)):=by unfold gI;rw[if_pos rfl,if_neg (by omega),if_neg hn,Int.toNat_natCast]
   refine aF 43 [] Tryz.func223 rfl (by kernel_rfl) ?_
   repeat' (conv=>arg 2;whnf);first|refine af (by kernel_rfl) ?_|refine af ⟨by omega,by simp;omega,by simp⟩ ?_|refine af ⟨by omega,by omega,by simp;omega⟩ ?_|refine aC 0 (bs,0) (bs,0) (.bool ((0:Int)!=0)) vl hs rfl rfl ⟨⟨rfl,rfl⟩,trivial⟩ (aa.refl _) rfl ?_|refine ak (Kn (bs.take n) (by rw[List.length_take];omega)) rfl (GP (congrArg (fun z=>[D.list 1 z]) (XS bs n))) ?_|refine ah ?_|refine aj ?_|refine aG (fun h=>?_) (fun h=>?_)|refine bE (d:=.list 1 ((bs.take n).map aE)) (.inr rfl) rfl ⟨⟨rfl,rfl⟩,trivial⟩ (XT bs n) (.refl _) (congrArg Prod.snd g).symm (congrArg (fun r:List UInt8×RS=>D.list 1 (r.1.map aE)) g).symm|(exfalso;simp at h;omega)
 ·have g:gI n (bs,e)=([],(bs,e)):=by unfold gI;rw[if_neg he]
  refine aF 43 [] Tryz.func223 rfl (by kernel_rfl) ?_
  repeat' (conv=>arg 2;whnf);first|refine af (by kernel_rfl) ?_|refine aC 0 (bs,e) (bs,e) (.bool (e !=0)) vl hs rfl rfl ⟨⟨rfl,rfl⟩,trivial⟩ (aa.refl _) rfl ?_|refine ah ?_|refine aj ?_|refine aG (fun h=>?_) (fun h=>?_)|refine bE (d:=.list 1 []) (.inr rfl) rfl ⟨⟨rfl,rfl⟩,trivial⟩ rfl (.nil _) (congrArg Prod.snd g).symm (congrArg (fun r:List UInt8×RS=>D.list 1 (r.1.map aE)) g).symm|(exfalso;simp_all;done)|(exfalso;simp at h;omega)
theorem BX [Wd] (aq:Nat) (hm:aq<=4194304):fP 172 (.ptr 0 0) [.int .i64 (aq:Int)] (fun s=>.list 1 ((fU aq s).1.map aE)) (fun s=>(fU aq s).2):=by
 intro s hs
 have h1:=ug aq s
 have h2:=vq aq s
 have YT:(if(0:Int)<(aq:Int) then(aq:Int) else 0)=(aq:Int):=by split<;>omega
 have hu:IntKind.u64.wrap (aq:Int)=(aq:Int):=nJ (by omega)
 refine aF 13 [] Tryz.func172 rfl (by kernel_rfl) ?_
 repeat' (conv=>arg 2;whnf);first|refine af (by kernel_rfl) ?_|refine aP (aZ (by omega) (by omega)) ?_|refine uG ?_|refine aC 0 s (bL aq s).2 (.int .u64 ((bL aq s).1:Int)) (fD aq) hs rfl rfl ⟨⟨rfl,rfl⟩,trivial⟩ (GP (by rw[YT,hu];rfl)) rfl ?_|refine aC 0 (bL aq s).2 (fU aq s).2 (.list 1 ((fU aq s).1.map aE)) (TZ (bL aq s).1) (by omega) rfl rfl ⟨⟨rfl,rfl⟩,trivial⟩ (aa.refl _) rfl ?_|refine bE (d:=.list 1 ((fU aq s).1.map aE)) (.inr rfl) rfl ⟨⟨rfl,rfl⟩,trivial⟩ rfl (.refl _) rfl rfl
theorem vr [Wd] (bs:List UInt8) (hl:bs.length<=8388609):bf Tryz.prog 118 [.list 1 (bs.map aE)] [] (fun r h=>r=.ptr 0 0/\h=dz (bs,0)):=by
 refine aF 7 [] Tryz.func118 rfl (by kernel_rfl) ?_
 repeat' (conv=>arg 2;whnf);first|refine af (by kernel_rfl) ?_|refine ak (Kn bs hl) rfl (aa.refl _) ?_|refine mL [0] (.inr rfl) rfl rfl ⟨⟨rfl,rfl⟩,trivial⟩ trivial (.refl _)
abbrev MX:Nat:=9007199254740992
end Go.Proofs.YtafomdobfmmleaaGreatDoor

/- Lemmas and contracts. -/
namespace Go.Proofs.YtafomdobfmmleaaGreatDoor
open Go.RowKit
set_option linter.unusedVariables false
set_option maxRecDepth 20000
def bP (least:Int) (s:RS):Int×RS:=
 if(bL MX s).2.2=0 then(if((bL MX s).1:Int)<least then(0,((bL MX s).2.1,100)) else((bL MX s).1,(bL MX s).2)) else(0,(bL MX s).2)
def jX (b:Bool) (s:RS):RS:=if s.2=0 then(if b then s else(s.1,100)) else s
def kT (aq:Int) (s:RS):Int×RS:=
 if(jX (decide ((bP 0 s).1<=aq)) (bP 0 s).2).2=0 then((bP 0 s).1,jX (decide ((bP 0 s).1<=aq)) (bP 0 s).2) else(0,jX (decide ((bP 0 s).1<=aq)) (bP 0 s).2)
def fm (s:RS):bH×RS:=
 if(bL MX (bL 20 s).2).2.2=0 then(if(bL MX (bL 20 s).2).1=0 then(dD,((bL MX (bL 20 s).2).2.1,81)) else(⟨(bL 20 s).1,(bL MX (bL 20 s).2).1⟩,(bL MX (bL 20 s).2).2)) else(dD,(bL MX (bL 20 s).2).2)
theorem sw (aq:Nat) (s:RS):∃(n:Nat) (b:List UInt8) (e:Int),bL aq s=(n,(b,e))/\n<=aq/\b.length<=s.1.length:=
 ⟨_,_,_,rfl,ug aq s,vq aq s⟩
theorem zu (least:Int) (s:RS):∃(n:Int) (b:List UInt8) (e:Int),bP least s=(n,(b,e))/\0<=n/\n<=9007199254740992/\b.length<=s.1.length:=by
 have h1:(bL MX s).1<=9007199254740992:=ug MX s
 have h2:=vq MX s
 refine⟨(bP least s).1,(bP least s).2.1,(bP least s).2.2,rfl,?_,?_,?_⟩<;>unfold bP<;>split<;>(try split)<;>first|omega|exact h2|decide
section
variable [Wd]
theorem kA (least:Int):fP 228 (.agg [.ptr 0 0]) [.int .i64 least] (fun s=>.int .i64 (bP least s).1) (fun s=>(bP least s).2):=by
 intro s hs
 obtain⟨n,b,e,en,hn,hb⟩:=sw MX s
 replace hn:n<=9007199254740992:=hn
 have bQ:b.length<=8388609:=by omega
 refine aF 27 [] Tryz.func228 rfl (by kernel_rfl) ?_
 repeat' (conv=>arg 2;whnf);first|refine af (by kernel_rfl) ?_|refine aP (aZ (by omega) (by omega)) ?_|refine aC 0 s (b,e) (.int .u64 (n:Int)) (fD MX) hs (congrArg Prod.snd en).symm (congrArg (fun r:Nat×RS=>D.int .u64 (r.1:Int)) en).symm ⟨⟨rfl,rfl⟩,trivial⟩ (aa.refl _) rfl ?_|refine aC 0 (b,e) (b,e) (.int .i64 e) dh bQ rfl rfl ⟨⟨rfl,rfl⟩,trivial⟩ (aa.refl _) rfl ?_|refine aA ?_ ?_|refine ah ?_|refine aj ?_|refine aG (fun h=>?_) (fun h=>?_)|refine aC 0 (b,e) (b,100) (.aD []) (j6 100) bQ (by unfold eX;rw[if_pos (by simp_all)]) rfl ⟨⟨rfl,rfl⟩,trivial⟩ (aa.refl _) rfl ?_|refine aC 0 (b,100) (b,100) (.int .i64 100) dh bQ rfl rfl ⟨⟨rfl,rfl⟩,trivial⟩ (aa.refl _) rfl ?_|(refine bE (d:=.int .i64 _) (.inr rfl) rfl ⟨⟨rfl,rfl⟩,trivial⟩ rfl (.refl _) ?_ ?_<;>(simp only[bP,en];(repeat' split)<;>first|rfl|(exfalso;simp_all<;>omega)))|(exfalso;simp_all;done)
theorem so (least:Int):fP 231 (.agg [.ptr 0 0]) [.int .i64 least] (fun s=>.int .i64 (bP least s).1) (fun s=>(bP least s).2):=by
 intro s hs
 obtain⟨n,b,e,en,oP,hn,hb⟩:=zu least s
 refine aF 8 [] Tryz.func231 rfl (by kernel_rfl) ?_
 repeat' (conv=>arg 2;whnf);first|refine af (by kernel_rfl) ?_|refine aP (aZ (by omega) (by omega)) ?_|refine aC 0 s (b,e) (.int .i64 n) (kA least) hs (congrArg Prod.snd en).symm (congrArg (fun r:Int×RS=>D.int .i64 r.1) en).symm ⟨⟨rfl,rfl⟩,trivial⟩ (aa.refl _) rfl ?_|refine bE (d:=.int .i64 n) (.inr rfl) rfl ⟨⟨rfl,rfl⟩,trivial⟩ rfl (.refl _) (congrArg Prod.snd en).symm (congrArg (fun r:Int×RS=>D.int .i64 r.1) en).symm
theorem Cj (c:Bool):fP 225 (.agg [.ptr 0 0]) [.bool c] (fun _=>.aD []) (jX c):=by
 intro s hs
 obtain⟨b,e⟩:=s
 replace hs:b.length<=8388609:=hs
 refine aF 15 [] Tryz.func225 rfl (by kernel_rfl) ?_
 repeat' (conv=>arg 2;whnf);first|refine af (by kernel_rfl) ?_|refine aC 0 (b,e) (b,e) (.int .i64 e) dh hs rfl rfl ⟨⟨rfl,rfl⟩,trivial⟩ (aa.refl _) rfl ?_|refine aA ?_ ?_|refine ah ?_|refine aj ?_|refine aG (fun h=>?_) (fun h=>?_)|refine aC 0 (b,e) (b,100) (.aD []) (j6 100) hs (by unfold eX;rw[if_pos (by simp_all)]) rfl ⟨⟨rfl,rfl⟩,trivial⟩ (aa.refl _) rfl ?_|(refine bE (d:=.aD []) (.inl rfl) rfl ⟨⟨rfl,rfl⟩,trivial⟩ rfl (.refl _) ?_ rfl;simp only[jX];(repeat' split)<;>first|rfl|(exfalso;simp_all<;>omega))|(exfalso;simp_all;done)
theorem vu (aq:Int):fP 281 (.agg [.ptr 0 0]) [.int .i64 aq] (fun s=>.int .i64 (kT aq s).1) (fun s=>(kT aq s).2):=by
 intro s hs
 obtain⟨n,b,e,en,oP,hn,hb⟩:=zu 0 s
 have bQ:b.length<=8388609:=by omega
 obtain⟨b2,e2,em⟩:∃(b2:List UInt8) (e2:Int),jX (decide (n<=aq)) (b,e)=(b2,e2):=⟨_,_,rfl⟩
 have fO:b2.length<=8388609:=by
  have h:=congrArg Prod.fst em
  have h2:(jX (decide (n<=aq)) (b,e)).1=b:=by
   unfold jX
   split
   ·split<;>rfl
   ·rfl
  have h3:b2=b:=h.symm.trans h2
  rw[h3]
  exact bQ
 have eR:kT aq s=if e2=0 then(n,(b2,e2)) else(0,(b2,e2)):=by unfold kT;rw[en];simp only[em]
 refine aF 18 [] Tryz.func281 rfl (by kernel_rfl) ?_
 repeat' (conv=>arg 2;whnf);first|refine af (by kernel_rfl) ?_|refine aC 0 s (b,e) (.int .i64 n) (kA 0) hs (congrArg Prod.snd en).symm (congrArg (fun r:Int×RS=>D.int .i64 r.1) en).symm ⟨⟨rfl,rfl⟩,trivial⟩ (aa.refl _) rfl ?_|refine aC 0 (b,e) (b2,e2) (.aD []) (Cj (decide (n<=aq))) bQ em.symm rfl ⟨⟨rfl,rfl⟩,trivial⟩ (aa.refl _) rfl ?_|refine aC 0 (b2,e2) (b2,e2) (.int .i64 e2) dh fO rfl rfl ⟨⟨rfl,rfl⟩,trivial⟩ (aa.refl _) rfl ?_|refine aA ?_ ?_|refine ah ?_|refine aj ?_|refine aG (fun h=>?_) (fun h=>?_)|(refine bE (d:=.int .i64 _) (.inr rfl) rfl ⟨⟨rfl,rfl⟩,trivial⟩ rfl (.refl _) ?_ ?_<;>(simp only[eR];(repeat' split)<;>first|rfl|(exfalso;simp_all<;>omega)))
theorem Eh:fP 287 (.ptr 0 0) [] (fun s=>.agg (bu (fm s).1)) (fun s=>(fm s).2):=by
 intro s hs
 obtain⟨n,b,e,en,hn,hb⟩:=sw 20 s
 have bQ:b.length<=8388609:=by omega
 obtain⟨m,b2,e2,em,hm,fO⟩:=sw MX (b,e)
 replace hm:m<=9007199254740992:=hm
 replace fO:b2.length<=b.length:=fO
 have yG:b2.length<=8388609:=by omega
 refine aF 27 [] Tryz.func287 rfl (by kernel_rfl) ?_
 repeat' (conv=>arg 2;whnf);first|refine af (by kernel_rfl) ?_|refine aP (aZ (by omega) (by omega)) ?_|refine aC 0 s (b,e) (.int .u64 (n:Int)) (fD 20) hs (congrArg Prod.snd en).symm (congrArg (fun r:Nat×RS=>D.int .u64 (r.1:Int)) en).symm ⟨⟨rfl,rfl⟩,trivial⟩ (aa.refl _) rfl ?_|refine aC 0 (b,e) (b2,e2) (.int .u64 (m:Int)) (fD MX) bQ (congrArg Prod.snd em).symm (congrArg (fun r:Nat×RS=>D.int .u64 (r.1:Int)) em).symm ⟨⟨rfl,rfl⟩,trivial⟩ (aa.refl _) rfl ?_|refine aC 0 (b2,e2) (b2,e2) (.int .i64 e2) dh yG rfl rfl ⟨⟨rfl,rfl⟩,trivial⟩ (aa.refl _) rfl ?_|refine aA ?_ ?_|refine ah ?_|refine aj ?_|refine aG (fun h=>?_) (fun h=>?_)|refine aC 0 (b2,e2) (b2,81) (.aD []) (j6 81) yG (by unfold eX;rw[if_pos (by simp_all)]) rfl ⟨⟨rfl,rfl⟩,trivial⟩ (aa.refl _) rfl ?_|refine aC 0 (b2,81) (b2,81) (.int .i64 81) dh yG rfl rfl ⟨⟨rfl,rfl⟩,trivial⟩ (aa.refl _) rfl ?_|(refine bE (d:=.agg [.int .i64 _,.int .i64 _]) (.inr rfl) rfl ⟨⟨rfl,rfl⟩,trivial⟩ rfl (.refl _) ?_ ?_<;>(simp only[fm,en,em];(repeat' split)<;>first|rfl|(exfalso;simp_all<;>omega)))|(exfalso;simp_all;done)
end
end Go.Proofs.YtafomdobfmmleaaGreatDoor

/- Lemmas and contracts. -/
namespace Go.Proofs.YtafomdobfmmleaaGreatDoor
open Go.RowKit
set_option linter.unusedVariables false
set_option maxRecDepth 20000
def aV {α:Type} (p:RS->α×RS):Nat->RS->List α×RS
 |0,s=>([],s)
 |n+1,s=>if s.2=0 then((p s).1::(aV p n (p s).2).1,(aV p n (p s).2).2) else([],s)
theorem sC {α:Type} (p:RS->α×RS) (n:Nat) (s:RS) (h:¬s.2=0):aV p n s=([],s):=by
 cases n with
 |zero=>rfl
 |succ n=>unfold aV;rw[if_neg h]
theorem xq {α:Type} (p:RS->α×RS) {n:Int} {s:RS} (hn:0<n) (h:s.2=0):aV p n.toNat s=((p s).1::(aV p (n-1).toNat (p s).2).1,(aV p (n-1).toNat (p s).2).2):=by
 obtain⟨k,rfl⟩:∃k:Nat,n=(k:Int)+1:=⟨(n-1).toNat,by omega⟩
 have e1:((k:Int)+1).toNat=k+1:=by omega
 have e2:((k:Int)+1-1).toNat=k:=by omega
 rw[e1,e2]
 conv=>lhs;unfold aV
 rw[if_pos h]
theorem Ab {α:Type} {p:RS->α×RS} (hp:∀s,(p s).2.1.length<=s.1.length):∀(n:Nat) (s:RS),(aV p n s).2.1.length<=s.1.length
 |0,s=>Nat.le_refl _
 |n+1,s=>by
  unfold aV
  split
  ·exact Nat.le_trans (Ab hp n _) (hp s)
  ·exact Nat.le_refl _
def dR {α:Type} (p:RS->α×RS) (aq:Int) (s:RS):List α×RS:=aV p (kT aq s).1.toNat (kT aq s).2
theorem zA (c:Bool) (s:RS):(jX c s).1=s.1:=by
 unfold jX
 split
 ·split<;>rfl
 ·rfl
theorem vi (aq:Int) (hm:0<=aq) (s:RS):∃(n:Int) (b:List UInt8) (e:Int),kT aq s=(n,(b,e))/\0<=n/\n<=aq/\b.length<=s.1.length:=by
 obtain⟨n,b,e,en,h0,h1,h2⟩:=zu 0 s
 refine⟨(kT aq s).1,(kT aq s).2.1,(kT aq s).2.2,rfl,?_,?_,?_⟩
 ·unfold kT
  rw[en]
  split
  ·exact h0
  ·exact Int.le_refl _
 ·unfold kT
  rw[en]
  split
  ·rename_i h
   show n<=aq
   by_cases hn:n<=aq
   ·exact hn
   ·exfalso
    have hd:decide (n<=aq)=false:=by simpa using hn
    simp only[hd,jX] at h
    split at h
    ·cases h
    ·contradiction
  ·exact hm
 ·unfold kT
  rw[en]
  split
  ·show(jX _ (b,e)).1.length<=_;rw[zA];exact h2
  ·show(jX _ (b,e)).1.length<=_;rw[zA];exact h2
theorem Sw {α:Type} {p:RS->α×RS} (hp:∀s,(p s).2.1.length<=s.1.length) (aq:Int) (hm:0<=aq) (s:RS):(dR p aq s).2.1.length<=s.1.length:=by
 obtain⟨n,b,e,en,_,_,h2⟩:=vi aq hm s
 unfold dR
 rw[en]
 exact Nat.le_trans (Ab hp _ _) h2
theorem Ko (s:RS):(fm s).2.1.length<=s.1.length:=by
 have h1:=vq 20 s
 have h2:=vq MX (bL 20 s).2
 unfold fm
 split
 ·split
  ·show(bL MX (bL 20 s).2).2.1.length<=_;omega
  ·show(bL MX (bL 20 s).2).2.1.length<=_;omega
 ·show(bL MX (bL 20 s).2).2.1.length<=_;omega
theorem nK [Wd] (fz:List Nat) {tb:TT} {rs:List ResultVar} {ex:Exit} {S0:S} {x:List UInt8} {y:Int} {s s':RS} {d R:D} {ds:List D} {ys:List (List D)} (he:ex=.normal\/ex=.ret) (hr:jG tb (S0.cM fz) rs=some ds) (hv:kK (S0.cM fz).h [0] [0] [.cells 235 [.list 1 ys,.int .i64 y,.bool true]]) (hy:ys=x.map aE) (iZ:Co (lJ ds) (d.bG [0])) (hx:(x,y)=s') (hd:d=R):(T.leaf ex S0).ok Tryz.prog (Lf tb rs (dz s) (fun r h=>r=R/\h=dz s')):=by
 subst hx hd hy
 exact VX fz [0] he hr rfl hv ⟨⟨rfl,rfl⟩,trivial⟩ iZ
theorem oY [Wd]:fP 239 (.agg [.ptr 0 0]) [] (fun s=>.agg (bu (fm s).1)) (fun s=>(fm s).2):=by
 intro s hs
 refine aF 6 [] Tryz.func239 rfl (by kernel_rfl) ?_
 repeat' (conv=>arg 2;whnf);first|refine af (by kernel_rfl) ?_|refine aC 0 s (fm s).2 (.agg (bu (fm s).1)) Eh hs rfl rfl ⟨⟨rfl,rfl⟩,trivial⟩ (aa.refl _) rfl ?_|refine bE (d:=.agg (bu (fm s).1)) (.inr rfl) rfl ⟨⟨rfl,rfl⟩,trivial⟩ rfl (.refl _) rfl rfl
theorem Jw [Wd] (aq:Int) (p8:0<=aq) (hm:aq<=4096):fP 282 (.agg [.ptr 0 0]) [.int .i64 aq,.fn 239 0 []] (fun s=>.list 2 ((dR fm aq s).1.map bu)) (fun s=>(dR fm aq s).2):=by
 intro s0 hs
 obtain⟨N,b0,e0,en,qN,hN,wC⟩:=vi aq p8 s0
 have eL:dR fm aq s0=aV fm N.toNat (b0,e0):=by unfold dR;rw[en]
 refine aF 29 [] Tryz.func282 rfl (by kernel_rfl) ?_
 repeat' (conv=>arg 2;whnf);first|refine af (by kernel_rfl) ?_|refine aC 0 s0 (b0,e0) (.int .i64 N) (vu aq) hs (congrArg Prod.snd en).symm (congrArg (fun r:Int×RS=>D.int .i64 r.1) en).symm ⟨⟨rfl,rfl⟩,trivial⟩ (aa.refl _) rfl ?_
 conv=>arg 2;whnf
 refine cD (α:=Int×RS×List bH) (fun a=>match a.2.2 with
  |[]=>⟨[(8,.int .i64 a.1),(7,.nils),(3,.ptr 1 0),(2,.fn 239 0 [])],[.cells 235 [.list 1 (a.2.1.1.map aE),.int .i64 a.2.1.2,.bool true],.cells 239 [.ptr 0 0]]⟩
  |x::l=>⟨[(8,.int .i64 a.1),(7,.row 2),(3,.ptr 1 0),(2,.fn 239 0 [])],[.cells 235 [.list 1 (a.2.1.1.map aE),.int .i64 a.2.1.2,.bool true],.cells 239 [.ptr 0 0],.row 57 2 ((x::l).map bu)]⟩) (fun a=>0<=a.1/\a.1<=4096/\a.2.1.1.length<=8388609/\a.2.2.length+a.1.toNat<=4096/\aV fm N.toNat (b0,e0)=(a.2.2++(aV fm a.1.toNat a.2.1).1,(aV fm a.1.toNat a.2.1).2)) (fun a=>a.1.toNat) (N,(b0,e0),[]) ⟨qN,by omega,by show b0.length<=_;omega,by simp;omega,rfl⟩ (Sv.mk' [0,1] rfl ⟨⟨rfl,rfl⟩,⟨rfl,rfl⟩,trivial⟩ ⟨rfl,rfl,rfl,rfl,trivial⟩) ?_
 rintro⟨n,⟨b,e⟩,out⟩ ⟨h0,h1,hl,ho,hg⟩
 replace h0:0<=n:=h0
 replace h1:n<=4096:=h1
 replace hl:b.length<=8388609:=hl
 replace ho:out.length+n.toNat<=4096:=ho
 replace hg:aV fm N.toNat (b0,e0)=(out++(aV fm n.toNat (b,e)).1,(aV fm n.toNat (b,e)).2):=hg
 obtain⟨x,b2,e2,ep⟩:∃(x:bH) (b2:List UInt8) (e2:Int),fm (b,e)=(x,(b2,e2)):=⟨_,_,_,rfl⟩
 have kX:b2.length<=8388609:=by
  have h:=Ko (b,e)
  rw[ep] at h
  exact Nat.le_trans h hl
 have cO:(n<=0\/¬e=0)->dR fm aq s0=(out,(b,e)):=fun h=>by
  rw[eL,hg]
  rcases h with h|h
  ·rw[show n.toNat=0 by omega];simp[aV]
  ·rw[sC _ _ _ h];simp
 have jE:0<n->e=0->aV fm N.toNat (b0,e0)=((out++[x])++(aV fm (n-1).toNat (b2,e2)).1,(aV fm (n-1).toNat (b2,e2)).2):=fun hn h=>by
  rw[hg,xq _ hn h,ep]
  simp
 cases out with
 |nil=>
  conv=>arg 2;whnf
  refine aG (fun hn=>?_) (fun hn=>?_)
  ·replace hn:0<n:=by simpa using hn
   repeat' (conv=>arg 2;whnf);first|refine aC 0 (b,e) (b,e) (.int .i64 e) dh hl rfl rfl ⟨⟨rfl,rfl⟩,trivial⟩ (aa.refl _) rfl ?_|refine aA ?_ ?_|refine ah ?_|refine aj ?_|refine aG (fun h=>?_) (fun h=>?_)|refine aC 0 (b,e) (b2,e2) (.agg (bu x)) oY hl (congrArg Prod.snd ep).symm (congrArg (fun r:bH×RS=>D.agg (bu r.1)) ep).symm ⟨⟨rfl,rfl⟩,trivial⟩ (aa.refl _) rfl ?_|refine af (by constructor<;>(simp only[List.length_cons,List.length_nil];decide)) ?_|refine aP (aZ (by show _<=n-1;omega) (by show n-1<=_;omega)) ?_|refine bV (n-1,(b2,e2),[x]) (Sv.mk' [0,1,4] rfl ⟨⟨rfl,rfl⟩,⟨rfl,rfl⟩,⟨rfl,rfl⟩,trivial⟩ ⟨rfl,rfl,rfl,rfl,trivial⟩) ⟨by show 0<=n-1;omega,by show n-1<=4096;omega,kX,by show([x]).length+(n-1).toNat<=4096;simp at ho ⊢;omega,jE hn (by simpa using h)⟩ (by show(n-1).toNat<n.toNat;omega)|refine bD ?_|refine bE (d:=.list 2 []) (.inr rfl) rfl ⟨⟨rfl,rfl⟩,trivial⟩ rfl (.nil _) (congrArg Prod.snd (cO (.inr (by simpa using h)))).symm (congrArg (fun r:List bH×RS=>D.list 2 (r.1.map bu)) (cO (.inr (by simpa using h)))).symm
  ·replace hn:n<=0:=by simpa using hn
   repeat' (conv=>arg 2;whnf);first|refine aC 0 (b,e) (b,e) (.int .i64 e) dh hl rfl rfl ⟨⟨rfl,rfl⟩,trivial⟩ (aa.refl _) rfl ?_|refine aA ?_ ?_|refine ah ?_|refine aj ?_|refine aG (fun h=>?_) (fun h=>?_)|refine bD ?_|refine bE (d:=.list 2 []) (.inr rfl) rfl ⟨⟨rfl,rfl⟩,trivial⟩ rfl (.nil _) (congrArg Prod.snd (cO (.inl hn))).symm (congrArg (fun r:List bH×RS=>D.list 2 (r.1.map bu)) (cO (.inl hn))).symm
 |cons y out=>
  conv=>arg 2;whnf
  refine aG (fun hn=>?_) (fun hn=>?_)
  ·replace hn:0<n:=by simpa using hn
   repeat' (conv=>arg 2;whnf);first|refine aC 0 (b,e) (b,e) (.int .i64 e) dh hl rfl rfl ⟨⟨rfl,rfl⟩,trivial⟩ (aa.refl _) rfl ?_|refine aA ?_ ?_|refine ah ?_|refine aj ?_|refine aG (fun h=>?_) (fun h=>?_)|refine aC 0 (b,e) (b2,e2) (.agg (bu x)) oY hl (congrArg Prod.snd ep).symm (congrArg (fun r:bH×RS=>D.agg (bu r.1)) ep).symm ⟨⟨rfl,rfl⟩,trivial⟩ (aa.refl _) rfl ?_|refine af (by constructor<;>(simp only[List.length_cons,List.length_nil,List.length_map,maxLen] at ho ⊢;omega)) ?_|refine aP (aZ (by show _<=n-1;omega) (by show n-1<=_;omega)) ?_|refine bV (n-1,(b2,e2),(y::out)++[x]) (Sv.mk' [0,1,5] rfl ⟨⟨rfl,rfl⟩,⟨rfl,rfl⟩,⟨rfl,by simp;rfl⟩,trivial⟩ ⟨rfl,rfl,rfl,rfl,trivial⟩) ⟨by show 0<=n-1;omega,by show n-1<=4096;omega,kX,by show((y::out)++[x]).length+(n-1).toNat<=4096;simp at ho ⊢;omega,jE hn (by simpa using h)⟩ (by show(n-1).toNat<n.toNat;omega)|refine bD ?_|refine nK [2] (d:=.list 2 ((y::out).map bu)) (.inr rfl) rfl ⟨⟨rfl,rfl⟩,trivial⟩ rfl (.refl _) (congrArg Prod.snd (cO (.inr (by simpa using h)))).symm (congrArg (fun r:List bH×RS=>D.list 2 (r.1.map bu)) (cO (.inr (by simpa using h)))).symm
  ·replace hn:n<=0:=by simpa using hn
   repeat' (conv=>arg 2;whnf);first|refine aC 0 (b,e) (b,e) (.int .i64 e) dh hl rfl rfl ⟨⟨rfl,rfl⟩,trivial⟩ (aa.refl _) rfl ?_|refine aA ?_ ?_|refine ah ?_|refine aj ?_|refine aG (fun h=>?_) (fun h=>?_)|refine bD ?_|refine nK [2] (d:=.list 2 ((y::out).map bu)) (.inr rfl) rfl ⟨⟨rfl,rfl⟩,trivial⟩ rfl (.refl _) (congrArg Prod.snd (cO (.inl hn))).symm (congrArg (fun r:List bH×RS=>D.list 2 (r.1.map bu)) (cO (.inl hn))).symm
end Go.Proofs.YtafomdobfmmleaaGreatDoor

/- Lemmas and contracts. -/
namespace Go.Proofs.YtafomdobfmmleaaGreatDoor
open Go.RowKit
set_option linter.unusedVariables false
set_option maxRecDepth 20000
def pO (s:RS):gU×RS:=
 let a:=bP 0 s
 let d:=bP 0 a.2
 let l:=dR fm (if a.1=0 then 0 else 13) (jX ((a.1==0)==(d.1==0)) d.2)
 (⟨a.1,d.1,l.1⟩,l.2)
theorem RB {α:Type} {p:RS->α×RS} (hp:∀s,(p s).2.1.length<=s.1.length) (aq:Int) (hm:0<=aq) (s:RS):∃(l:List α) (b:List UInt8) (e:Int),dR p aq s=(l,(b,e))/\b.length<=s.1.length:=
 ⟨_,_,_,rfl,Sw hp aq hm s⟩
theorem Ff [Wd]:fP 236 (.agg [.ptr 0 0]) [] (fun s=>.agg (mh (pO s).1)) (fun s=>(pO s).2):=by
 intro s hs
 obtain⟨n,b,e,en,oP,hn,hb⟩:=zu 0 s
 obtain⟨d,b2,e2,ed,mz,hd,fO⟩:=zu 0 (b,e)
 replace fO:b2.length<=b.length:=fO
 have bQ:b.length<=8388609:=by omega
 have yG:b2.length<=8388609:=by omega
 obtain⟨b3,e3,em⟩:∃(b3:List UInt8) (e3:Int),jX ((n==0)==(d==0)) (b2,e2)=(b3,e3):=⟨_,_,rfl⟩
 have YU:b3.length<=8388609:=by
  have h:=zA ((n==0)==(d==0)) (b2,e2)
  rw[em] at h
  have h':b3=b2:=h
  rw[h']
  exact yG
 obtain⟨M,hM,Ol,ZQ⟩:∃M:Int,(if n=0 then 0 else 13)=M/\0<=M/\M<=4096:=⟨_,rfl,by split<;>decide,by split<;>decide⟩
 obtain⟨l,b4,e4,el,_⟩:=RB Ko M Ol (b3,e3)
 have eR:pO s=(⟨n,d,l⟩,(b4,e4)):=by unfold pO;simp only[en,ed,em,hM,el]
 refine aF 28 [] Tryz.func236 rfl (by kernel_rfl) ?_
 by_cases hz:n=0
 all_goals
  first|rw[if_pos hz] at hM|rw[if_neg hz] at hM
  subst hM
  repeat' (conv=>arg 2;whnf);first|refine af (by kernel_rfl) ?_|refine aC 0 s (b,e) (.int .i64 n) (kA 0) hs (congrArg Prod.snd en).symm (congrArg (fun r:Int×RS=>D.int .i64 r.1) en).symm ⟨⟨rfl,rfl⟩,trivial⟩ (aa.refl _) rfl ?_|refine aC 0 (b,e) (b2,e2) (.int .i64 d) (so 0) bQ (congrArg Prod.snd ed).symm (congrArg (fun r:Int×RS=>D.int .i64 r.1) ed).symm ⟨⟨rfl,rfl⟩,trivial⟩ (aa.refl _) rfl ?_|refine aC 0 (b2,e2) (b3,e3) (.aD []) (Cj ((n==0)==(d==0))) yG em.symm rfl ⟨⟨rfl,rfl⟩,trivial⟩ (aa.refl _) rfl ?_|refine aC 0 (b3,e3) (b4,e4) (.list 2 (l.map bu)) (Jw _ Ol ZQ) YU (congrArg Prod.snd el).symm (congrArg (fun r:List bH×RS=>D.list 2 (r.1.map bu)) el).symm ⟨⟨rfl,rfl⟩,trivial⟩ (aa.refl _) rfl ?_|refine aA ?_ ?_|refine ah ?_|refine aj ?_|refine aG (fun h=>?_) (fun h=>?_)|refine bE (d:=.agg (mh ⟨n,d,l⟩)) (.inr rfl) rfl ⟨⟨rfl,rfl⟩,trivial⟩ rfl (.refl _) (congrArg Prod.snd eR).symm (congrArg (fun r:gU×RS=>D.agg (mh r.1)) eR).symm|(exfalso;simp_all;done)
def ga {α:Type} (p:RS->α×RS) (z:α) (b:List UInt8):α×Int:=
 if 262144<b.length then(z,3) else if gy (p (b,0)).2=0 then((p (b,0)).1,0) else(z,gy (p (b,0)).2)
theorem Sy {α:Type} {p:RS->α×RS} {z:α} {b:List UInt8} (h:262144<b.length):ga p z b=(z,3):=by unfold ga;rw[if_pos h]
theorem Sz {α:Type} {p:RS->α×RS} {z c:α} {b:List UInt8} {s:RS} (h:¬262144<b.length) (e:p (b,0)=(c,s)) (hd:¬gy s=0):ga p z b=(z,gy s):=by unfold ga;rw[if_neg h,e,if_neg hd]
theorem K6 {α:Type} {p:RS->α×RS} {z c:α} {b:List UInt8} {s:RS} (h:¬262144<b.length) (e:p (b,0)=(c,s)) (hd:gy s=0):ga p z b=(c,0):=by unfold ga;rw[if_neg h,e,if_pos hd]
end Go.Proofs.YtafomdobfmmleaaGreatDoor

/- Lemmas and contracts. -/
namespace Go.Proofs.YtafomdobfmmleaaGreatDoor
open Go.RowKit
set_option linter.unusedVariables false
set_option maxRecDepth 20000
theorem RC (n:Nat) (s:RS):∃(x b:List UInt8) (e:Int),gI n s=(x,(b,e))/\b.length<=s.1.length/\x.length<=n:=by
 refine⟨(gI n s).1,(gI n s).2.1,(gI n s).2.2,rfl,EJ n s,?_⟩
 unfold gI
 split
 ·split
  ·exact Nat.zero_le _
  ·split
   ·exact Nat.zero_le _
   ·rw[List.length_take,Int.toNat_natCast];omega
 ·exact Nat.zero_le _
theorem QY (aq:Nat) (s:RS):∃(x b:List UInt8) (e:Int),fU aq s=(x,(b,e))/\b.length<=s.1.length/\x.length<=aq:=by
 obtain⟨n,b,e,en,h1,h2⟩:=sw aq s
 obtain⟨x,b2,e2,ex,h3,h4⟩:=RC n (b,e)
 refine⟨x,b2,e2,?_,Nat.le_trans h3 h2,Nat.le_trans h4 h1⟩
 unfold fU
 rw[en]
 exact ex
end Go.Proofs.YtafomdobfmmleaaGreatDoor

/- Lemmas and contracts. -/
namespace Go.Proofs.YtafomdobfmmleaaGreatDoor
open Go.RowKit
set_option linter.unusedVariables false
set_option maxRecDepth 20000
end Go.Proofs.YtafomdobfmmleaaGreatDoor

/- Lemmas and contracts. -/
namespace Go.Proofs.YtafomdobfmmleaaGreatDoor
open Go.RowKit
set_option linter.unusedVariables false
set_option maxRecDepth 20000
theorem Ds {e:Int} (h1:0<=e) (h2:e<18446744073709551616):IntKind.u64.wrap e=e:=by
 simp only[IntKind.wrap,IntKind.signed,IntKind.bits]
 simp
 omega
end Go.Proofs.YtafomdobfmmleaaGreatDoor

/- Lemmas and contracts. -/
namespace Go.Proofs.YtafomdobfmmleaaGreatDoor
open Go.RowKit
set_option linter.unusedVariables false
structure Rd1 {α:Type} (p:RS->α×RS):Prop where
 len:∀s,(p s).2.1.length<=s.1.length
 stay:∀s,¬s.2=0->¬(p s).2.2=0
structure Cd {α:Type} (p:RS->α×RS) (ok:α->Prop) (b:α->List UInt8):Prop extends Rd1 p where
 there:∀x r,ok x->p (b x++r,0)=(x,(r,0))
 back:∀t,(p (t,0)).2.2=0->ok (p (t,0)).1/\t=b (p (t,0)).1++(p (t,0)).2.1
theorem Rd1.ok {α:Type} {p:RS->α×RS} (h:Rd1 p) {s:RS} (e:(p s).2.2=0):s=(s.1,0):=by
 by_cases h0:s.2=0
 ·rw[<-h0]
 ·exact absurd e (h.stay s h0)
def bZ {α β:Type} (p:RS->α×RS) (q:α->RS->β×RS) (s:RS):(α×β)×RS:=(((p s).1,(q (p s).1 (p s).2).1),(q (p s).1 (p s).2).2)
def aT {α β:Type} (p:RS->α×RS) (q:RS->β×RS):RS->(α×β)×RS:=bZ p fun _=>q
def bg {α β:Type} (f:α->β) (p:RS->α×RS) (s:RS):β×RS:=(f (p s).1,(p s).2)
def gd {α:Type} (p:RS->α×RS) (f:α->Int) (s:RS):α×RS:=((p s).1,eX (f (p s).1) (p s).2)
def iV {α:Type} (p:RS->α×RS) (z:α) (s:RS):α×RS:=if(p s).2.2=0 then p s else(z,(p s).2)
theorem sy (k:Int) (s:RS):(eX k s).1=s.1:=by unfold eX;split<;>rfl
theorem Rd1.bind {α β:Type} {p:RS->α×RS} {q:α->RS->β×RS} (h:Rd1 p) (k:∀x,Rd1 (q x)):Rd1 (bZ p q):=
 ⟨fun s=>Nat.le_trans ((k _).len _) (h.len s),fun s hs=>(k _).stay _ (h.stay s hs)⟩
theorem Rd1.map {α β:Type} {p:RS->α×RS} (f:α->β) (h:Rd1 p):Rd1 (bg f p):=⟨h.len,h.stay⟩
theorem Rd1.guard {α:Type} {p:RS->α×RS} (f:α->Int) (h:Rd1 p):Rd1 (gd p f):=
 ⟨fun s=>by show(eX _ _).1.length<=_;rw[sy];exact h.len s,fun s hs=>by
   show ¬(eX _ _).2=0
   unfold eX
   rw[if_neg (h.stay s hs)]
   exact h.stay s hs⟩
theorem Rd1.zero {α:Type} {p:RS->α×RS} (z:α) (h:Rd1 p):Rd1 (iV p z):=
 ⟨fun s=>by unfold iV;split<;>exact h.len s,fun s hs=>by unfold iV;split<;>exact h.stay s hs⟩
theorem Cd.bind {α β:Type} {p:RS->α×RS} {q:α->RS->β×RS} {ok:α->Prop} {ok':α->β->Prop} {b:α->List UInt8} {b':α->β->List UInt8}
 (h:Cd p ok b) (k:∀x,Rd1 (q x)) (g:∀x,ok x->Cd (q x) (ok' x) (b' x)):Cd (bZ p q) (fun z=>ok z.1/\ok' z.1 z.2) (fun z=>b z.1++b' z.1 z.2) where
 toRd1:=h.toRd1.bind k
 there:=fun ⟨x,y⟩ r hh=>by
  show((_,_),_)=_
  rw[show(b x++b' x y++r)=b x++(b' x y++r) from List.append_assoc _ _ _,h.there x _ hh.1]
  show((x,(q x (b' x y++r,0)).1),(q x (b' x y++r,0)).2)=_
  rw[(g x hh.1).there y r hh.2]
 back:=fun t e=>by
  have e2:=(k _).ok (s:=(p (t,0)).2) e
  obtain⟨h1,h2⟩:=h.back t (by rw[e2])
  have e3:(q (p (t,0)).1 ((p (t,0)).2.1,0)).2.2=0:=by rw[<-e2];exact e
  obtain⟨g1,g2⟩:=(g _ h1).back _ e3
  rw[<-e2] at g1 g2
  refine⟨⟨h1,g1⟩,?_⟩
  show t=(b _++b' _ _)++_
  rw[List.append_assoc]
  conv=>lhs;rw[h2,g2]
  rfl
theorem Cd.pair {α β:Type} {p:RS->α×RS} {q:RS->β×RS} {ok:α->Prop} {ok':β->Prop} {b:α->List UInt8} {b':β->List UInt8}
 (h:Cd p ok b) (g:Cd q ok' b'):Cd (aT p q) (fun z=>ok z.1/\ok' z.2) (fun z=>b z.1++b' z.2):=
 h.bind (ok':=fun _=>ok') (b':=fun _=>b') (fun _=>g.toRd1) (fun _ _=>g)
theorem Cd.map {α β:Type} {p:RS->α×RS} {ok:α->Prop} {b:α->List UInt8} {ok':β->Prop} {b':β->List UInt8} (h:Cd p ok b) (f:α->β) (g:β->α)
 (h1:∀x,ok x->ok' (f x)/\b' (f x)=b x) (h2:∀y,ok' y->ok (g y)/\f (g y)=y):Cd (bg f p) ok' b' where
 toRd1:=h.toRd1.map f
 there:=fun y r hy=>by
  obtain⟨g1,g2⟩:=h2 y hy
  have h3:=h1 _ g1
  rw[g2] at h3
  show(f _,_)=_
  rw[h3.2,h.there _ r g1,g2]
 back:=fun t e=>by
  obtain⟨k1,k2⟩:=h.back t e
  obtain⟨h3,h4⟩:=h1 _ k1
  refine⟨h3,?_⟩
  show t=b' (f _)++_
  rw[h4]
  exact k2
theorem Cd.guard {α:Type} {p:RS->α×RS} {ok:α->Prop} {b:α->List UInt8} (h:Cd p ok b) (f:α->Int):Cd (gd p f) (fun x=>ok x/\f x=0) b where
 toRd1:=h.toRd1.guard f
 there:=fun x r hx=>by
  show(_,eX _ _)=_
  rw[h.there x r hx.1]
  show(x,eX (f x) (r,0))=_
  rw[hx.2]
  rfl
 back:=fun t e=>by
  have e:(eX (f (p (t,0)).1) (p (t,0)).2).2=0:=e
  have e1:(p (t,0)).2.2=0:=by
   by_cases h0:(p (t,0)).2.2=0
   ·exact h0
   ·unfold eX at e;rw[if_neg h0] at e;exact e
  have e2:f (p (t,0)).1=0:=by
   unfold eX at e;rw[if_pos e1] at e;exact e
  obtain⟨k1,k2⟩:=h.back t e1
  refine⟨⟨k1,e2⟩,?_⟩
  show t=b _++(eX _ _).1
  rw[sy]
  exact k2
theorem Cd.zero {α:Type} {p:RS->α×RS} {ok:α->Prop} {b:α->List UInt8} (h:Cd p ok b) (z:α):Cd (iV p z) ok b where
 toRd1:=h.toRd1.zero z
 there:=fun x r hx=>by
  unfold iV
  rw[h.there x r hx,if_pos rfl]
 back:=fun t e=>by
  have e1:(p (t,0)).2.2=0:=by
   by_cases h0:(p (t,0)).2.2=0
   ·exact h0
   ·unfold iV at e;rw[if_neg h0] at e;exact e
  have e2:iV p z (t,0)=p (t,0):=by unfold iV;rw[if_pos e1]
  rw[e2]
  exact h.back t e1
theorem Cd.as {α:Type} {p:RS->α×RS} {ok ok':α->Prop} {b b':α->List UInt8} (h:Cd p ok b) (h1:∀x,ok' x<->ok x) (h2:∀x,ok x->b' x=b x):Cd p ok' b' where
 toRd1:=h.toRd1
 there:=fun x r hx=>by rw[h2 x ((h1 x).1 hx)];exact h.there x r ((h1 x).1 hx)
 back:=fun t e=>by
  obtain⟨k1,k2⟩:=h.back t e
  exact⟨(h1 _).2 k1,by rw[h2 _ k1];exact k2⟩
def pR {α:Type} (x:α) (s:RS):α×RS:=(x,s)
theorem vA {α:Type} (x:α):Rd1 (pR x):=⟨fun s=>Nat.le_refl _,fun s h=>h⟩
theorem LN {α:Type} (x:α):Cd (pR x) (fun y=>y=x) (fun _=>[]) where
 toRd1:=vA x
 there:=fun y r h=>by rw[h];rfl
 back:=fun t e=>⟨rfl,rfl⟩
def nR (aq:Nat) (s:RS):Int×RS:=(((bL aq s).1:Int),(bL aq s).2)
theorem Ca (aq:Nat) (s:RS) (h:¬s.2=0):bL aq s=(0,s):=by unfold bL;rw[if_neg h]
theorem dK (aq:Nat):Rd1 (nR aq):=⟨vq aq,fun s h=>by show ¬(bL aq s).2.2=0;rw[Ca aq s h];exact h⟩
theorem iF (aq:Nat) (hm:aq<18446744073709551616):Cd (nR aq) (fun n=>0<=n/\n<=aq) aW where
 toRd1:=dK aq
 there:=fun n r ⟨h0,h1⟩=>by
  have e:=VY aq n.toNat 0 0 r (by omega) (by omega) (by omega) (by omega)
  rw[ku h0 (by omega)]
  unfold nR bL
  rw[if_pos rfl,e]
  simp
  omega
 back:=fun t e=>by
  have e:(bL aq (t,0)).2.2=0:=e
  have hle:=ug aq (t,0)
  unfold bL at e
  rw[if_pos rfl] at e
  split at e
  ·rename_i h0
   obtain⟨d,h1,h2,_⟩:=K7 aq t 0 0 _ _ (show dy aq 0 0 t=((dy aq 0 0 t).1,(dy aq 0 0 t).2.1,0) by rw[<-h0])
   have hn:bL aq (t,0)=((dy aq 0 0 t).1,((dy aq 0 0 t).2.1,0)):=by unfold bL;rw[if_pos rfl,if_pos h0]
   rw[hn] at hle
   have hle:(dy aq 0 0 t).1<=aq:=hle
   unfold nR
   rw[hn]
   refine⟨⟨by simp,by show(((dy aq 0 0 t).1:Nat):Int)<=aq;omega⟩,?_⟩
   show t=aW (((dy aq 0 0 t).1:Nat):Int)++(dy aq 0 0 t).2.1
   rw[ku (by omega) (by omega),Int.toNat_natCast,h1]
   simpa using h2
  ·rename_i h0
   exact absurd e h0
theorem LO (least:Int):bP least=iV (gd (nR MX) fun n=>if n<least then 100 else 0) 0:=by
 funext s
 obtain⟨n,b,e,en,hn,hb⟩:=sw MX s
 unfold bP iV gd nR eX
 rw[en]
 simp only
 by_cases he:e=0
 ·subst he
  by_cases hl:(n:Int)<least
  ·simp[hl]
  ·simp[hl]
 ·simp[he]
theorem cY (least:Int):Rd1 (bP least):=by rw[LO];exact((dK MX).guard _).zero _
theorem iD (least:Int) (h0:0<=least):Cd (bP least) (fun n=>least<=n/\n<=9007199254740992) aW:=by
 rw[LO]
 refine(((iF MX (by decide)).guard _).zero _).as (fun n=>?_) (fun _ _=>rfl)
 have hM:((MX:Nat):Int)=9007199254740992:=rfl
 rw[hM]
 constructor
 ·intro h;exact⟨⟨by omega,by omega⟩,by rw[if_neg (by omega)]⟩
 ·intro ⟨⟨h1,h2⟩,h3⟩
  refine⟨?_,h2⟩
  by_cases hl:n<least
  ·rw[if_pos hl] at h3;cases h3
  ·omega
theorem Cv (c:Bool) (s:RS):jX c s=eX (if c then 0 else 100) s:=by
 obtain⟨b,e⟩:=s
 unfold jX eX
 cases c
 ·simp
 ·simp
theorem LP (aq:Int):kT aq=iV (gd (bP 0) fun n=>if n<=aq then 0 else 100) 0:=by
 funext s
 unfold kT iV gd
 rw[Cv]
 have e:(if decide ((bP 0 s).1<=aq)=true then(0:Int) else 100)=if(bP 0 s).1<=aq then 0 else 100:=by simp
 rw[e]
theorem Cw (aq:Int):Rd1 (kT aq):=by rw[LP];exact((cY 0).guard _).zero _
theorem LQ (aq:Int) (hm:aq<=4096):Cd (kT aq) (fun n=>0<=n/\n<=aq) aW:=by
 rw[LP]
 refine(((iD 0 (by decide)).guard _).zero _).as (fun n=>?_) (fun _ _=>rfl)
 constructor
 ·intro h;exact⟨⟨h.1,by omega⟩,if_pos h.2⟩
 ·intro ⟨⟨h1,h2⟩,h3⟩
  refine⟨h1,?_⟩
  by_cases hl:n<=aq
  ·exact hl
  ·rw[if_neg hl] at h3;cases h3
theorem J7 (n:Int) (s:RS) (h:¬s.2=0):gI n s=([],s):=by unfold gI;rw[if_neg h]
theorem LR (n:Int):Rd1 (gI n):=⟨EJ n,fun s h=>by rw[J7 n s h];exact h⟩
theorem Tg (x r:List UInt8):gI ((x.length:Nat):Int) (x++r,0)=(x,(r,0)):=by
 unfold gI
 rw[if_pos rfl,if_neg (by omega),if_neg (by simp only[List.length_append];omega),Int.toNat_natCast]
 simp
theorem R9 {n:Nat} {t:List UInt8} (h:(gI (n:Int) (t,0)).2.2=0):t=(gI (n:Int) (t,0)).1++(gI (n:Int) (t,0)).2.1/\(gI (n:Int) (t,0)).1.length=n:=by
 unfold gI at h ⊢
 rw[if_pos rfl,if_neg (by omega)] at h ⊢
 split at h
 ·cases h
 ·rename_i hl
  rw[if_neg hl,Int.toNat_natCast]
  refine⟨(List.take_append_drop _ _).symm,?_⟩
  simp only[List.length_take] at hl ⊢
  have hl:¬(t.length:Int)<(n:Int):=hl
  omega
theorem ju (aq:Nat):Rd1 (fU aq):=
 ⟨RA aq,fun s h=>by
   unfold fU
   exact(LR _).stay _ ((dK aq).stay s h)⟩
theorem qZ (aq:Nat) (hm:aq<=4194304):Cd (fU aq) (fun x=>x.length<=aq) bB where
 toRd1:=ju aq
 there:=fun x r hx=>by
  have e:=(iF aq (by omega)).there (x.length:Int) (x++r) ⟨by omega,by omega⟩
  rw[ku (by omega) (by omega),Int.toNat_natCast] at e
  have e1:bL aq (enc x.length++(x++r),0)=(x.length,(x++r,0)):=by
   have h1:=congrArg Prod.fst e
   have h2:=congrArg Prod.snd e
   have h1:(((bL aq (enc x.length++(x++r),0)).1:Nat):Int)=((x.length:Nat):Int):=h1
   exact Prod.ext (by omega) h2
  unfold fU bB
  rw[List.append_assoc,e1]
  exact Tg x r
 back:=fun t e=>by
  have e2:=(LR _).ok (s:=(bL aq (t,0)).2) e
  obtain⟨⟨h0,h1⟩,h2⟩:=(iF aq (by omega)).back t (by show(bL aq (t,0)).2.2=0;rw[e2])
  have h1:(((bL aq (t,0)).1:Nat):Int)<=(aq:Int):=h1
  have h2:t=aW ((bL aq (t,0)).1:Int)++(bL aq (t,0)).2.1:=h2
  have e3:(gI ((bL aq (t,0)).1:Int) ((bL aq (t,0)).2.1,0)).2.2=0:=by rw[<-e2];exact e
  obtain⟨g1,g2⟩:=R9 e3
  rw[<-e2] at g1 g2
  refine⟨by show(gI _ _).1.length<=_;rw[g2];omega,?_⟩
  rw[ku (by omega) (by omega),Int.toNat_natCast] at h2
  show t=bB (gI _ _).1++(gI _ _).2.1
  unfold bB
  rw[g2,List.append_assoc,<-g1]
  exact h2
theorem Fx {α:Type} {p:RS->α×RS} (h:Rd1 p) (n:Nat) (s:RS) (hs:¬s.2=0):¬(aV p n s).2.2=0:=by rw[sC p n s hs];exact hs
theorem Av {α:Type} {p:RS->α×RS} (h:Rd1 p) (n:Nat):Rd1 (aV p n):=⟨Ab h.len n,Fx h n⟩
theorem F1 {α:Type} {p:RS->α×RS} {ok:α->Prop} {b:α->List UInt8} (h:Cd p ok b):∀(l:List α) (r:List UInt8),(∀x∈l,ok x)->aV p l.length (l.flatMap b++r,0)=(l,(r,0))
 |[],r,_=>rfl
 |x::l,r,hx=>by
  rw[List.length_cons,aV,if_pos rfl,List.flatMap_cons,List.append_assoc,h.there x _ (hx x (.head _))]
  show(x::(aV p l.length (l.flatMap b++r,0)).1,(aV p l.length (l.flatMap b++r,0)).2)=_
  rw[F1 h l r fun y hy=>hx y (.tail _ hy)]
theorem Fy {α:Type} {p:RS->α×RS} {ok:α->Prop} {b:α->List UInt8} (h:Cd p ok b):∀(n:Nat) (t:List UInt8),(aV p n (t,0)).2.2=0->(∀x∈(aV p n (t,0)).1,ok x)/\(aV p n (t,0)).1.length=n/\t=(aV p n (t,0)).1.flatMap b++(aV p n (t,0)).2.1
 |0,t,_=>⟨fun x hx=>(List.not_mem_nil hx).elim,rfl,rfl⟩
 |n+1,t,e=>by
  have e1:aV p (n+1) (t,0)=((p (t,0)).1::(aV p n (p (t,0)).2).1,(aV p n (p (t,0)).2).2):=by rw[aV,if_pos rfl]
  rw[e1] at e ⊢
  have e:(aV p n (p (t,0)).2).2.2=0:=e
  have e2:=(Av h.toRd1 n).ok (s:=(p (t,0)).2) e
  obtain⟨h1,h2⟩:=h.back t (by rw[e2])
  have e3:(aV p n ((p (t,0)).2.1,0)).2.2=0:=by rw[<-e2];exact e
  obtain⟨g1,g2,g3⟩:=Fy h n _ e3
  rw[<-e2] at g1 g2 g3
  refine⟨fun x hx=>?_,by simp[g2],?_⟩
  ·rcases List.mem_cons.1 hx with rfl|hx
   ·exact h1
   ·exact g1 x hx
  ·show t=(_::_).flatMap b++_
   rw[List.flatMap_cons,List.append_assoc,<-g3]
   exact h2
theorem WJ {α:Type} {p:RS->α×RS} {ok:α->Prop} {b:α->List UInt8} {c:RS->Int×RS} {aq:Int} (hc:Cd c (fun n=>0<=n/\n<=aq) aW) (hm:aq<=4096) (h:Cd p ok b):
 Cd (fun s=>aV p (c s).1.toNat (c s).2) (fun l=>(l.length:Int)<=aq/\∀x∈l,ok x) (jF b) where
 len:=fun s=>Nat.le_trans (Ab h.len _ _) (hc.len s)
 stay:=fun s hs=>Fx h.toRd1 _ _ (hc.stay s hs)
 there:=fun l r hl=>by
  unfold jF
  rw[List.append_assoc,hc.there _ _ ⟨by omega,hl.1⟩]
  show aV p ((l.length:Nat):Int).toNat _=_
  rw[Int.toNat_natCast]
  exact F1 h l r hl.2
 back:=fun t e=>by
  have e:(aV p (c (t,0)).1.toNat (c (t,0)).2).2.2=0:=e
  have e2:=(Av h.toRd1 _).ok (s:=(c (t,0)).2) e
  obtain⟨⟨h0,h1⟩,h2⟩:=hc.back t (by rw[e2])
  have e3:(aV p (c (t,0)).1.toNat ((c (t,0)).2.1,0)).2.2=0:=by rw[<-e2];exact e
  obtain⟨g1,g2,g3⟩:=Fy h _ _ e3
  rw[<-e2] at g1 g2 g3
  refine⟨⟨?_,g1⟩,?_⟩
  ·show(((aV p (c (t,0)).1.toNat (c (t,0)).2).1.length:Nat):Int)<=aq
   rw[g2];omega
  ·show t=jF b (aV p (c (t,0)).1.toNat (c (t,0)).2).1++_
   unfold jF
   rw[g2,Int.toNat_of_nonneg h0,List.append_assoc,<-g3]
   exact h2
theorem nD {α:Type} {p:RS->α×RS} (h:Rd1 p) (aq:Int):Rd1 (dR p aq):=
 ⟨fun s=>Nat.le_trans (Ab h.len _ _) ((Cw aq).len s),fun s hs=>Fx h _ _ ((Cw aq).stay s hs)⟩
theorem vB {α:Type} {p:RS->α×RS} {ok:α->Prop} {b:α->List UInt8} (h:Cd p ok b) (aq:Int) (hm:aq<=4096):Cd (dR p aq) (fun l=>(l.length:Int)<=aq/\∀x∈l,ok x) (jF b):=
 WJ (LQ aq hm) hm h
structure Pc {α:Type} (p:List UInt8->α×Int) (ok:α->Prop) (b:α->List UInt8):Prop where
 there:∀x,ok x->p (b x)=(x,0)
 back:∀t,(p t).2=0->ok (p t).1/\t=b (p t).1
theorem Sa {s:RS} (h:gy s=0):s=([],0):=by
 obtain⟨b,e⟩:=s
 unfold gy at h
 by_cases he:e=0
 ·rw[if_pos he] at h
  by_cases hb:b=[]
  ·rw[he,hb]
  ·rw[if_neg hb] at h;cases h
 ·rw[if_neg he] at h;exact absurd h he
end Go.Proofs.YtafomdobfmmleaaGreatDoor

/- Lemmas and contracts. -/
namespace Go.Proofs.YtafomdobfmmleaaGreatDoor
open Go.RowKit
set_option linter.unusedVariables false
theorem Rd1.get {α:Type} {p:RS->α×RS} (h:Rd1 p) (s:RS):∃(x:α) (b:List UInt8) (e:Int),p s=(x,(b,e))/\b.length<=s.1.length:=⟨_,_,_,rfl,h.len s⟩
theorem Rd1.pair {α β:Type} {p:RS->α×RS} {q:RS->β×RS} (h:Rd1 p) (k:Rd1 q):Rd1 (aT p q):=h.bind fun _=>k
def mV {α:Type} (p:RS->α×RS):Nat->RS->List α×RS
 |0=>pR []
 |n+1=>bg (fun z=>z.1::z.2) (aT p (mV p n))
theorem CP {α:Type} {p:RS->α×RS} (h:Rd1 p):∀n,Rd1 (mV p n)
 |0=>vA _
 |n+1=>(h.pair (CP h n)).map _
def nI (k:Int):RS->bF×RS:=
 if k=0 then pR ⟨0,[],[],0,[]⟩
 else if k=1 then bg (fun t=>⟨1,t,[],0,[]⟩) (fU 64)
 else if k=2 then bg (fun z=>⟨2,z.1,[],0,z.2⟩) (aT (fU 64) (bg Prod.snd (bZ (nR 4) fun n=>mV (fU 64) n.toNat)))
 else if k=3 then bg (fun z=>⟨3,z.1,z.2.1,z.2.2,[]⟩) (aT (fU 64) (aT (fU 64) (nR MX)))
 else bg (fun z=>⟨k,z.1,[],z.2,[]⟩) (aT (fU 64) (nR MX))
theorem J8 (k:Int):Rd1 (nI k):=by
 unfold nI
 repeat' split
 ·exact vA _
 ·exact(ju _).map _
 ·exact((ju _).pair (((dK 4).bind fun n=>CP (ju 64) _).map _)).map _
 ·exact((ju _).pair ((ju _).pair (dK _))).map _
 ·exact((ju _).pair (dK _)).map _
def dw:RS->bF×RS:=iV (gd (bg Prod.snd (bZ (nR 4) nI)) cw) bU
theorem Gf:Rd1 dw:=((((dK 4).bind J8).map _).guard _).zero _
def rA:RS->lT×RS:=iV (bg (fun z=>⟨z.1,z.2⟩) (aT (nR 65536) (nR MX))) ud
theorem J9:Rd1 rA:=(((dK _).pair (dK _)).map _).zero _
theorem Fz:fm=iV (gd (bg (fun z=>⟨z.1,z.2⟩) (aT (nR 20) (nR MX))) fun s=>if s.an=0 then 81 else 0) dD:=by
 funext s
 obtain⟨n,b,e,en,hn,hb⟩:=sw 20 s
 obtain⟨m,b2,e2,em,hm,fO⟩:=sw MX (b,e)
 unfold fm iV gd bg aT bZ nR eX
 simp only[en,em]
 by_cases he:e2=0
 ·subst he
  by_cases hm:m=0
  ·simp[hm]
  ·simp[hm]
 ·simp[he]
theorem j7:Rd1 fm:=by rw[Fz];exact((((dK _).pair (dK _)).map _).guard _).zero _
def yV:jg:=⟨0,0,bU⟩
def xy:RS->jg×RS:=bg (fun z=>⟨z.1,z.2.1,z.2.2⟩) (aT (nR 7) (aT (nR MX) dw))
def kW (b:List UInt8):jg×Int:=
 if gy (xy (b,0)).2=0 then(if(xy (b,0)).1.time=0 then(yV,80) else((xy (b,0)).1,0)) else(yV,gy (xy (b,0)).2)
def lZ:RS->cq×RS:=bg (fun z=>⟨(kW z.1).1,z.2⟩) (aT (gd (fU 1024) fun x=>(kW x).2) fm)
theorem Ka:Rd1 lZ:=(((ju _).guard _).pair j7).map _
def jW:RS->List cq×RS:=iV (gd (bg Prod.snd (bZ (nR 4) fun n=>aV lZ n.toNat)) fZ) []
theorem tU:Rd1 jW:=((((dK 4).bind fun n=>Av Ka _).map _).guard _).zero _
theorem LS:pO=bg (fun z=>⟨z.1.1,z.1.2,z.2⟩) (bZ (gd (aT (bP 0) (bP 0)) fun z=>if(z.1==0)==(z.2==0) then 0 else 100) fun z=>dR fm (if z.1=0 then 0 else 13)):=by
 funext s
 unfold pO bg bZ gd aT bZ
 simp only[Cv]
theorem xz:Rd1 pO:=by rw[LS];exact((((cY _).pair (cY _)).guard _).bind fun z=>nD j7 _).map _
def uD:RS->List bH×RS:=dR fm 13
def jN:RS->gq×RS:=bg (fun z=>⟨z.1,z.2.1,z.2.2.1,z.2.2.2.1,z.2.2.2.2.1,z.2.2.2.2.2⟩) (aT (bP 0) (aT (bP 1) (aT (bP 1) (aT fm (aT uD jW)))))
theorem FA:Rd1 jN:=((cY _).pair ((cY _).pair ((cY _).pair (j7.pair ((nD j7 _).pair tU))))).map _
def iY:RS->cX×RS:=bg (fun z=>⟨z.1,z.2.1,z.2.2.1,z.2.2.2.1,z.2.2.2.2⟩) (aT (bP 1) (aT (nR 12) (aT pO (aT (dR jN 8) fm))))
theorem Ah:Rd1 iY:=((cY _).pair ((dK _).pair (xz.pair ((nD FA _).pair j7)))).map _
def jB:RS->gH×RS:=bg (fun z=>⟨z.1,z.2.1,z.2.2.1,z.2.2.2⟩) (aT (bP 0) (aT (bP 1) (aT jW fm)))
theorem E9:Rd1 jB:=((cY _).pair ((cY _).pair (tU.pair j7))).map _
def jO:RS->iS×RS:=bg (fun z=>⟨z.1,z.2.1,z.2.2.1,z.2.2.2.1,z.2.2.2.2⟩) (aT (bP 1) (aT (bP 0) (aT (bP 0) (aT (bP 0) (bP 0)))))
theorem FB:Rd1 jO:=((cY _).pair ((cY _).pair ((cY _).pair ((cY _).pair (cY _))))).map _
def pS:RS->List UInt8×RS:=gd (fU 64) nN
theorem Cy:Rd1 pS:=(ju _).guard _
def uE:RS->jL×RS:=
 bg (fun z=>⟨z.1.1,z.1.2.1,z.1.2.2.1,z.1.2.2.2.1,z.1.2.2.2.2.1,z.1.2.2.2.2.2,z.2.1,z.2.2⟩)
  (aT (gd (aT pS (aT (bP 0) (aT (fU 64) (aT (dR jO 64) (aT (bP 0) (kT 16)))))) fun z=>if z.2.2.2.2.1<z.2.2.2.2.2 then 0 else 100) (aT (dR (bP 0) 8) pO))
theorem KU:Rd1 uE:=(((Cy.pair ((cY _).pair ((ju _).pair ((nD FB _).pair ((cY _).pair (Cw _)))))).guard _).pair ((nD (cY _) _).pair xz)).map _
def rH:RS->(Int×Int×Int×Int)×RS:=aT (nR 12) (aT (bP 0) (aT (bP 1) (bP 1)))
theorem xk:Rd1 rH:=(dK _).pair ((cY _).pair ((cY _).pair (cY _)))
def fQ (k:Int):RS->aN×RS:=
 if k=1 then bg (fun l=>{aO with kind:=1,batch:=l}) (gd jW fun l=>if l.length=1 then 0 else 100)
 else if k=2 then bg (fun z=>{aO with kind:=2,src:=z.1.1,view:=z.1.2.1,seq:=z.1.2.2.1,an:=z.1.2.2.2,batch:=z.2}) (aT rH jW)
 else if k=3 then bg (fun z=>{aO with kind:=3,src:=z.1,view:=z.2.1,seq:=z.2.2.1,an:=z.2.2.2}) rH
 else if k=4 then bg (fun z=>{aO with kind:=4,src:=z.1,view:=z.2.1,seq:=z.2.2.1,an:=z.2.2.2}) rH
 else if k=5 then bg (fun z=>{aO with kind:=5,src:=z.1,view:=z.2.1,aQ:=z.2.2.1,time:=z.2.2.2.1,result:=z.2.2.2.2}) (aT (nR 12) (aT (bP 0) (aT (nR 7) (aT (bP 0) rA))))
 else if k=6 then bg (fun z=>{aO with kind:=6,src:=z.1,seq:=z.2.1,an:=z.2.2}) (aT (nR 12) (aT (bP 1) (bP 1)))
 else if k=7 then bg (fun c=>{aO with kind:=7,src:=c.src,view:=c.view,changes:=[c]}) iY
 else if k=8 then bg (fun z=>{aO with kind:=8,src:=z.1,view:=z.2.1,changes:=z.2.2.1,entries:=z.2.2.2}) (aT (nR 12) (aT (bP 1) (aT (dR iY 13) (dR jB 8))))
 else if k=9 then bg (fun z=>{aO with kind:=9,src:=z.1,seq:=z.2}) (aT (nR 12) (bP 0))
 else if k=10 then bg (fun z=>{aO with kind:=10,src:=z.1,cert:=z.2.1,state:=z.2.2}) (aT (nR 12) (aT pO (fU 262144)))
 else if k=11 then bg (fun z=>{aO with kind:=11,aQ:=z.1,av:=z.2.1,offset:=z.2.2}) (aT (nR 7) (aT pS (bP 0)))
 else if k=12 then bg (fun z=>{aO with kind:=12,src:=z.1,proof:=z.2}) (aT (nR 12) uE)
 else gd (pR {aO with kind:=k}) fun _=>100
theorem pM {α:Type} {c:Prop} [Decidable c] {p q:RS->α×RS} (h:Rd1 p) (k:Rd1 q):Rd1 (if c then p else q):=by split<;>assumption
theorem KV (k:Int):Rd1 (fQ k):=by
 unfold fQ
 refine pM ((tU.guard _).map _) ?_
 refine pM ((xk.pair tU).map _) ?_
 refine pM (xk.map _) ?_
 refine pM (xk.map _) ?_
 refine pM (((dK _).pair ((cY _).pair ((dK _).pair ((cY _).pair J9)))).map _) ?_
 refine pM (((dK _).pair ((cY _).pair (cY _))).map _) ?_
 refine pM (Ah.map _) ?_
 refine pM (((dK _).pair ((cY _).pair ((nD Ah _).pair (nD E9 _)))).map _) ?_
 refine pM (((dK _).pair (cY _)).map _) ?_
 refine pM (((dK _).pair (xz.pair (ju _))).map _) ?_
 refine pM (((dK _).pair (Cy.pair (cY _))).map _) ?_
 refine pM (((dK _).pair KU).map _) ?_
 exact(vA _).guard _
def kf (k:Int):RS->bH×RS:=if dc k then fm else pR dD
theorem LU (k:Int):Rd1 (kf k):=by
 unfold kf
 split
 ·exact j7
 ·exact vA _
def bN:RS->aN×RS:=bg (fun z=>{z.2.1 with sign:=z.2.2}) (bZ (nR MX) fun k=>aT (fQ k) (kf k))
theorem WK:Rd1 bN:=((dK _).bind fun k=>(KV k).pair (LU k)).map _
def ZB:cX:=⟨0,0,yf,[],dD⟩
end Go.Proofs.YtafomdobfmmleaaGreatDoor

/- Lemmas and contracts. -/
namespace Go.Proofs.YtafomdobfmmleaaGreatDoor
open Go.RowKit
set_option linter.unusedVariables false
section
variable {α β:Type} {p:RS->α×RS} {s t u:RS} {x:α}
end
end Go.Proofs.YtafomdobfmmleaaGreatDoor

/- Lemmas and contracts. -/
namespace Go.Proofs.YtafomdobfmmleaaGreatDoor
open Go.RowKit
set_option linter.unusedVariables false
theorem Nh {α:Type} {p:RS->α×RS} {ok:α->Prop} {b:α->List UInt8} (h:Cd p ok b) (n:Nat):Cd (aV p n) (fun l=>l.length=n/\∀x∈l,ok x) (fun l=>l.flatMap b) where
 toRd1:=Av h.toRd1 n
 there:=fun l r hl=>by rw[<-hl.1];exact F1 h l r hl.2
 back:=fun t e=>by
  obtain⟨h1,h2,h3⟩:=Fy h n t e
  exact⟨⟨h2,h1⟩,h3⟩
theorem MO {α:Type} {p:RS->α×RS} {ok:α->Prop} {b:α->List UInt8} (h:Cd p ok b):∀n,Cd (mV p n) (fun l=>l.length=n/\∀x∈l,ok x) (fun l=>l.flatMap b)
 |0=>{toRd1:=vA _,there:=fun l r hl=>by rw[List.eq_nil_of_length_eq_zero hl.1];rfl,back:=fun t e=>⟨⟨rfl,fun x hx=>(List.not_mem_nil hx).elim⟩,rfl⟩}
 |n+1=>by
  have ih:=MO h n
  have e:=h.pair ih
  refine{toRd1:=CP h.toRd1 _,there:=fun l r hl=>?_,back:=fun t hb=>?_}
  ·cases l with
   |nil=>simp at hl
   |cons x l=>
    have:=e.there (x,l) r ⟨hl.2 x (.head _),by simpa using hl.1,fun y hy=>hl.2 y (.tail _ hy)⟩
    show bg _ (aT p (mV p n)) _=_
    unfold bg
    rw[List.flatMap_cons,this]
  ·obtain⟨h1,h2⟩:=e.back t hb
   refine⟨⟨congrArg Nat.succ h1.2.1,fun y hy=>?_⟩,?_⟩
   ·rcases List.mem_cons.1 hy with e|hy
    ·rw[e];exact h1.1
    ·exact h1.2.2 y hy
   ·show t=List.flatMap b (_::_)++_
    rw[List.flatMap_cons]
    exact h2
theorem MP {α:Type} {c:RS->Int×RS} {aq:Int} (hc:Cd c (fun n=>0<=n/\n<=aq) aW) {q:Nat->RS->List α×RS} {ok:α->Prop} {b:α->List UInt8} (hq:∀n,Cd (q n) (fun l=>l.length=n/\∀x∈l,ok x) (fun l=>l.flatMap b)):
 Cd (bg Prod.snd (bZ c fun n=>q n.toNat)) (fun l=>(l.length:Int)<=aq/\∀x∈l,ok x) (jF b):=
 (hc.bind (ok':=fun (n:Int) l=>l.length=n.toNat/\∀x∈l,ok x) (b':=fun _ l=>l.flatMap b) (fun n=>(hq _).toRd1) (fun n _=>hq _)).map Prod.snd (fun l=>((l.length:Int),l))
   (fun z ⟨⟨h0,h1⟩,h2,h3⟩=>⟨⟨by show((z.2.length:Nat):Int)<=aq;rw[h2];omega,h3⟩,by show jF b z.2=aW z.1++z.2.flatMap b;unfold jF;rw[h2,Int.toNat_of_nonneg h0]⟩)
   (fun l ⟨h1,h2⟩=>⟨⟨⟨by show(0:Int)<=((l.length:Nat):Int);omega,h1⟩,by show l.length=((l.length:Nat):Int).toNat;rw[Int.toNat_natCast],h2⟩,rfl⟩)
def pN (o:bF):List UInt8:=
 (if o.kind=0 then[] else bB o.av)++(if o.kind=2 then enc o.records.length++o.records.flatMap bB else if o.kind=3 then bB o.group++enc o.offset.toNat else if o.kind=4 then enc o.offset.toNat else[])
structure tg (k:Int) (o:bF):Prop where
 kind:o.kind=k
 only:o=kF o
 av:o.av.length<=64
 group:o.group.length<=64
 DF:o.records.length<=4/\∀r∈o.records,r.length<=64
 off:0<=o.offset/\o.offset<=9007199254740992
theorem NC {o:bF} (h:o=kF o) (k:o.kind=0):o=⟨0,[],[],0,[]⟩:=by rw[h];simp[kF,k]
theorem ND {o:bF} (h:o=kF o) (k:o.kind=1):(⟨1,o.av,[],0,[]⟩:bF)=o:=by
 conv=>rhs;rw[h]
 simp[kF,k]
theorem NF {o:bF} (h:o=kF o) (k:o.kind=2):(⟨2,o.av,[],0,o.records⟩:bF)=o:=by
 conv=>rhs;rw[h]
 simp[kF,k]
theorem NG {o:bF} (h:o=kF o) (k:o.kind=3):(⟨3,o.av,o.group,o.offset,[]⟩:bF)=o:=by
 conv=>rhs;rw[h]
 simp[kF,k]
theorem NH {o:bF} (h:o=kF o) (k:o.kind=4):(⟨4,o.av,[],o.offset,[]⟩:bF)=o:=by
 conv=>rhs;rw[h]
 simp[kF,k]
theorem uF:((MX:Nat):Int)=9007199254740992:=rfl
theorem JE (n:Nat) (h:n<18446744073709551616):aW ((n:Nat):Int)=enc n:=by rw[ku (by omega) (by omega),Int.toNat_natCast]
theorem xd (k:Int) (h:0<=k/\k<=4):Cd (nI k) (tg k) pN:=by
 have hk:k=0\/k=1\/k=2\/k=3\/k=4:=by omega
 have nx:=iF MX (by decide)
 rcases hk with rfl|rfl|rfl|rfl|rfl
 ·refine(LN _).as (fun o=>⟨fun h=>NC h.only h.kind,fun h=>?_⟩) (fun o h=>by rw[h];rfl)
  rw[h]
  exact⟨rfl,rfl,by simp,by simp,by simp,by simp⟩
 ·exact(qZ 64 (by decide)).map (ok':=tg 1) (b':=pN) (fun t=>⟨1,t,[],0,[]⟩) (fun o=>o.av) (fun t ht=>⟨⟨rfl,rfl,ht,by simp,by simp,by simp⟩,by simp[pN]⟩) (fun o h=>⟨h.av,ND h.only h.kind⟩)
 ·refine((qZ 64 (by decide)).pair (MP (iF 4 (by decide)) (MO (qZ 64 (by decide))))).map (ok':=tg 2) (b':=pN) (fun z=>⟨2,z.1,[],0,z.2⟩) (fun o=>(o.av,o.records)) (fun z ⟨h1,h2,h3⟩=>⟨⟨rfl,rfl,h1,by simp,⟨?_,h3⟩,by simp⟩,?_⟩) (fun o h=>⟨⟨h.av,?_,h.DF.2⟩,NF h.only h.kind⟩)
  ·have h2:((z.2.length:Nat):Int)<=((4:Nat):Int):=h2
   show z.2.length<=4
   omega
  ·have h2:((z.2.length:Nat):Int)<=((4:Nat):Int):=h2
   simp only[pN,jF]
   rw[JE _ (by omega)]
   simp
  ·have:=h.DF.1
   show((o.records.length:Nat):Int)<=((4:Nat):Int)
   omega
 ·refine((qZ 64 (by decide)).pair ((qZ 64 (by decide)).pair nx)).map (ok':=tg 3) (b':=pN) (fun z=>⟨3,z.1,z.2.1,z.2.2,[]⟩) (fun o=>(o.av,o.group,o.offset)) (fun z ⟨h1,h2,h3,h4⟩=>⟨⟨rfl,rfl,h1,h2,by simp,⟨h3,h4⟩⟩,?_⟩) (fun o h=>⟨⟨h.av,h.group,h.off⟩,NG h.only h.kind⟩)
  rw[uF] at h4
  simp only[pN]
  rw[ku h3 (by omega)]
  simp
 ·refine((qZ 64 (by decide)).pair nx).map (ok':=tg 4) (b':=pN) (fun z=>⟨4,z.1,[],z.2,[]⟩) (fun o=>(o.av,o.offset)) (fun z ⟨h1,h3,h4⟩=>⟨⟨rfl,rfl,h1,by simp,by simp,⟨h3,h4⟩⟩,?_⟩) (fun o h=>⟨⟨h.av,h.off⟩,NH h.only h.kind⟩)
  rw[uF] at h4
  simp only[pN]
  rw[ku h3 (by omega)]
  simp
theorem Ng {o:bF} (h:cw o=0):tg o.kind o:=by
 obtain⟨h1,h2,h3,h4,h5⟩:=Gg h
 have h0:=h
 unfold cw at h
 split at h
 ·cases h
 split at h
 ·cases h
 split at h
 ·cases h
 split at h
 ·cases h
 rename_i a1 a2 a3 a4
 have hk:o.kind=0\/o.kind=1\/o.kind=2\/o.kind=3\/o.kind=4:=by omega
 have nt:o.kind≠0->o.av.length<=64:=fun hk=>zH (by
  cases hn:dQ o.av with
  |true=>rfl
  |false=>exact absurd ⟨hk,hn⟩ a2)
 have ng:o.kind=3->o.group.length<=64:=fun hk=>zH (by
  cases hn:dQ o.group with
  |true=>rfl
  |false=>exact absurd ⟨hk,hn⟩ a3)
 have nr:o.kind=2->∀r∈o.records,r.length<=64:=fun hk r hr=>by
  have:¬vZ o=true:=fun e=>a4 ⟨hk,.inr (.inr e)⟩
  unfold vZ at this
  simp at this
  exact this r hr
 rcases hk with k|k|k|k|k
 ·have e:=NC h2 k
  refine⟨rfl,h2,?_,?_,?_,⟨h3,h4⟩⟩<;>rw[e]<;>simp
 ·have e:=ND h2 k
  refine⟨rfl,h2,nt (by omega),?_,?_,⟨h3,h4⟩⟩<;>rw[<-e]<;>simp
 ·have e:=NF h2 k
  refine⟨rfl,h2,nt (by omega),?_,⟨h5 k,nr k⟩,⟨h3,h4⟩⟩
  rw[<-e];simp
 ·have e:=NG h2 k
  refine⟨rfl,h2,nt (by omega),ng k,?_,⟨h3,h4⟩⟩
  rw[<-e];simp
 ·have e:=NH h2 k
  refine⟨rfl,h2,nt (by omega),?_,?_,⟨h3,h4⟩⟩<;>rw[<-e]<;>simp
theorem Gc:Cd dw (fun o=>cw o=0) cy:=by
 have h:=(iF 4 (by decide)).bind (ok':=tg) (b':=fun _=>pN) J8 (fun k hk=>xd k hk)
 have h2:=h.map (ok':=fun o=>(0<=o.kind/\o.kind<=4)/\tg o.kind o) (b':=fun o=>aW o.kind++pN o) Prod.snd (fun o=>(o.kind,o))
  (fun z ⟨h1,h2⟩=>by have e:=h2.kind;refine⟨⟨by rw[e];exact h1,by rw[e];exact h2⟩,by show aW z.2.kind++_=_;rw[e]⟩) (fun o hh=>⟨hh,rfl⟩)
 refine((h2.guard cw).zero bU).as (fun o=>⟨fun h=>⟨⟨(Gg h).1,Ng h⟩,h⟩,fun h=>h.2⟩) (fun o h=>?_)
 have:=h.1.1
 unfold cy
 rw[ku this.1 (by omega)]
 unfold pN
 rw[List.append_assoc]
theorem Sb:Cd rA (fun r=>(0<=r.err/\r.err<=65536)/\(0<=r.offset/\r.offset<=9007199254740992)) sE:=by
 refine((((iF 65536 (by decide)).pair (iF MX (by decide))).map (ok':=fun r:lT=>(0<=r.err/\r.err<=65536)/\(0<=r.offset/\r.offset<=9007199254740992)) (b':=sE) (fun z=>⟨z.1,z.2⟩) (fun r=>(r.err,r.offset)) (fun z ⟨h1,h2⟩=>⟨⟨h1,h2⟩,?_⟩) (fun r h=>⟨h,rfl⟩)).zero _)
 have h3:z.2<=9007199254740992:=h2.2
 have h4:z.1<=65536:=h1.2
 show enc (max z.1 0).toNat++enc (max z.2 0).toNat=aW z.1++aW z.2
 rw[ku h1.1 (by omega),ku h2.1 (by omega),Int.max_eq_left h1.1,Int.max_eq_left h2.1]
theorem vC:Cd fm (fun s=>dZ s=0) dj:=by
 rw[Fz]
 refine(((((iF 20 (by decide)).pair (iF MX (by decide))).map (ok':=fun s:bH=>(0<=s.key/\s.key<=20)/\(0<=s.an/\s.an<=9007199254740992)) (b':=oG) (fun z=>⟨z.1,z.2⟩) (fun s=>(s.key,s.an)) (fun z ⟨h1,h2⟩=>⟨⟨h1,h2⟩,?_⟩) (fun s h=>⟨h,rfl⟩)).guard _).zero _).as (fun s=>?_) (fun s h=>?_)
 ·have h3:z.2<=9007199254740992:=h2.2
  have h4:z.1<=20:=h1.2
  show enc z.1.toNat++enc z.2.toNat=_
  rw[ku h1.1 (by omega),ku h2.1 (by omega)]
 ·rw[Fl]
  constructor
  ·intro h;exact⟨⟨⟨h.1,by omega⟩,by omega,h.2.2.2⟩,if_neg (by omega)⟩
  ·intro ⟨⟨h1,h2⟩,h3⟩
   refine⟨h1.1,by omega,?_,h2.2⟩
   by_cases e:s.an=0
   ·rw[if_pos e] at h3;cases h3
   ·omega
 ·obtain⟨⟨h1,h2⟩,h3⟩:=h
  unfold dj
  rw[if_pos]
  rw[Fl]
  refine⟨h1.1,by omega,?_,h2.2⟩
  by_cases e:s.an=0
  ·rw[if_pos e] at h3;cases h3
  ·omega
theorem JF:Cd xy (fun x=>(0<=x.aQ/\x.aQ<=7)/\(0<=x.time/\x.time<=9007199254740992)/\cw x.op=0) kn:=by
 refine((iF 7 (by decide)).pair ((iF MX (by decide)).pair Gc)).map (ok':=fun x:jg=>(0<=x.aQ/\x.aQ<=7)/\(0<=x.time/\x.time<=9007199254740992)/\cw x.op=0) (b':=kn) (fun z=>⟨z.1,z.2.1,z.2.2⟩) (fun x=>(x.aQ,x.time,x.op)) (fun z ⟨h1,h2,h3⟩=>⟨⟨h1,h2,h3⟩,?_⟩) (fun x h=>⟨h,rfl⟩)
 have h4:z.2.1<=9007199254740992:=h2.2
 have h5:z.1<=7:=h1.2
 show enc z.1.toNat++enc z.2.1.toNat++cy z.2.2=_
 rw[ku h1.1 (by omega),ku h2.1 (by omega),List.append_assoc]
theorem LV {x:jg}:gK x=0<->((0<=x.aQ/\x.aQ<=7)/\(0<=x.time/\x.time<=9007199254740992)/\cw x.op=0)/\¬x.time=0:=by
 constructor
 ·intro h
  obtain⟨h1,h2,h3⟩:=Mq h
  exact⟨⟨⟨h1.1,by omega⟩,⟨by omega,h2.2⟩,h3⟩,by omega⟩
 ·intro ⟨⟨h1,h2,h3⟩,h4⟩
  unfold gK
  rw[if_neg (by omega)]
  exact h3
theorem MQ:Pc kW (fun x=>gK x=0) kn where
 there:=fun x hx=>by
  obtain⟨h1,h2⟩:=LV.1 hx
  have e:=JF.there x [] h1
  rw[List.append_nil] at e
  unfold kW
  simp[e,gy,h2]
 back:=fun t e=>by
  unfold kW at e ⊢
  split at e
  ·rename_i hd
   rw[if_pos hd]
   split at e
   ·cases e
   ·rename_i ht
    rw[if_neg ht]
    have hs:=Sa hd
    obtain⟨h1,h2⟩:=JF.back t (by rw[hs])
    rw[hs,List.append_nil] at h2
    exact⟨LV.2 ⟨h1,ht⟩,h2⟩
  ·rename_i hd
   exact absurd e hd
theorem Kb:Cd lZ (fun s=>gK s.request=0/\dZ s.sign=0) mJ:=by
 refine(((qZ 1024 (by decide)).guard fun x=>(kW x).2).pair vC).map (ok':=fun s:cq=>gK s.request=0/\dZ s.sign=0) (b':=mJ) (fun z=>⟨(kW z.1).1,z.2⟩) (fun s=>(kn s.request,s.sign)) (fun z ⟨⟨h1,h2⟩,h3⟩=>?_) (fun s ⟨h1,h2⟩=>?_)
 ·obtain⟨k1,k2⟩:=MQ.back z.1 h2
  refine⟨⟨k1,h3⟩,?_⟩
  show bB (kn (kW z.1).1)++oG z.2=bB z.1++dj z.2
  have h3:dZ z.2=0:=h3
  rw[<-k2]
  unfold dj
  rw[if_pos h3]
 ·have e:=MQ.there _ h1
  have hl:=EA h1
  refine⟨⟨⟨by show(kn s.request).length<=_;omega,by show(kW (kn s.request)).2=0;rw[e]⟩,h2⟩,?_⟩
  show(⟨(kW (kn s.request)).1,s.sign⟩:cq)=s
  rw[e]
theorem Cb:Cd jW (fun l=>fZ l=0) iJ:=by
 have h:=MP (iF 4 (by decide)) (q:=fun n=>aV lZ n) (Nh Kb)
 refine((h.guard fZ).zero []).as (fun l=>⟨fun h=>⟨?_,h⟩,fun h=>h.2⟩) (fun l h=>?_)
 ·obtain⟨h1,h2⟩:=KA h
  exact⟨by show((l.length:Nat):Int)<=((4:Nat):Int);omega,h2⟩
 ·unfold iJ
  rw[if_pos h.2]
  have:=h.1.1
  have h4:((l.length:Nat):Int)<=((4:Nat):Int):=this
  unfold qt jF
  rw[JE _ (by omega)]
end Go.Proofs.YtafomdobfmmleaaGreatDoor

/- Lemmas and contracts. -/
namespace Go.Proofs.YtafomdobfmmleaaGreatDoor
open Go.RowKit
set_option linter.unusedVariables false
theorem FC:Cd pO (fun c=>lE c=0) lF:=by
 rw[LS]
 have c1:=((iD 0 (by decide)).pair (iD 0 (by decide))).guard fun z:Int×Int=>if(z.1==0)==(z.2==0) then(0:Int) else 100
 have hm:∀z:Int×Int,(if z.1=0 then(0:Int) else 13)<=4096:=fun z=>by split<;>decide
 have hq:=fun z:Int×Int=>vB vC (if z.1=0 then(0:Int) else 13) (hm z)
 have k:∀z:Int×Int,Rd1 (dR fm (if z.1=0 then(0:Int) else 13)):=fun z=>nD j7 _
 have c2:=c1.bind k (fun z _=>hq z)
 refine c2.map (ok':=fun c:gU=>lE c=0) (b':=lF) (fun z=>⟨z.1.1,z.1.2,z.2⟩) (fun c=>((c.seq,c.an),c.cN)) (fun z h=>?_) (fun c h=>?_)
 ·obtain⟨⟨⟨h1,h2⟩,h3⟩,h4,h5⟩:=h
  refine⟨?_,by show lF ⟨_,_,_⟩=_;simp[lF,bw,sL,jF]⟩
  obtain⟨⟨a,b⟩,l⟩:=z
  have h1:0<=a/\a<=9007199254740992:=h1
  have h2:0<=b/\b<=9007199254740992:=h2
  have h3:(if(a==0)==(b==0) then(0:Int) else 100)=0:=h3
  have h4:(l.length:Int)<=(if a=0 then 0 else 13):=h4
  unfold lE pq
  simp only[bC]
  refine⟨fJ.2 h1,fJ.2 h2,?_,gw.2 ?_,fH.2 h5⟩
  ·show(if(decide (a=0)!=decide (b=0))||(decide (a=0)&&decide (0<l.length)) then(100:Int) else 0)=0
   by_cases ha:a=0
   ·rw[if_pos ha] at h4
    by_cases hb:b=0
    ·have:¬0<l.length:=by omega
     simp[ha,hb,this]
    ·simp[ha,hb] at h3
   ·by_cases hb:b=0
    ·simp[ha,hb] at h3
    ·simp[ha,hb]
  ·split at h4<;>omega
 ·obtain⟨h1,h2,h3⟩:=Lm h
  unfold lE pq at h
  simp only[bC] at h
  obtain⟨_,_,h4,h5,h6⟩:=h
  refine⟨⟨⟨⟨h1,h2⟩,?_⟩,?_,fH.1 h6⟩,rfl⟩
  ·show(if(c.seq==0)==(c.an==0) then(0:Int) else 100)=0
   by_cases ha:c.seq=0<;>by_cases hb:c.an=0
   all_goals
    first
    |(simp[ha,hb];done)
    |(exfalso;simp[ha,hb] at h4;done)
    |(have e1:(c.seq==0)=false:=by simpa using ha
      have e2:(c.an==0)=false:=by simpa using hb
      rw[e1,e2];rfl)
  ·show((c.cN.length:Nat):Int)<=(if c.seq=0 then 0 else 13)
   have:=gw.1 h5
   split
   ·rename_i ha
    simp[ha] at h4
    by_cases hb:c.an=0
    ·simp[hb] at h4;simp[h4]
    ·simp[hb] at h4
   ·exact this
theorem Ti:Cd uD (fun l=>pq l=0) sL:=
 (vB vC 13 (by decide)).as (fun l=>by unfold pq;rw[bC,gw,fH]) (fun l _=>rfl)
theorem Vd:Cd jN (fun p=>kD p=0) gi:=by
 refine((iD 0 (by decide)).pair ((iD 1 (by decide)).pair ((iD 1 (by decide)).pair (vC.pair (Ti.pair Cb))))).map (ok':=fun p:gq=>kD p=0) (b':=gi) (fun z=>⟨z.1,z.2.1,z.2.2.1,z.2.2.2.1,z.2.2.2.2.1,z.2.2.2.2.2⟩) (fun p=>(p.view,p.seq,p.an,p.lz,p.cN,p.batch)) (fun z h=>⟨?_,?_⟩) (fun p h=>⟨?_,rfl⟩)
 ·show kD ⟨_,_,_,_,_,_⟩=0
  unfold kD
  simp only[bC,fJ,fW]
  exact h
 ·simp[gi,bw]
 ·unfold kD at h
  simp only[bC,fJ,fW] at h
  exact h
theorem MS:Cd iY (fun c=>iM c=0) eH:=by
 refine((iD 1 (by decide)).pair ((iF 12 (by decide)).pair (FC.pair ((vB Vd 8 (by decide)).pair vC)))).map (ok':=fun c:cX=>iM c=0) (b':=eH) (fun z=>⟨z.1,z.2.1,z.2.2.1,z.2.2.2.1,z.2.2.2.2⟩) (fun c=>(c.view,c.src,c.cert,c.cR,c.sign)) (fun z h=>⟨?_,?_⟩) (fun c h=>⟨?_,rfl⟩)
 ·show iM ⟨_,_,_,_,_⟩=0
  unfold iM
  simp only[bC,fW,ji,gw,fH]
  obtain⟨h1,h2,h3,⟨h4,h5⟩,h6⟩:=h
  exact⟨h1,h2,h3,h4,h5,h6⟩
 ·simp[eH,ir,bw,jF]
 ·unfold iM at h
  simp only[bC,fW,ji,gw,fH] at h
  obtain⟨h1,h2,h3,h4,h5,h6⟩:=h
  exact⟨h1,h2,h3,⟨h4,h5⟩,h6⟩
theorem Tj:Cd jB (fun x=>qm x=0) fK:=by
 refine((iD 0 (by decide)).pair ((iD 1 (by decide)).pair (Cb.pair vC))).map (ok':=fun x:gH=>qm x=0) (b':=fK) (fun z=>⟨z.1,z.2.1,z.2.2.1,z.2.2.2⟩) (fun c=>(c.view,c.seq,c.batch,c.sign)) (fun z h=>⟨?_,?_⟩) (fun c h=>⟨?_,rfl⟩)
 ·show qm ⟨_,_,_,_⟩=0
  unfold qm
  simp only[bC,fW,fJ]
  exact h
 ·simp[fK,bw]
 ·unfold qm at h
  simp only[bC,fW,fJ] at h
  exact h
theorem Ve:Cd jO (fun x=>qu x=0) iw:=by
 refine((iD 1 (by decide)).pair ((iD 0 (by decide)).pair ((iD 0 (by decide)).pair ((iD 0 (by decide)).pair (iD 0 (by decide)))))).map (ok':=fun x:iS=>qu x=0) (b':=iw) (fun z=>⟨z.1,z.2.1,z.2.2.1,z.2.2.2.1,z.2.2.2.2⟩) (fun c=>(c.seq,c.prev,c.batch,c.root,c.state)) (fun z h=>⟨?_,?_⟩) (fun c h=>⟨?_,rfl⟩)
 ·show qu ⟨_,_,_,_,_⟩=0
  unfold qu
  simp only[bC,fW,fJ]
  exact h
 ·simp[iw,bw]
 ·unfold qu at h
  simp only[bC,fW,fJ] at h
  exact h
theorem LW:Cd pS (fun s=>nN s=0) bB:=
 ((qZ 64 (by decide)).guard nN).as (fun s=>⟨fun h=>⟨xX h,h⟩,fun h=>h.2⟩) (fun _ _=>rfl)
theorem Tk:Cd uE (fun p=>pz p=0) iE:=by
 refine((((LW.pair ((iD 0 (by decide)).pair ((qZ 64 (by decide)).pair ((vB Ve 64 (by decide)).pair ((iD 0 (by decide)).pair (LQ 16 (by decide))))))).guard fun z=>if z.2.2.2.2.1<z.2.2.2.2.2 then 0 else 100).pair ((vB (iD 0 (by decide)) 8 (by decide)).pair FC))).map (ok':=fun p:jL=>pz p=0) (b':=iE) (fun z=>⟨z.1.1,z.1.2.1,z.1.2.2.1,z.1.2.2.2.1,z.1.2.2.2.2.1,z.1.2.2.2.2.2,z.2.1,z.2.2⟩)
  (fun p=>((p.av,p.offset,p.record,p.headers,p.index,p.count),p.path,p.cert)) (fun z h=>⟨?_,?_⟩) (fun p h=>⟨?_,rfl⟩)
 ·obtain⟨⟨⟨h1,h2,h3,⟨h4,h5⟩,h6,h7⟩,h8⟩,⟨h9,jQ⟩,gP⟩:=h
  obtain⟨⟨a,b,c,d,i,n⟩,l,k⟩:=z
  have h8:(if i<n then(0:Int) else 100)=0:=h8
  have h8:i<n:=by
   by_cases e:i<n
   ·exact e
   ·rw[if_neg e] at h8;cases h8
  have h7:0<=n/\n<=16:=h7
  have h6:0<=i/\i<=9007199254740992:=h6
  have h3:c.length<=64:=h3
  show pz ⟨a,b,c,d,i,n,l,k⟩=0
  unfold pz
  simp only[bC,fJ,gw,fH,fY]
  exact⟨h1,h2,by omega,h4,h5,h6,h7,⟨h6.1,by omega⟩,h9,jQ,gP⟩
 ·simp[iE,bw,jF]
 ·unfold pz at h
  simp only[bC,fJ,gw,fH,fY] at h
  obtain⟨h1,h2,h3,h4,h5,h6,h7,h8,h9,jQ,gP⟩:=h
  exact⟨⟨⟨h1,h2,by show p.record.length<=64;omega,⟨h4,h5⟩,h6,h7⟩,if_pos (by show p.index<p.count;omega)⟩,⟨h9,jQ⟩,gP⟩
theorem FD:Cd rH (fun z=>(0<=z.1/\z.1<=12)/\(0<=z.2.1/\z.2.1<=9007199254740992)/\(1<=z.2.2.1/\z.2.2.1<=9007199254740992)/\(1<=z.2.2.2/\z.2.2.2<=9007199254740992)) (fun z=>bw [z.1,z.2.1,z.2.2.1,z.2.2.2]):=
 ((iF 12 (by decide)).pair ((iD 0 (by decide)).pair ((iD 1 (by decide)).pair (iD 1 (by decide))))).as (fun z=>Iff.rfl) (fun z h=>by simp[bw])
end Go.Proofs.YtafomdobfmmleaaGreatDoor

/- Lemmas and contracts. -/
namespace Go.Proofs.YtafomdobfmmleaaGreatDoor
open Go.RowKit
set_option linter.unusedVariables false
structure ij (k:Int) (m:aN):Prop where
 kind:m.kind=k
 kindOk:cG m=0
 bare:m=aH m
 sign:m.sign=dD
theorem oD {m:aN} (h:cG m=0):∀{k:Int},m.kind=k->cG {m with kind:=k}=0:=fun e=>by
 have:({m with kind:=m.kind}:aN)=m:=by cases m;rfl
 rw[<-e,this]
 exact h
theorem Tl:Cd (fQ 2) (ij 2) cP:=by
 refine(FD.pair Cb).map (ok':=ij 2) (b':=cP) (fun z=>{aO with kind:=2,src:=z.1.1,view:=z.1.2.1,seq:=z.1.2.2.1,an:=z.1.2.2.2,batch:=z.2}) (fun m=>((m.src,m.view,m.seq,m.an),m.batch)) (fun z h=>⟨⟨rfl,?_,rfl,rfl⟩,?_⟩) (fun m h=>⟨?_,?_⟩)
 ·simp[cG,iK,bC,fJ,fW,ji]
  (try simp at h)
  first|exact h|omega|simp_all|(simp_all;omega)
 ·simp[cP,bw]
 ·have:=oD h.kindOk h.kind
  simp[cG,iK,bC,fJ,fW,ji] at this
  (try simp)
  first|exact this|omega|simp_all|(simp_all;omega)
 ·conv=>rhs;rw[h.bare]
  simp only[aH,h.kind,h.sign]
  rfl
theorem Tm:Cd (fQ 3) (ij 3) cP:=by
 refine FD.map (ok':=ij 3) (b':=cP) (fun z=>{aO with kind:=3,src:=z.1,view:=z.2.1,seq:=z.2.2.1,an:=z.2.2.2}) (fun m=>(m.src,m.view,m.seq,m.an)) (fun z h=>⟨⟨rfl,?_,rfl,rfl⟩,?_⟩) (fun m h=>⟨?_,?_⟩)
 ·simp[cG,iK,bC,fJ,fW,ji]
  (try simp at h)
  first|exact h|omega|simp_all|(simp_all;omega)
 ·simp[cP,bw]
 ·have:=oD h.kindOk h.kind
  simp[cG,iK,bC,fJ,fW,ji] at this
  (try simp)
  first|exact this|omega|simp_all|(simp_all;omega)
 ·conv=>rhs;rw[h.bare]
  simp only[aH,h.kind,h.sign]
  rfl
theorem Tn:Cd (fQ 4) (ij 4) cP:=by
 refine FD.map (ok':=ij 4) (b':=cP) (fun z=>{aO with kind:=4,src:=z.1,view:=z.2.1,seq:=z.2.2.1,an:=z.2.2.2}) (fun m=>(m.src,m.view,m.seq,m.an)) (fun z h=>⟨⟨rfl,?_,rfl,rfl⟩,?_⟩) (fun m h=>⟨?_,?_⟩)
 ·simp[cG,iK,bC,fJ,fW,ji]
  (try simp at h)
  first|exact h|omega|simp_all|(simp_all;omega)
 ·simp[cP,bw]
 ·have:=oD h.kindOk h.kind
  simp[cG,iK,bC,fJ,fW,ji] at this
  (try simp)
  first|exact this|omega|simp_all|(simp_all;omega)
 ·conv=>rhs;rw[h.bare]
  simp only[aH,h.kind,h.sign]
  rfl
theorem To:Cd (fQ 5) (ij 5) cP:=by
 refine((iF 12 (by decide)).pair ((iD 0 (by decide)).pair ((iF 7 (by decide)).pair ((iD 0 (by decide)).pair Sb)))).map (ok':=ij 5) (b':=cP) (fun z=>{aO with kind:=5,src:=z.1,view:=z.2.1,aQ:=z.2.2.1,time:=z.2.2.2.1,result:=z.2.2.2.2}) (fun m=>(m.src,m.view,m.aQ,m.time,m.result)) (fun z h=>⟨⟨rfl,?_,rfl,rfl⟩,?_⟩) (fun m h=>⟨?_,?_⟩)
 ·simp[cG,bC,fJ,ji,fY]
  (try simp at h)
  first|exact h|omega|simp_all|(simp_all;omega)
 ·simp[cP,bw]
 ·have:=oD h.kindOk h.kind
  simp[cG,bC,fJ,ji,fY] at this
  (try simp)
  first|exact this|omega|simp_all|(simp_all;omega)
 ·conv=>rhs;rw[h.bare]
  simp only[aH,h.kind,h.sign]
  rfl
theorem Tp:Cd (fQ 6) (ij 6) cP:=by
 refine((iF 12 (by decide)).pair ((iD 1 (by decide)).pair (iD 1 (by decide)))).map (ok':=ij 6) (b':=cP) (fun z=>{aO with kind:=6,src:=z.1,seq:=z.2.1,an:=z.2.2}) (fun m=>(m.src,m.seq,m.an)) (fun z h=>⟨⟨rfl,?_,rfl,rfl⟩,?_⟩) (fun m h=>⟨?_,?_⟩)
 ·simp[cG,bC,fW,ji]
  (try simp at h)
  first|exact h|omega|simp_all|(simp_all;omega)
 ·simp[cP,bw]
 ·have:=oD h.kindOk h.kind
  simp[cG,bC,fW,ji] at this
  (try simp)
  first|exact this|omega|simp_all|(simp_all;omega)
 ·conv=>rhs;rw[h.bare]
  simp only[aH,h.kind,h.sign]
  rfl
theorem Tq:Cd (fQ 8) (ij 8) cP:=by
 refine((iF 12 (by decide)).pair ((iD 1 (by decide)).pair ((vB MS 13 (by decide)).pair (vB Tj 8 (by decide))))).map (ok':=ij 8) (b':=cP) (fun z=>{aO with kind:=8,src:=z.1,view:=z.2.1,changes:=z.2.2.1,entries:=z.2.2.2}) (fun m=>(m.src,m.view,m.changes,m.entries)) (fun z h=>⟨⟨rfl,?_,rfl,rfl⟩,?_⟩) (fun m h=>⟨?_,?_⟩)
 ·simp[cG,iN,bC,fW,ji,gw,fH]
  (try simp at h)
  first|exact h|omega|simp_all|(simp_all;omega)
 ·simp[cP,bw,jF]
 ·have:=oD h.kindOk h.kind
  simp[cG,iN,bC,fW,ji,gw,fH] at this
  (try simp)
  first|exact this|omega|simp_all|(simp_all;omega)
 ·conv=>rhs;rw[h.bare]
  simp only[aH,h.kind,h.sign]
  rfl
theorem Tr:Cd (fQ 9) (ij 9) cP:=by
 refine((iF 12 (by decide)).pair (iD 0 (by decide))).map (ok':=ij 9) (b':=cP) (fun z=>{aO with kind:=9,src:=z.1,seq:=z.2}) (fun m=>(m.src,m.seq)) (fun z h=>⟨⟨rfl,?_,rfl,rfl⟩,?_⟩) (fun m h=>⟨?_,?_⟩)
 ·simp[cG,bC,fJ,ji]
  (try simp at h)
  first|exact h|omega|simp_all|(simp_all;omega)
 ·simp[cP,bw]
 ·have:=oD h.kindOk h.kind
  simp[cG,bC,fJ,ji] at this
  (try simp)
  first|exact this|omega|simp_all|(simp_all;omega)
 ·conv=>rhs;rw[h.bare]
  simp only[aH,h.kind,h.sign]
  rfl
theorem Sc:Cd (fQ 10) (ij 10) cP:=by
 refine((iF 12 (by decide)).pair (FC.pair (qZ 262144 (by decide)))).map (ok':=ij 10) (b':=cP) (fun z=>{aO with kind:=10,src:=z.1,cert:=z.2.1,state:=z.2.2}) (fun m=>(m.src,m.cert,m.state)) (fun z h=>⟨⟨rfl,?_,rfl,rfl⟩,?_⟩) (fun m h=>⟨?_,?_⟩)
 ·simp[cG,bC,ji,gw]
  (try simp at h)
  first|exact h|omega|simp_all|(simp_all;omega)
 ·simp[cP,bw]
 ·have:=oD h.kindOk h.kind
  simp[cG,bC,ji,gw] at this
  (try simp)
  first|exact this|omega|simp_all|(simp_all;omega)
 ·conv=>rhs;rw[h.bare]
  simp only[aH,h.kind,h.sign]
  rfl
theorem Sd:Cd (fQ 11) (ij 11) cP:=by
 refine((iF 7 (by decide)).pair (LW.pair (iD 0 (by decide)))).map (ok':=ij 11) (b':=cP) (fun z=>{aO with kind:=11,aQ:=z.1,av:=z.2.1,offset:=z.2.2}) (fun m=>(m.aQ,m.av,m.offset)) (fun z h=>⟨⟨rfl,?_,rfl,rfl⟩,?_⟩) (fun m h=>⟨?_,?_⟩)
 ·simp[cG,bC,fJ,fY]
  (try simp at h)
  first|exact h|omega|simp_all|(simp_all;omega)
 ·simp[cP,bw]
 ·have:=oD h.kindOk h.kind
  simp[cG,bC,fJ,fY] at this
  (try simp)
  first|exact this|omega|simp_all|(simp_all;omega)
 ·conv=>rhs;rw[h.bare]
  simp only[aH,h.kind,h.sign]
  rfl
theorem Se:Cd (fQ 12) (ij 12) cP:=by
 refine((iF 12 (by decide)).pair Tk).map (ok':=ij 12) (b':=cP) (fun z=>{aO with kind:=12,src:=z.1,proof:=z.2}) (fun m=>(m.src,m.proof)) (fun z h=>⟨⟨rfl,?_,rfl,rfl⟩,?_⟩) (fun m h=>⟨?_,?_⟩)
 ·simp[cG,bC,ji]
  (try simp at h)
  first|exact h|omega|simp_all|(simp_all;omega)
 ·simp[cP,bw]
 ·have:=oD h.kindOk h.kind
  simp[cG,bC,ji] at this
  (try simp)
  first|exact this|omega|simp_all|(simp_all;omega)
 ·conv=>rhs;rw[h.bare]
  simp only[aH,h.kind,h.sign]
  rfl
theorem Ts:Cd (fQ 1) (ij 1) cP:=by
 refine(Cb.guard fun l=>if l.length=1 then 0 else 100).map (ok':=ij 1) (b':=cP) (fun l=>{aO with kind:=1,batch:=l}) (fun m=>m.batch) (fun l h=>⟨⟨rfl,?_,rfl,rfl⟩,by simp[cP]⟩) (fun m h=>⟨?_,?_⟩)
 ·obtain⟨h1,h2⟩:=h
  have h2:l.length=1:=by
   by_cases e:l.length=1
   ·exact e
   ·rw[if_neg e] at h2;cases h2
  simp[cG,bC,fY,h2]
  exact h1
 ·have:=oD h.kindOk h.kind
  simp[cG,bC,fY] at this
  exact⟨this.2,if_pos (by omega)⟩
 ·conv=>rhs;rw[h.bare]
  simp only[aH,h.kind,h.sign]
  rfl
theorem Tt:Cd (fQ 7) (fun m=>ij 7 m) (fun m=>match m.changes with|c::_=>eH c|[]=>[]):=by
 refine MS.map (ok':=fun m=>ij 7 m) (b':=fun m=>match m.changes with|c::_=>eH c|[]=>[]) (fun c=>{aO with kind:=7,src:=c.src,view:=c.view,changes:=[c]}) (fun m=>match m.changes with|c::_=>c|[]=>ZB) (fun c h=>⟨⟨rfl,?_,rfl,rfl⟩,rfl⟩) (fun m h=>?_)
 ·simp[cG,bC,fY,fE,qw,h]
 ·have:=oD h.kindOk h.kind
  simp[cG,bC,fY] at this
  obtain⟨h1,h2⟩:=this
  obtain⟨c,hc⟩:∃c,m.changes=[c]:=vO (by omega)
  rw[hc] at h2
  simp[fE,qw,bC] at h2
  obtain⟨h2,h3,h4⟩:=h2
  simp only[hc]
  refine⟨h2,?_⟩
  conv=>rhs;rw[h.bare]
  simp only[aH,h.kind,h.sign,hc,h3,h4]
  rfl
theorem Tu {k:Int} (hk:¬(1<=k/\k<=12)):Cd (fQ k) (ij k) cP:=by
 have e:fQ k=gd (pR {aO with kind:=k}) fun _=>100:=by
  unfold fQ
  rw[if_neg (by omega),if_neg (by omega),if_neg (by omega),if_neg (by omega),if_neg (by omega),if_neg (by omega),if_neg (by omega),if_neg (by omega),if_neg (by omega),if_neg (by omega),if_neg (by omega),if_neg (by omega)]
 rw[e]
 refine{toRd1:=(vA _).guard _,there:=fun m r h=>?_,back:=fun t h=>?_}
 ·have:=zw h.kindOk
  rw[h.kind] at this
  exact absurd this hk
 ·exact absurd h (by show ¬(100:Int)=0;decide)
def yE (m:aN):List UInt8:=if m.kind=7 then(match m.changes with|c::_=>eH c|[]=>[]) else cP m
theorem Tv (k:Int):Cd (fQ k) (ij k) yE:=by
 have q:∀{k:Int},¬k=7->Cd (fQ k) (ij k) cP->Cd (fQ k) (ij k) yE:=fun h7 h=>h.as (fun _=>Iff.rfl) (fun m hm=>by unfold yE;rw[if_neg (by rw[hm.kind];exact h7)])
 by_cases hk:1<=k/\k<=12
 ·have:k=1\/k=2\/k=3\/k=4\/k=5\/k=6\/k=7\/k=8\/k=9\/k=10\/k=11\/k=12:=by omega
  rcases this with rfl|rfl|rfl|rfl|rfl|rfl|rfl|rfl|rfl|rfl|rfl|rfl
  ·exact q (by decide) Ts
  ·exact q (by decide) Tl
  ·exact q (by decide) Tm
  ·exact q (by decide) Tn
  ·exact q (by decide) To
  ·exact q (by decide) Tp
  ·exact Tt.as (fun _=>Iff.rfl) (fun m hm=>by unfold yE;rw[if_pos hm.kind])
  ·exact q (by decide) Tq
  ·exact q (by decide) Tr
  ·exact q (by decide) Sc
  ·exact q (by decide) Sd
  ·exact q (by decide) Se
 ·exact q (by omega) (Tu hk)
theorem Vf (k:Int):Cd (kf k) (fun s=>if dc k=true then dZ s=0 else s=dD) (fun s=>if dc k=true then dj s else[]):=by
 unfold kf
 cases h:dc k
 ·simp only[Bool.false_eq_true,if_false]
  exact LN _
 ·simp only[if_true]
  exact vC
theorem Vg {α β:Type} {c:Prop} {_:Decidable c} {f:α->β} {a b:α} {a' b':β} (h:a'=f a) (k:b'=f b):(if c then a' else b')=f (if c then a else b):=by split<;>assumption
def Ni (t:bH) (x:aN):aN:={x with sign:=t}
theorem Nj {m:aN} (h:m=aH m) (s:bH) (hs:dc m.kind=false->s=dD):{m with sign:=s}=aH {m with sign:=s}:=by
 have e:aH {m with sign:=s}=Ni (if dc m.kind=true then s else dD) (aH m):=by
  generalize ht:(if dc m.kind=true then s else dD)=t
  unfold aH
  dsimp only
  rw[ht]
  iterate 11 refine Vg (f:=Ni t) rfl ?_
  rfl
 rw[e]
 have hz:(if dc m.kind=true then s else dD)=s:=by
  cases hk:dc m.kind
  ·simp[hs hk]
  ·simp
 show _={aH m with sign:=if dc m.kind=true then s else dD}
 rw[hz,<-h]
theorem WO (m:aN):{m with sign:=m.sign}=m:=by cases m;rfl
theorem FM:Cd bN (fun m=>dV m=0) lG:=by
 have h:=(iF MX (by decide)).bind (q:=fun k=>aT (fQ k) (kf k)) (fun k=>(KV k).pair (LU k)) (fun k _=>(Tv k).pair (Vf k))
 refine h.map (ok':=fun m=>dV m=0) (b':=lG) (fun z=>{z.2.1 with sign:=z.2.2}) (fun m=>(m.kind,({m with sign:=dD},m.sign))) (fun z hz=>?_) (fun m hm=>?_)
 ·obtain⟨k,m,s⟩:=z
  obtain⟨hk,hm,hs⟩:=hz
  have hm:ij k m:=hm
  have hs:(if dc k=true then dZ s=0 else s=dD):=hs
  have Dn:=hm.kind
  have I2:dc m.kind=false->s=dD:=fun e=>by rw[Dn] at e;rw[e] at hs;simpa using hs
  have hb:=Nj hm.bare s I2
  have hkE:cG {m with sign:=s}=0:=hm.kindOk
  refine⟨?_,?_⟩
  ·show dV {m with sign:=s}=0
   have hE:mT {m with sign:=s}=0:=by
    unfold mT
    rw[bC]
    refine⟨hkE,?_⟩
    show(if dc m.kind=true then dZ s else 0)=0
    rw[Dn]
    cases e:dc k
    ·simp
    ·rw[e] at hs;simpa using hs
   unfold dV
   rw[if_neg (fun q=>q.2 hb)]
   exact hE
  ·show lG {m with sign:=s}=aW k++(yE m++if dc k=true then dj s else[])
   unfold lG bh yE
   show aW m.kind++cP m++(if m.kind=7 then(match m.changes with|c::_=>dj c.sign|[]=>[]) else if dc m.kind=true then dj s else[])=_
   rw[Dn]
   by_cases h7:k=7
   ·rw[if_pos h7,if_pos h7]
    have hk7:m.kind=7:=by rw[Dn,h7]
    have n7:dc k=false:=by rw[h7];rfl
    rw[n7]
    unfold cP
    rw[hk7]
    cases hc:m.changes with
    |nil=>simp
    |cons c r=>simp[eH]
   ·rw[if_neg h7,if_neg h7,List.append_assoc]
 ·obtain⟨h1,h2⟩:=EV hm
  unfold mT at h1
  rw[bC] at h1
  obtain⟨h3,h4⟩:=h1
  have hr:=zw h3
  have cT:=JW m
  refine⟨⟨⟨by show 0<=m.kind;omega,by show m.kind<=((MX:Nat):Int);rw[uF];omega⟩,⟨rfl,h3,Nj h2 dD (fun _=>rfl),rfl⟩,?_⟩,WO m⟩
  show if dc m.kind=true then dZ m.sign=0 else m.sign=dD
  cases e:dc m.kind
  ·rw[<-h2,e] at cT
   simpa using cT
  ·rw[e] at h4
   simpa using h4
end Go.Proofs.YtafomdobfmmleaaGreatDoor

/- Lemmas and contracts. -/
namespace Go.Proofs.YtafomdobfmmleaaGreatDoor
open Go.RowKit
set_option linter.unusedVariables false
end Go.Proofs.YtafomdobfmmleaaGreatDoor

/- Lemmas and contracts. -/
namespace Go.Proofs.YtafomdobfmmleaaGreatDoor
open Go.RowKit
set_option linter.unusedVariables false
theorem gO {n a b:Int} (h:a<=n/\n<=b) (ha:-9223372036854775808<=a) (hb:b<=9223372036854775807):dI.ok n:=⟨Int.le_trans ha h.1,Int.le_trans h.2 hb⟩
theorem uV {α:Type} {A:Dt α} {l:List α} {m:Nat} (h:l.length<=m) (hm:m<=4194304) (k:∀x∈l,A.ok x):(dL A).ok l:=⟨Nat.le_trans h hm,k⟩
theorem yc {k:Int} {o:bF} (h:tg k o) (hk:0<=k/\k<=4):jc.ok o:=
 ⟨show dI.ok o.kind by rw[h.kind];exact gO hk (by decide) (by decide),Nat.le_trans h.av (by decide),Nat.le_trans h.group (by decide),gO h.off (by decide) (by decide),uV h.DF.1 (by decide) fun r hr=>Nat.le_trans (h.DF.2 r hr) (by decide)⟩
theorem NP {o:bF} (h:cw o=0):jc.ok o:=yc (Ng h) (Gg h).1
theorem vU {s:bH} (h:dZ s=0):jC.ok s:=by
 obtain⟨h1,h2,h3,h4⟩:=Fl.1 h
 exact⟨show dI.ok s.key from gO (b:=20) ⟨h1,by omega⟩ (by decide) (by decide),gO ⟨h3,h4⟩ (by decide) (by decide)⟩
theorem NA {x:jg} (h:gK x=0):zQ.ok x:=by
 obtain⟨h1,h2,h3⟩:=Mq h
 exact⟨show dI.ok x.aQ from gO (b:=7) ⟨h1.1,by omega⟩ (by decide) (by decide),gO h2 (by decide) (by decide),NP h3⟩
theorem CQ {l:List cq} (h:fZ l=0):(dL gF).ok l:=by
 obtain⟨h1,h2⟩:=KA h
 exact uV h1 (by decide) fun s hs=>⟨NA (h2 s hs).1,vU (h2 s hs).2⟩
theorem MN {l:List bH} (h:pq l=0):(dL jC).ok l:=by
 unfold pq at h
 rw[bC,gw,fH] at h
 exact uV (m:=13) (by omega) (by decide) fun s hs=>vU (h.2 s hs)
theorem Gv {c:gU} (h:lE c=0):gV.ok c:=by
 obtain⟨h1,h2,h3⟩:=Lm h
 exact⟨gO h1 (by decide) (by decide),gO h2 (by decide) (by decide),MN h3⟩
theorem XJ {p:gq} (h:kD p=0):oU.ok p:=by
 unfold kD at h
 simp only[bC,fJ,fW] at h
 obtain⟨h1,h2,h3,h4,h5,h6⟩:=h
 exact⟨gO h1 (by decide) (by decide),gO h2 (by decide) (by decide),gO h3 (by decide) (by decide),vU h4,MN h5,CQ h6⟩
theorem NB {c:cX} (h:iM c=0):gG.ok c:=by
 obtain⟨h1,h2,h3,h4,h5,h6⟩:=Wj h
 exact⟨gO h1 (by decide) (by decide),gO h2 (by decide) (by decide),Gv h3,uV h4 (by decide) fun p hp=>XJ (h5 p hp),vU h6⟩
theorem WL {x:gH} (h:qm x=0):jw.ok x:=by
 unfold qm at h
 simp only[bC,fJ,fW] at h
 obtain⟨h1,h2,h3,h4⟩:=h
 exact⟨gO h1 (by decide) (by decide),gO h2 (by decide) (by decide),CQ h3,vU h4⟩
theorem XK {h:iS} (e:qu h=0):CO.ok h:=by
 unfold qu at e
 simp only[bC,fJ,fW] at e
 obtain⟨h1,h2,h3,h4,h5⟩:=e
 exact⟨gO h1 (by decide) (by decide),gO h2 (by decide) (by decide),gO h3 (by decide) (by decide),gO h4 (by decide) (by decide),gO h5 (by decide) (by decide)⟩
theorem WM {p:jL} (h:pz p=0):jk.ok p:=by
 unfold pz at h
 simp only[bC,fJ,gw,fH,fY] at h
 obtain⟨h1,h2,h3,h4,h5,h6,h7,h8,h9,jQ,gP⟩:=h
 exact⟨Nat.le_trans (xX h1) (by decide),gO h2 (by decide) (by decide),show p.record.length<=4194304 by omega,(show(dL CO).ok p.headers from uV (m:=64) (by omega) (by decide) fun x hx=>XK (h5 x hx)),gO h6 (by decide) (by decide),gO h7 (by decide) (by decide),(show(dL dI).ok p.path from uV (m:=8) (by omega) (by decide) fun x hx=>gO (jQ x hx) (by decide) (by decide)),Gv gP⟩
theorem eJ {α:Type} {A:Dt α}:(dL A).ok []:=⟨Nat.zero_le _,fun x hx=>(List.not_mem_nil hx).elim⟩
theorem bt:dI.ok 0:=⟨by decide,by decide⟩
theorem Mf:jC.ok dD:=⟨bt,bt⟩
theorem oy:gV.ok yf:=⟨bt,bt,eJ⟩
theorem oZ:jk.ok CT:=⟨Nat.zero_le _,bt,Nat.zero_le _,eJ,bt,bt,eJ,oy⟩
theorem pG:lU.ok ud:=⟨bt,bt⟩
theorem XV {m:aN} (h:dV m=0):cr.ok m:=by
 obtain⟨h1,h2⟩:=EV h
 unfold mT at h1
 rw[bC] at h1
 obtain⟨h3,h4⟩:=h1
 have hr:=zw h3
 have hk:dI.ok m.kind:=gO hr (by decide) (by decide)
 have hs:jC.ok m.sign:=by
  cases e:dc m.kind
  ·have:=JW m
   rw[e,<-h2] at this
   rw[show m.sign=dD by simpa using this]
   exact Mf
  ·rw[if_pos e] at h4
   exact vU h4
 have kk:=fun k=>@oD m h3 k
 have cB:m.kind=1\/m.kind=2\/m.kind=3\/m.kind=4\/m.kind=5\/m.kind=6\/m.kind=7\/m.kind=8\/m.kind=9\/m.kind=10\/m.kind=11\/m.kind=12:=by omega
 have rU:∀{n:Int},0<=n/\n<=12->dI.ok n:=fun h=>gO h (by decide) (by decide)
 have b7:∀{n:Int},0<=n/\n<=7->dI.ok n:=fun h=>gO h (by decide) (by decide)
 have bn:∀{n:Int},0<=n/\n<=9007199254740992->dI.ok n:=fun h=>gO h (by decide) (by decide)
 have bp:∀{n:Int},1<=n/\n<=9007199254740992->dI.ok n:=fun h=>gO h (by decide) (by decide)
 rcases cB with k|k|k|k|k|k|k|k|k|k|k|k
 all_goals have g:=kk _ k;simp[cG,iK,iN,bC,fJ,fW,ji,fY,gw,fH] at g;have e:∀(P:aN->Prop),P (aH m)->P m:=fun P hP=>by rw[h2];exact hP
 ·skip
  exact⟨hk,(e (fun m=>dI.ok m.src) (by unfold aH;rw[k];exact bt)),(e (fun m=>dI.ok m.view) (by unfold aH;rw[k];exact bt)),(e (fun m=>dI.ok m.seq) (by unfold aH;rw[k];exact bt)),(e (fun m=>dI.ok m.an) (by unfold aH;rw[k];exact bt)),(e (fun m=>dI.ok m.aQ) (by unfold aH;rw[k];exact bt)),(e (fun m=>dI.ok m.time) (by unfold aH;rw[k];exact bt)),(e (fun m=>lU.ok m.result) (by unfold aH;rw[k];exact pG)),CQ g.2,(e (fun m=>gV.ok m.cert) (by unfold aH;rw[k];exact oy)),(e (fun m=>(dL gG).ok m.changes) (by unfold aH;rw[k];exact eJ)),(e (fun m=>(dL jw).ok m.entries) (by unfold aH;rw[k];exact eJ)),(e (fun m=>dY.ok m.state) (by unfold aH;rw[k];exact Nat.zero_le _)),(e (fun m=>dS.ok m.av) (by unfold aH;rw[k];exact Nat.zero_le _)),(e (fun m=>dI.ok m.offset) (by unfold aH;rw[k];exact bt)),(e (fun m=>jk.ok m.proof) (by unfold aH;rw[k];exact oZ)),hs⟩
 ·skip
  exact⟨hk,rU g.1.1,bn g.1.2.1,bp g.1.2.2.1,bp g.1.2.2.2,(e (fun m=>dI.ok m.aQ) (by unfold aH;rw[k];exact bt)),(e (fun m=>dI.ok m.time) (by unfold aH;rw[k];exact bt)),(e (fun m=>lU.ok m.result) (by unfold aH;rw[k];exact pG)),CQ g.2,(e (fun m=>gV.ok m.cert) (by unfold aH;rw[k];exact oy)),(e (fun m=>(dL gG).ok m.changes) (by unfold aH;rw[k];exact eJ)),(e (fun m=>(dL jw).ok m.entries) (by unfold aH;rw[k];exact eJ)),(e (fun m=>dY.ok m.state) (by unfold aH;rw[k];exact Nat.zero_le _)),(e (fun m=>dS.ok m.av) (by unfold aH;rw[k];exact Nat.zero_le _)),(e (fun m=>dI.ok m.offset) (by unfold aH;rw[k];exact bt)),(e (fun m=>jk.ok m.proof) (by unfold aH;rw[k];exact oZ)),hs⟩
 ·skip
  exact⟨hk,rU g.1,bn g.2.1,bp g.2.2.1,bp g.2.2.2,(e (fun m=>dI.ok m.aQ) (by unfold aH;rw[k];exact bt)),(e (fun m=>dI.ok m.time) (by unfold aH;rw[k];exact bt)),(e (fun m=>lU.ok m.result) (by unfold aH;rw[k];exact pG)),(e (fun m=>(dL gF).ok m.batch) (by unfold aH;rw[k];exact eJ)),(e (fun m=>gV.ok m.cert) (by unfold aH;rw[k];exact oy)),(e (fun m=>(dL gG).ok m.changes) (by unfold aH;rw[k];exact eJ)),(e (fun m=>(dL jw).ok m.entries) (by unfold aH;rw[k];exact eJ)),(e (fun m=>dY.ok m.state) (by unfold aH;rw[k];exact Nat.zero_le _)),(e (fun m=>dS.ok m.av) (by unfold aH;rw[k];exact Nat.zero_le _)),(e (fun m=>dI.ok m.offset) (by unfold aH;rw[k];exact bt)),(e (fun m=>jk.ok m.proof) (by unfold aH;rw[k];exact oZ)),hs⟩
 ·skip
  exact⟨hk,rU g.1,bn g.2.1,bp g.2.2.1,bp g.2.2.2,(e (fun m=>dI.ok m.aQ) (by unfold aH;rw[k];exact bt)),(e (fun m=>dI.ok m.time) (by unfold aH;rw[k];exact bt)),(e (fun m=>lU.ok m.result) (by unfold aH;rw[k];exact pG)),(e (fun m=>(dL gF).ok m.batch) (by unfold aH;rw[k];exact eJ)),(e (fun m=>gV.ok m.cert) (by unfold aH;rw[k];exact oy)),(e (fun m=>(dL gG).ok m.changes) (by unfold aH;rw[k];exact eJ)),(e (fun m=>(dL jw).ok m.entries) (by unfold aH;rw[k];exact eJ)),(e (fun m=>dY.ok m.state) (by unfold aH;rw[k];exact Nat.zero_le _)),(e (fun m=>dS.ok m.av) (by unfold aH;rw[k];exact Nat.zero_le _)),(e (fun m=>dI.ok m.offset) (by unfold aH;rw[k];exact bt)),(e (fun m=>jk.ok m.proof) (by unfold aH;rw[k];exact oZ)),hs⟩
 ·skip
  exact⟨hk,rU g.1,bn g.2.1,(e (fun m=>dI.ok m.seq) (by unfold aH;rw[k];exact bt)),(e (fun m=>dI.ok m.an) (by unfold aH;rw[k];exact bt)),b7 g.2.2.1,bn g.2.2.2.1,⟨gO g.2.2.2.2.1 (by decide) (by decide),bn g.2.2.2.2.2⟩,(e (fun m=>(dL gF).ok m.batch) (by unfold aH;rw[k];exact eJ)),(e (fun m=>gV.ok m.cert) (by unfold aH;rw[k];exact oy)),(e (fun m=>(dL gG).ok m.changes) (by unfold aH;rw[k];exact eJ)),(e (fun m=>(dL jw).ok m.entries) (by unfold aH;rw[k];exact eJ)),(e (fun m=>dY.ok m.state) (by unfold aH;rw[k];exact Nat.zero_le _)),(e (fun m=>dS.ok m.av) (by unfold aH;rw[k];exact Nat.zero_le _)),(e (fun m=>dI.ok m.offset) (by unfold aH;rw[k];exact bt)),(e (fun m=>jk.ok m.proof) (by unfold aH;rw[k];exact oZ)),hs⟩
 ·skip
  exact⟨hk,rU g.1,(e (fun m=>dI.ok m.view) (by unfold aH;rw[k];exact bt)),bp g.2.1,bp g.2.2,(e (fun m=>dI.ok m.aQ) (by unfold aH;rw[k];exact bt)),(e (fun m=>dI.ok m.time) (by unfold aH;rw[k];exact bt)),(e (fun m=>lU.ok m.result) (by unfold aH;rw[k];exact pG)),(e (fun m=>(dL gF).ok m.batch) (by unfold aH;rw[k];exact eJ)),(e (fun m=>gV.ok m.cert) (by unfold aH;rw[k];exact oy)),(e (fun m=>(dL gG).ok m.changes) (by unfold aH;rw[k];exact eJ)),(e (fun m=>(dL jw).ok m.entries) (by unfold aH;rw[k];exact eJ)),(e (fun m=>dY.ok m.state) (by unfold aH;rw[k];exact Nat.zero_le _)),(e (fun m=>dS.ok m.av) (by unfold aH;rw[k];exact Nat.zero_le _)),(e (fun m=>dI.ok m.offset) (by unfold aH;rw[k];exact bt)),(e (fun m=>jk.ok m.proof) (by unfold aH;rw[k];exact oZ)),hs⟩
 ·obtain⟨g1,g2⟩:=g
  obtain⟨c,hc⟩:∃c,m.changes=[c]:=vO (by omega)
  rw[hc] at g2
  simp[qw,bC] at g2
  obtain⟨g2,g3,g4⟩:=g2
  have Jd:=NB g2
  have yZ:(dL gG).ok m.changes:=by rw[hc];exact⟨by simp,fun x hx=>by rw[List.mem_singleton.1 hx];exact Jd⟩
  have h5:dI.ok m.src:=by rw[<-g3];exact Jd.2.1
  have h6:dI.ok m.view:=by rw[<-g4];exact Jd.1
  exact⟨hk,h5,h6,(e (fun m=>dI.ok m.seq) (by unfold aH;rw[k];exact bt)),(e (fun m=>dI.ok m.an) (by unfold aH;rw[k];exact bt)),(e (fun m=>dI.ok m.aQ) (by unfold aH;rw[k];exact bt)),(e (fun m=>dI.ok m.time) (by unfold aH;rw[k];exact bt)),(e (fun m=>lU.ok m.result) (by unfold aH;rw[k];exact pG)),(e (fun m=>(dL gF).ok m.batch) (by unfold aH;rw[k];exact eJ)),(e (fun m=>gV.ok m.cert) (by unfold aH;rw[k];exact oy)),yZ,(e (fun m=>(dL jw).ok m.entries) (by unfold aH;rw[k];exact eJ)),(e (fun m=>dY.ok m.state) (by unfold aH;rw[k];exact Nat.zero_le _)),(e (fun m=>dS.ok m.av) (by unfold aH;rw[k];exact Nat.zero_le _)),(e (fun m=>dI.ok m.offset) (by unfold aH;rw[k];exact bt)),(e (fun m=>jk.ok m.proof) (by unfold aH;rw[k];exact oZ)),hs⟩
 ·skip
  exact⟨hk,rU g.1,bp g.2.1,(e (fun m=>dI.ok m.seq) (by unfold aH;rw[k];exact bt)),(e (fun m=>dI.ok m.an) (by unfold aH;rw[k];exact bt)),(e (fun m=>dI.ok m.aQ) (by unfold aH;rw[k];exact bt)),(e (fun m=>dI.ok m.time) (by unfold aH;rw[k];exact bt)),(e (fun m=>lU.ok m.result) (by unfold aH;rw[k];exact pG)),(e (fun m=>(dL gF).ok m.batch) (by unfold aH;rw[k];exact eJ)),(e (fun m=>gV.ok m.cert) (by unfold aH;rw[k];exact oy)),(show(dL gG).ok m.changes from uV (m:=13) (by have:=g.2.2.1;omega) (by decide) fun c hc=>NB (g.2.2.2.1 c hc)),(show(dL jw).ok m.entries from uV (m:=8) (by have:=g.2.2.2.2.1;omega) (by decide) fun x hx=>WL (g.2.2.2.2.2 x hx)),(e (fun m=>dY.ok m.state) (by unfold aH;rw[k];exact Nat.zero_le _)),(e (fun m=>dS.ok m.av) (by unfold aH;rw[k];exact Nat.zero_le _)),(e (fun m=>dI.ok m.offset) (by unfold aH;rw[k];exact bt)),(e (fun m=>jk.ok m.proof) (by unfold aH;rw[k];exact oZ)),hs⟩
 ·skip
  exact⟨hk,rU g.1,(e (fun m=>dI.ok m.view) (by unfold aH;rw[k];exact bt)),bn g.2,(e (fun m=>dI.ok m.an) (by unfold aH;rw[k];exact bt)),(e (fun m=>dI.ok m.aQ) (by unfold aH;rw[k];exact bt)),(e (fun m=>dI.ok m.time) (by unfold aH;rw[k];exact bt)),(e (fun m=>lU.ok m.result) (by unfold aH;rw[k];exact pG)),(e (fun m=>(dL gF).ok m.batch) (by unfold aH;rw[k];exact eJ)),(e (fun m=>gV.ok m.cert) (by unfold aH;rw[k];exact oy)),(e (fun m=>(dL gG).ok m.changes) (by unfold aH;rw[k];exact eJ)),(e (fun m=>(dL jw).ok m.entries) (by unfold aH;rw[k];exact eJ)),(e (fun m=>dY.ok m.state) (by unfold aH;rw[k];exact Nat.zero_le _)),(e (fun m=>dS.ok m.av) (by unfold aH;rw[k];exact Nat.zero_le _)),(e (fun m=>dI.ok m.offset) (by unfold aH;rw[k];exact bt)),(e (fun m=>jk.ok m.proof) (by unfold aH;rw[k];exact oZ)),hs⟩
 ·skip
  exact⟨hk,rU g.1,(e (fun m=>dI.ok m.view) (by unfold aH;rw[k];exact bt)),(e (fun m=>dI.ok m.seq) (by unfold aH;rw[k];exact bt)),(e (fun m=>dI.ok m.an) (by unfold aH;rw[k];exact bt)),(e (fun m=>dI.ok m.aQ) (by unfold aH;rw[k];exact bt)),(e (fun m=>dI.ok m.time) (by unfold aH;rw[k];exact bt)),(e (fun m=>lU.ok m.result) (by unfold aH;rw[k];exact pG)),(e (fun m=>(dL gF).ok m.batch) (by unfold aH;rw[k];exact eJ)),Gv g.2.1,(e (fun m=>(dL gG).ok m.changes) (by unfold aH;rw[k];exact eJ)),(e (fun m=>(dL jw).ok m.entries) (by unfold aH;rw[k];exact eJ)),by have:=g.2.2;show m.state.length<=4194304;omega,(e (fun m=>dS.ok m.av) (by unfold aH;rw[k];exact Nat.zero_le _)),(e (fun m=>dI.ok m.offset) (by unfold aH;rw[k];exact bt)),(e (fun m=>jk.ok m.proof) (by unfold aH;rw[k];exact oZ)),hs⟩
 ·skip
  exact⟨hk,(e (fun m=>dI.ok m.src) (by unfold aH;rw[k];exact bt)),(e (fun m=>dI.ok m.view) (by unfold aH;rw[k];exact bt)),(e (fun m=>dI.ok m.seq) (by unfold aH;rw[k];exact bt)),(e (fun m=>dI.ok m.an) (by unfold aH;rw[k];exact bt)),b7 g.1,(e (fun m=>dI.ok m.time) (by unfold aH;rw[k];exact bt)),(e (fun m=>lU.ok m.result) (by unfold aH;rw[k];exact pG)),(e (fun m=>(dL gF).ok m.batch) (by unfold aH;rw[k];exact eJ)),(e (fun m=>gV.ok m.cert) (by unfold aH;rw[k];exact oy)),(e (fun m=>(dL gG).ok m.changes) (by unfold aH;rw[k];exact eJ)),(e (fun m=>(dL jw).ok m.entries) (by unfold aH;rw[k];exact eJ)),(e (fun m=>dY.ok m.state) (by unfold aH;rw[k];exact Nat.zero_le _)),Nat.le_trans (xX g.2.1) (by decide),bn g.2.2,(e (fun m=>jk.ok m.proof) (by unfold aH;rw[k];exact oZ)),hs⟩
 ·skip
  exact⟨hk,rU g.1,(e (fun m=>dI.ok m.view) (by unfold aH;rw[k];exact bt)),(e (fun m=>dI.ok m.seq) (by unfold aH;rw[k];exact bt)),(e (fun m=>dI.ok m.an) (by unfold aH;rw[k];exact bt)),(e (fun m=>dI.ok m.aQ) (by unfold aH;rw[k];exact bt)),(e (fun m=>dI.ok m.time) (by unfold aH;rw[k];exact bt)),(e (fun m=>lU.ok m.result) (by unfold aH;rw[k];exact pG)),(e (fun m=>(dL gF).ok m.batch) (by unfold aH;rw[k];exact eJ)),(e (fun m=>gV.ok m.cert) (by unfold aH;rw[k];exact oy)),(e (fun m=>(dL gG).ok m.changes) (by unfold aH;rw[k];exact eJ)),(e (fun m=>(dL jw).ok m.entries) (by unfold aH;rw[k];exact eJ)),(e (fun m=>dY.ok m.state) (by unfold aH;rw[k];exact Nat.zero_le _)),(e (fun m=>dS.ok m.av) (by unfold aH;rw[k];exact Nat.zero_le _)),(e (fun m=>dI.ok m.offset) (by unfold aH;rw[k];exact bt)),WM g.2,hs⟩
end Go.Proofs.YtafomdobfmmleaaGreatDoor

/- Lemmas and contracts. -/
namespace Go.Proofs.YtafomdobfmmleaaGreatDoor
open Go.RowKit Go.Deep
set_option linter.unusedVariables false
def aY (c:Nat):Nat:=if 48<=c/\c<=57 then c-48 else if 97<=c/\c<=102 then c-87 else 16
def mN:List UInt8->Option (List UInt8)
 |[]=>some []
 |[_]=>none
 |x::y::r=>if aY x.toNat<16/\aY y.toNat<16 then(mN r).map (UInt8.ofNat (16*aY x.toNat+aY y.toNat)::·) else none
def ff:List UInt8->Option (List UInt8)
 |[]=>none
 |x::r=>if x=120 then mN r else none
theorem KD (n:Nat) (h:n<16):aY (kj n).toNat=n:=by
 rw[zy h]
 unfold aY
 split
 ·rw[if_pos (by omega)];omega
 ·rw[if_neg (by omega),if_pos (by omega)];omega
theorem SK (b:List UInt8):ff (fN b)=some b:=by
 have h:∀b:List UInt8,mN (b.flatMap fun c=>[kj (c.toNat/16),kj (c.toNat%16)])=some b:=by
  intro b
  induction b with
  |nil=>rfl
  |cons c r ih=>
   have hc:=c.toNat_lt
   simp only[List.flatMap_cons,List.cons_append,List.nil_append,mN,ih]
   rw[KD _ (by omega),KD _ (by omega),if_pos (by omega)]
   simp only[Option.map_some,Option.some.injEq,List.cons.injEq,and_true]
   apply UInt8.toNat_inj.1
   rw[UInt8.toNat_ofNat']
   omega
 simp[ff,fN,h]
end Go.Proofs.YtafomdobfmmleaaGreatDoor

/- Lemmas and contracts. -/
namespace Go.Proofs.YtafomdobfmmleaaGreatDoor
open Go.RowKit
set_option linter.unusedVariables false
set_option maxRecDepth 20000
def rS (s:List UInt8):Option Int:=match Lib.atoiAll s with
 |.ok n=>if Lib.itoa n=s then some n else none
 |_=>none
theorem V3 {n:Int} (h:-9223372036854775808<=n/\n<=9223372036854775807):rS (Lib.itoa n)=some n:=by
 unfold rS
 rw[Kq n h.1 h.2]
 exact if_pos rfl
theorem Me {s:List UInt8} {n:Int} (h:rS s=some n):s=Lib.itoa n/\-9223372036854775808<=n/\n<=9223372036854775807:=by
 unfold rS at h
 split at h
 ·rename_i v hv
  split at h
  ·rename_i e
   injection h with h
   subst h
   exact⟨e.symm,Eu hv⟩
  ·cases h
 ·cases h
abbrev j3 (α:Type):=List (List UInt8)->Option (α×List (List UInt8))
def pU {α:Type} (p:List UInt8->Option α):j3 α
 |[]=>none
 |s::r=>(p s).map fun x=>(x,r)
def dU {α β:Type} (p:j3 α) (q:α->j3 β):j3 β:=fun ws=>match p ws with
 |some z=>q z.1 z.2
 |none=>none
def iO {α:Type} (x:α):j3 α:=fun ws=>some (x,ws)
def sY {α:Type} (x:Option α):j3 α:=fun ws=>x.map fun y=>(y,ws)
theorem eE {α β:Type} {p:j3 α} {q:α->j3 β} {ws r:List (List UInt8)} {x:α} (h:p ws=some (x,r)):dU p q ws=q x r:=by unfold dU;rw[h]
theorem jJ {α β:Type} {p:j3 α} {q:α->j3 β} {ws:List (List UInt8)} (h:p ws=none):dU p q ws=none:=by unfold dU;rw[h]
def iB:j3 Int:=pU rS
def kI:j3 (List UInt8):=pU ff
def MB:Nat:=9223372036854775807
def qE (c:List UInt8):Option bH:=if gy (nR MB (nR MB (c,0)).2).2=0 then some ⟨(nR MB (c,0)).1,(nR MB (nR MB (c,0)).2).1⟩ else none
def lH (m:aN) (s:bH):aN:=if m.kind=7 then(match m.changes with
 |[c]=>{m with changes:=[{c with sign:=s}]}
 |_=>{m with sign:=s}) else{m with sign:=s}
def mQ (b:List UInt8):List UInt8:=if mj (nR 65536 (b,0)).1 then b else b++[0,1]
def qF (b:List UInt8) (s:bH):Option aN:=if(ga bN aO (mQ b)).2=0 then some (lH (ga bN aO (mQ b)).1 s) else none
def sZ:j3 aN:=dU kI fun b=>dU kI fun c=>dU (sY (qE c)) fun s=>sY (qF b s)
def tu (b:List UInt8):Option bF:=if gy (dw (b,0)).2=0 then some (dw (b,0)).1 else none
def yY:j3 bF:=dU kI fun b=>sY (tu b)
def eg (w:List UInt8):j3 aS:=
 if w=tV then dU iB fun n=>iO {bO with kind:=1,num:=n}
 else if w=uH then dU iB fun n=>iO {bO with kind:=2,num:=n}
 else if w=uj then dU iB fun n=>iO {bO with kind:=3,num:=n}
 else if w=uI then dU iB fun n=>iO {bO with kind:=4,aL:=n}
 else if w=uv then dU iB fun n=>iO {bO with kind:=5,aL:=n}
 else if w=s6 then dU iB fun n=>dU yY fun o=>iO {bO with kind:=6,aL:=n,op:=o}
 else if w=uJ then dU iB fun n=>iO {bO with kind:=7,aL:=n}
 else if w=uw then dU iB fun n=>dU iB fun k=>iO {bO with kind:=8,aL:=n,num:=k}
 else if w=ux then dU iB fun n=>iO {bO with kind:=9,aL:=n}
 else if w=uK then dU kI fun b=>iO {bO with kind:=10,bytes:=b}
 else if w=sS then dU iB fun n=>dU sZ fun m=>iO {bO with kind:=11,aL:=n,msg:=m}
 else if w=sU then dU iB fun n=>dU sZ fun m=>iO {bO with kind:=11,aL:=n,msg:=m,fL:=true}
 else if w=uy then iO {bO with kind:=12}
 else fun _=>none
theorem Eg:eg tV=dU iB fun n=>iO {bO with kind:=1,num:=n}:=by unfold eg;rw[if_pos rfl]
theorem EN:eg uH=dU iB fun n=>iO {bO with kind:=2,num:=n}:=by unfold eg;rw[if_neg (by decide),if_pos rfl]
theorem Ej:eg uj=dU iB fun n=>iO {bO with kind:=3,num:=n}:=by unfold eg;rw[if_neg (by decide),if_neg (by decide),if_pos rfl]
theorem EP:eg uI=dU iB fun n=>iO {bO with kind:=4,aL:=n}:=by unfold eg;rw[if_neg (by decide),if_neg (by decide),if_neg (by decide),if_pos rfl]
theorem Ew:eg uv=dU iB fun n=>iO {bO with kind:=5,aL:=n}:=by unfold eg;rw[if_neg (by decide),if_neg (by decide),if_neg (by decide),if_neg (by decide),if_pos rfl]
theorem Fj:eg s6=dU iB fun n=>dU yY fun o=>iO {bO with kind:=6,aL:=n,op:=o}:=by unfold eg;rw[if_neg (by decide),if_neg (by decide),if_neg (by decide),if_neg (by decide),if_neg (by decide),if_pos rfl]
theorem ER:eg uJ=dU iB fun n=>iO {bO with kind:=7,aL:=n}:=by unfold eg;rw[if_neg (by decide),if_neg (by decide),if_neg (by decide),if_neg (by decide),if_neg (by decide),if_neg (by decide),if_pos rfl]
theorem Ex:eg uw=dU iB fun n=>dU iB fun k=>iO {bO with kind:=8,aL:=n,num:=k}:=by unfold eg;rw[if_neg (by decide),if_neg (by decide),if_neg (by decide),if_neg (by decide),if_neg (by decide),if_neg (by decide),if_neg (by decide),if_pos rfl]
theorem Ey:eg ux=dU iB fun n=>iO {bO with kind:=9,aL:=n}:=by unfold eg;rw[if_neg (by decide),if_neg (by decide),if_neg (by decide),if_neg (by decide),if_neg (by decide),if_neg (by decide),if_neg (by decide),if_neg (by decide),if_pos rfl]
theorem ES:eg uK=dU kI fun b=>iO {bO with kind:=10,bytes:=b}:=by unfold eg;rw[if_neg (by decide),if_neg (by decide),if_neg (by decide),if_neg (by decide),if_neg (by decide),if_neg (by decide),if_neg (by decide),if_neg (by decide),if_neg (by decide),if_pos rfl]
theorem ET:eg sS=dU iB fun n=>dU sZ fun m=>iO {bO with kind:=11,aL:=n,msg:=m}:=by unfold eg;rw[if_neg (by decide),if_neg (by decide),if_neg (by decide),if_neg (by decide),if_neg (by decide),if_neg (by decide),if_neg (by decide),if_neg (by decide),if_neg (by decide),if_neg (by decide),if_pos rfl]
theorem EU:eg sU=dU iB fun n=>dU sZ fun m=>iO {bO with kind:=11,aL:=n,msg:=m,fL:=true}:=by unfold eg;rw[if_neg (by decide),if_neg (by decide),if_neg (by decide),if_neg (by decide),if_neg (by decide),if_neg (by decide),if_neg (by decide),if_neg (by decide),if_neg (by decide),if_neg (by decide),if_neg (by decide),if_pos rfl]
theorem Ez:eg uy=iO {bO with kind:=12}:=by unfold eg;rw[if_neg (by decide),if_neg (by decide),if_neg (by decide),if_neg (by decide),if_neg (by decide),if_neg (by decide),if_neg (by decide),if_neg (by decide),if_neg (by decide),if_neg (by decide),if_neg (by decide),if_neg (by decide),if_pos rfl]
def iX:j3 aS:=dU (pU some) eg
def sP (line:List UInt8) (a:aS):Prop:=ey.ok a/\gR a/\line=eP a
theorem ox {n:Int} {r:List (List UInt8)} (h:-9223372036854775808<=n/\n<=9223372036854775807):iB (Lib.itoa n::r)=some (n,r):=by
 show(rS (Lib.itoa n)).map _=_
 rw[V3 h]
 rfl
theorem CC (b:List UInt8) (r:List (List UInt8)):kI (fN b::r)=some (b,r):=by
 show(ff (fN b)).map _=_
 rw[SK]
 rfl
theorem V4 {s:bH} (h1:0<=s.key/\s.key<=9223372036854775807) (h2:0<=s.an/\s.an<=9223372036854775807):qE (enc s.key.toNat++enc s.an.toNat)=some s:=by
 have e1:=(iF MB (by decide)).there s.key (enc s.an.toNat) h1
 rw[ku h1.1 (by omega)] at e1
 have e2:=(iF MB (by decide)).there s.an [] h2
 rw[ku h2.1 (by omega),List.append_nil] at e2
 unfold qE
 rw[e1]
 simp only
 rw[e2]
 cases s
 rfl
theorem Q1 {m:aN} (hk:cG (eF m)=0):lG (eF m)=if mj m.kind then bh m else bh m++[0,1]:=by
 have hr:=zw hk
 rw[zx] at hr
 have hs:=JP hr
 have hz:dj bX=[0,1]:=by
  show(if dZ bX=0 then oG bX else[])=_
  rw[if_pos (by decide)]
  show enc 0++enc 1=_
  rw[uu (by decide),uu (by decide)]
  rfl
 unfold lG
 rw[vh,zx]
 by_cases h7:m.kind=7
 ·have hf:mj m.kind=false:=by unfold mj;rw[h7];rfl
  rw[if_pos h7,hf]
  have hc:m.changes.length=1:=by
   unfold cG at hk
   rw[zx,h7] at hk
   simp only[show ¬((7:Int)=1) by decide,show ¬((7:Int)=2) by decide,show ¬((7:Int)=3) by decide,show ¬((7:Int)=4) by decide,show ¬((7:Int)=5) by decide,show ¬((7:Int)=6) by decide,if_false,if_true,bC] at hk
   have h1:=hk.1
   have hl:(eF m).changes.length=m.changes.length:=by
    unfold eF
    split
    ·simp
    ·split<;>rfl
   rw[hl] at h1
   unfold dO at h1
   split at h1
   ·cases h1
   ·omega
  obtain⟨c,hc⟩:=vO hc
  have:eF m={m with changes:=[{c with sign:=bX}]}:=by unfold eF;rw[if_pos ⟨h7,by rw[hc];rfl⟩,hc];rfl
  rw[this]
  simp[hz]
 ·rw[if_neg h7,hs]
  have hd:decide (m.kind=7)=false:=by simpa using h7
  rw[hd,Bool.or_false]
  have:mj m.kind=false->(eF m).sign=bX:=fun hf=>by
   unfold eF
   rw[if_neg (fun h=>h7 h.1),hs,hd,hf]
   rfl
  cases hf:mj m.kind
  ·simp[this hf,hz]
  ·simp
theorem Q2 {m:aN} (hr:1<=m.kind/\m.kind<=12):lH (eF m) (cH m)=m:=by
 have hs:=JP hr
 unfold lH
 rw[zx]
 by_cases h7:m.kind=7
 ·rw[if_pos h7]
  by_cases hc:m.changes.length=1
  ·obtain⟨c,hc⟩:=vO hc
   have:eF m={m with changes:=[{c with sign:=bX}]}:=by unfold eF;rw[if_pos ⟨h7,by rw[hc];rfl⟩,hc];rfl
   rw[this]
   have ho:cH m=c.sign:=by unfold cH;rw[if_pos h7,hc]
   simp only[ho]
   cases m
   simp_all
  ·have hw:eF m=m:=by
    unfold eF
    rw[if_neg (fun h=>hc h.2),hs,h7]
    rfl
   rw[hw]
   have ho:cH m=m.sign:=by
    unfold cH
    rw[if_pos h7]
    split
    ·rename_i c qP;rw[qP] at hc;exact absurd rfl hc
    ·rfl
   rw[ho]
   split
   ·rename_i c qP;rw[qP] at hc;exact absurd rfl hc
   ·cases m;rfl
 ·rw[if_neg h7]
  have ho:cH m=m.sign:=by unfold cH;rw[if_neg h7]
  rw[ho]
  unfold eF
  rw[if_neg (fun h=>h7 h.1)]
  split
  ·cases m;rfl
  ·cases m;rfl
theorem V5 {m:aN} (h:1<=m.kind/\m.kind<=12):(nR 65536 (bh m,0)).1=m.kind:=by
 have e:=(iF 65536 (by decide)).there m.kind (cP m) ⟨by omega,by omega⟩
 show(nR 65536 (aW m.kind++cP m,0)).1=_
 rw[e]
theorem V6 {m:aN} (h:Gw m):qF (bh m) (cH m)=some m:=by
 obtain⟨h1,h2⟩:=h
 have hk:=tQ (tN h1)
 have hr:=zw hk
 rw[zx] at hr
 have hb:mQ (bh m)=lG (eF m):=by
  unfold mQ
  rw[V5 hr,Q1 hk]
 have e:=FM.there (eF m) [] h1
 rw[List.append_nil] at e
 have e2:ga bN aO (lG (eF m))=(eF m,0):=K6 (by omega) e rfl
 unfold qF
 rw[hb,e2,if_pos rfl,Q2 hr]
theorem V7 {m:aN} (h:qj m) (hd:(cH m).key<=9223372036854775807/\(cH m).an<=9223372036854775807) (r:List (List UInt8)):sZ (kJ m++r)=some (m,r):=by
 obtain⟨h1,h2,h3,_,_⟩:=h
 unfold sZ kJ oH
 show dU kI _ (fN (bh m)::fN (enc (cH m).key.toNat++enc (cH m).an.toNat)::r)=_
 rw[eE (CC _ _),eE (CC _ _),V4 ⟨h2,hd.1⟩ ⟨h3,hd.2⟩]
 show sY (qF (bh m) (cH m)) r=_
 rw[V6 h1]
 rfl
theorem W2 {o:bF} (h:cw o=0):tu (cy o)=some o:=by
 have e:=Gc.there o [] h
 rw[List.append_nil] at e
 unfold tu
 rw[e]
 rfl
theorem W3 {o:bF} (h:cw o=0) (r:List (List UInt8)):yY (fN (cy o)::r)=some (o,r):=by
 unfold yY
 rw[eE (CC _ _),W2 h]
 rfl
theorem Kt {m:aN} (hm:cr.ok m):(cH m).key<=9223372036854775807/\(cH m).an<=9223372036854775807:=by
 have hs:∀s:bH,jC.ok s->s.key<=9223372036854775807/\s.an<=9223372036854775807:=fun s h=>⟨h.1.2,h.2.2⟩
 rw[vH] at hm
 obtain⟨h1,h2,h3,h4,h5,h6,h7,h8,h9,jQ,gP,oM,pZ,p4,p6,lK,p7⟩:=hm
 unfold cH
 split
 ·split
  ·rename_i c hc
   have h:=gP.2 c (by rw[hc];simp)
   rw[w7] at h
   exact hs _ h.2.2.2.2
  ·exact hs _ p7
 ·exact hs _ p7
theorem V8 {a:aS} (ha:ey.ok a) (h:gR a):iX (eG a)=some (a,[]):=by
 obtain⟨⟨hr,h6,gP⟩,hk⟩:=h
 have hb:dI.ok a.aL/\dI.ok a.num/\cr.ok a.msg:=⟨ha.2.1,ha.2.2.1,ha.2.2.2.2.2.1⟩
 have b2:-9223372036854775808<=a.aL/\a.aL<=9223372036854775807:=hb.1
 have b3:-9223372036854775808<=a.num/\a.num<=9223372036854775807:=hb.2.1
 have b6:=Kt hb.2.2
 have key:eg (iQ a.kind.toNat a.fL) (iH a)=some (fM a,[]):=by
  unfold iH fM
  obtain⟨i,hi⟩:∃i,a.kind=i:=⟨_,rfl⟩
  rw[hi] at hr h6 gP ⊢
  have ZW:i=1\/i=2\/i=3\/i=4\/i=5\/i=6\/i=7\/i=8\/i=9\/i=10\/i=11\/i=12:=by omega
  rcases ZW with rfl|rfl|rfl|rfl|rfl|rfl|rfl|rfl|rfl|rfl|rfl|rfl
  ·show eg tV [Lib.itoa a.num]=_;rw[Eg,eE (ox b3)];rfl
  ·show eg uH [Lib.itoa a.num]=_;rw[EN,eE (ox b3)];rfl
  ·show eg uj [Lib.itoa a.num]=_;rw[Ej,eE (ox b3)];rfl
  ·show eg uI [Lib.itoa a.aL]=_;rw[EP,eE (ox b2)];rfl
  ·show eg uv [Lib.itoa a.aL]=_;rw[Ew,eE (ox b2)];rfl
  ·show eg s6 [Lib.itoa a.aL,fN (cy a.op)]=_;rw[Fj,eE (ox b2),eE (W3 (h6 rfl) [])];rfl
  ·show eg uJ [Lib.itoa a.aL]=_;rw[ER,eE (ox b2)];rfl
  ·show eg uw [Lib.itoa a.aL,Lib.itoa a.num]=_;rw[Ex,eE (ox b2),eE (ox b3)];rfl
  ·show eg ux [Lib.itoa a.aL]=_;rw[Ey,eE (ox b2)];rfl
  ·show eg uK [fN a.bytes]=_;rw[ES,eE (CC _ _)];rfl
  ·have e:=V7 (gP rfl) b6 []
   rw[List.append_nil] at e
   cases hs:a.fL
   ·show eg sS (Lib.itoa a.aL::kJ a.msg)=_;rw[ET,eE (ox b2),eE e];rfl
   ·show eg sU (Lib.itoa a.aL::kJ a.msg)=_;rw[EU,eE (ox b2),eE e];rfl
  ·show eg uy []=_;rw[Ez];rfl
 unfold iX eG
 rw[eE (show pU some (iQ a.kind.toNat a.fL::iH a)=some (iQ a.kind.toNat a.fL,iH a) from rfl),key,<-hk]
theorem RG {a:aS} (h:gR a):eV (eP a)=eG a:=Ev _ (by simp[eG]) (RH a h.1.1)
theorem V9 {m:aN} {s:bH} (hm:cr.ok m) (hs:jC.ok s):cr.ok (lH m s):=by
 have p8:=hm
 rw[vH] at hm
 obtain⟨h1,h2,h3,h4,h5,h6,h7,h8,h9,jQ,gP,oM,pZ,p4,p6,lK,p7⟩:=hm
 have hx:cr.ok {m with sign:=s}:=by rw[vH];exact⟨h1,h2,h3,h4,h5,h6,h7,h8,h9,jQ,gP,oM,pZ,p4,p6,lK,hs⟩
 unfold lH
 split
 ·split
  ·rename_i c hc
   rw[vH]
   refine⟨h1,h2,h3,h4,h5,h6,h7,h8,h9,jQ,⟨by simp,fun d hd=>?_⟩,oM,pZ,p4,p6,lK,p7⟩
   have k:=gP.2 c (by rw[hc];simp)
   rw[w7] at k
   obtain rfl:=List.mem_singleton.1 hd
   rw[w7]
   exact⟨k.1,k.2.1,k.2.2.1,k.2.2.2.1,hs⟩
  ·exact hx
 ·exact hx
theorem Ns {aq:Nat} (h:aq<=9223372036854775807) (s:RS):dI.ok (nR aq s).1:=by
 have:=ug aq s
 exact⟨by show(-9223372036854775808:Int)<=((bL aq s).1:Int);omega,by show((bL aq s).1:Int)<=9223372036854775807;omega⟩
theorem W4 {c:List UInt8} {s:bH} (h:qE c=some s):jC.ok s:=by
 unfold qE at h
 split at h
 ·injection h with h
  subst h
  exact⟨Ns (by decide) _,Ns (by decide) _⟩
 ·cases h
theorem Ad {b:List UInt8} (h:(ga bN aO b).2=0):cr.ok (ga bN aO b).1:=by
 unfold ga at h ⊢
 split at h
 ·cases h
 ·rename_i h1
  rw[if_neg h1]
  split at h
  ·rename_i h2
   rw[if_pos h2]
   refine XV (FM.back b ?_).1
   unfold gy at h2
   split at h2
   ·assumption
   ·assumption
  ·rename_i h2
   exact absurd h h2
theorem W5 {b:List UInt8} {s:bH} {m:aN} (hs:jC.ok s) (h:qF b s=some m):cr.ok m:=by
 unfold qF at h
 split at h
 ·rename_i h0
  injection h with h
  subst h
  exact V9 (Ad h0) hs
 ·cases h
theorem XW {b:List UInt8} {o:bF} (h:tu b=some o):jc.ok o:=by
 unfold tu at h
 split at h
 ·rename_i h0
  injection h with h
  subst h
  refine NP (Gc.back b ?_).1
  unfold gy at h0
  split at h0
  ·assumption
  ·assumption
 ·cases h
theorem qq:cr.ok aO:=⟨bt,bt,bt,bt,bt,bt,bt,pG,eJ,oy,eJ,eJ,Nat.zero_le _,Nat.zero_le _,bt,oZ,Mf⟩
theorem pP:jc.ok bU:=⟨bt,Nat.zero_le _,Nat.zero_le _,bt,eJ⟩
theorem nY {n:Int} (h:-9223372036854775808<=n/\n<=9223372036854775807):dI.ok n:=h
end Go.Proofs.YtafomdobfmmleaaGreatDoor
