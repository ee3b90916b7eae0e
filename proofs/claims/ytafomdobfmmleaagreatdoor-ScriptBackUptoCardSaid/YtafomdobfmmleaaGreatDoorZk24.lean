/- Lemmas and contracts, part 24. -/
import Derived.Test.YtafomdobfmmleaaGreatDoorZk23
import Derived.Test.YtafomdobfmmleaaGreatDoorCards
import Derived.Test.YtafomdobfmmleaaGreatDoorTie
import Derived.Deep.DeepHandedRow
import Derived.Lib.LaidIn
import Derived.Lib.LaidTab
import Derived.LaidSub
import Derived.MakeChecks
/- Lemmas and contracts. -/
namespace Go.Proofs.YtafomdobfmmleaaGreatDoor
open Go.ChangeShapes Go.WideShapes Go.ChangeAt Go.RowKit Go.Deep
set_option linter.unusedVariables false
theorem iface_of_trod {H:Type} {enc:TypeId×Value->H} {P:Program} {w:World} {base:Nat} {sp:Nat->Bool} {fuel:Nat} {t:TypeId} {cs:List Value} {name:String} {d:DataW H} {p:List MemPlace} {x:TypeDesc}
 (ht:P.underlying t=some x) (hx:∃y,x=.interface y) (h:DataW.trod enc P w base sp false fuel t cs=some (.iface name d,p)):∃u v,cs=[.iface u v]:=by
 obtain⟨y,rfl⟩:=hx
 cases fuel with
 |zero=>simp[DataW.trod] at h
 |succ fuel=>
  simp only[DataW.trod,ht] at h
  match cs,h with
  |[.iface u v],_=>exact⟨u,v,rfl⟩
  |[.nilIface],h=>simp at h
theorem JO {P:Program} {W:World} {n name:String} {d:DataW Unit} {g:Nat} {t:TypeId} {x:TypeDesc} (hg:P.globalNamed n=some g) (ZV:(P.globals[g]?).map (·.type)=some t) (ht:P.underlying t=some x) (hx:∃y,x=.interface y) (h:laidMet P [(n,.iface name d)] W):∃u v,W.var? P n=some #[.iface u v]:=by
 obtain⟨ps,⟨g',t',cs,fuel,p,q,e1,e2,e3,e4,_⟩,_⟩:=h
 rw[hg] at e1
 injection e1 with e1
 subst e1
 rw[ZV] at e2
 injection e2 with e2
 subst e2
 obtain⟨u,v,e⟩:=iface_of_trod ht hx e4
 refine⟨u,v,?_⟩
 rw[e3]
 congr 1
 apply Array.ext'
 exact e
theorem Qz {I:Nat->Prop} {W:World} (h:laidMetH Tryz.prog Rows.scriptSetupsRow.laid W) (hs:W.ShapedOpen Tryz.prog) (i1:I rX) (i2:I rQ) (i3:I rR) (i4:I wo):nQ I W:=by
 rw[MakeChecks.laidMetH_plain _ _ _ (by kernel_rfl)] at h
 refine⟨i1,?_,i2,?_,i3,?_,i4,Tryz.T5.s1_3 W hs⟩
 ·have h1:=h.filter (fun x=>x.1== "internal/strconv.uint64pow10")
  have e:Rows.scriptSetupsRow.laid.filter (fun x=>x.1== "internal/strconv.uint64pow10")=[("internal/strconv.uint64pow10",Lib.tabData .u64 Lib.pow10Tab)]:=by kernel_rfl
  rw[e] at h1
  exact Lib.tabIs_of_head (g:=rX) (t:=308) (e:=125) (n:=20) (by kernel_rfl) (by kernel_rfl) Tryz.underlying308 Tryz.underlying125 (by kernel_rfl) (by kernel_rfl) h1
 ·have h1:=h.filter (fun x=>x.1== "strconv.ErrSyntax")
  have e:Rows.scriptSetupsRow.laid.filter (fun x=>x.1== "strconv.ErrSyntax")=[("strconv.ErrSyntax",Rows.laid_strconv_ErrSyntax)]:=by kernel_rfl
  rw[e] at h1
  exact JO (g:=rQ) (t:=116) (by kernel_rfl) (by kernel_rfl) Tryz.underlying116 ⟨_,rfl⟩ h1
 ·have h1:=h.filter (fun x=>x.1== "strconv.ErrRange")
  have e:Rows.scriptSetupsRow.laid.filter (fun x=>x.1== "strconv.ErrRange")=[("strconv.ErrRange",Rows.laid_strconv_ErrRange)]:=by kernel_rfl
  rw[e] at h1
  exact JO (g:=rR) (t:=116) (by kernel_rfl) (by kernel_rfl) Tryz.underlying116 ⟨_,rfl⟩ h1
end Go.Proofs.YtafomdobfmmleaaGreatDoor

/- Lemmas and contracts. -/
namespace Go.Proofs.YtafomdobfmmleaaGreatDoor
open Go.RowKit
set_option linter.unusedVariables false
def AP (w:World):Prop:=∀I:Nat->Prop,I rX->I rQ->I rR->I wo->nQ I w
theorem Gb {n:String} {g:Nat} {w:World} {x:Array Value} (hg:Tryz.prog.globalNamed n=some g) (h:w.var? Tryz.prog n=some x):g<w.heap.size:=by
 unfold World.var? at h
 rw[hg] at h
 simp only[Option.bind_some] at h
 rcases Nat.lt_or_ge g w.heap.size with k|k
 ·exact k
 ·rw[Array.getElem?_eq_none k] at h;simp at h
theorem V0 {g:Nat} {w:World} {x:Value} (h:w.cell? ⟨g,0,none⟩=some x):g<w.heap.size:=by
 unfold World.cell? at h
 rcases Nat.lt_or_ge g w.heap.size with k|k
 ·exact k
 ·simp only[Array.getElem?_eq_none k] at h;simp at h
theorem AP.lt {w:World} (h:AP w) {I:Nat->Prop} (i1:I rX) (i2:I rQ) (i3:I rR) (i4:I wo):nQ (fun b=>I b/\b<w.heap.size) w:=by
 have k:=h (fun _=>True) trivial trivial trivial trivial
 obtain⟨_,_,e2⟩:=k.Dv
 obtain⟨_,_,e3⟩:=k.Dw
 obtain⟨_,e4⟩:=k.AN
 exact h _ ⟨i1,Gb Np k.Du⟩ ⟨i2,Gb MW e2⟩ ⟨i3,Gb MY e3⟩ ⟨i4,V0 e4⟩
end Go.Proofs.YtafomdobfmmleaaGreatDoor

/- Lemmas and contracts. -/
namespace Go.Proofs.YtafomdobfmmleaaGreatDoor
open Go.RowKit
set_option linter.unusedVariables false
theorem UD (a:aS):a.bytes.length<=gB.sz a:=by
 show _<=(tI.sz a.kind+(tI.sz a.aL+(tI.sz a.num+(cL.sz a.op+(tY.sz a.bytes+(gJ.sz a.msg+tB.sz a.fL))))))+1
 have:tY.sz a.bytes=a.bytes.length+1:=rfl
 omega
theorem My:∀l:List aS,(l.map (·.bytes.length)).sum<=(l.map gB.sz).sum
 |[]=>Nat.le_refl _
 |a::l=>by
  have:=UD a
  have:=My l
  simp only[List.map_cons,List.sum_cons]
  omega
theorem Xp {n0 n1:Nat->Prop} {w:World} {c0:List Value} {v1:Value} {s:jj} {l:List UInt8} (hT:AP w) (r0:pg.rd n0 w c0 s) (z0:pg.sz s<=1048576) (r1:tS.rd n1 w [v1] l):
 Calls Tryz.prog 6 #[.agg c0.toArray,v1] w fun r w'=>r=.returned (.bool true)/\B w w':=by
 have z:(jz.sz s.cx+((s.fo.map gB.sz).sum+1))+1<=1048576:=z0
 have y:jz.sz s.cx=(1+(1+(1+(1+(s.cx.av.length+1)))))+1:=rfl
 have h0:pg.rd (fun g=>n0 g\/n1 g\/g=rX\/g=rQ\/g=rR\/g=wo) w c0 s:=pg.mono r0 (fun _ h=>.inl h)
 have h1:tS.rd (fun g=>n0 g\/n1 g\/g=rX\/g=rQ\/g=rR\/g=wo) w [v1] l:=tS.mono r1 (fun _ h=>.inr (.inl h))
 have k0:=@Lr oA.toOld
 have k2:=@y8 oA.toOld
 have hd:=(k0.arg h0).append (k2.to h1).1
 have hl:(eW s.cx).length<=4194304:=by
  obtain⟨c1,c2,_,q,_⟩:=r0
  replace q:jz.rd n0 w c1 s.cx:=q
  obtain⟨_,b1,b2,b3,b4,b5⟩:=jz.parts q
  have i1:=Lib.itoa_length_le s.cx.f b1.1 b1.2
  have i2:=Lib.itoa_length_le s.cx.eU (by omega) (by omega)
  have i3:=Lib.itoa_length_le s.cx.eO (by omega) (by omega)
  have i4:=Lib.itoa_length_le s.cx.room b4.1 b4.2
  simp only[eW,lA,iy,List.length_append,List.length_cons]
  have:xN.length=5:=rfl
  omega
 exact @aJ.Kg oA (@vW.mk oA (fun _ h=>h.1)) _ _ _ _ (Xo s (k0.to h0).2.1 (Nat.le_trans (My _) (by omega)) hl l (k2.to h1).2.1) _ w [.agg c0.toArray,v1] hd (hT.lt (by simp) (by simp) (by simp) (by simp))
end Go.Proofs.YtafomdobfmmleaaGreatDoor
