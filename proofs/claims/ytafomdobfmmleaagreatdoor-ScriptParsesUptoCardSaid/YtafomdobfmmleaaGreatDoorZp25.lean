/- Lemmas and contracts, part 25. -/
import Derived.Test.YtafomdobfmmleaaGreatDoorZp24
import Derived.Test.YtafomdobfmmleaaGreatDoorCards
import Derived.Test.YtafomdobfmmleaaGreatDoorTie
import Derived.Deep.DeepHandedRow
import Derived.Lib.LaidIn
import Derived.Lib.LaidTab
import Derived.LaidSub
import Derived.MakeChecks
namespace Go.Proofs.YtafomdobfmmleaaGreatDoor
set_option linter.unusedVariables false
open Go.RowKit
open Go.Proofs.Tryz
set_option maxHeartbeats 20000000
section
open Go.ChangeShapes Go.WideShapes Go.ChangeAt Go.RowKit Go.Deep
theorem iface_of_trod {H:Type} {enc:TypeId×Value->H} {P:Program} {w:World} {base:Nat} {sp:Nat->Bool} {fuel:Nat} {t:TypeId} {cs:List Value} {name:String} {d:DataW H} {p:List MemPlace} {x:TypeDesc}
 (ht:P.underlying t=some x) (hx:∃y,x=.interface y) (h:DataW.trod enc P w base sp false fuel t cs=some (.iface name d,p)):∃u v,cs=[.iface u v]:=by
 obtain⟨y,rfl⟩:=hx
 cases fuel with
 |zero=>simp[DataW.trod] at h
 |succ fuel=>
  simp only[DataW.trod,ht] at h
  match cs,h with
  |[.iface u v],_=>exact⟨u,v,rfl⟩
  |[.nilIface],h=>simp at h
theorem N4 {P:Program} {W:World} {n name:String} {d:DataW Unit} {g:Nat} {t:TypeId} {x:TypeDesc} (hg:P.globalNamed n=some g) (Uf:(P.globals[g]?).map (·.type)=some t) (ht:P.underlying t=some x) (hx:∃y,x=.interface y) (h:laidMet P [(n,.iface name d)] W):∃u v,W.var? P n=some #[.iface u v]:=by
 obtain⟨ps,⟨g',t',cs,fuel,p,q,e1,e2,e3,e4,_⟩,_⟩:=h
 rw[hg] at e1
 injection e1 with e1
 subst e1
 rw[Uf] at e2
 injection e2 with e2
 subst e2
 obtain⟨u,v,e⟩:=iface_of_trod ht hx e4
 refine⟨u,v,?_⟩
 rw[e3]
 congr 1
 apply Array.ext'
 exact e
theorem Vh {I:Nat->Prop} {W:World} (h:laidMetH prog Rows.scriptSetupsRow.laid W) (hs:W.ShapedOpen prog) (i1:I uX) (i2:I uI) (i3:I uJ) (i4:I yT):qS I W:=by
 rw[MakeChecks.laidMetH_plain _ _ _ (by kernel_rfl)] at h
 refine⟨i1,?_,i2,?_,i3,?_,i4,Tryz.ZE.s1_3 W hs⟩
 ·have h1:=h.filter (fun x=>x.1== "internal/strconv.uint64pow10")
  have e:Rows.scriptSetupsRow.laid.filter (fun x=>x.1== "internal/strconv.uint64pow10")=[("internal/strconv.uint64pow10",Lib.tabData .u64 Lib.pow10Tab)]:=by kernel_rfl
  rw[e] at h1
  exact Lib.tabIs_of_head (g:=uX) (t:=308) (e:=125) (n:=20) (by kernel_rfl) (by kernel_rfl) underlying308 underlying125 (by kernel_rfl) (by kernel_rfl) h1
 ·have h1:=h.filter (fun x=>x.1== "strconv.ErrSyntax")
  have e:Rows.scriptSetupsRow.laid.filter (fun x=>x.1== "strconv.ErrSyntax")=[("strconv.ErrSyntax",Rows.laid_strconv_ErrSyntax)]:=by kernel_rfl
  rw[e] at h1
  exact N4 (g:=uI) (t:=116) (by kernel_rfl) (by kernel_rfl) underlying116 ⟨_,rfl⟩ h1
 ·have h1:=h.filter (fun x=>x.1== "strconv.ErrRange")
  have e:Rows.scriptSetupsRow.laid.filter (fun x=>x.1== "strconv.ErrRange")=[("strconv.ErrRange",Rows.laid_strconv_ErrRange)]:=by kernel_rfl
  rw[e] at h1
  exact N4 (g:=uJ) (t:=116) (by kernel_rfl) (by kernel_rfl) underlying116 ⟨_,rfl⟩ h1
end
def D1 (w:World):Prop:=∀I:Nat->Prop,I uX->I uI->I uJ->I yT->qS I w
theorem Kx {n:String} {g:Nat} {w:World} {x:Array Value} (hg:prog.globalNamed n=some g) (h:w.var? prog n=some x):g<w.heap.size:=by
 unfold World.var? at h
 rw[hg] at h
 simp only[Option.bind_some] at h
 rcases Nat.lt_or_ge g w.heap.size with k|k
 ·exact k
 ·rw[Array.getElem?_eq_none k] at h;simp at h
theorem abC {g:Nat} {w:World} {x:Value} (h:w.cell? ⟨g,0,none⟩=some x):g<w.heap.size:=by
 unfold World.cell? at h
 rcases Nat.lt_or_ge g w.heap.size with k|k
 ·exact k
 ·simp only[Array.getElem?_eq_none k] at h;simp at h
theorem D1.lt {w:World} (h:D1 w) {I:Nat->Prop} (i1:I uX) (i2:I uI) (i3:I uJ) (i4:I yT):qS (fun b=>I b/\b<w.heap.size) w:=by
 have k:=h (fun _=>True) trivial trivial trivial trivial
 obtain⟨_,_,e2⟩:=k.G1
 obtain⟨_,_,e3⟩:=k.G2
 obtain⟨_,e4⟩:=k.G3
 exact h _ ⟨i1,Kx R7 k.D0⟩ ⟨i2,Kx Rv e2⟩ ⟨i3,Kx Rw e3⟩ ⟨i4,abC e4⟩
theorem aif {n0:Nat->Prop} {w:World} {v0:Value} {l:List UInt8} (hT:D1 w) (r0:tS.rd n0 w [v0] l):
 Calls prog 5 #[v0] w fun r w'=>r=.returned (.bool true)/\B w w':=by
 have h0:tS.rd (fun g=>n0 g\/g=uX\/g=uI\/g=uJ\/g=yT) w [v0] l:=tS.mono r0 (fun _ h=>.inl h)
 have k2:=@Ex uA.toOld
 exact @aq.Xe uA (@Ae.mk uA (fun _ h=>h.1)) _ _ _ _ (aie l (k2.to h0).2.1) _ w [v0] (k2.to h0).1 (hT.lt (by simp) (by simp) (by simp) (by simp))
end Go.Proofs.YtafomdobfmmleaaGreatDoor
