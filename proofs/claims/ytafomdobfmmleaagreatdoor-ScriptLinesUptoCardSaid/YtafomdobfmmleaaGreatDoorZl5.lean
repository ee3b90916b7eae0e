/- Lemmas and contracts, part 5. -/
import Derived.Test.YtafomdobfmmleaaGreatDoorZl4
import Derived.Test.YtafomdobfmmleaaGreatDoorRows
import Derived.Deep.RegionLaw
import Derived.Deep.Slices
import Derived.Deep.Fields
import Derived.ChangeSame
import Derived.SizedLaws
import Derived.JoinedCond
namespace Go.Proofs.YtafomdobfmmleaaGreatDoor
set_option linter.unusedVariables false
open Go.RowKit
open Go.Proofs.Tryz
section
open Go.ChangeShapes Go.WideShapes Go.ChangeAt Go.RowKit Go.Deep
theorem Ah:(prog.info? 5).map (fun i=>(i.zero,i.size,i.bytes))=some (some (.int .u8 0),1,1):=by kernel_rfl
def I2 (w:World) (bs:List UInt8) (e:Ending) (w':World):Prop:=∃v',e=.returned v'/\w'.ownsRow w.heap.size 5 1 v' bs.length (fm bs)/\B w w'
def qL (w:World) (bs:List UInt8) (e:Ending) (w':World):Prop:=∃v',e=.returned v'/\w'.ownsRow w.heap.size 5 1 v' bs.length (fm bs)/\B w w'
section
variable {P:Program} {W w:World} {ops:Array Oper} {rest:List Oper} {o:Oper} {a:Act} {Q:Exit->Act->World->Prop} {L:List gi}
end
section
variable {P:Program} {W w:World} {ops:Array Oper} {rest:List Oper} {o:Oper} {a:Act} {Q:Exit->Act->World->Prop} {L:List gi}
theorem Rd.lit (w:World) (cs:Array Value) (t:TypeId) (n:Nat) (hn:cs.size=n):Rd (w.alloc (.cells cs t)) (.slice (some ⟨w.heap.size,0,none⟩) n n) n 1 cs.toList:=by
 refine⟨by simp[hn],_,n,rfl,fun e=>(by cases e),Nat.le_refl _,fun ad kB=>?_⟩
 cases kB
 refine⟨fun _=>by simp,fun j x hx=>?_⟩
 have ea:(⟨w.heap.size,0,none⟩:Addr).add j=⟨w.heap.size,j,none⟩:=by unfold Addr.add;split<;>simp_all
 rw[ea,(dR.new w t cs).cell]
 simpa using hx
end
section
variable {P:Program} {W w:World} {ops:Array Oper} {rest:List Oper} {o:Oper} {a:Act} {Q:Exit->Act->World->Prop} {L:List gi}
end
section
variable {W w:World} {L:List gi} {v:Value} {bs:List UInt8}
end
section
variable {W w:World} {L:List gi} {v:Value} {bs:List UInt8}
end
section
variable {W w:World} {L:List gi} {v:Value} {bs:List UInt8}
end
section
variable {W w:World} {L:List gi} {v:Value} {bs:List UInt8}
end
section
variable {W w:World} {L:List gi}
end
section
variable {W w:World} {L:List gi}
end
section
variable {P:Program} {W w:World} {ops:Array Oper} {rest:List Oper} {o:Oper} {a:Act} {K:Act->World->Prop} {Q:Exit->Act->World->Prop} {E:Prop} {L:List gi}
end
end
section
open Go.ChangeShapes Go.WideShapes Go.ChangeAt Go.RowKit Go.Deep
theorem NP {α:Type} {P:Nat->α->Prop} (n:Nat) (h:∀i,i<n->∃x,P i x):∃L:List α,L.length=n/\∀i x,L[i]?=some x->P i x:=by
 induction n with
 |zero=>exact⟨[],rfl,fun i x hx=>by simp at hx⟩
 |succ n ih=>
  obtain⟨L,hl,hL⟩:=ih (fun i hi=>h i (by omega))
  obtain⟨x,hx⟩:=h n (by omega)
  refine⟨L++[x],by simp[hl],fun i y hy=>?_⟩
  by_cases hi:i<L.length
  ·rw[List.getElem?_append_left hi] at hy;exact hL i y hy
  ·rw[List.getElem?_append_right (by omega)] at hy
   have:i-L.length=0:=by
    rcases Nat.eq_zero_or_pos (i-L.length) with e|e
    ·exact e
    ·rw[List.getElem?_eq_none (by simp;omega)] at hy;cases hy
   rw[this] at hy
   simp at hy
   subst hy
   have:i=n:=by omega
   rw[this];exact hx
theorem addr_add (b off k:Nat):(⟨b,off,none⟩:Addr).add k=⟨b,off+k,none⟩:=by unfold Addr.add;split<;>simp_all
theorem X4 {w:World} {a:Addr} {v:Value} (h:w.cell? a=some v):a=⟨a.block,a.off,none⟩:=by
 unfold World.cell? at h
 split at h
 ·split at h
  ·cases h
  ·rename_i hs
   cases a with
   |mk b o s=>cases s with
    |none=>rfl
    |some x=>simp at hs
 ·cases h
theorem PU {H:Type} (d:DataW H):1<=Rows.uptoBulk d:=by
 cases d with
 |lit l=>cases l<;>simp[Rows.uptoBulk]
 |nil=>simp[Rows.uptoBulk]
 |ptr d=>simp[Rows.uptoBulk]
 |slice elems spare=>simp[Rows.uptoBulk]
 |agg parts=>simp[Rows.uptoBulk]
 |iface t d=>simp[Rows.uptoBulk]
 |map entries=>simp[Rows.uptoBulk]
 |held h=>simp[Rows.uptoBulk]
theorem PN {H:Type} (l:List (DataW H)):l.length<=Rows.uptoBulkAll l:=by
 induction l with
 |nil=>simp[Rows.uptoBulkAll]
 |cons x r ih=>have:=PU x;simp only[Rows.uptoBulkAll,List.length_cons];omega
theorem PO {H α:Type} (f:α->Nat):∀(L:List α) (E:List (DataW H)),L.length=E.length->(∀(i:Nat) (x:α) (d:DataW H),L[i]?=some x->E[i]?=some d->f x<=Rows.uptoBulk d)->(L.map f).sum<=Rows.uptoBulkAll E
 |[],[],_,_=>by simp
 |[],_::_,h,_=>by simp at h
 |_::_,[],h,_=>by simp at h
 |x::L,d::E,h,hf=>by
  have h0:=hf 0 x d rfl rfl
  have:=PO f L E (by simpa using h) (fun i y c h1 h2=>hf (i+1) y c (by simpa using h1) (by simpa using h2))
  simp only[List.map_cons,List.sum_cons,Rows.uptoBulkAll]
  omega
section
variable {H:Type} {enc:TypeId×Value->H} {P:Program} {w:World} {base:Nat} {held:Bool} {spare:Nat->Bool}
theorem WS {fuel:Nat} {t e:TypeId} {c:Value} {x:DataW H×List MemPlace} (ht:P.underlying t=some (.slice e)) (he:P.underlying e=some (.int .u8)) (hC:P.cellsOf e=1)
 (h:DataW.trod enc P w base spare held fuel t [c]=some x) (mu:∀len cap a,c=.slice a len cap->len<=aL):∃bs,Bs w c bs:=by
 rcases open_slice ht h with⟨h2,h3⟩|⟨a,len,cap,m,n,D,Pl,ou,hb,hl,hm,Cq,hx,hi⟩
 ·simp at h2
  subst h2
  exact⟨[],Bs.nil w⟩
 ·simp at ou
  subst ou
  have Mp:len<=m:=by rw[Cq];split<;>omega
  obtain⟨bs,dJ,kC⟩:=NP (P:=fun i (b:UInt8)=>w.cell? (a.add i)=some (.int .u8 (b.toNat:Int))) len (fun i uc=>by
   obtain⟨fU,hc,Mq⟩:=hi i (by omega)
   rw[hC] at hc
   obtain⟨_,fH,Ca⟩:=World.cells?_some hc
   obtain⟨k,rfl,_,hw⟩:=DataW.trod_int he Mq
   have hk:0<=k/\k<=255:=by simpa[Lit.wf,IntKind.min,IntKind.max,IntKind.signed,IntKind.bits] using hw
   refine⟨UInt8.ofNat k.toNat,?_⟩
   have:=Ca 0 (by omega)
   have e1:((UInt8.ofNat k.toNat).toNat:Int)=k:=by
    rw[UInt8.toNat_ofNat'];omega
   rw[e1]
   simpa[Addr.add] using this)
  refine⟨bs,⟨⟨some a,cap,by rw[dJ],fun e=>(by cases e),by omega,hm,fun ad kB=>?_⟩,by rw[dJ];exact mu len cap (some a) rfl⟩⟩
  cases kB
  have xG:∀j u,(fm bs)[j]?=some u->w.cell? (a.add j)=some u:=fun j u hu=>by
   have hj:j<bs.length:=by
    rcases Nat.lt_or_ge j bs.length with h|h
    ·exact h
    ·rw[List.getElem?_eq_none (by rw[r8];exact h)] at hu;cases hu
   rw[vD bs j hj] at hu
   rw[<-hu]
   exact kC j _ (List.getElem?_eq_getElem hj)
  refine⟨fun cu=>?_,xG⟩
  have h0:0<bs.length:=List.length_pos_iff.2 cu
  have:=World.block_lt_of_cell? w _ (xG 0 _ (vD bs 0 h0))
  rwa [NA] at this
theorem ab5 {fuel:Nat} {t e:TypeId} {c:Value} {x:DataW H×List MemPlace} (ht:P.underlying t=some (.slice e)) (he:P.underlying e=some (.int .u8)) (hC:P.cellsOf e=1)
 (h:DataW.trod enc P w base spare held fuel t [c]=some x) (hB:Rows.uptoBulk x.1<=1048576):∃bs,Bs w c bs/\bs.length+1<=Rows.uptoBulk x.1:=by
 have hlen:∀len cap a,c=.slice a len cap->len+1<=Rows.uptoBulk x.1:=by
  intro len cap a hc
  subst hc
  rcases open_slice ht h with⟨h2,h3⟩|⟨a,len,cap,m,n,D,Pl,ou,hb,hl,hm,Cq,rfl,hi⟩
  ·simp at h2;have:=PU x.1;omega
  ·simp at ou
   obtain⟨_,rfl,_⟩:=ou
   have h1:=PN ((List.range len).map D)
   rw[List.length_map,List.length_range] at h1
   simp only[Rows.uptoBulk]
   omega
 obtain⟨bs,hb⟩:=WS ht he hC h (fun len cap a hc=>by have:=hlen len cap a hc;unfold aL;omega)
 obtain⟨⟨A,ahW,hv,_⟩,_⟩:=id hb
 exact⟨bs,hb,hlen _ _ _ hv⟩
theorem ZX {l:List (DataW H)} {y:DataW H} (hy:y∈l):Rows.uptoBulk y<=Rows.uptoBulkAll l:=by
 induction l with
 |nil=>cases hy
 |cons z r ih=>
  simp only[Rows.uptoBulkAll]
  rcases List.mem_cons.1 hy with e|e
  ·subst e;omega
  ·have:=ih e;omega
theorem X3 {l:List (DataW H)} (hk:Rows.uptoSmall H l=true):Rows.uptoBulkAll l<=1048576:=of_decide_eq_true hk
end
end
section
open Go.ChangeShapes Go.WideShapes Go.ChangeAt Go.RowKit Go.Deep
structure Ty (α:Type) where
 n:Nat
 rd:(Nat->Prop)->World->List Value->α->Prop
 sz:α->Nat
 len:∀{aG:Nat->Prop} {w:World} {cs:List Value} {a:α},rd aG w cs a->cs.length=n
 ext:∀{aG own:Nat->Prop} {w w':World} {cs:List Value} {a:α},rd aG w cs a->Ext own w w'->(∀g,aG g->¬own g)->rd aG w' cs a
 mono:∀{aG Le:Nat->Prop} {w:World} {cs:List Value} {a:α},rd aG w cs a->(∀g,aG g->Le g)->rd Le w cs a
 bound:∀{aG:Nat->Prop} {w:World} {cs:List Value} {a:α},rd aG w cs a->rd (fun g=>aG g/\g<w.heap.size) w cs a
theorem Ty.later {α:Type} (T:Ty α) {aG:Nat->Prop} {w w':World} {cs:List Value} {a:α} (h:T.rd aG w cs a) (hb:B w w'):T.rd aG w' cs a:=
 T.ext h (Ext.of_B (own:=fun _=>False) hb) (fun _ _=>id)
def tI:Ty Int where
 n:=1
 rd _ _ cs a:=cs=[.int .i64 a]/\-9223372036854775808<=a/\a<=9223372036854775807
 sz _:=1
 len h:=by rw[h.1];rfl
 ext h _ _:=h
 mono h _:=h
 bound h:=h
def tW:Ty Int where
 n:=1
 rd _ _ cs a:=cs=[.int .u16 a]/\0<=a/\a<=65535
 sz _:=1
 len h:=by rw[h.1];rfl
 ext h _ _:=h
 mono h _:=h
 bound h:=h
def tB:Ty Bool where
 n:=1
 rd _ _ cs a:=cs=[.bool a]
 sz _:=1
 len h:=by rw[h];rfl
 ext h _ _:=h
 mono h _:=h
 bound h:=h
def tS:Ty (List UInt8) where
 n:=1
 rd _ _ cs a:=cs=[.string (aA a)]/\a.length<=4194304
 sz a:=a.length+1
 len h:=by rw[h.1];rfl
 ext h _ _:=h
 mono h _:=h
 bound h:=h
def tY:Ty (List UInt8) where
 n:=1
 rd aG w cs a:=∃v,cs=[v]/\Bs w v a/\(∀g,v.ownBlock=some g->a≠[]->aG g)/\a.length<=4194304
 sz a:=a.length+1
 len h:=by obtain⟨v,rfl,_⟩:=h;rfl
 ext h hx hd:=by obtain⟨v,rfl,h1,h2,h3⟩:=h;exact⟨v,rfl,h1.ext hx (fun g hg cu=>hd g (h2 g hg cu)),h2,h3⟩
 mono h hs:=by obtain⟨v,rfl,h1,h2,h3⟩:=h;exact⟨v,rfl,h1,fun g hg cu=>hs g (h2 g hg cu),h3⟩
 bound h:=by obtain⟨v,rfl,h1,h2,h3⟩:=h;exact⟨v,rfl,h1,fun g hg cu=>⟨h2 g hg cu,h1.lt cu hg⟩,h3⟩
def tP {α β:Type} (T:Ty α) (U:Ty β):Ty (α×β) where
 n:=T.n+U.n
 rd aG w cs p:=∃c d,cs=c++d/\T.rd aG w c p.1/\U.rd aG w d p.2
 sz p:=T.sz p.1+U.sz p.2
 len h:=by obtain⟨c,d,rfl,h1,h2⟩:=h;rw[List.length_append,T.len h1,U.len h2]
 ext h hx hd:=by obtain⟨c,d,rfl,h1,h2⟩:=h;exact⟨c,d,rfl,T.ext h1 hx hd,U.ext h2 hx hd⟩
 mono h hs:=by obtain⟨c,d,rfl,h1,h2⟩:=h;exact⟨c,d,rfl,T.mono h1 hs,U.mono h2 hs⟩
 bound h:=by obtain⟨c,d,rfl,h1,h2⟩:=h;exact⟨c,d,rfl,T.bound h1,U.bound h2⟩
def tM {α β:Type} (T:Ty α) (f:β->α):Ty β where
 n:=T.n
 rd aG w cs b:=T.rd aG w cs (f b)
 sz b:=T.sz (f b)+1
 len h:=T.len h
 ext h hx hd:=T.ext h hx hd
 mono h hs:=T.mono h hs
 bound h:=T.bound h
def afp {α:Type} (T:Ty α) (aG:Nat->Prop) (w:World) (b off:Nat) (xs:List α):Prop:=
 ∀i x,xs[i]?=some x->∃cs,T.rd aG w cs x/\∀j v,cs[j]?=some v->w.cell? ⟨b,off+i*T.n+j,none⟩=some v
def tL {α:Type} (T:Ty α):Ty (List α) where
 n:=1
 rd aG w cs xs:=∃A cap,cs=[.slice A xs.length cap]/\xs.length<=cap/\cap<=maxLen/\(A=none->xs.length=0/\cap=0)/\xs.length<=4194304/\
  (0<xs.length->∃b off,A=some ⟨b,off,none⟩/\b<w.heap.size/\aG b/\afp T aG w b off xs)
 sz xs:=(xs.map T.sz).sum+1
 len h:=by obtain⟨A,cap,rfl,_⟩:=h;rfl
 ext h hx hd:=by
  obtain⟨A,cap,rfl,h1,h2,h3,h4,h5⟩:=h
  refine⟨A,cap,rfl,h1,h2,h3,h4,fun h0=>?_⟩
  obtain⟨b,off,rfl,hb,hi,wH⟩:=h5 h0
  refine⟨b,off,rfl,Nat.lt_of_lt_of_le hb hx.size,hi,fun i x uh=>?_⟩
  obtain⟨cs,k1,k2⟩:=wH i x uh
  exact⟨cs,T.ext k1 hx hd,fun j v hj=>hx.cell (hd b hi) (k2 j v hj)⟩
 mono h hs:=by
  obtain⟨A,cap,rfl,h1,h2,h3,h4,h5⟩:=h
  refine⟨A,cap,rfl,h1,h2,h3,h4,fun h0=>?_⟩
  obtain⟨b,off,rfl,hb,hi,wH⟩:=h5 h0
  refine⟨b,off,rfl,hb,hs b hi,fun i x uh=>?_⟩
  obtain⟨cs,k1,k2⟩:=wH i x uh
  exact⟨cs,T.mono k1 hs,k2⟩
 bound h:=by
  obtain⟨A,cap,rfl,h1,h2,h3,h4,h5⟩:=h
  refine⟨A,cap,rfl,h1,h2,h3,h4,fun h0=>?_⟩
  obtain⟨b,off,rfl,hb,hi,wH⟩:=h5 h0
  refine⟨b,off,rfl,hb,⟨hi,hb⟩,fun i x uh=>?_⟩
  obtain⟨cs,k1,k2⟩:=wH i x uh
  exact⟨cs,T.bound k1,k2⟩
theorem tL.at {α:Type} {T:Ty α} {aG:Nat->Prop} {w:World} {A:Option Addr} {l cap:Nat} {xs:List α} (h:(tL T).rd aG w [.slice A l cap] xs) {i:Nat} {x:α} (hi:xs[i]?=some x):
 l=xs.length/\∃b off cs,A=some ⟨b,off,none⟩/\T.rd aG w cs x/\∀j v,cs[j]?=some v->w.cell? ⟨b,off+i*T.n+j,none⟩=some v:=by
 obtain⟨A',G6,he,h1,h2,h3,h4,h5⟩:=h
 injection he with he _
 injection he with e1 e2 e3
 subst e1 e2 e3
 have hl:i<xs.length:=by
  rcases Nat.lt_or_ge i xs.length with h'|h'
  ·exact h'
  ·rw[List.getElem?_eq_none h'] at hi;cases hi
 obtain⟨b,off,rfl,hb,xS,wH⟩:=h5 (by omega)
 obtain⟨cs,k1,k2⟩:=wH i x hi
 exact⟨rfl,b,off,cs,rfl,k1,k2⟩
theorem tL.slice {α:Type} {T:Ty α} {aG:Nat->Prop} {w:World} {cs:List Value} {xs:List α} (h:(tL T).rd aG w cs xs):∃A cap,cs=[.slice A xs.length cap]/\xs.length<=4194304:=by
 obtain⟨A,cap,rfl,_,_,_,h4,_⟩:=h
 exact⟨A,cap,rfl,h4⟩
def j4 {α:Type} (P:Program) (t:TypeId) (T:Ty α):Prop:=
 P.cellsOf t=T.n/\∀{H:Type} {enc:TypeId×Value->H} {w:World} {base:Nat} {held:Bool} {spare:Nat->Bool} {fuel:Nat} {cs:List Value} {x:DataW H×List MemPlace},
   DataW.trod enc P w base spare held fuel t cs=some x->Rows.uptoBulk x.1<=1048576->∃a,T.rd (fun g=>g<w.heap.size) w cs a/\T.sz a<=Rows.uptoBulk x.1
section
variable {P:Program} {t e:TypeId}
theorem gR (ht:P.underlying t=some (.int .i64)) (hc:P.cellsOf t=1):j4 P t tI:=by
 refine⟨hc,fun h hB=>?_⟩
 obtain⟨n,rfl,hx,hw⟩:=DataW.trod_int ht h
 rw[hx]
 exact⟨n,⟨rfl,by simpa[Lit.wf,IntKind.min,IntKind.max,IntKind.signed,IntKind.bits] using hw⟩,by simp[tI,Rows.uptoBulk]⟩
theorem adv (ht:P.underlying t=some .bool) (hc:P.cellsOf t=1):j4 P t tB:=by
 refine⟨hc,fun h hB=>?_⟩
 obtain⟨b,rfl,hx⟩:=DataW.trod_bool ht h
 rw[hx]
 exact⟨b,rfl,by simp[tB,Rows.uptoBulk]⟩
theorem DG (ht:P.underlying t=some .string) (hc:P.cellsOf t=1):j4 P t tS:=by
 refine⟨hc,fun h hB=>?_⟩
 obtain⟨s,rfl,hx,_⟩:=DataW.trod_string ht h
 rw[hx] at hB ⊢
 simp only[Rows.uptoBulk] at hB ⊢
 refine⟨s.data.toList,⟨by cases s;rfl,by omega⟩,by simp[tS]⟩
theorem Gt (ht:P.underlying t=some (.slice e)) (he:P.underlying e=some (.int .u8)) (hC:P.cellsOf e=1) (hc:P.cellsOf t=1):j4 P t tY:=by
 refine⟨hc,fun {H enc w base held spare fuel cs x} h hB=>?_⟩
 have ou:∃c,cs=[c]:=by
  rcases open_slice ht h with⟨rfl,_⟩|⟨a,len,cap,m,n,D,Pl,rfl,_⟩
  ·exact⟨_,rfl⟩
  ·exact⟨_,rfl⟩
 obtain⟨c,rfl⟩:=ou
 obtain⟨bs,hb,hl⟩:=ab5 ht he hC h hB
 exact⟨bs,⟨c,rfl,hb,fun g hg cu=>hb.lt cu hg,by omega⟩,by simp only[tY];omega⟩
theorem uE {α:Type} {T:Ty α} (ht:P.underlying t=some (.slice e)) (hT:j4 P e T) (pY:0<T.n) (hc:P.cellsOf t=1):j4 P t (tL T):=by
 refine⟨hc,fun {H enc w base held spare fuel cs x} h hB=>?_⟩
 rcases open_slice ht h with⟨rfl,hx⟩|⟨a,len,cap,m,n,D,Pl,rfl,hb,hl,hm,Cq,hx,hi⟩
 ·rw[hx]
  exact⟨[],⟨none,0,rfl,Nat.le_refl _,by unfold maxLen;omega,fun _=>⟨rfl,rfl⟩,by simp,fun h0=>by simp at h0⟩,by simp[tL,Rows.uptoBulk]⟩
 ·have Mp:len<=m:=by rw[Cq];split<;>omega
  rw[hx] at hB ⊢
  simp only[Rows.uptoBulk] at hB ⊢
  have ug:∀i,i<len->Rows.uptoBulk (D i)<=Rows.uptoBulkAll ((List.range len).map D):=fun i uc=>ZX (List.mem_map.2 ⟨i,by simpa using uc,rfl⟩)
  obtain⟨L,Tq,hL⟩:=NP (P:=fun i (x:α)=>(∃fU,T.rd (fun g=>g<w.heap.size) w fU x/\∀j v,fU[j]?=some v->w.cell? ((a.add (i*T.n)).add j)=some v)/\T.sz x<=Rows.uptoBulk (D i)) len (fun i uc=>by
   obtain⟨fU,Ar,Mq⟩:=hi i (by omega)
   obtain⟨y,hy,ze⟩:=hT.2 Mq (by have:=ug i uc;show Rows.uptoBulk (D i)<=_;omega)
   obtain⟨_,fH,Ca⟩:=World.cells?_some Ar
   refine⟨y,⟨fU,hy,fun j v hj=>?_⟩,ze⟩
   have HU:j<fU.length:=by
    rcases Nat.lt_or_ge j fU.length with h'|h'
    ·exact h'
    ·rw[List.getElem?_eq_none h'] at hj;cases hj
   rw[<-hj,<-hT.1]
   exact Ca j (by omega))
  have ael:=PN ((List.range len).map D)
  rw[List.length_map,List.length_range] at ael
  refine⟨L,⟨some a,cap,by rw[Tq],by omega,hm,fun h'=>(by cases h'),by omega,fun h0=>?_⟩,?_⟩
  ·obtain⟨⟨Mr,y0,z0⟩,_⟩:=hL 0 _ (List.getElem?_eq_getElem h0)
   have hc0:=T.len y0
   have z1:=z0 0 _ (List.getElem?_eq_getElem (by omega))
   have za:a=⟨a.block,a.off,none⟩:=by
    have:=X4 z1
    simp[Addr.add] at this
    exact this
   have Lp:=World.block_lt_of_cell? w _ z1
   simp[Addr.add] at Lp
   refine⟨a.block,a.off,by rw[<-za],Lp,Lp,fun i x uh=>?_⟩
   obtain⟨⟨fU,y,z⟩,_⟩:=hL i x uh
   refine⟨fU,y,fun j v hj=>?_⟩
   have:=z j v hj
   rw[za,addr_add,addr_add] at this
   exact this
  ·have:=PO T.sz L ((List.range len).map D) (by simp[Tq]) (fun i x d kZ hd=>by
    have uc:i<len:=by
     rcases Nat.lt_or_ge i L.length with h'|h'
     ·omega
     ·rw[List.getElem?_eq_none h'] at kZ;cases kZ
    rw[List.getElem?_map,List.getElem?_range uc] at hd
    cases hd
    exact(hL i x kZ).2)
   simp only[tL]
   omega
def Gu {α:Type} (P:Program) (fs:List Field) (o:Nat) (T:Ty α):Prop:=
 ∀{H:Type} {enc:TypeId×Value->H} {w:World} {base:Nat} {held:Bool} {spare:Nat->Bool} {fuel:Nat} {cs:List Value} {xs:List (DataW H×List MemPlace)},
  xs.length=fs.length->(∀(i:Nat) (f:Field),fs[i]?=some f->DataW.trod enc P w base spare held fuel f.type ((cs.drop f.offset).take (P.cellsOf f.type))=xs[i]?)->Rows.uptoBulkAll (xs.map (·.1))<=1048576->
  ∃a,T.rd (fun g=>g<w.heap.size) w ((cs.drop o).take T.n) a/\T.sz a<=Rows.uptoBulkAll (xs.map (·.1))
theorem rA {α:Type} {f:Field} {T:Ty α} {o:Nat} (ho:f.offset=o) (hT:j4 P f.type T):Gu P [f] o T:=by
 intro H enc w base held spare fuel cs xs hl hx hB
 obtain⟨y,rfl⟩:∃y,xs=[y]:=by
  cases xs with
  |nil=>simp at hl
  |cons y r=>cases r with
   |nil=>exact⟨y,rfl⟩
   |cons _ _=>simp at hl
 have h0:=hx 0 f rfl
 simp only[List.map_cons,List.map_nil,Rows.uptoBulkAll,Nat.add_zero] at hB ⊢
 rw[hT.1,ho] at h0
 exact hT.2 h0 hB
theorem dX {α β:Type} {f:Field} {fs:List Field} {T:Ty α} {U:Ty β} {o o':Nat} (ho:f.offset=o) (xV:o+T.n=o') (hT:j4 P f.type T) (hU:Gu P fs o' U):Gu P (f::fs) o (tP T U):=by
 intro H enc w base held spare fuel cs xs hl hx hB
 cases xs with
 |nil=>simp at hl
 |cons y r=>
  simp only[List.map_cons,Rows.uptoBulkAll] at hB ⊢
  have h0:=hx 0 f rfl
  rw[hT.1,ho] at h0
  obtain⟨a,ha,hsa⟩:=hT.2 h0 (by show Rows.uptoBulk y.1<=_;omega)
  obtain⟨b,hb,hsb⟩:=hU (xs:=r) (by simpa using hl) (fun i g hg=>by have:=hx (i+1) g (by simpa using hg);simpa using this) (by omega)
  refine⟨(a,b),⟨_,_,?_,ha,hb⟩,by simp only[tP];omega⟩
  simp only[tP]
  rw[<-xV,<-List.drop_drop,<-List.take_add]
theorem rG {α β:Type} {fs:Array Field} {T:Ty α} {f:β->α} (g:α->β) (Tr:∀a,f (g a)=a) (ht:P.underlying t=some (.struct fs)) (hT:Gu P fs.toList 0 T) (hc:P.cellsOf t=T.n):j4 P t (tM T f):=by
 refine⟨hc,fun {H enc w base held spare fuel cs x} h hB=>?_⟩
 obtain⟨xs,n,_,hx,fH,nC,hf⟩:=DataW.trod_struct ht h
 rw[hx] at hB ⊢
 simp only[Rows.uptoBulk] at hB ⊢
 obtain⟨a,ha,hs⟩:=hT (xs:=xs) (by simpa using nC) (fun i fl zf=>hf i fl (by simpa using zf)) (by omega)
 refine⟨g a,?_,by simp only[tM];rw[Tr];omega⟩
 show T.rd _ w cs (f (g a))
 rw[Tr]
 rw[List.drop_zero,List.take_of_length_le (by omega)] at ha
 exact ha
theorem j4.arg {α:Type} {T:Ty α} (hT:j4 P t T) {H:Type} {enc:TypeId×Value->H} {w:World} {base:Nat} {held:Bool} {spare:Nat->Bool} {v:Value} {d:DataW H} {p:List MemPlace}
 (h:DataW.Trod enc P w base spare held t v d p) (hB:Rows.uptoBulk d<=1048576):∃a,T.rd (fun g=>g<w.heap.size) w v.cells.toList a/\T.sz a<=Rows.uptoBulk d:=by
 obtain⟨fuel,hf⟩:=h
 exact hT.2 hf hB
end
end
section
open Go.ChangeShapes Go.WideShapes Go.ChangeAt Go.RowKit Go.Deep
theorem uN {cs:List Value} (h:cs.length=1):∃v,cs=[v]:=by
 cases cs with
 |nil=>simp at h
 |cons v r=>cases r with
  |nil=>exact⟨v,rfl⟩
  |cons _ _=>simp at h
structure bJ where
 key:Int
 ah:Int
def kj:Ty bJ:=tM (tP tI tI) (fun s:bJ=>(s.key,s.ah))
theorem zx:j4 prog 57 kj:=by
 refine rG (fun p=>⟨p.1,p.2⟩) (fun _=>rfl) underlying57 ?_ (by kernel_rfl)
 simp only
 refine dX (o':=1) rfl rfl ?_ ?_
 ·exact gR underlying3 (by kernel_rfl)
 refine rA rfl ?_
 exact gR underlying41 (by kernel_rfl)
theorem kj.parts {aG:Nat->Prop} {w:World} {cs:List Value} {s:bJ} (h:kj.rd aG w cs s):cs=[.int .i64 s.key,.int .i64 s.ah]/\(-9223372036854775808<=s.key/\s.key<=9223372036854775807)/\(-9223372036854775808<=s.ah/\s.ah<=9223372036854775807):=by
 obtain⟨c0,c1,rfl,h0,h1⟩:=h
 obtain⟨rfl,b0⟩:=h0
 obtain⟨rfl,b1⟩:=h1
 exact⟨rfl,b0,b1⟩
theorem kj.mk {aG:Nat->Prop} {w:World} {s:bJ} (k0:(-9223372036854775808<=s.key/\s.key<=9223372036854775807)) (k1:(-9223372036854775808<=s.ah/\s.ah<=9223372036854775807)):kj.rd aG w [.int .i64 s.key,.int .i64 s.ah] s:=by
 exact⟨[.int .i64 s.key],[.int .i64 s.ah],rfl,⟨rfl,k0⟩,⟨rfl,k1⟩⟩
structure bt where
 kind:Int
 av:List UInt8
 group:List UInt8
 offset:Int
 records:List (List UInt8)
def mW:Ty bt:=tM (tP tI (tP tS (tP tS (tP tI (tL tY))))) (fun s:bt=>(s.kind,s.av,s.group,s.offset,s.records))
theorem Q0:j4 prog 40 mW:=by
 refine rG (fun p=>⟨p.1,p.2.1,p.2.2.1,p.2.2.2.1,p.2.2.2.2⟩) (fun _=>rfl) underlying40 ?_ (by kernel_rfl)
 simp only
 refine dX (o':=1) rfl rfl ?_ ?_
 ·exact gR underlying3 (by kernel_rfl)
 refine dX (o':=2) rfl rfl ?_ ?_
 ·exact DG underlying9 (by kernel_rfl)
 refine dX (o':=3) rfl rfl ?_ ?_
 ·exact DG underlying9 (by kernel_rfl)
 refine dX (o':=4) rfl rfl ?_ ?_
 ·exact gR underlying2 (by kernel_rfl)
 refine rA rfl ?_
 refine uE underlying38 ?_ (by decide) (by kernel_rfl)
 exact Gt underlying51 underlying5 (by kernel_rfl) (by kernel_rfl)
theorem mW.parts {aG:Nat->Prop} {w:World} {cs:List Value} {s:bt} (h:mW.rd aG w cs s):∃v1,cs=[.int .i64 s.kind,.string (aA s.av),.string (aA s.group),.int .i64 s.offset,v1]/\(-9223372036854775808<=s.kind/\s.kind<=9223372036854775807)/\s.av.length<=4194304/\s.group.length<=4194304/\(-9223372036854775808<=s.offset/\s.offset<=9223372036854775807)/\(tL tY).rd aG w [v1] s.records:=by
 obtain⟨c0,e1,rfl,h0,c1,e2,rfl,h1,c2,e3,rfl,h2,c3,c4,rfl,h3,h4⟩:=h
 obtain⟨rfl,b0⟩:=h0
 obtain⟨rfl,b1⟩:=h1
 obtain⟨rfl,b2⟩:=h2
 obtain⟨rfl,b3⟩:=h3
 obtain⟨u4,rfl⟩:=uN ((tL tY).len h4)
 exact⟨u4,rfl,b0,b1,b2,b3,h4⟩
theorem mW.mk {aG:Nat->Prop} {w:World} {s:bt} {v1:Value} (k0:(-9223372036854775808<=s.kind/\s.kind<=9223372036854775807)) (k1:s.av.length<=4194304) (k2:s.group.length<=4194304) (k3:(-9223372036854775808<=s.offset/\s.offset<=9223372036854775807)) (k4:(tL tY).rd aG w [v1] s.records):mW.rd aG w [.int .i64 s.kind,.string (aA s.av),.string (aA s.group),.int .i64 s.offset,v1] s:=by
 exact⟨[.int .i64 s.kind],[.string (aA s.av),.string (aA s.group),.int .i64 s.offset,v1],rfl,⟨rfl,k0⟩,[.string (aA s.av)],[.string (aA s.group),.int .i64 s.offset,v1],rfl,⟨rfl,k1⟩,[.string (aA s.group)],[.int .i64 s.offset,v1],rfl,⟨rfl,k2⟩,[.int .i64 s.offset],[v1],rfl,⟨rfl,k3⟩,k4⟩
structure nH where
 err:Int
 offset:Int
def xe:Ty nH:=tM (tP tI tI) (fun s:nH=>(s.err,s.offset))
theorem VU:j4 prog 43 xe:=by
 refine rG (fun p=>⟨p.1,p.2⟩) (fun _=>rfl) underlying43 ?_ (by kernel_rfl)
 simp only
 refine dX (o':=1) rfl rfl ?_ ?_
 ·exact gR underlying28 (by kernel_rfl)
 refine rA rfl ?_
 exact gR underlying2 (by kernel_rfl)
theorem xe.parts {aG:Nat->Prop} {w:World} {cs:List Value} {s:nH} (h:xe.rd aG w cs s):cs=[.int .i64 s.err,.int .i64 s.offset]/\(-9223372036854775808<=s.err/\s.err<=9223372036854775807)/\(-9223372036854775808<=s.offset/\s.offset<=9223372036854775807):=by
 obtain⟨c0,c1,rfl,h0,h1⟩:=h
 obtain⟨rfl,b0⟩:=h0
 obtain⟨rfl,b1⟩:=h1
 exact⟨rfl,b0,b1⟩
theorem xe.mk {aG:Nat->Prop} {w:World} {s:nH} (k0:(-9223372036854775808<=s.err/\s.err<=9223372036854775807)) (k1:(-9223372036854775808<=s.offset/\s.offset<=9223372036854775807)):xe.rd aG w [.int .i64 s.err,.int .i64 s.offset] s:=by
 exact⟨[.int .i64 s.err],[.int .i64 s.offset],rfl,⟨rfl,k0⟩,⟨rfl,k1⟩⟩
structure ju where
 bD:Int
 time:Int
 op:bt
def JG:Ty ju:=tM (tP tI (tP tI mW)) (fun s:ju=>(s.bD,s.time,s.op))
theorem Vk:j4 prog 181 JG:=by
 refine rG (fun p=>⟨p.1,p.2.1,p.2.2⟩) (fun _=>rfl) underlying181 ?_ (by kernel_rfl)
 simp only
 refine dX (o':=1) rfl rfl ?_ ?_
 ·exact gR underlying3 (by kernel_rfl)
 refine dX (o':=2) rfl rfl ?_ ?_
 ·exact gR underlying2 (by kernel_rfl)
 refine rA rfl ?_
 exact Q0
structure bX where
 request:ju
 sign:bJ
def yw:Ty bX:=tM (tP JG kj) (fun s:bX=>(s.request,s.sign))
theorem Ix:j4 prog 183 yw:=by
 refine rG (fun p=>⟨p.1,p.2⟩) (fun _=>rfl) underlying183 ?_ (by kernel_rfl)
 simp only
 refine dX (o':=7) rfl rfl ?_ ?_
 ·exact Vk
 refine rA rfl ?_
 exact zx
structure j7 where
 seq:Int
 prev:Int
 batch:Int
 root:Int
 state:Int
def yx:Ty j7:=tM (tP tI (tP tI (tP tI (tP tI tI)))) (fun s:j7=>(s.seq,s.prev,s.batch,s.root,s.state))
theorem VV:j4 prog 187 yx:=by
 refine rG (fun p=>⟨p.1,p.2.1,p.2.2.1,p.2.2.2.1,p.2.2.2.2⟩) (fun _=>rfl) underlying187 ?_ (by kernel_rfl)
 simp only
 refine dX (o':=1) rfl rfl ?_ ?_
 ·exact gR underlying2 (by kernel_rfl)
 refine dX (o':=2) rfl rfl ?_ ?_
 ·exact gR underlying41 (by kernel_rfl)
 refine dX (o':=3) rfl rfl ?_ ?_
 ·exact gR underlying41 (by kernel_rfl)
 refine dX (o':=4) rfl rfl ?_ ?_
 ·exact gR underlying41 (by kernel_rfl)
 refine rA rfl ?_
 exact gR underlying41 (by kernel_rfl)
structure gX where
 seq:Int
 ah:Int
 cM:List (bJ)
def qO:Ty gX:=tM (tP tI (tP tI (tL kj))) (fun s:gX=>(s.seq,s.ah,s.cM))
theorem Jf:j4 prog 48 qO:=by
 refine rG (fun p=>⟨p.1,p.2.1,p.2.2⟩) (fun _=>rfl) underlying48 ?_ (by kernel_rfl)
 simp only
 refine dX (o':=1) rfl rfl ?_ ?_
 ·exact gR underlying2 (by kernel_rfl)
 refine dX (o':=2) rfl rfl ?_ ?_
 ·exact gR underlying41 (by kernel_rfl)
 refine rA rfl ?_
 refine uE underlying46 ?_ (by decide) (by kernel_rfl)
 exact zx
theorem qO.parts {aG:Nat->Prop} {w:World} {cs:List Value} {s:gX} (h:qO.rd aG w cs s):∃v1,cs=[.int .i64 s.seq,.int .i64 s.ah,v1]/\(-9223372036854775808<=s.seq/\s.seq<=9223372036854775807)/\(-9223372036854775808<=s.ah/\s.ah<=9223372036854775807)/\(tL kj).rd aG w [v1] s.cM:=by
 obtain⟨c0,e1,rfl,h0,c1,c2,rfl,h1,h2⟩:=h
 obtain⟨rfl,b0⟩:=h0
 obtain⟨rfl,b1⟩:=h1
 obtain⟨u2,rfl⟩:=uN ((tL kj).len h2)
 exact⟨u2,rfl,b0,b1,h2⟩
theorem qO.mk {aG:Nat->Prop} {w:World} {s:gX} {v1:Value} (k0:(-9223372036854775808<=s.seq/\s.seq<=9223372036854775807)) (k1:(-9223372036854775808<=s.ah/\s.ah<=9223372036854775807)) (k2:(tL kj).rd aG w [v1] s.cM):qO.rd aG w [.int .i64 s.seq,.int .i64 s.ah,v1] s:=by
 exact⟨[.int .i64 s.seq],[.int .i64 s.ah,v1],rfl,⟨rfl,k0⟩,[.int .i64 s.ah],[v1],rfl,⟨rfl,k1⟩,k2⟩
structure jt where
 view:Int
 seq:Int
 ah:Int
 kG:bJ
 cM:List (bJ)
 batch:List (bX)
def C1:Ty jt:=tM (tP tI (tP tI (tP tI (tP kj (tP (tL kj) (tL yw)))))) (fun s:jt=>(s.view,s.seq,s.ah,s.kG,s.cM,s.batch))
theorem UW:j4 prog 190 C1:=by
 refine rG (fun p=>⟨p.1,p.2.1,p.2.2.1,p.2.2.2.1,p.2.2.2.2.1,p.2.2.2.2.2⟩) (fun _=>rfl) underlying190 ?_ (by kernel_rfl)
 simp only
 refine dX (o':=1) rfl rfl ?_ ?_
 ·exact gR underlying2 (by kernel_rfl)
 refine dX (o':=2) rfl rfl ?_ ?_
 ·exact gR underlying2 (by kernel_rfl)
 refine dX (o':=3) rfl rfl ?_ ?_
 ·exact gR underlying41 (by kernel_rfl)
 refine dX (o':=5) rfl rfl ?_ ?_
 ·exact zx
 refine dX (o':=6) rfl rfl ?_ ?_
 ·refine uE underlying46 ?_ (by decide) (by kernel_rfl)
  exact zx
 refine rA rfl ?_
 refine uE underlying45 ?_ (by decide) (by kernel_rfl)
 exact Ix
structure cX where
 view:Int
 src:Int
 cert:gX
 cD:List (jt)
 sign:bJ
def vU:Ty cX:=tM (tP tI (tP tI (tP qO (tP (tL C1) kj)))) (fun s:cX=>(s.view,s.src,s.cert,s.cD,s.sign))
theorem VW:j4 prog 145 vU:=by
 refine rG (fun p=>⟨p.1,p.2.1,p.2.2.1,p.2.2.2.1,p.2.2.2.2⟩) (fun _=>rfl) underlying145 ?_ (by kernel_rfl)
 simp only
 refine dX (o':=1) rfl rfl ?_ ?_
 ·exact gR underlying2 (by kernel_rfl)
 refine dX (o':=2) rfl rfl ?_ ?_
 ·exact gR underlying3 (by kernel_rfl)
 refine dX (o':=5) rfl rfl ?_ ?_
 ·exact Jf
 refine dX (o':=6) rfl rfl ?_ ?_
 ·refine uE underlying143 ?_ (by decide) (by kernel_rfl)
  exact UW
 refine rA rfl ?_
 exact zx
theorem vU.parts {aG:Nat->Prop} {w:World} {cs:List Value} {s:cX} (h:vU.rd aG w cs s):∃v1 v2,cs=[.int .i64 s.view,.int .i64 s.src,.int .i64 s.cert.seq,.int .i64 s.cert.ah,v1,v2,.int .i64 s.sign.key,.int .i64 s.sign.ah]/\(-9223372036854775808<=s.view/\s.view<=9223372036854775807)/\(-9223372036854775808<=s.src/\s.src<=9223372036854775807)/\(-9223372036854775808<=s.cert.seq/\s.cert.seq<=9223372036854775807)/\(-9223372036854775808<=s.cert.ah/\s.cert.ah<=9223372036854775807)/\(tL kj).rd aG w [v1] s.cert.cM/\(tL C1).rd aG w [v2] s.cD/\(-9223372036854775808<=s.sign.key/\s.sign.key<=9223372036854775807)/\(-9223372036854775808<=s.sign.ah/\s.sign.ah<=9223372036854775807):=by
 obtain⟨c0,e1,rfl,h0,c1,e2,rfl,h1,c2,e3,rfl,h2,c3,c4,rfl,h3,h4⟩:=h
 obtain⟨rfl,b0⟩:=h0
 obtain⟨rfl,b1⟩:=h1
 obtain⟨afq,rfl,afr,afs,aft⟩:=qO.parts h2
 obtain⟨u3,rfl⟩:=uN ((tL C1).len h3)
 obtain⟨rfl,afu,afv⟩:=kj.parts h4
 exact⟨afq,u3,rfl,b0,b1,afr,afs,aft,h3,afu,afv⟩
structure gq where
 view:Int
 seq:Int
 batch:List (bX)
 sign:bJ
def BL:Ty gq:=tM (tP tI (tP tI (tP (tL yw) kj))) (fun s:gq=>(s.view,s.seq,s.batch,s.sign))
theorem WM:j4 prog 159 BL:=by
 refine rG (fun p=>⟨p.1,p.2.1,p.2.2.1,p.2.2.2⟩) (fun _=>rfl) underlying159 ?_ (by kernel_rfl)
 simp only
 refine dX (o':=1) rfl rfl ?_ ?_
 ·exact gR underlying2 (by kernel_rfl)
 refine dX (o':=2) rfl rfl ?_ ?_
 ·exact gR underlying2 (by kernel_rfl)
 refine dX (o':=3) rfl rfl ?_ ?_
 ·refine uE underlying45 ?_ (by decide) (by kernel_rfl)
  exact Ix
 refine rA rfl ?_
 exact zx
structure jX where
 av:List UInt8
 offset:Int
 record:List UInt8
 headers:List (j7)
 index:Int
 count:Int
 path:List (Int)
 cert:gX
def xk:Ty jX:=tM (tP tS (tP tI (tP tY (tP (tL yx) (tP tI (tP tI (tP (tL tI) qO))))))) (fun s:jX=>(s.av,s.offset,s.record,s.headers,s.index,s.count,s.path,s.cert))
theorem WN:j4 prog 55 xk:=by
 refine rG (fun p=>⟨p.1,p.2.1,p.2.2.1,p.2.2.2.1,p.2.2.2.2.1,p.2.2.2.2.2.1,p.2.2.2.2.2.2.1,p.2.2.2.2.2.2.2⟩) (fun _=>rfl) underlying55 ?_ (by kernel_rfl)
 simp only
 refine dX (o':=1) rfl rfl ?_ ?_
 ·exact DG underlying9 (by kernel_rfl)
 refine dX (o':=2) rfl rfl ?_ ?_
 ·exact gR underlying2 (by kernel_rfl)
 refine dX (o':=3) rfl rfl ?_ ?_
 ·exact Gt underlying51 underlying5 (by kernel_rfl) (by kernel_rfl)
 refine dX (o':=4) rfl rfl ?_ ?_
 ·refine uE underlying52 ?_ (by decide) (by kernel_rfl)
  exact VV
 refine dX (o':=5) rfl rfl ?_ ?_
 ·exact gR underlying3 (by kernel_rfl)
 refine dX (o':=6) rfl rfl ?_ ?_
 ·exact gR underlying3 (by kernel_rfl)
 refine dX (o':=7) rfl rfl ?_ ?_
 ·refine uE underlying53 ?_ (by decide) (by kernel_rfl)
  exact gR underlying41 (by kernel_rfl)
 refine rA rfl ?_
 exact Jf
theorem xk.parts {aG:Nat->Prop} {w:World} {cs:List Value} {s:jX} (h:xk.rd aG w cs s):∃v1 v2 v3 v4,cs=[.string (aA s.av),.int .i64 s.offset,v1,v2,.int .i64 s.index,.int .i64 s.count,v3,.int .i64 s.cert.seq,.int .i64 s.cert.ah,v4]/\s.av.length<=4194304/\(-9223372036854775808<=s.offset/\s.offset<=9223372036854775807)/\tY.rd aG w [v1] s.record/\(tL yx).rd aG w [v2] s.headers/\(-9223372036854775808<=s.index/\s.index<=9223372036854775807)/\(-9223372036854775808<=s.count/\s.count<=9223372036854775807)/\(tL tI).rd aG w [v3] s.path/\(-9223372036854775808<=s.cert.seq/\s.cert.seq<=9223372036854775807)/\(-9223372036854775808<=s.cert.ah/\s.cert.ah<=9223372036854775807)/\(tL kj).rd aG w [v4] s.cert.cM:=by
 obtain⟨c0,e1,rfl,h0,c1,e2,rfl,h1,c2,e3,rfl,h2,c3,e4,rfl,h3,c4,e5,rfl,h4,c5,e6,rfl,h5,c6,c7,rfl,h6,h7⟩:=h
 obtain⟨rfl,b0⟩:=h0
 obtain⟨rfl,b1⟩:=h1
 obtain⟨u2,rfl⟩:=uN (tY.len h2)
 obtain⟨u3,rfl⟩:=uN ((tL yx).len h3)
 obtain⟨rfl,b4⟩:=h4
 obtain⟨rfl,b5⟩:=h5
 obtain⟨u6,rfl⟩:=uN ((tL tI).len h6)
 obtain⟨afw,rfl,Lq,Lr,afx⟩:=qO.parts h7
 exact⟨u2,u3,u6,afw,rfl,b0,b1,h2,h3,b4,b5,h6,Lq,Lr,afx⟩
theorem xk.mk {aG:Nat->Prop} {w:World} {s:jX} {v1 v2 v3 v4:Value} (k0:s.av.length<=4194304) (k1:(-9223372036854775808<=s.offset/\s.offset<=9223372036854775807)) (k2:tY.rd aG w [v1] s.record) (k3:(tL yx).rd aG w [v2] s.headers) (k4:(-9223372036854775808<=s.index/\s.index<=9223372036854775807)) (k5:(-9223372036854775808<=s.count/\s.count<=9223372036854775807)) (k6:(tL tI).rd aG w [v3] s.path) (k7:(-9223372036854775808<=s.cert.seq/\s.cert.seq<=9223372036854775807)) (k8:(-9223372036854775808<=s.cert.ah/\s.cert.ah<=9223372036854775807)) (k9:(tL kj).rd aG w [v4] s.cert.cM):xk.rd aG w [.string (aA s.av),.int .i64 s.offset,v1,v2,.int .i64 s.index,.int .i64 s.count,v3,.int .i64 s.cert.seq,.int .i64 s.cert.ah,v4] s:=by
 exact⟨[.string (aA s.av)],[.int .i64 s.offset,v1,v2,.int .i64 s.index,.int .i64 s.count,v3,.int .i64 s.cert.seq,.int .i64 s.cert.ah,v4],rfl,⟨rfl,k0⟩,[.int .i64 s.offset],[v1,v2,.int .i64 s.index,.int .i64 s.count,v3,.int .i64 s.cert.seq,.int .i64 s.cert.ah,v4],rfl,⟨rfl,k1⟩,[v1],[v2,.int .i64 s.index,.int .i64 s.count,v3,.int .i64 s.cert.seq,.int .i64 s.cert.ah,v4],rfl,k2,[v2],[.int .i64 s.index,.int .i64 s.count,v3,.int .i64 s.cert.seq,.int .i64 s.cert.ah,v4],rfl,k3,[.int .i64 s.index],[.int .i64 s.count,v3,.int .i64 s.cert.seq,.int .i64 s.cert.ah,v4],rfl,⟨rfl,k4⟩,[.int .i64 s.count],[v3,.int .i64 s.cert.seq,.int .i64 s.cert.ah,v4],rfl,⟨rfl,k5⟩,[v3],[.int .i64 s.cert.seq,.int .i64 s.cert.ah,v4],rfl,k6,qO.mk k7 k8 k9⟩
structure aD where
 kind:Int
 src:Int
 view:Int
 seq:Int
 ah:Int
 bD:Int
 time:Int
 result:nH
 batch:List (bX)
 cert:gX
 changes:List (cX)
 entries:List (gq)
 state:List UInt8
 av:List UInt8
 offset:Int
 proof:jX
 sign:bJ
def jE:Ty aD:=tM (tP tI (tP tI (tP tI (tP tI (tP tI (tP tI (tP tI (tP xe (tP (tL yw) (tP qO (tP (tL vU) (tP (tL BL) (tP tY (tP tS (tP tI (tP xk kj)))))))))))))))) (fun s:aD=>(s.kind,s.src,s.view,s.seq,s.ah,s.bD,s.time,s.result,s.batch,s.cert,s.changes,s.entries,s.state,s.av,s.offset,s.proof,s.sign))
theorem ZY:j4 prog 59 jE:=by
 refine rG (fun p=>⟨p.1,p.2.1,p.2.2.1,p.2.2.2.1,p.2.2.2.2.1,p.2.2.2.2.2.1,p.2.2.2.2.2.2.1,p.2.2.2.2.2.2.2.1,p.2.2.2.2.2.2.2.2.1,p.2.2.2.2.2.2.2.2.2.1,p.2.2.2.2.2.2.2.2.2.2.1,p.2.2.2.2.2.2.2.2.2.2.2.1,p.2.2.2.2.2.2.2.2.2.2.2.2.1,p.2.2.2.2.2.2.2.2.2.2.2.2.2.1,p.2.2.2.2.2.2.2.2.2.2.2.2.2.2.1,p.2.2.2.2.2.2.2.2.2.2.2.2.2.2.2.1,p.2.2.2.2.2.2.2.2.2.2.2.2.2.2.2.2⟩) (fun _=>rfl) underlying59 ?_ (by kernel_rfl)
 simp only
 refine dX (o':=1) rfl rfl ?_ ?_
 ·exact gR underlying3 (by kernel_rfl)
 refine dX (o':=2) rfl rfl ?_ ?_
 ·exact gR underlying3 (by kernel_rfl)
 refine dX (o':=3) rfl rfl ?_ ?_
 ·exact gR underlying2 (by kernel_rfl)
 refine dX (o':=4) rfl rfl ?_ ?_
 ·exact gR underlying2 (by kernel_rfl)
 refine dX (o':=5) rfl rfl ?_ ?_
 ·exact gR underlying41 (by kernel_rfl)
 refine dX (o':=6) rfl rfl ?_ ?_
 ·exact gR underlying3 (by kernel_rfl)
 refine dX (o':=7) rfl rfl ?_ ?_
 ·exact gR underlying2 (by kernel_rfl)
 refine dX (o':=9) rfl rfl ?_ ?_
 ·exact VU
 refine dX (o':=10) rfl rfl ?_ ?_
 ·refine uE underlying45 ?_ (by decide) (by kernel_rfl)
  exact Ix
 refine dX (o':=13) rfl rfl ?_ ?_
 ·exact Jf
 refine dX (o':=14) rfl rfl ?_ ?_
 ·refine uE underlying49 ?_ (by decide) (by kernel_rfl)
  exact VW
 refine dX (o':=15) rfl rfl ?_ ?_
 ·refine uE underlying50 ?_ (by decide) (by kernel_rfl)
  exact WM
 refine dX (o':=16) rfl rfl ?_ ?_
 ·exact Gt underlying26 underlying5 (by kernel_rfl) (by kernel_rfl)
 refine dX (o':=17) rfl rfl ?_ ?_
 ·exact DG underlying9 (by kernel_rfl)
 refine dX (o':=18) rfl rfl ?_ ?_
 ·exact gR underlying2 (by kernel_rfl)
 refine dX (o':=28) rfl rfl ?_ ?_
 ·exact WN
 refine rA rfl ?_
 exact zx
theorem jE.parts {aG:Nat->Prop} {w:World} {cs:List Value} {s:aD} (h:jE.rd aG w cs s):∃v1 v2 v3 v4 v5 v6 v7 v8 v9,cs=[.int .i64 s.kind,.int .i64 s.src,.int .i64 s.view,.int .i64 s.seq,.int .i64 s.ah,.int .i64 s.bD,.int .i64 s.time,.int .i64 s.result.err,.int .i64 s.result.offset,v1,.int .i64 s.cert.seq,.int .i64 s.cert.ah,v2,v3,v4,v5,.string (aA s.av),.int .i64 s.offset,.string (aA s.proof.av),.int .i64 s.proof.offset,v6,v7,.int .i64 s.proof.index,.int .i64 s.proof.count,v8,.int .i64 s.proof.cert.seq,.int .i64 s.proof.cert.ah,v9,.int .i64 s.sign.key,.int .i64 s.sign.ah]/\(-9223372036854775808<=s.kind/\s.kind<=9223372036854775807)/\(-9223372036854775808<=s.src/\s.src<=9223372036854775807)/\(-9223372036854775808<=s.view/\s.view<=9223372036854775807)/\(-9223372036854775808<=s.seq/\s.seq<=9223372036854775807)/\(-9223372036854775808<=s.ah/\s.ah<=9223372036854775807)/\(-9223372036854775808<=s.bD/\s.bD<=9223372036854775807)/\(-9223372036854775808<=s.time/\s.time<=9223372036854775807)/\(-9223372036854775808<=s.result.err/\s.result.err<=9223372036854775807)/\(-9223372036854775808<=s.result.offset/\s.result.offset<=9223372036854775807)/\(tL yw).rd aG w [v1] s.batch/\(-9223372036854775808<=s.cert.seq/\s.cert.seq<=9223372036854775807)/\(-9223372036854775808<=s.cert.ah/\s.cert.ah<=9223372036854775807)/\(tL kj).rd aG w [v2] s.cert.cM/\(tL vU).rd aG w [v3] s.changes/\(tL BL).rd aG w [v4] s.entries/\tY.rd aG w [v5] s.state/\s.av.length<=4194304/\(-9223372036854775808<=s.offset/\s.offset<=9223372036854775807)/\s.proof.av.length<=4194304/\(-9223372036854775808<=s.proof.offset/\s.proof.offset<=9223372036854775807)/\tY.rd aG w [v6] s.proof.record/\(tL yx).rd aG w [v7] s.proof.headers/\(-9223372036854775808<=s.proof.index/\s.proof.index<=9223372036854775807)/\(-9223372036854775808<=s.proof.count/\s.proof.count<=9223372036854775807)/\(tL tI).rd aG w [v8] s.proof.path/\(-9223372036854775808<=s.proof.cert.seq/\s.proof.cert.seq<=9223372036854775807)/\(-9223372036854775808<=s.proof.cert.ah/\s.proof.cert.ah<=9223372036854775807)/\(tL kj).rd aG w [v9] s.proof.cert.cM/\(-9223372036854775808<=s.sign.key/\s.sign.key<=9223372036854775807)/\(-9223372036854775808<=s.sign.ah/\s.sign.ah<=9223372036854775807):=by
 obtain⟨c0,e1,rfl,h0,c1,e2,rfl,h1,c2,e3,rfl,h2,c3,e4,rfl,h3,c4,e5,rfl,h4,c5,e6,rfl,h5,c6,e7,rfl,h6,c7,e8,rfl,h7,c8,e9,rfl,h8,c9,uW,rfl,h9,c10,To,rfl,kN,c11,AN,rfl,iG,c12,e13,rfl,rR,c13,e14,rfl,rS,c14,e15,rfl,tT,c15,c16,rfl,tU,nW⟩:=h
 obtain⟨rfl,b0⟩:=h0
 obtain⟨rfl,b1⟩:=h1
 obtain⟨rfl,b2⟩:=h2
 obtain⟨rfl,b3⟩:=h3
 obtain⟨rfl,b4⟩:=h4
 obtain⟨rfl,b5⟩:=h5
 obtain⟨rfl,b6⟩:=h6
 obtain⟨rfl,Lq,Lr⟩:=xe.parts h7
 obtain⟨u8,rfl⟩:=uN ((tL yw).len h8)
 obtain⟨afy,rfl,afz,afA,afB⟩:=qO.parts h9
 obtain⟨u10,rfl⟩:=uN ((tL vU).len kN)
 obtain⟨u11,rfl⟩:=uN ((tL BL).len iG)
 obtain⟨u12,rfl⟩:=uN (tY.len rR)
 obtain⟨rfl,S3⟩:=rS
 obtain⟨rfl,S4⟩:=tT
 obtain⟨aem,aen,aeo,aep,rfl,aer,aes,aet,aeu,aev,aew,aex,aey,aez,aeA⟩:=xk.parts tU
 obtain⟨rfl,aeB,aeC⟩:=kj.parts nW
 exact⟨u8,afy,u10,u11,u12,aem,aen,aeo,aep,rfl,b0,b1,b2,b3,b4,b5,b6,Lq,Lr,h8,afz,afA,afB,kN,iG,rR,S3,S4,aer,aes,aet,aeu,aev,aew,aex,aey,aez,aeA,aeB,aeC⟩
theorem jE.mk {aG:Nat->Prop} {w:World} {s:aD} {v1 v2 v3 v4 v5 v6 v7 v8 v9:Value} (k0:(-9223372036854775808<=s.kind/\s.kind<=9223372036854775807)) (k1:(-9223372036854775808<=s.src/\s.src<=9223372036854775807)) (k2:(-9223372036854775808<=s.view/\s.view<=9223372036854775807)) (k3:(-9223372036854775808<=s.seq/\s.seq<=9223372036854775807)) (k4:(-9223372036854775808<=s.ah/\s.ah<=9223372036854775807)) (k5:(-9223372036854775808<=s.bD/\s.bD<=9223372036854775807)) (k6:(-9223372036854775808<=s.time/\s.time<=9223372036854775807)) (k7:(-9223372036854775808<=s.result.err/\s.result.err<=9223372036854775807)) (k8:(-9223372036854775808<=s.result.offset/\s.result.offset<=9223372036854775807)) (k9:(tL yw).rd aG w [v1] s.batch) (ud:(-9223372036854775808<=s.cert.seq/\s.cert.seq<=9223372036854775807)) (oU:(-9223372036854775808<=s.cert.ah/\s.cert.ah<=9223372036854775807)) (ue:(tL kj).rd aG w [v2] s.cert.cM) (k13:(tL vU).rd aG w [v3] s.changes) (k14:(tL BL).rd aG w [v4] s.entries) (k15:tY.rd aG w [v5] s.state) (k16:s.av.length<=4194304) (k17:(-9223372036854775808<=s.offset/\s.offset<=9223372036854775807)) (k18:s.proof.av.length<=4194304) (k19:(-9223372036854775808<=s.proof.offset/\s.proof.offset<=9223372036854775807)) (k20:tY.rd aG w [v6] s.proof.record) (k21:(tL yx).rd aG w [v7] s.proof.headers) (k22:(-9223372036854775808<=s.proof.index/\s.proof.index<=9223372036854775807)) (k23:(-9223372036854775808<=s.proof.count/\s.proof.count<=9223372036854775807)) (k24:(tL tI).rd aG w [v8] s.proof.path) (k25:(-9223372036854775808<=s.proof.cert.seq/\s.proof.cert.seq<=9223372036854775807)) (k26:(-9223372036854775808<=s.proof.cert.ah/\s.proof.cert.ah<=9223372036854775807)) (k27:(tL kj).rd aG w [v9] s.proof.cert.cM) (k28:(-9223372036854775808<=s.sign.key/\s.sign.key<=9223372036854775807)) (k29:(-9223372036854775808<=s.sign.ah/\s.sign.ah<=9223372036854775807)):jE.rd aG w [.int .i64 s.kind,.int .i64 s.src,.int .i64 s.view,.int .i64 s.seq,.int .i64 s.ah,.int .i64 s.bD,.int .i64 s.time,.int .i64 s.result.err,.int .i64 s.result.offset,v1,.int .i64 s.cert.seq,.int .i64 s.cert.ah,v2,v3,v4,v5,.string (aA s.av),.int .i64 s.offset,.string (aA s.proof.av),.int .i64 s.proof.offset,v6,v7,.int .i64 s.proof.index,.int .i64 s.proof.count,v8,.int .i64 s.proof.cert.seq,.int .i64 s.proof.cert.ah,v9,.int .i64 s.sign.key,.int .i64 s.sign.ah] s:=by
 exact⟨[.int .i64 s.kind],[.int .i64 s.src,.int .i64 s.view,.int .i64 s.seq,.int .i64 s.ah,.int .i64 s.bD,.int .i64 s.time,.int .i64 s.result.err,.int .i64 s.result.offset,v1,.int .i64 s.cert.seq,.int .i64 s.cert.ah,v2,v3,v4,v5,.string (aA s.av),.int .i64 s.offset,.string (aA s.proof.av),.int .i64 s.proof.offset,v6,v7,.int .i64 s.proof.index,.int .i64 s.proof.count,v8,.int .i64 s.proof.cert.seq,.int .i64 s.proof.cert.ah,v9,.int .i64 s.sign.key,.int .i64 s.sign.ah],rfl,⟨rfl,k0⟩,[.int .i64 s.src],[.int .i64 s.view,.int .i64 s.seq,.int .i64 s.ah,.int .i64 s.bD,.int .i64 s.time,.int .i64 s.result.err,.int .i64 s.result.offset,v1,.int .i64 s.cert.seq,.int .i64 s.cert.ah,v2,v3,v4,v5,.string (aA s.av),.int .i64 s.offset,.string (aA s.proof.av),.int .i64 s.proof.offset,v6,v7,.int .i64 s.proof.index,.int .i64 s.proof.count,v8,.int .i64 s.proof.cert.seq,.int .i64 s.proof.cert.ah,v9,.int .i64 s.sign.key,.int .i64 s.sign.ah],rfl,⟨rfl,k1⟩,[.int .i64 s.view],[.int .i64 s.seq,.int .i64 s.ah,.int .i64 s.bD,.int .i64 s.time,.int .i64 s.result.err,.int .i64 s.result.offset,v1,.int .i64 s.cert.seq,.int .i64 s.cert.ah,v2,v3,v4,v5,.string (aA s.av),.int .i64 s.offset,.string (aA s.proof.av),.int .i64 s.proof.offset,v6,v7,.int .i64 s.proof.index,.int .i64 s.proof.count,v8,.int .i64 s.proof.cert.seq,.int .i64 s.proof.cert.ah,v9,.int .i64 s.sign.key,.int .i64 s.sign.ah],rfl,⟨rfl,k2⟩,[.int .i64 s.seq],[.int .i64 s.ah,.int .i64 s.bD,.int .i64 s.time,.int .i64 s.result.err,.int .i64 s.result.offset,v1,.int .i64 s.cert.seq,.int .i64 s.cert.ah,v2,v3,v4,v5,.string (aA s.av),.int .i64 s.offset,.string (aA s.proof.av),.int .i64 s.proof.offset,v6,v7,.int .i64 s.proof.index,.int .i64 s.proof.count,v8,.int .i64 s.proof.cert.seq,.int .i64 s.proof.cert.ah,v9,.int .i64 s.sign.key,.int .i64 s.sign.ah],rfl,⟨rfl,k3⟩,[.int .i64 s.ah],[.int .i64 s.bD,.int .i64 s.time,.int .i64 s.result.err,.int .i64 s.result.offset,v1,.int .i64 s.cert.seq,.int .i64 s.cert.ah,v2,v3,v4,v5,.string (aA s.av),.int .i64 s.offset,.string (aA s.proof.av),.int .i64 s.proof.offset,v6,v7,.int .i64 s.proof.index,.int .i64 s.proof.count,v8,.int .i64 s.proof.cert.seq,.int .i64 s.proof.cert.ah,v9,.int .i64 s.sign.key,.int .i64 s.sign.ah],rfl,⟨rfl,k4⟩,[.int .i64 s.bD],[.int .i64 s.time,.int .i64 s.result.err,.int .i64 s.result.offset,v1,.int .i64 s.cert.seq,.int .i64 s.cert.ah,v2,v3,v4,v5,.string (aA s.av),.int .i64 s.offset,.string (aA s.proof.av),.int .i64 s.proof.offset,v6,v7,.int .i64 s.proof.index,.int .i64 s.proof.count,v8,.int .i64 s.proof.cert.seq,.int .i64 s.proof.cert.ah,v9,.int .i64 s.sign.key,.int .i64 s.sign.ah],rfl,⟨rfl,k5⟩,[.int .i64 s.time],[.int .i64 s.result.err,.int .i64 s.result.offset,v1,.int .i64 s.cert.seq,.int .i64 s.cert.ah,v2,v3,v4,v5,.string (aA s.av),.int .i64 s.offset,.string (aA s.proof.av),.int .i64 s.proof.offset,v6,v7,.int .i64 s.proof.index,.int .i64 s.proof.count,v8,.int .i64 s.proof.cert.seq,.int .i64 s.proof.cert.ah,v9,.int .i64 s.sign.key,.int .i64 s.sign.ah],rfl,⟨rfl,k6⟩,[.int .i64 s.result.err,.int .i64 s.result.offset],[v1,.int .i64 s.cert.seq,.int .i64 s.cert.ah,v2,v3,v4,v5,.string (aA s.av),.int .i64 s.offset,.string (aA s.proof.av),.int .i64 s.proof.offset,v6,v7,.int .i64 s.proof.index,.int .i64 s.proof.count,v8,.int .i64 s.proof.cert.seq,.int .i64 s.proof.cert.ah,v9,.int .i64 s.sign.key,.int .i64 s.sign.ah],rfl,xe.mk k7 k8,[v1],[.int .i64 s.cert.seq,.int .i64 s.cert.ah,v2,v3,v4,v5,.string (aA s.av),.int .i64 s.offset,.string (aA s.proof.av),.int .i64 s.proof.offset,v6,v7,.int .i64 s.proof.index,.int .i64 s.proof.count,v8,.int .i64 s.proof.cert.seq,.int .i64 s.proof.cert.ah,v9,.int .i64 s.sign.key,.int .i64 s.sign.ah],rfl,k9,[.int .i64 s.cert.seq,.int .i64 s.cert.ah,v2],[v3,v4,v5,.string (aA s.av),.int .i64 s.offset,.string (aA s.proof.av),.int .i64 s.proof.offset,v6,v7,.int .i64 s.proof.index,.int .i64 s.proof.count,v8,.int .i64 s.proof.cert.seq,.int .i64 s.proof.cert.ah,v9,.int .i64 s.sign.key,.int .i64 s.sign.ah],rfl,qO.mk ud oU ue,[v3],[v4,v5,.string (aA s.av),.int .i64 s.offset,.string (aA s.proof.av),.int .i64 s.proof.offset,v6,v7,.int .i64 s.proof.index,.int .i64 s.proof.count,v8,.int .i64 s.proof.cert.seq,.int .i64 s.proof.cert.ah,v9,.int .i64 s.sign.key,.int .i64 s.sign.ah],rfl,k13,[v4],[v5,.string (aA s.av),.int .i64 s.offset,.string (aA s.proof.av),.int .i64 s.proof.offset,v6,v7,.int .i64 s.proof.index,.int .i64 s.proof.count,v8,.int .i64 s.proof.cert.seq,.int .i64 s.proof.cert.ah,v9,.int .i64 s.sign.key,.int .i64 s.sign.ah],rfl,k14,[v5],[.string (aA s.av),.int .i64 s.offset,.string (aA s.proof.av),.int .i64 s.proof.offset,v6,v7,.int .i64 s.proof.index,.int .i64 s.proof.count,v8,.int .i64 s.proof.cert.seq,.int .i64 s.proof.cert.ah,v9,.int .i64 s.sign.key,.int .i64 s.sign.ah],rfl,k15,[.string (aA s.av)],[.int .i64 s.offset,.string (aA s.proof.av),.int .i64 s.proof.offset,v6,v7,.int .i64 s.proof.index,.int .i64 s.proof.count,v8,.int .i64 s.proof.cert.seq,.int .i64 s.proof.cert.ah,v9,.int .i64 s.sign.key,.int .i64 s.sign.ah],rfl,⟨rfl,k16⟩,[.int .i64 s.offset],[.string (aA s.proof.av),.int .i64 s.proof.offset,v6,v7,.int .i64 s.proof.index,.int .i64 s.proof.count,v8,.int .i64 s.proof.cert.seq,.int .i64 s.proof.cert.ah,v9,.int .i64 s.sign.key,.int .i64 s.sign.ah],rfl,⟨rfl,k17⟩,[.string (aA s.proof.av),.int .i64 s.proof.offset,v6,v7,.int .i64 s.proof.index,.int .i64 s.proof.count,v8,.int .i64 s.proof.cert.seq,.int .i64 s.proof.cert.ah,v9],[.int .i64 s.sign.key,.int .i64 s.sign.ah],rfl,xk.mk k18 k19 k20 k21 k22 k23 k24 k25 k26 k27,kj.mk k28 k29⟩
structure sW where
 f:Int
 jP:Int
 jC:Int
 room:Int
 av:List UInt8
def nN:Ty sW:=tM (tP tI (tP tW (tP tW (tP tI tS)))) (fun s:sW=>(s.f,s.jP,s.jC,s.room,s.av))
theorem nN.parts {aG:Nat->Prop} {w:World} {cs:List Value} {s:sW} (h:nN.rd aG w cs s):cs=[.int .i64 s.f,.int .u16 s.jP,.int .u16 s.jC,.int .i64 s.room,.string (aA s.av)]/\(-9223372036854775808<=s.f/\s.f<=9223372036854775807)/\(0<=s.jP/\s.jP<=65535)/\(0<=s.jC/\s.jC<=65535)/\(-9223372036854775808<=s.room/\s.room<=9223372036854775807)/\s.av.length<=4194304:=by
 obtain⟨c0,e1,rfl,h0,c1,e2,rfl,h1,c2,e3,rfl,h2,c3,c4,rfl,h3,h4⟩:=h
 obtain⟨rfl,b0⟩:=h0
 obtain⟨rfl,b1⟩:=h1
 obtain⟨rfl,b2⟩:=h2
 obtain⟨rfl,b3⟩:=h3
 obtain⟨rfl,b4⟩:=h4
 exact⟨rfl,b0,b1,b2,b3,b4⟩
theorem nN.mk {aG:Nat->Prop} {w:World} {s:sW} (k0:(-9223372036854775808<=s.f/\s.f<=9223372036854775807)) (k1:(0<=s.jP/\s.jP<=65535)) (k2:(0<=s.jC/\s.jC<=65535)) (k3:(-9223372036854775808<=s.room/\s.room<=9223372036854775807)) (k4:s.av.length<=4194304):nN.rd aG w [.int .i64 s.f,.int .u16 s.jP,.int .u16 s.jC,.int .i64 s.room,.string (aA s.av)] s:=by
 exact⟨[.int .i64 s.f],[.int .u16 s.jP,.int .u16 s.jC,.int .i64 s.room,.string (aA s.av)],rfl,⟨rfl,k0⟩,[.int .u16 s.jP],[.int .u16 s.jC,.int .i64 s.room,.string (aA s.av)],rfl,⟨rfl,k1⟩,[.int .u16 s.jC],[.int .i64 s.room,.string (aA s.av)],rfl,⟨rfl,k2⟩,[.int .i64 s.room],[.string (aA s.av)],rfl,⟨rfl,k3⟩,⟨rfl,k4⟩⟩
structure bK where
 kind:Int
 bA:Int
 num:Int
 op:bt
 bytes:List UInt8
 msg:aD
 jN:Bool
def iF:Ty bK:=tM (tP tI (tP tI (tP tI (tP mW (tP tY (tP jE tB)))))) (fun s:bK=>(s.kind,s.bA,s.num,s.op,s.bytes,s.msg,s.jN))
theorem PM:j4 prog 61 iF:=by
 refine rG (fun p=>⟨p.1,p.2.1,p.2.2.1,p.2.2.2.1,p.2.2.2.2.1,p.2.2.2.2.2.1,p.2.2.2.2.2.2⟩) (fun _=>rfl) underlying61 ?_ (by kernel_rfl)
 simp only
 refine dX (o':=1) rfl rfl ?_ ?_
 ·exact gR underlying3 (by kernel_rfl)
 refine dX (o':=2) rfl rfl ?_ ?_
 ·exact gR underlying3 (by kernel_rfl)
 refine dX (o':=3) rfl rfl ?_ ?_
 ·exact gR underlying3 (by kernel_rfl)
 refine dX (o':=8) rfl rfl ?_ ?_
 ·exact Q0
 refine dX (o':=9) rfl rfl ?_ ?_
 ·exact Gt underlying26 underlying5 (by kernel_rfl) (by kernel_rfl)
 refine dX (o':=39) rfl rfl ?_ ?_
 ·exact ZY
 refine rA rfl ?_
 exact adv underlying4 (by kernel_rfl)
structure qw where
 fJ:sW
 kA:List (bK)
def BD:Ty qw:=tM (tP nN (tL iF)) (fun s:qw=>(s.fJ,s.kA))
theorem BD.mk {aG:Nat->Prop} {w:World} {s:qw} {v1:Value} (k0:(-9223372036854775808<=s.fJ.f/\s.fJ.f<=9223372036854775807)) (k1:(0<=s.fJ.jP/\s.fJ.jP<=65535)) (k2:(0<=s.fJ.jC/\s.fJ.jC<=65535)) (k3:(-9223372036854775808<=s.fJ.room/\s.fJ.room<=9223372036854775807)) (k4:s.fJ.av.length<=4194304) (k5:(tL iF).rd aG w [v1] s.kA):BD.rd aG w [.int .i64 s.fJ.f,.int .u16 s.fJ.jP,.int .u16 s.fJ.jC,.int .i64 s.fJ.room,.string (aA s.fJ.av),v1] s:=by
 exact⟨[.int .i64 s.fJ.f,.int .u16 s.fJ.jP,.int .u16 s.fJ.jC,.int .i64 s.fJ.room,.string (aA s.fJ.av)],[v1],rfl,nN.mk k0 k1 k2 k3 k4,k5⟩
end
def enc (n:Nat):List UInt8:=if h:n<128 then[UInt8.ofNat n] else UInt8.ofNat (n%128+128)::enc (n/128)
 termination_by n
 decreasing_by omega
theorem sN {n:Nat} (h:n<128):enc n=[UInt8.ofNat n]:=by rw[enc,dif_pos h]
theorem BK {n:Nat} (h:¬n<128):enc n=UInt8.ofNat (n%128+128)::enc (n/128):=by rw[enc,dif_neg h]
theorem Qy (n:Nat):0<(enc n).length:=by
 by_cases h:n<128
 ·rw[sN h];simp
 ·rw[BK h];simp
theorem acR (k:Nat):∀n,n<128^(k+1)->(enc n).length<=k+1:=by
 induction k with
 |zero=>intro n h;rw[sN (by simpa using h)];simp
 |succ k ih=>
  intro n h
  by_cases hn:n<128
  ·rw[sN hn];simp
  ·rw[BK hn]
   have:=ih (n/128) (by rw[Nat.div_lt_iff_lt_mul (by omega)];rw[Nat.pow_succ] at h;exact h)
   simp;omega
theorem qA {n:Nat} (h:n<18446744073709551616):(enc n).length<=10:=acR 9 n (Nat.lt_of_lt_of_le h (by decide))
theorem orB (m:Nat):bits BinOp.or IntKind.u8 ((m:Int)%256) 128=((m%128+128:Nat):Int):=by
 have h:∀k:Fin 256,bits BinOp.or IntKind.u8 ((k.val:Int)) 128=((k.val%128+128:Nat):Int):=by decide+kernel
 have:=h ⟨m%256,Nat.mod_lt _ (by omega)⟩
 simp only at this
 rw[show((m:Int)%256)=((m%256:Nat):Int) by omega,this]
 congr 1;omega
def jG (p:List UInt8):Array Value:=(fm p++List.replicate (10-p.length) (Value.int IntKind.u8 0)).toArray
theorem Po {p:List UInt8} (h:p.length<=10):(jG p).size=10:=by simp[jG,r8];omega
theorem Qz {p:List UInt8} (h:p.length<10) (k:Nat) (hk:k<256):(jG p).setIfInBounds p.length (.int .u8 (k:Int))=jG (p++[UInt8.ofNat k]):=by
 apply Array.ext'
 simp only[jG,Array.toList_setIfInBounds,List.length_append,List.length_singleton]
 rw[List.set_append_right _ _ (by rw[r8];omega),r8,Nat.sub_self]
 obtain⟨j,hj⟩:∃j,10-p.length=j+1:=⟨10-p.length-1,by omega⟩
 rw[hj,show 10-(p.length+1)=j by omega,List.replicate_succ,List.set_cons_zero,Bc]
 simp only[List.append_assoc]
 congr 1
 simp[fm]
 omega
theorem QA {p:List UInt8} (h:p.length<=10):∃x0 x1 x2 x3 x4 x5 x6 x7 x8 x9:Int,jG p=#[.int .u8 x0,.int .u8 x1,.int .u8 x2,.int .u8 x3,.int .u8 x4,.int .u8 x5,.int .u8 x6,.int .u8 x7,.int .u8 x8,.int .u8 x9]:=by
 have hs:=Po h
 have mS:∀v∈(jG p).toList,∃x:Int,v=.int .u8 x:=by
  intro v hv
  simp only[jG,List.mem_append,fm,List.mem_map,List.mem_replicate] at hv
  rcases hv with⟨b,_,rfl⟩|⟨_,rfl⟩
  ·exact⟨_,rfl⟩
  ·exact⟨_,rfl⟩
 obtain⟨l,hl⟩:∃l,(jG p).toList=l:=⟨_,rfl⟩
 have e:jG p=l.toArray:=by rw[<-hl]
 rw[hl] at mS
 have aff:l.length=10:=by rw[<-hl];simpa using hs
 match l,aff with
 |[a0,a1,a2,a3,a4,a5,a6,a7,a8,a9],_=>
  obtain⟨x0,rfl⟩:=mS a0 (by simp)
  obtain⟨x1,rfl⟩:=mS a1 (by simp)
  obtain⟨x2,rfl⟩:=mS a2 (by simp)
  obtain⟨x3,rfl⟩:=mS a3 (by simp)
  obtain⟨x4,rfl⟩:=mS a4 (by simp)
  obtain⟨x5,rfl⟩:=mS a5 (by simp)
  obtain⟨x6,rfl⟩:=mS a6 (by simp)
  obtain⟨x7,rfl⟩:=mS a7 (by simp)
  obtain⟨x8,rfl⟩:=mS a8 (by simp)
  obtain⟨x9,rfl⟩:=mS a9 (by simp)
  exact⟨x0,x1,x2,x3,x4,x5,x6,x7,x8,x9,e⟩
theorem abq {n m:Nat} {p:List UInt8} (hp:m*128^p.length<=n):m<=n:=
 Nat.le_trans (Nat.le_mul_of_pos_right m (Nat.one_le_pow _ _ (by omega))) hp
theorem XO {n m:Nat} {p:List UInt8} (h:n<18446744073709551616) (hp:m*128^p.length<=n) (hm:127<m):p.length<9:=by
 rcases Nat.lt_or_ge p.length 9 with h|h
 ·exact h
 ·have h1:=Nat.pow_le_pow_right (show 0<128 by omega) h
  have h2:128*128^p.length<=m*128^p.length:=Nat.mul_le_mul_right _ (by omega)
  have uW:(128:Nat)^9=9223372036854775808:=by decide
  omega
set_option maxRecDepth 20000 in
set_option maxHeartbeats 20000000 in
theorem abr (w:World) (n:Nat) (hn:n<18446744073709551616):Calls prog 159 #[.int .u64 (n:Int)] w fun e w'=>e=.returned (.tuple #[.agg (jG (enc n)),.int .i64 ((enc n).length:Int)])/\B w w':=by
 have HN:=Lib.hid hn
 have hz:jG []=#[.int .u8 0,.int .u8 0,.int .u8 0,.int .u8 0,.int .u8 0,.int .u8 0,.int .u8 0,.int .u8 0,.int .u8 0,.int .u8 0]:=rfl
 have k1:dR ((w.alloc (.cells (jG []) 222)).alloc (.cells (jG []) 222)) w.heap.size 222 (jG []):=(dR.new w _ _).alloc _
 have k2:dR ((w.alloc (.cells (jG []) 222)).alloc (.cells (jG []) 222)) (w.heap.size+1) 222 (jG []):=by simpa using dR.new (w.alloc (.cells (jG []) 222)) 222 (jG [])
 have k3:B w ((w.alloc (.cells (jG []) 222)).alloc (.cells (jG []) 222)):=(B.j9 _ _).trans (B.j9 _ _)
 rw[hz] at k1 k2 k3
 clear hz hn
 go_enter func159,ntmps159
 go_wp2_with fail
 rw[<-show jG []=#[Value.int IntKind.u8 0,.int .u8 0,.int .u8 0,.int .u8 0,.int .u8 0,.int .u8 0,.int .u8 0,.int .u8 0,.int .u8 0,.int .u8 0] from rfl] at k1 k2 k3
 go_loopw [0,5] (fun x k wr=>∃(m q:Nat) (p:List UInt8),x=.int .u64 (m:Int)/\k=.int .i64 (q:Int)/\Hid (p.length=q)/\Hid (enc n=p++enc m)/\q<10/\Hid (m*128^q<=n)/\Hid (dR wr w.heap.size 222 (jG []))/\Hid (dR wr (w.heap.size+1) 222 (jG p))/\Hid (B w wr)) (fun x _ _=>(intOf x).toNat)
 case atStart=>exact⟨n,0,[],rfl,rfl,rfl,rfl,by omega,by show n*128^0<=n;omega,k1,k2,k3⟩
 case round=>
  obtain⟨m,q,p,rfl,rfl,HL,HE,hq,HP,H1,H2,H3⟩:=hrel
  clear k1 k2 k3
  have hmn:=Lib.hid (abq (p:=p) (by rw[HL.out];exact HP.out))
  have eE:=Lib.hid (Po (p:=p) (by rw[HL.out];omega))
  have c3:=H2.out.frozen q
  obtain⟨cv,c2⟩:∃cv,wr.cell? ⟨w.heap.size+1,q,none⟩=some cv:=by
   rw[H2.out.cell]
   exact⟨(jG p)[q]'(by rw[eE.out];omega),Array.getElem?_eq_getElem _⟩
  have LN:(q:Int)<10:=by omega
  by_cases hm:127<m
  ·have iK:=Lib.hid (XO (p:=p) HN.out (by rw[HL.out];exact HP.out) hm)
   go_wp2_with fail
   go_roundw
   case rel=>
    have hq9:q<9:=by have:=iK.out;have:=HL.out;omega
    refine⟨m/128,q+1,p++[UInt8.ofNat (m%128+128)],by go_num,by go_num,?_,?_,by omega,?_,H1.out.S6 (by simp) _,?_,H3.out.setCell (by simp) _⟩
    ·show(p++[_]).length=q+1
     rw[List.length_append,HL.out];rfl
    ·show enc n=_
     rw[HE.out,BK (by omega),List.append_assoc];rfl
    ·show m/128*128^(q+1)<=n
     rw[Nat.pow_succ,Nat.mul_comm (128^q) 128,<-Nat.mul_assoc]
     exact Nat.le_trans (Nat.mul_le_mul_right _ (Nat.div_mul_le_self m 128)) HP.out
    ·show dR _ _ _ _
     rw[orB]
     have:=H2.out.GX q (.int .u8 ((m%128+128:Nat):Int))
     have e:=Qz (p:=p) (by rw[HL.out];omega) (m%128+128) (by omega)
     rw[HL.out] at e
     rwa [e] at this
   case measure=>simp[intOf];omega
  ·have LO:=Qz (p:=p) (by rw[HL.out];omega) m (by omega)
   rw[HL.out] at LO
   obtain⟨x0,x1,x2,x3,x4,x5,x6,x7,x8,x9,hx⟩:=QA (p:=p++[UInt8.ofNat m]) (by simp;rw[HL.out];omega)
   have HX:=Lib.hid hx
   have S7:=Lib.hid (show enc n=p++[UInt8.ofNat m] by rw[HE.out,sN (by omega)])
   have HT:=Lib.hid (show dR (wr.setCell ⟨w.heap.size+1,q,none⟩ (.int .u8 (m:Int))) (w.heap.size+1) 222 #[.int .u8 x0,.int .u8 x1,.int .u8 x2,.int .u8 x3,.int .u8 x4,.int .u8 x5,.int .u8 x6,.int .u8 x7,.int .u8 x8,.int .u8 x9] from by
    have:=H2.out.GX q (.int .u8 (m:Int));rwa [LO,hx] at this)
   have HZ:=Lib.hid (show dR (wr.setCell ⟨w.heap.size+1,q,none⟩ (.int .u8 (m:Int))) w.heap.size 222 #[.int .u8 0,.int .u8 0,.int .u8 0,.int .u8 0,.int .u8 0,.int .u8 0,.int .u8 0,.int .u8 0,.int .u8 0,.int .u8 0] from H1.out.S6 (by simp) _)
   have HB:=Lib.hid (show B w (wr.setCell ⟨w.heap.size+1,q,none⟩ (.int .u8 (m:Int))) from H3.out.setCell (by simp) _)
   have ad9:(m:Int)%256=m:=by omega
   clear LO hx
   go_wp2_with (refine wpList_load_row rfl 222 (.tmp 4) rfl (w.heap.size+1) rfl 222 #[.int .u8 x0,.int .u8 x1,.int .u8 x2,.int .u8 x3,.int .u8 x4,.int .u8 x5,.int .u8 x6,.int .u8 x7,.int .u8 x8,.int .u8 x9] (0,0) _ HT.out underlying222 rfl (by kernel_rfl) ?_;have cz:=fun i=>HZ.out.cell i;have fz:=fun i=>HZ.out.frozen i;have HS:=Lib.hid HB.out;generalize wr.setCell ⟨w.heap.size+1,q,none⟩ (.int .u8 (m:Int))=wz at*)
   refine bodyPost_ret (v:=.tuple #[.agg #[.int .u8 x0,.int .u8 x1,.int .u8 x2,.int .u8 x3,.int .u8 x4,.int .u8 x5,.int .u8 x6,.int .u8 x7,.int .u8 x8,.int .u8 x9],.int .i64 ((q:Int)+1)]) (by simp[results,Tryz.results159,go_sem,cz]) rfl ⟨?_,?_⟩
   ·rw[<-HX.out,<-S7.out]
    have e:((q:Int)+1)=((enc n).length:Int):=by rw[S7.out,List.length_append,HL.out];simp
    rw[e]
   ·repeat (refine Below.setCell ?_ (by simp) _)
    exact HB.out
def R5:Value->Value|.slice A n _=>.slice A n n|v=>v
set_option maxHeartbeats 20000000 in
theorem abt {w:World} {v:Value} {bs:List UInt8} (h:Bs w v bs):Calls prog 160 #[v] w fun e w'=>e=.returned (R5 v)/\w=w':=by
 obtain⟨⟨A,cap,rfl,hn,hc,hm,hr⟩,hl⟩:=h
 have Hr:bs.length<=9223372036854775807:=by unfold maxLen at hm;omega
 have hci:(bs.length:Int)<=(cap:Int):=by omega
 cases A with
 |none=>
  obtain⟨rfl,rfl⟩:=hn rfl
  clear hr hn hc hm hl
  go_enter func160,ntmps160
  go_wp2
  go_ret
  exact⟨rfl,rfl⟩
 |some ad=>
  clear hr hn hm hl
  go_enter func160,ntmps160
  go_wp2
  go_ret
  exact⟨rfl,rfl⟩
theorem VK {P:Program} {t ty:TypeId} {w:World} {v u:Value} {bs news:List UInt8} (ht:P.underlying t=some (.slice 5)) (Hs:(P.info? 5).map (fun i=>(i.zero,i.size,i.bytes))=some (some (.int .u8 0),1,1))
 (hv:Bs w v bs) (hu:Rd w u news.length 1 (fm news)) (hm:0<news.length) (lF:bs.length+news.length<=aL):
 ∃v' w',(Builtin.append_ #[t,t] ty #[R5 v,u]).run P w=.ok v' w'/\w'.ownsRow w.heap.size 5 1 v' (bs++news).length (fm (bs++news))/\B w w':=by
 obtain⟨⟨A,cap,rfl,hn,hc,hmx,hr⟩,hl⟩:=hv
 have mT:bs.length+news.length<=maxLen:=by unfold aL at lF;unfold maxLen;omega
 have eJ:(bs.length+news.length)*1<=140737488355328:=by unfold aL at lF;omega
 cases A with
 |none=>
  obtain⟨rfl,rfl⟩:=hn rfl
  obtain⟨v',w',h1,h2,h3,h4⟩:=I3 (P:=P) (t:=t) (ty:=ty) ht Hs rfl Nat.zero_lt_one (Ks w w.heap.size 5 1) hu (wO _) (by simpa using mT) (by simpa using eJ) (Nat.le_refl _)
  exact⟨v',w',h1,by simpa using h2,B.grown (Below.refl _ _) h3 (fun k hk=>by simp[Value.ownBlock] at hk)⟩
 |some ad=>
  obtain⟨i,hi,xL,hs,wE⟩:=info_parts Hs
  obtain⟨hul,A',c',rfl,mw,Ar,As⟩:=hu
  cases A' with
  |none=>have:=(mw rfl).1;omega
  |some S8=>
   obtain⟨v',w',h1,h2,h3⟩:=run_append_arg_grows (P:=P) w t ty 5 i (.int .u8 0) 1 1 ht hi xL hs wE rfl Nat.zero_lt_one ad bs.length bs.length (fm bs) (by rw[r8];omega) (hr ad rfl).2 S8 news.length c' (fm news) (by rw[r8];omega) (As S8 rfl).2 (by omega) mT eJ
   exact⟨v',w',h1,by rw[List.length_append,Bc];exact h2,B.grown (Below.refl _ _) h3 (fun k hk=>by cases hk)⟩
theorem acS {w:World} {g:Nat} {p:List UInt8} (hp:p.length<=10) (h:dR w g 222 (jG p)):Rd w (.slice (some ⟨g,0,none⟩) p.length 10) p.length 1 (fm p):=by
 refine⟨by rw[r8];omega,_,10,rfl,fun e=>(by cases e),hp,fun ad kB=>?_⟩
 cases kB
 refine⟨fun _=>h.lt,fun j x hx=>?_⟩
 have ea:(⟨g,0,none⟩:Addr).add j=⟨g,j,none⟩:=by unfold Addr.add;split<;>simp_all
 rw[ea,h.cell,<-hx]
 have hj:j<(fm p).length:=by
  rcases Nat.lt_or_ge j (fm p).length with h|h
  ·exact h
  ·rw[List.getElem?_eq_none h] at hx;cases hx
 simp only[jG,List.getElem?_toArray]
 rw[List.getElem?_append_left hj]
set_option maxRecDepth 20000 in
set_option maxHeartbeats 20000000 in
theorem Pp {w:World} {v:Value} {bs:List UInt8} (h:Bs w v bs) (n:Nat) (hn:n<18446744073709551616) (hl:bs.length+10<=aL):Calls prog 112 #[v,.int .u64 (n:Int)] w (qL w (bs++enc n)):=by
 have H:=Lib.hid h
 have HF:=Lib.hid (abr w n hn)
 have HE:=Lib.hid (qA hn)
 have HL:=Lib.hid hl
 obtain⟨x0,x1,x2,x3,x4,x5,x6,x7,x8,x9,hx⟩:=QA (p:=enc n) (qA hn)
 have HX:=Lib.hid hx
 have hq:(enc n).length<=10:=qA hn
 have LN:((enc n).length:Int)<=10:=by omega
 clear h hn hl hx
 go_enter func112,ntmps112
 go_wp2_with (go_at_call 159;refine HF.out.mono ?_;rintro e w1 ⟨rfl,mT⟩;rw[HX.out])
 have eJ:=mT.trans (B.j9 w1 (.cells #[.int .u8 x0,.int .u8 x1,.int .u8 x2,.int .u8 x3,.int .u8 x4,.int .u8 x5,.int .u8 x6,.int .u8 x7,.int .u8 x8,.int .u8 x9] 222))
 have hk:dR (w1.alloc (.cells #[.int .u8 x0,.int .u8 x1,.int .u8 x2,.int .u8 x3,.int .u8 x4,.int .u8 x5,.int .u8 x6,.int .u8 x7,.int .u8 x8,.int .u8 x9] 222)) w1.heap.size 222 #[.int .u8 x0,.int .u8 x1,.int .u8 x2,.int .u8 x3,.int .u8 x4,.int .u8 x5,.int .u8 x6,.int .u8 x7,.int .u8 x8,.int .u8 x9]:=dR.new w1 _ _
 generalize w1.alloc (.cells #[.int .u8 x0,.int .u8 x1,.int .u8 x2,.int .u8 x3,.int .u8 x4,.int .u8 x5,.int .u8 x6,.int .u8 x7,.int .u8 x8,.int .u8 x9] 222)=w2 at*
 have dc:dR w2.drew w1.heap.size 222 (jG (enc n)):=by rw[HX.out];exact hk
 obtain⟨v',w3,lJ,h2,h3⟩:=VK (P:=prog) (t:=26) (ty:=26) underlying26 Ah (H.out.later (eJ.trans (Below.refl _ _).drew)) (acS HE.out dc) (Qy n) (by have:=HE.out;have:=HL.out;omega)
 have HC:=Lib.hid (abt (H.out.later (eJ.trans (Below.refl _ _).drew)))
 have HB:=Lib.hid (eJ.trans ((Below.refl _ _).drew.trans h3))
 have qU:=eJ.size
 have HO:=Lib.hid (Zw h2 (show w.heap.size<=w2.drew.heap.size from qU))
 clear hk dc h2 h3 mT eJ qU
 go_region_law (first
  |(refine XP rfl 160 #[.tmp 12] #[26] rfl Tryz.call160 HC.out rfl ?_;rintro e wn ⟨rfl,rfl⟩;refine⟨_,rfl,?_⟩)
  |(refine Uc rfl (.tmp 13) (.tmp 15) 26 rfl rfl rfl lJ ?_))
 all_goals go_wp2_with fail;go_ret;exact⟨v',rfl,HO.out,HB.out⟩
theorem qL.mk {w w':World} {bs:List UInt8} {v:Value} {n:Nat} {xs:List Value} (h:w'.ownsRow w.heap.size 5 1 v n xs) (hn:n=bs.length) (hx:xs=fm bs) (hb:B w w'):qL w bs (.returned v) w':=by
 subst hn hx;exact⟨v,rfl,h,hb⟩
theorem qL.app {w w1 w2:World} {z xs:List UInt8} {A1 A2:Option Addr} {c1 c2:Nat} (r1:w1.ownsRow w.heap.size 5 1 (.slice A1 z.length c1) z.length (fm z)) (hb:B w w1)
 (r2:w2.ownsRow w.heap.size 5 1 (.slice A2 (z.length+xs.length) c2) (z.length+xs.length) (fm z++fm xs)) (x2:w1.grownBy w2 (Value.slice A1 z.length c1).ownBlock):qL w (z++xs) (.returned (.slice A2 (z.length+xs.length) c2)) w2:=
 qL.mk r2 (by simp) (by rw[Bc]) (B.grown hb x2 (fun k hk=>Gh r1 hk))
theorem Rd.byte (w:World) (b:UInt8) (y:Int) (h:(b.toNat:Int)=y):Rd (w.alloc (.cells #[.int .u8 y] 5)) (.slice (some ⟨w.heap.size,0,none⟩) 1 1) 1 1 (fm [b]):=by
 subst h
 exact Rd.lit w #[.int .u8 (b.toNat:Int)] 5 1 rfl
theorem S9 (k:Nat) (h:k<256):((UInt8.ofNat k).toNat:Int)=(k:Int):=by rw[UInt8.toNat_ofNat'];congr 1;omega
theorem Gi {x:Int} (h:0<=x/\x<18446744073709551616):IntKind.u64.wrap x=x:=by
 simp[IntKind.wrap,IntKind.signed,IntKind.bits];omega
theorem Pd {w:World} {v:Value} {bs:List UInt8} (h:Bs w v bs) (n:Nat) (hn:n<18446744073709551616) (hl:bs.length+10<=aL):Calls prog 73 #[v,.int .u64 (n:Int)] w (qL w (bs++enc n)):=by
 have H:=Lib.hid h
 have HE:=Lib.hid (qA hn)
 have HL:=Lib.hid hl
 have HN:=Lib.hid hn
 have g1:0+bs.length<=maxLen:=by unfold aL at hl;unfold maxLen;omega
 have g2:(0+bs.length)*1<=140737488355328:=by unfold aL at hl;omega
 have o1:=wO bs
 clear h hn hl
 go_enter func73,ntmps73
 go_wp2_with (at_builtin;refine CO (v:=.slice none 0 0) (base:=w.heap.size) rfl (.tmp 6) (.tmp 7) 26 rfl underlying26 Ah rfl Nat.zero_lt_one rfl rfl (Ks _ _ 5 1) H.out.rd o1 g1 g2 (Nat.le_refl _) ?_;intro A1 c1 w1 r1 x1 y1;simp only[Nat.zero_add,List.nil_append] at r1 y1;have Ta:B w w1:=B.grown (Below.refl _ _) x1 (fun k hk=>by simp[Value.ownBlock] at hk))
 have R1:=Lib.hid r1
 have Cr:=Lib.hid Ta
 clear r1 x1 y1 Ta
 go_loopw [1,5] (fun x v wr=>∃(m k:Nat) (z:List UInt8) (A:Option Addr) (c:Nat),x=.int .u64 (m:Int)/\v=.slice A k c/\Hid (z.length=k)/\Hid (m<=n)/\Hid (bs++enc n=z++enc m)/\Hid (wr.ownsRow w.heap.size 5 1 (.slice A k c) k (fm z))/\Hid (B w wr)) (fun x _ _=>(intOf x).toNat)
 case atStart=>exact⟨n,bs.length,bs,A1,c1,rfl,by simp,rfl,Nat.le_refl _,rfl,R1.out,Cr.out⟩
 case round=>
  obtain⟨m,k,z,A,c,rfl,rfl,HZ,HM,LP,HR,HB⟩:=hrel
  have hk:k+1<=bs.length+10:=by
   have h1:=congrArg List.length LP.out
   simp only[List.length_append] at h1
   have:=Qy m;have:=HE.out;have:=HZ.out;omega
  have g3:k+1<=maxLen:=by have:=HL.out;unfold aL at this;unfold maxLen;omega
  have g4:(k+1)*1<=140737488355328:=by have:=HL.out;unfold aL at this;omega
  have kC:=Lib.hid HB.out.size
  by_cases hm:128<=m
  ·have LQ:(128:Int)<=m:=by omega
   have hw:IntKind.u64.wrap ((m:Int)/128)=(m:Int)/128:=Gi (by have:=HN.out;have:=HM.out;omega)
   have o2:=wO [UInt8.ofNat (m%128+128)]
   have fH:=Lib.hid (show((UInt8.ofNat (m%128+128)).toNat:Int)=(m:Int)%128+128 by rw[S9 _ (by omega)];omega)
   go_wp2_with (at_builtin;refine CO rfl (.tmp 11) (.tmp 16) 26 rfl underlying26 Ah rfl Nat.zero_lt_one rfl rfl (I4 HR.out (B.j9 _ _)) (Rd.byte wr (UInt8.ofNat (m%128+128)) _ fH.out) o2 g3 g4 (Nat.le_trans kC.out (B.j9 _ _).size) ?_;intro A2 c2 w2 r2 x2 y2;have R2:=Lib.hid r2;have X2:=Lib.hid x2;clear r2 x2 y2)
   go_roundw
   case rel=>
    refine⟨m/128,k+1,z++[UInt8.ofNat (m%128+128)],A2,c2,by go_num,rfl,?_,Nat.le_trans (Nat.div_le_self _ _) HM.out,?_,?_,?_⟩
    ·show(z++[_]).length=k+1
     rw[List.length_append,HZ.out];rfl
    ·show bs++enc n=_
     rw[LP.out,BK (by omega),List.append_assoc];rfl
    ·show World.ownsRow _ _ _ _ _ _ _
     rw[Bc];exact R2.out
    ·exact B.grown (HB.out.trans (B.j9 _ _)) X2.out (fun g hg=>Gh HR.out hg)
   case measure=>simp[intOf];omega
  ·have LQ:¬(128:Int)<=m:=by omega
   have ad9:(m:Int)%256=m:=by omega
   have o2:=wO [UInt8.ofNat m]
   have fH:=Lib.hid (show((UInt8.ofNat m).toNat:Int)=(m:Int) by rw[S9 _ (by omega)])
   have Tb:=Lib.hid (show bs++enc n=z++[UInt8.ofNat m] by rw[LP.out,sN (by omega)])
   clear hm
   go_wp2_with (at_builtin;refine CO rfl (.tmp 20) (.tmp 23) 26 rfl underlying26 Ah rfl Nat.zero_lt_one rfl rfl (I4 HR.out (B.j9 _ _)) (Rd.byte wr (UInt8.ofNat m) _ fH.out) o2 g3 g4 (Nat.le_trans kC.out (B.j9 _ _).size) ?_;intro A2 c2 w2 r2 x2 y2;have R2:=Lib.hid r2;have X2:=Lib.hid x2;clear r2 x2 y2)
   go_ret
   exact qL.mk R2.out (by rw[Tb.out,List.length_append,HZ.out];rfl) (by rw[Tb.out,Bc]) (B.grown (HB.out.trans (B.j9 _ _)) X2.out (fun g hg=>Gh HR.out hg))
def B8 (bs xs:List UInt8):List UInt8:=bs++enc xs.length++xs
set_option maxHeartbeats 20000000 in
theorem Wt {w:World} {v u:Value} {bs xs:List UInt8} (h:Bs w v bs) (k:Bs w u xs) (hl:(bs++xs).length+10<=aL):Calls prog 154 #[v,u] w (qL w (B8 bs xs)):=by
 have nC:xs.length<18446744073709551616:=by have:=k.len;unfold aL at this;omega
 have xM:bs.length+10+xs.length<=aL:=by simp at hl;omega
 have HP:=Lib.hid (Pp h xs.length nC (by omega))
 have kN:=qA nC
 have HK:=Lib.hid k
 obtain⟨z,hz⟩:∃z,z=bs++enc xs.length:=⟨_,rfl⟩
 have LR:z.length<=bs.length+10:=by rw[hz,List.length_append];omega
 rw[<-hz] at HP
 have g1:z.length+xs.length<=maxLen:=by unfold aL at xM;unfold maxLen;omega
 have g2:(z.length+xs.length)*1<=140737488355328:=by unfold aL at xM;omega
 have o1:=wO xs
 have HZ:=Lib.hid (show B8 bs xs=z++xs by rw[hz];rfl)
 have hxi:(xs.length:Int)<=140737488355328:=by have:=k.len;unfold aL at this;omega
 rw[HZ.out]
 obtain⟨B0,cp,rfl⟩:=HK.out.rd.slice
 clear h k hl xM kN hz LR nC
 go_enter func154,ntmps154
 go_wp2_with (first
  |(go_at_call 112;(with_reducible refine HP.out.mono ?_);rintro e w1 ⟨v1,rfl,r1,mT⟩;obtain⟨A1,c1,rfl⟩:=I5 r1;have Li:=mT.size)
  |(at_builtin;refine CO rfl (.tmp 9) (.tmp 10) 26 rfl underlying26 Ah rfl Nat.zero_lt_one rfl rfl r1 (HK.out.later mT).rd o1 g1 g2 Li ?_;intro A2 c2 w2 r2 x2 y2))
 go_ret
 exact qL.app r1 mT r2 x2
set_option maxHeartbeats 20000000 in
theorem Wh {w:World} {v u:Value} {bs xs:List UInt8} (h:Bs w v bs) (k:Bs w u xs) (hl:(bs++xs).length+10<=aL):Calls prog 114 #[v,u] w (qL w (B8 bs xs)):=by
 have nC:xs.length<18446744073709551616:=by have:=k.len;unfold aL at this;omega
 have xM:bs.length+10+xs.length<=aL:=by simp at hl;omega
 have HP:=Lib.hid (Pd h xs.length nC (by omega))
 have kN:=qA nC
 have HK:=Lib.hid k
 obtain⟨z,hz⟩:∃z,z=bs++enc xs.length:=⟨_,rfl⟩
 have LR:z.length<=bs.length+10:=by rw[hz,List.length_append];omega
 rw[<-hz] at HP
 have g1:z.length+xs.length<=maxLen:=by unfold aL at xM;unfold maxLen;omega
 have g2:(z.length+xs.length)*1<=140737488355328:=by unfold aL at xM;omega
 have o1:=wO xs
 have HZ:=Lib.hid (show B8 bs xs=z++xs by rw[hz];rfl)
 have hxi:(xs.length:Int)<=140737488355328:=by have:=k.len;unfold aL at this;omega
 rw[HZ.out]
 obtain⟨B0,cp,rfl⟩:=HK.out.rd.slice
 clear h k hl xM kN hz LR nC
 go_enter func114,ntmps114
 go_wp2_with (first
  |(go_at_call 73;(with_reducible refine HP.out.mono ?_);rintro e w1 ⟨v1,rfl,r1,mT⟩;obtain⟨A1,c1,rfl⟩:=I5 r1;have Li:=mT.size)
  |(at_builtin;refine CO rfl (.tmp 9) (.tmp 10) 26 rfl underlying26 Ah rfl Nat.zero_lt_one rfl rfl r1 (HK.out.later mT).rd o1 g1 g2 Li ?_;intro A2 c2 w2 r2 x2 y2))
 go_ret
 exact qL.app r1 mT r2 x2
section
open Go.RowKit Go.Deep
def eH (most:Nat):Nat->Nat->List UInt8->Nat×List UInt8×Int
 |_,_,[]=>(0,[],10)
 |i,acc,c::r=>
  if i=9/\1<c.toNat then(0,[],11)
  else if 127<c.toNat then eH most (i+1) (acc+c.toNat%128*128^i) r
  else if(0<i/\c.toNat=0)\/most<acc+c.toNat*128^i then(0,[],11)
  else(acc+c.toNat*128^i,r,0)
end
section
set_option maxHeartbeats 20000000 in
theorem abu {w:World} {v:Value} {bs:List UInt8} (h:Bs w v bs):Calls prog 171 #[v] w (I2 w bs):=by
 rcases h.isNil with⟨rfl,rfl⟩|⟨ad,cap,rfl⟩
 ·have q:∀w,(binOp .eql 26 (.slice none 0 0) (.slice none 0 0)).run prog w=.ok (.bool true) w:=fun w=>by kernel_rfl
  have E:=Lib.hid (show I2 w [] (.returned (.slice none 0 0)) w from⟨_,rfl,Ks w _ _ _,Below.refl _ _⟩)
  clear h
  go_enter func171,ntmps171
  go_wp2
  go_ret
  exact E.out
 ·have q:∀w,(binOp .eql 26 (.slice (some ad) bs.length cap) (.slice none 0 0)).run prog w=.ok (.bool false) w:=fun w=>by kernel_rfl
  have hb:B w (w.alloc (.cells #[] 5)):=B.j9 _ _
  have ho:(w.alloc (.cells #[] 5)).ownsRow w.heap.size 5 1 (.slice (some ⟨w.heap.size,0,none⟩) 0 0) ([]:List UInt8).length (fm []):=⟨rfl,.inr ⟨_,0,#[],rfl,Nat.le_refl _,heap_alloc_new w _,Nat.le_refl _,by unfold maxLen;omega,rfl,rfl⟩⟩
  obtain⟨v',w',lJ,h2,h3,h4⟩:=XQ (P:=prog) (t:=26) (ty:=47) underlying26 Ah ho (h.later hb) (by have:=h.len;simpa using this) (by simp)
  have E:=Lib.hid (show I2 w bs (.returned v') w' from⟨_,rfl,h2,hb.grown h3 (fun k hk=>by simp[Value.ownBlock] at hk;omega)⟩)
  clear h ho h2 h3 h4 hb
  go_enter func171,ntmps171
  go_wp2_with (at_builtin;refine No rfl (.tmp 5) (.tmp 6) 26 rfl rfl rfl lJ ?_)
  go_ret
  exact E.out
section
variable {W w:World} {p:Nat} {bs:List UInt8} {e:Int} {L:List gi}
end
end
section
theorem afg (y:Nat) (h:y<256):bits BinOp.and IntKind.u8 (y:Int) 127=((y%128:Nat):Int):=by
 have h':∀k:Fin 256,bits BinOp.and IntKind.u8 ((k.val:Int)) 127=((k.val%128:Nat):Int):=by decide+kernel
 exact h' ⟨y,h⟩
theorem afh (a e:Nat) (ha:a<18446744073709551616) (he:e<18446744073709551616):bits BinOp.or IntKind.u64 (a:Int) (e:Int)=((a ||| e:Nat):Int):=by
 have hlt:a ||| e<2^64:=Nat.or_lt_two_pow (by omega) (by omega)
 have e0:bits BinOp.or IntKind.u64 (a:Int) (e:Int)=IntKind.u64.wrap (((BitVec.ofInt 64 (a:Int) ||| BitVec.ofInt 64 (e:Int)).toNat:Nat):Int):=rfl
 have e1:(BitVec.ofInt 64 (a:Int))=BitVec.ofNat 64 a:=by simp
 have e2:(BitVec.ofInt 64 (e:Int))=BitVec.ofNat 64 e:=by simp
 rw[e0,e1,e2,BitVec.toNat_or,BitVec.toNat_ofNat,BitVec.toNat_ofNat,Nat.mod_eq_of_lt (show a<2^64 by omega),Nat.mod_eq_of_lt (show e<2^64 by omega)]
 exact Gi (by omega)
theorem abv (acc q y:Nat) (hy:y<256) (hq:q<=9) (ha:acc<128^q):∃d e s:Nat,IntKind.u64.wrap (bits BinOp.and IntKind.u8 (y:Int) 127)=(d:Int)/\IntKind.u64.wrap ((d:Int)*2^(7*q))=(e:Int)/\bits BinOp.or IntKind.u64 (acc:Int) (e:Int)=(s:Int)/\
 ((q<9\/y<=1)->s=acc+y%128*128^q):=by
 have hp9:128^q<=9223372036854775808:=Nat.le_trans (Nat.pow_le_pow_right (by omega) hq) (by decide)
 have LS:(2:Nat)^(7*q)=128^q:=by rw[Nat.pow_mul]
 refine⟨y%128,y%128*128^q%18446744073709551616,acc ||| (y%128*128^q%18446744073709551616),?_,?_,?_,?_⟩
 ·rw[afg y hy,Gi (by omega)]
 ·have:((y%128:Nat):Int)*2^(7*q)=((y%128*128^q:Nat):Int):=by rw[<-LS];push_cast;rfl
  rw[this]
  simp[IntKind.wrap,IntKind.signed,IntKind.bits]
 ·exact afh _ _ (by omega) (Nat.mod_lt _ (by omega))
 ·intro h
  have hlt:y%128*128^q<18446744073709551616:=by
   rcases h with h|h
   ·have h8:128^q<=72057594037927936:=Nat.le_trans (Nat.pow_le_pow_right (by omega) (show q<=8 by omega)) (by decide)
    have:=Nat.mul_le_mul (show y%128<=127 by omega) h8
    omega
   ·have:=Nat.mul_le_mul (show y%128<=1 by omega) hp9
    omega
  have LU:acc<2^(7*q):=by rw[LS];exact ha
  rw[Nat.mod_eq_of_lt hlt,<-LS,Nat.or_comm,Nat.mul_comm,<-Nat.two_pow_add_eq_or_of_lt LU,Nat.add_comm]
theorem Kt {acc q d:Nat} (ha:acc<128^q) (hd:d<128):acc+d*128^q<128^(q+1):=by
 rw[Nat.pow_succ]
 have:=Nat.mul_le_mul_right (128^q) (show d<=127 by omega)
 omega
theorem IJ {most i acc:Nat} {c:UInt8} {r:List UInt8} (h:127<c.toNat) (h9:i≠9):eH most i acc (c::r)=eH most (i+1) (acc+c.toNat%128*128^i) r:=by
 rw[eH,if_neg (by omega),if_pos h]
theorem IK {most i acc:Nat} {c:UInt8} {r:List UInt8} (h9:i=9) (h:1<c.toNat):eH most i acc (c::r)=(0,[],11):=by
 rw[eH,if_pos ⟨h9,h⟩]
theorem XR {most i acc:Nat} {c:UInt8} {r:List UInt8} (h:c.toNat<=127) (hb:(0<i/\c.toNat=0)\/most<acc+c.toNat*128^i):eH most i acc (c::r)=(0,[],11):=by
 rw[eH]
 split
 ·rfl
 ·split
  ·omega
  ·rfl
theorem N0 {most i acc:Nat} {c:UInt8} {r:List UInt8} (h:c.toNat<=127) (h9:¬(i=9/\1<c.toNat)) (hb:¬((0<i/\c.toNat=0)\/most<acc+c.toNat*128^i)):eH most i acc (c::r)=(acc+c.toNat*128^i,r,0):=by
 rw[eH,if_neg h9,if_neg (by omega),if_neg hb]
section
variable {W w:World} {p:Nat} {bs:List UInt8} {e:Int} {L:List gi}
end
end
section
section
variable {W w:World} {p:Nat} {bs:List UInt8} {e:Int} {L:List gi}
theorem Pq (most:Nat):∀(bs:List UInt8) (i acc:Nat),(eH most i acc bs).1<=most
 |[],_,_=>Nat.zero_le _
 |c::r,i,acc=>by
  unfold eH
  split
  ·exact Nat.zero_le _
  ·split
   ·exact Pq most r _ _
   ·split
    ·exact Nat.zero_le _
    ·rename_i h;show acc+c.toNat*128^i<=most;omega
end
end
section
theorem Ow (most:Nat):∀(bs:List UInt8) (i acc:Nat),(eH most i acc bs).2.1.length<=bs.length/\((eH most i acc bs).2.2=0->(eH most i acc bs).2.1.length<bs.length)
 |[],_,_=>⟨by simp[eH],by simp[eH]⟩
 |c::r,i,acc=>by
  have ih:=Ow most r (i+1) (acc+c.toNat%128*128^i)
  unfold eH
  split
  ·simp
  ·split
   ·exact⟨by simp;omega,fun h=>by have:=ih.2 h;simp;omega⟩
   ·split
    ·simp
    ·simp
section
variable {W w:World} {p:Nat} {bs:List UInt8} {e:Int} {L:List gi}
end
end
section
section
variable {W w:World} {p:Nat} {bs:List UInt8} {e:Int} {L:List gi}
end
end
section
section
variable {W w:World} {p:Nat} {bs:List UInt8} {e:Int} {L:List gi}
end
end
section
section
variable {W w:World} {p:Nat} {bs:List UInt8} {e:Int} {L:List gi}
end
end
section
section
variable {W w:World} {p:Nat} {bs:List UInt8} {e:Int} {L:List gi}
end
end
theorem ofNat_toNat (c:UInt8):UInt8.ofNat c.toNat=c:=by simp
theorem Pt (most:Nat):∀(bs:List UInt8) (i acc v:Nat) (rest:List UInt8),eH most i acc bs=(v,rest,0)->∃d,v=acc+d*128^i/\bs=enc d++rest/\(0<i->0<d)
 |[],i,acc,v,rest,h=>by simp[eH] at h
 |c::r,i,acc,v,rest,h=>by
  have hc:=c.toNat_lt
  unfold eH at h
  split at h
  ·simp at h
  ·split at h
   ·rename_i h2
    obtain⟨d,h3,h4,h5⟩:=Pt most r _ _ v rest h
    have hd:=h5 (by omega)
    refine⟨c.toNat%128+128*d,?_,?_,fun _=>by omega⟩
    ·rw[h3,Nat.pow_succ,Nat.add_mul]
     have:d*(128^i*128)=128*d*128^i:=by rw[Nat.mul_comm (128^i) 128,<-Nat.mul_assoc,Nat.mul_comm d 128]
     omega
    ·rw[BK (by omega),show(c.toNat%128+128*d)%128+128=c.toNat by omega,show(c.toNat%128+128*d)/128=d by omega,ofNat_toNat,h4]
     rfl
   ·split at h
    ·simp at h
    ·rename_i h1 h2 h3
     simp only[Prod.mk.injEq] at h
     refine⟨c.toNat,h.1.symm,?_,fun hi=>by omega⟩
     rw[sN (by omega),ofNat_toNat,h.2.1]
     rfl
theorem abx (most:Nat):∀(d i acc:Nat) (rest:List UInt8),i<=9->d*128^i<18446744073709551616->(0<i->0<d)->acc+d*128^i<=most->eH most i acc (enc d++rest)=(acc+d*128^i,rest,0):=by
 intro d
 induction d using Nat.strongRecOn with
 |ind d ih=>
  intro i acc rest hi hb h0 hm
  have e9:(128:Nat)^9=9223372036854775808:=by decide
  by_cases hd:d<128
  ·rw[sN hd]
   have hc:(UInt8.ofNat d).toNat=d:=by rw[UInt8.toNat_ofNat'];omega
   have h9:¬(i=9/\1<(UInt8.ofNat d).toNat):=by
    rw[hc]
    rintro⟨rfl,h⟩
    have:=Nat.mul_le_mul_right (128^9) h
    omega
   show eH most i acc (UInt8.ofNat d::rest)=_
   rw[N0 (by rw[hc];omega) h9 (by rw[hc];rintro(h|h)<;>omega),hc]
  ·rw[BK hd]
   have hc:(UInt8.ofNat (d%128+128)).toNat=d%128+128:=by rw[UInt8.toNat_ofNat'];omega
   have h9:i≠9:=by
    rintro rfl
    have:=Nat.mul_le_mul_right (128^9) (show 128<=d by omega)
    omega
   show eH most i acc (UInt8.ofNat (d%128+128)::(enc (d/128)++rest))=_
   have hs:d%128*128^i+d/128*128^(i+1)=d*128^i:=by
    rw[Nat.pow_succ,Nat.mul_comm (128^i) 128,<-Nat.mul_assoc,<-Nat.add_mul]
    congr 1;omega
   rw[IJ (by rw[hc];omega) h9,hc,show(d%128+128)%128=d%128 by omega,ih (d/128) (by omega) (i+1) _ rest (by omega) (by omega) (fun _=>by omega) (by omega)]
   rw[Nat.add_assoc,hs]
end Go.Proofs.YtafomdobfmmleaaGreatDoor
