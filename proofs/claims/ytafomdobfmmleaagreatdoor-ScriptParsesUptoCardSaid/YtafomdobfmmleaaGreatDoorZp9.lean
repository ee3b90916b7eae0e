/- Lemmas and contracts, part 9. -/
import Derived.Test.YtafomdobfmmleaaGreatDoorZp8
import Derived.Test.YtafomdobfmmleaaGreatDoorRows
import Derived.Deep.RegionLaw
import Derived.Deep.Slices
import Derived.Deep.Fields
import Derived.ChangeSame
import Derived.SizedLaws
import Derived.JoinedCond
namespace Go.Proofs.YtafomdobfmmleaaGreatDoor
set_option linter.unusedVariables false
open Go.RowKit
open Go.Proofs.Tryz
section
open Go.ChangeShapes Go.WideShapes Go.ChangeAt Go.RowKit Go.Deep
theorem Ah:(prog.info? 5).map (fun i=>(i.zero,i.size,i.bytes))=some (some (.int .u8 0),1,1):=by kernel_rfl
def I2 (w:World) (bs:List UInt8) (e:Ending) (w':World):Prop:=∃v',e=.returned v'/\w'.ownsRow w.heap.size 5 1 v' bs.length (fm bs)/\B w w'
def qL (w:World) (bs:List UInt8) (e:Ending) (w':World):Prop:=∃v',e=.returned v'/\w'.ownsRow w.heap.size 5 1 v' bs.length (fm bs)/\B w w'
section
variable {P:Program} {W w:World} {ops:Array Oper} {rest:List Oper} {o:Oper} {a:Act} {Q:Exit->Act->World->Prop} {L:List gi}
end
section
variable {P:Program} {W w:World} {ops:Array Oper} {rest:List Oper} {o:Oper} {a:Act} {Q:Exit->Act->World->Prop} {L:List gi}
theorem Rd.lit (w:World) (cs:Array Value) (t:TypeId) (n:Nat) (hn:cs.size=n):Rd (w.alloc (.cells cs t)) (.slice (some ⟨w.heap.size,0,none⟩) n n) n 1 cs.toList:=by
 refine⟨by simp[hn],_,n,rfl,fun e=>(by cases e),Nat.le_refl _,fun ad kB=>?_⟩
 cases kB
 refine⟨fun _=>by simp,fun j x hx=>?_⟩
 have ea:(⟨w.heap.size,0,none⟩:Addr).add j=⟨w.heap.size,j,none⟩:=by unfold Addr.add;split<;>simp_all
 rw[ea,(dR.new w t cs).cell]
 simpa using hx
end
section
variable {P:Program} {W w:World} {ops:Array Oper} {rest:List Oper} {o:Oper} {a:Act} {Q:Exit->Act->World->Prop} {L:List gi}
end
section
variable {W w:World} {L:List gi} {v:Value} {bs:List UInt8}
end
section
variable {W w:World} {L:List gi} {v:Value} {bs:List UInt8}
end
section
variable {W w:World} {L:List gi} {v:Value} {bs:List UInt8}
end
section
variable {W w:World} {L:List gi} {v:Value} {bs:List UInt8}
end
section
variable {W w:World} {L:List gi}
end
section
variable {W w:World} {L:List gi}
end
section
variable {P:Program} {W w:World} {ops:Array Oper} {rest:List Oper} {o:Oper} {a:Act} {K:Act->World->Prop} {Q:Exit->Act->World->Prop} {E:Prop} {L:List gi}
end
end
section
open Go.ChangeShapes Go.WideShapes Go.ChangeAt Go.RowKit Go.Deep
section
variable {H:Type} {enc:TypeId×Value->H} {P:Program} {w:World} {base:Nat} {held:Bool} {spare:Nat->Bool}
theorem X3 {l:List (DataW H)} (hk:Rows.uptoSmall H l=true):Rows.uptoBulkAll l<=1048576:=of_decide_eq_true hk
end
end
section
open Go.ChangeShapes Go.WideShapes Go.ChangeAt Go.RowKit Go.Deep
structure Ty (α:Type) where
 n:Nat
 rd:(Nat->Prop)->World->List Value->α->Prop
 sz:α->Nat
 len:∀{aG:Nat->Prop} {w:World} {cs:List Value} {a:α},rd aG w cs a->cs.length=n
 ext:∀{aG own:Nat->Prop} {w w':World} {cs:List Value} {a:α},rd aG w cs a->Ext own w w'->(∀g,aG g->¬own g)->rd aG w' cs a
 mono:∀{aG Le:Nat->Prop} {w:World} {cs:List Value} {a:α},rd aG w cs a->(∀g,aG g->Le g)->rd Le w cs a
 bound:∀{aG:Nat->Prop} {w:World} {cs:List Value} {a:α},rd aG w cs a->rd (fun g=>aG g/\g<w.heap.size) w cs a
theorem Ty.later {α:Type} (T:Ty α) {aG:Nat->Prop} {w w':World} {cs:List Value} {a:α} (h:T.rd aG w cs a) (hb:B w w'):T.rd aG w' cs a:=
 T.ext h (Ext.of_B (own:=fun _=>False) hb) (fun _ _=>id)
def tI:Ty Int where
 n:=1
 rd _ _ cs a:=cs=[.int .i64 a]/\-9223372036854775808<=a/\a<=9223372036854775807
 sz _:=1
 len h:=by rw[h.1];rfl
 ext h _ _:=h
 mono h _:=h
 bound h:=h
def tW:Ty Int where
 n:=1
 rd _ _ cs a:=cs=[.int .u16 a]/\0<=a/\a<=65535
 sz _:=1
 len h:=by rw[h.1];rfl
 ext h _ _:=h
 mono h _:=h
 bound h:=h
def tB:Ty Bool where
 n:=1
 rd _ _ cs a:=cs=[.bool a]
 sz _:=1
 len h:=by rw[h];rfl
 ext h _ _:=h
 mono h _:=h
 bound h:=h
def tS:Ty (List UInt8) where
 n:=1
 rd _ _ cs a:=cs=[.string (aA a)]/\a.length<=4194304
 sz a:=a.length+1
 len h:=by rw[h.1];rfl
 ext h _ _:=h
 mono h _:=h
 bound h:=h
def tY:Ty (List UInt8) where
 n:=1
 rd aG w cs a:=∃v,cs=[v]/\Bs w v a/\(∀g,v.ownBlock=some g->a≠[]->aG g)/\a.length<=4194304
 sz a:=a.length+1
 len h:=by obtain⟨v,rfl,_⟩:=h;rfl
 ext h hx hd:=by obtain⟨v,rfl,h1,h2,h3⟩:=h;exact⟨v,rfl,h1.ext hx (fun g hg cu=>hd g (h2 g hg cu)),h2,h3⟩
 mono h hs:=by obtain⟨v,rfl,h1,h2,h3⟩:=h;exact⟨v,rfl,h1,fun g hg cu=>hs g (h2 g hg cu),h3⟩
 bound h:=by obtain⟨v,rfl,h1,h2,h3⟩:=h;exact⟨v,rfl,h1,fun g hg cu=>⟨h2 g hg cu,h1.lt cu hg⟩,h3⟩
def tP {α β:Type} (T:Ty α) (U:Ty β):Ty (α×β) where
 n:=T.n+U.n
 rd aG w cs p:=∃c d,cs=c++d/\T.rd aG w c p.1/\U.rd aG w d p.2
 sz p:=T.sz p.1+U.sz p.2
 len h:=by obtain⟨c,d,rfl,h1,h2⟩:=h;rw[List.length_append,T.len h1,U.len h2]
 ext h hx hd:=by obtain⟨c,d,rfl,h1,h2⟩:=h;exact⟨c,d,rfl,T.ext h1 hx hd,U.ext h2 hx hd⟩
 mono h hs:=by obtain⟨c,d,rfl,h1,h2⟩:=h;exact⟨c,d,rfl,T.mono h1 hs,U.mono h2 hs⟩
 bound h:=by obtain⟨c,d,rfl,h1,h2⟩:=h;exact⟨c,d,rfl,T.bound h1,U.bound h2⟩
def tM {α β:Type} (T:Ty α) (f:β->α):Ty β where
 n:=T.n
 rd aG w cs b:=T.rd aG w cs (f b)
 sz b:=T.sz (f b)+1
 len h:=T.len h
 ext h hx hd:=T.ext h hx hd
 mono h hs:=T.mono h hs
 bound h:=T.bound h
def afp {α:Type} (T:Ty α) (aG:Nat->Prop) (w:World) (b off:Nat) (xs:List α):Prop:=
 ∀i x,xs[i]?=some x->∃cs,T.rd aG w cs x/\∀j v,cs[j]?=some v->w.cell? ⟨b,off+i*T.n+j,none⟩=some v
def tL {α:Type} (T:Ty α):Ty (List α) where
 n:=1
 rd aG w cs xs:=∃A cap,cs=[.slice A xs.length cap]/\xs.length<=cap/\cap<=maxLen/\(A=none->xs.length=0/\cap=0)/\xs.length<=4194304/\
  (0<xs.length->∃b off,A=some ⟨b,off,none⟩/\b<w.heap.size/\aG b/\afp T aG w b off xs)
 sz xs:=(xs.map T.sz).sum+1
 len h:=by obtain⟨A,cap,rfl,_⟩:=h;rfl
 ext h hx hd:=by
  obtain⟨A,cap,rfl,h1,h2,h3,h4,h5⟩:=h
  refine⟨A,cap,rfl,h1,h2,h3,h4,fun h0=>?_⟩
  obtain⟨b,off,rfl,hb,hi,wH⟩:=h5 h0
  refine⟨b,off,rfl,Nat.lt_of_lt_of_le hb hx.size,hi,fun i x uh=>?_⟩
  obtain⟨cs,k1,k2⟩:=wH i x uh
  exact⟨cs,T.ext k1 hx hd,fun j v hj=>hx.cell (hd b hi) (k2 j v hj)⟩
 mono h hs:=by
  obtain⟨A,cap,rfl,h1,h2,h3,h4,h5⟩:=h
  refine⟨A,cap,rfl,h1,h2,h3,h4,fun h0=>?_⟩
  obtain⟨b,off,rfl,hb,hi,wH⟩:=h5 h0
  refine⟨b,off,rfl,hb,hs b hi,fun i x uh=>?_⟩
  obtain⟨cs,k1,k2⟩:=wH i x uh
  exact⟨cs,T.mono k1 hs,k2⟩
 bound h:=by
  obtain⟨A,cap,rfl,h1,h2,h3,h4,h5⟩:=h
  refine⟨A,cap,rfl,h1,h2,h3,h4,fun h0=>?_⟩
  obtain⟨b,off,rfl,hb,hi,wH⟩:=h5 h0
  refine⟨b,off,rfl,hb,⟨hi,hb⟩,fun i x uh=>?_⟩
  obtain⟨cs,k1,k2⟩:=wH i x uh
  exact⟨cs,T.bound k1,k2⟩
theorem tL.at {α:Type} {T:Ty α} {aG:Nat->Prop} {w:World} {A:Option Addr} {l cap:Nat} {xs:List α} (h:(tL T).rd aG w [.slice A l cap] xs) {i:Nat} {x:α} (hi:xs[i]?=some x):
 l=xs.length/\∃b off cs,A=some ⟨b,off,none⟩/\T.rd aG w cs x/\∀j v,cs[j]?=some v->w.cell? ⟨b,off+i*T.n+j,none⟩=some v:=by
 obtain⟨A',G6,he,h1,h2,h3,h4,h5⟩:=h
 injection he with he _
 injection he with e1 e2 e3
 subst e1 e2 e3
 have hl:i<xs.length:=by
  rcases Nat.lt_or_ge i xs.length with h'|h'
  ·exact h'
  ·rw[List.getElem?_eq_none h'] at hi;cases hi
 obtain⟨b,off,rfl,hb,xS,wH⟩:=h5 (by omega)
 obtain⟨cs,k1,k2⟩:=wH i x hi
 exact⟨rfl,b,off,cs,rfl,k1,k2⟩
theorem tL.slice {α:Type} {T:Ty α} {aG:Nat->Prop} {w:World} {cs:List Value} {xs:List α} (h:(tL T).rd aG w cs xs):∃A cap,cs=[.slice A xs.length cap]/\xs.length<=4194304:=by
 obtain⟨A,cap,rfl,_,_,_,h4,_⟩:=h
 exact⟨A,cap,rfl,h4⟩
def j4 {α:Type} (P:Program) (t:TypeId) (T:Ty α):Prop:=
 P.cellsOf t=T.n/\∀{H:Type} {enc:TypeId×Value->H} {w:World} {base:Nat} {held:Bool} {spare:Nat->Bool} {fuel:Nat} {cs:List Value} {x:DataW H×List MemPlace},
   DataW.trod enc P w base spare held fuel t cs=some x->Rows.uptoBulk x.1<=1048576->∃a,T.rd (fun g=>g<w.heap.size) w cs a/\T.sz a<=Rows.uptoBulk x.1
section
variable {P:Program} {t e:TypeId}
theorem DG (ht:P.underlying t=some .string) (hc:P.cellsOf t=1):j4 P t tS:=by
 refine⟨hc,fun h hB=>?_⟩
 obtain⟨s,rfl,hx,_⟩:=DataW.trod_string ht h
 rw[hx] at hB ⊢
 simp only[Rows.uptoBulk] at hB ⊢
 refine⟨s.data.toList,⟨by cases s;rfl,by omega⟩,by simp[tS]⟩
theorem j4.arg {α:Type} {T:Ty α} (hT:j4 P t T) {H:Type} {enc:TypeId×Value->H} {w:World} {base:Nat} {held:Bool} {spare:Nat->Bool} {v:Value} {d:DataW H} {p:List MemPlace}
 (h:DataW.Trod enc P w base spare held t v d p) (hB:Rows.uptoBulk d<=1048576):∃a,T.rd (fun g=>g<w.heap.size) w v.cells.toList a/\T.sz a<=Rows.uptoBulk d:=by
 obtain⟨fuel,hf⟩:=h
 exact hT.2 hf hB
end
end
section
set_option linter.unusedSectionVars false
variable [Old]
structure Dt (α:Type) where
 c:α->List D
 n:Nat
 ok:α->Prop
 len:∀a,(c a).length=n
def dI:Dt Int:=⟨fun a=>[.int .i64 a],1,fun a=>-9223372036854775808<=a/\a<=9223372036854775807,fun _=>rfl⟩
def dW:Dt Int:=⟨fun a=>[.int .u16 a],1,fun a=>0<=a/\a<=65535,fun _=>rfl⟩
def dB:Dt Bool:=⟨fun a=>[.bool a],1,fun _=>True,fun _=>rfl⟩
def dS:Dt (List UInt8):=⟨fun a=>[.str a],1,fun a=>a.length<=4194304,fun _=>rfl⟩
def dY:Dt (List UInt8):=⟨fun a=>[.list 1 (a.map af)],1,fun a=>a.length<=4194304,fun _=>rfl⟩
def dP {α β:Type} (A:Dt α) (B:Dt β):Dt (α×β):=⟨fun p=>A.c p.1++B.c p.2,A.n+B.n,fun p=>A.ok p.1/\B.ok p.2,fun p=>by rw[List.length_append,A.len,B.len]⟩
def dM {α β:Type} (A:Dt α) (f:β->α):Dt β:=⟨fun b=>A.c (f b),A.n,fun b=>A.ok (f b),fun b=>A.len _⟩
def dL {α:Type} (A:Dt α):Dt (List α):=⟨fun xs=>[.list A.n (xs.map A.c)],1,fun xs=>xs.length<=4194304/\∀x∈xs,A.ok x,fun _=>rfl⟩
structure Lk {α:Type} (T:Ty α) (A:Dt α):Prop where
 n:T.n=A.n
 to:∀{aG:Nat->Prop} {w:World} {cs:List Value} {a:α},T.rd aG w cs a->dQ aG w cs (A.c a)/\A.ok a/\∀v∈cs,v.oneCell'=true
 of:∀{I:Nat->Prop} {w:World} {cs:List Value} {a:α},dQ I w cs (A.c a)->A.ok a->T.rd I w cs a
theorem dQ.one {I:Nat->Prop} {w:World} {v:Value} {d:D} (h:Dr I w v d):dQ I w [v] [d]:=⟨rfl,fun i a b h1 h2=>by
 cases i with
 |zero=>simp at h1 h2;subst h1 h2;exact h
 |succ i=>simp at h1⟩
theorem dQ.vR {I:Nat->Prop} {w:World} {cs:List Value} {d:D} (h:dQ I w cs [d]):∃v,cs=[v]/\Dr I w v d:=by
 obtain⟨hl,h⟩:=h
 match cs,hl with
 |[v],_=>exact⟨v,rfl,h 0 v d rfl rfl⟩
theorem gU:Lk tI dI where
 n:=rfl
 to h:=by
  obtain⟨rfl,h1⟩:=h
  exact⟨.one (.int _ _),h1,by simp[Value.oneCell']⟩
 of h k:=by
  obtain⟨v,rfl,hv⟩:=h.vR
  cases hv
  exact⟨rfl,k⟩
theorem Mq:Lk tW dW where
 n:=rfl
 to h:=by
  obtain⟨rfl,h1⟩:=h
  exact⟨.one (.int _ _),h1,by simp[Value.oneCell']⟩
 of h k:=by
  obtain⟨v,rfl,hv⟩:=h.vR
  cases hv
  exact⟨rfl,k⟩
theorem LkB:Lk tB dB where
 n:=rfl
 to {_ _ cs a} h:=by
  have h:cs=[.bool a]:=h
  subst h
  exact⟨.one (.bool _),trivial,by simp[Value.oneCell']⟩
 of h k:=by
  obtain⟨v,rfl,hv⟩:=h.vR
  cases hv
  rfl
theorem Ex:Lk tS dS where
 n:=rfl
 to h:=by
  obtain⟨rfl,h1⟩:=h
  exact⟨.one (.str _),h1,by simp[Value.oneCell']⟩
 of h k:=by
  obtain⟨v,rfl,hv⟩:=h.vR
  cases hv
  exact⟨rfl,k⟩
theorem Ii:Lk tY dY where
 n:=rfl
 to h:=by
  obtain⟨v,rfl,hb,hi,hl⟩:=h
  refine⟨.one (hb.dr hi),hl,?_⟩
  obtain⟨A,c,rfl⟩:=hb.rd.slice
  simp[Value.oneCell']
 of {I _ _ _} h k:=by
  obtain⟨v,rfl,hv⟩:=h.vR
  clear h
  have h:=hv
  clear hv
  have k':_<=4194304:=k
  refine⟨v,rfl,h.bs (by unfold aL;omega),fun g hg cu=>?_,k⟩
  generalize hq:(D.list 1 _)=q at h
  cases h<;>try (cases hq;done)
  rename_i A cap n l xs U dH hl hm fI hlen hA g1 hU
  injection hq with h1 h2
  subst h1 h2
  obtain⟨b,off,rfl,_,hI,_⟩:=hA (by rw[dH];simpa using List.length_pos_iff.2 cu)
  have:b=g:=by simpa[Value.ownBlock] using hg
  subst this
  exact hI
theorem dQ.split {I:Nat->Prop} {w:World} {cs:List Value} {xs ys:List D} (h:dQ I w cs (xs++ys)):∃c d,cs=c++d/\dQ I w c xs/\dQ I w d ys:=by
 have hl:=h.1
 rw[List.length_append] at hl
 refine⟨cs.take xs.length,cs.drop xs.length,(List.take_append_drop _ _).symm,⟨by rw[List.length_take];omega,fun i v d h1 h2=>?_⟩,⟨by rw[List.length_drop];omega,fun i v d h1 h2=>?_⟩⟩
 ·rw[List.getElem?_take] at h1
  split at h1
  ·exact h.2 i v d h1 (by rw[List.getElem?_append_left (by assumption)];exact h2)
  ·cases h1
 ·rw[List.getElem?_drop] at h1
  exact h.2 _ v d h1 (by rw[List.getElem?_append_right (by omega)];simpa using h2)
theorem dZ {α β:Type} {T:Ty α} {U:Ty β} {A:Dt α} {B:Dt β} (h:Lk T A) (k:Lk U B):Lk (tP T U) (dP A B) where
 n:=by show T.n+U.n=A.n+B.n;rw[h.n,k.n]
 to q:=by
  obtain⟨c,d,rfl,q1,q2⟩:=q
  obtain⟨a1,a2,a3⟩:=h.to q1
  obtain⟨b1,b2,b3⟩:=k.to q2
  exact⟨a1.append b1,⟨a2,b2⟩,fun v hv=>by rcases List.mem_append.1 hv with e|e;exact a3 v e;exact b3 v e⟩
 of q ok:=by
  obtain⟨c,d,rfl,q1,q2⟩:=dQ.split q
  exact⟨c,d,rfl,h.of q1 ok.1,k.of q2 ok.2⟩
theorem r7 {α β:Type} {T:Ty α} {A:Dt α} (f:β->α) (h:Lk T A):Lk (tM T f) (dM A f) where
 n:=h.n
 to q:=h.to q
 of q ok:=h.of q ok
theorem vv {α:Type} {T:Ty α} {A:Dt α} (h:Lk T A):Lk (tL T) (dL A) where
 n:=rfl
 to {aG w cs xs} q:=by
  obtain⟨P,cap,rfl,h1,h2,h3,h4,h5⟩:=q
  have key:∀i,∃ys:List Value,i<xs.length->∃x b off,xs[i]?=some x/\P=some ⟨b,off,none⟩/\b<w.heap.size/\aG b/\T.rd aG w ys x/\∀j v,ys[j]?=some v->w.cell? ⟨b,off+i*T.n+j,none⟩=some v:=by
   intro i
   by_cases hi:i<xs.length
   ·obtain⟨b,off,e,hb,xS,wH⟩:=h5 (by omega)
    obtain⟨ys,k1,k2⟩:=wH i _ (List.getElem?_eq_getElem hi)
    exact⟨ys,fun _=>⟨_,b,off,List.getElem?_eq_getElem hi,e,hb,xS,k1,k2⟩⟩
   ·exact⟨[],fun h=>absurd h hi⟩
  let Y:Nat->List Value:=fun i=>Classical.choose (key i)
  have hY:∀i,i<xs.length->∃x b off,xs[i]?=some x/\P=some ⟨b,off,none⟩/\b<w.heap.size/\aG b/\T.rd aG w (Y i) x/\∀j v,(Y i)[j]?=some v->w.cell? ⟨b,off+i*T.n+j,none⟩=some v:=fun i hi=>Classical.choose_spec (key i) hi
  have xG:∀(i:Nat) x (j:Nat) d,(xs.map A.c)[i]?=some x->x[j]?=some d->∃a v,xs[i]?=some a/\x=A.c a/\i<xs.length/\(Y i)[j]?=some v/\Dr aG w v d/\v.oneCell'=true:=by
   intro i x j d hx hj
   rw[List.getElem?_map] at hx
   cases hq:xs[i]? with
   |none=>rw[hq] at hx;cases hx
   |some a=>
    rw[hq] at hx
    injection hx with hx
    subst hx
    have hi:=(List.getElem?_eq_some_iff.1 hq).1
    obtain⟨a',b,off,e1,e2,e3,e4,e5,e6⟩:=hY i hi
    rw[hq] at e1
    injection e1 with e1
    subst e1
    obtain⟨d1,_,d3⟩:=h.to e5
    have hlt:j<(Y i).length:=by rw[d1.1];exact(List.getElem?_eq_some_iff.1 hj).1
    exact⟨a,_,rfl,rfl,hi,List.getElem?_eq_getElem hlt,d1.2 j _ d (List.getElem?_eq_getElem hlt) hj,d3 _ (List.getElem_mem _)⟩
  refine⟨.one (.list P cap A.n xs.length (xs.map A.c) (fun i j=>(Y i).getD j undef) (by simp) h1 h2 h3 (fun x hx=>?_) (fun h0=>?_) (fun i x j d hx hj=>?_) (fun i x j d hx hj=>?_)),⟨h4,fun x hx=>?_⟩,by simp[Value.oneCell']⟩
  ·obtain⟨a,_,rfl⟩:=List.mem_map.1 hx
   exact A.len a
  ·obtain⟨b,off,e,hb,xS,wH⟩:=h5 h0
   refine⟨b,off,e,hb,xS,fun i x j d hx hj=>?_⟩
   obtain⟨a,v,q1,q2,hi,q3,_⟩:=xG i x j d hx hj
   obtain⟨a',b',afQ,e1,e2,e3,e4,e5,e6⟩:=hY i hi
   rw[e] at e2
   injection e2 with e2
   injection e2 with e2 y6 _
   subst e2 y6
   rw[<-h.n,e6 j v q3]
   simp[List.getD,q3]
  ·obtain⟨a,v,q1,q2,hi,q3,q4,q5⟩:=xG i x j d hx hj
   simp only[List.getD,q3,Option.getD_some]
   exact q5
  ·obtain⟨a,v,q1,q2,hi,q3,q4,q5⟩:=xG i x j d hx hj
   simp only[List.getD,q3,Option.getD_some]
   exact q4
  ·obtain⟨i,hi⟩:=List.getElem?_of_mem hx
   have hlt:=(List.getElem?_eq_some_iff.1 hi).1
   obtain⟨a',b',afQ,e1,e2,e3,e4,e5,e6⟩:=hY i hlt
   rw[hi] at e1
   injection e1 with e1
   subst e1
   exact(h.to e5).2.1
 of {I w cs xs} q ok:=by
  obtain⟨v,rfl,qv⟩:=q.vR
  clear q
  have q:=qv
  clear qv
  generalize hq:(D.list A.n (xs.map A.c))=d at q
  cases q<;>try (cases hq;done)
  rename_i P cap n l ys U dH hl hm fI hlen hA g1 hU
  injection hq with e1 e2
  subst e1 e2
  rw[List.length_map] at dH
  subst dH
  refine⟨P,cap,rfl,hl,hm,fI,ok.1,fun h0=>?_⟩
  obtain⟨b,off,rfl,hb,hI,hc⟩:=hA h0
  refine⟨b,off,rfl,hb,hI,fun i x hx=>⟨(List.range A.n).map (U i),h.of ⟨by simp[A.len],fun j v d h1 h2=>?_⟩ (ok.2 x (List.mem_of_getElem? hx)),fun j v hj=>?_⟩⟩
  ·have hlt:j<A.n:=by have:=(List.getElem?_eq_some_iff.1 h1).1;simpa using this
   rw[List.getElem?_map,List.getElem?_range hlt] at h1
   injection h1 with h1
   subst h1
   exact hU i (A.c x) j d (by rw[List.getElem?_map,hx];rfl) h2
  ·have hlt:j<A.n:=by have:=(List.getElem?_eq_some_iff.1 hj).1;simpa using this
   rw[List.getElem?_map,List.getElem?_range hlt] at hj
   injection hj with hj
   subst hj
   have afR:j<(A.c x).length:=by rw[A.len];exact hlt
   rw[h.n]
   exact hc i (A.c x) j _ (by rw[List.getElem?_map,hx];rfl) (List.getElem?_eq_getElem afR)
end
section
open Go.ChangeShapes Go.WideShapes Go.ChangeAt Go.RowKit Go.Deep
theorem uN {cs:List Value} (h:cs.length=1):∃v,cs=[v]:=by
 cases cs with
 |nil=>simp at h
 |cons v r=>cases r with
  |nil=>exact⟨v,rfl⟩
  |cons _ _=>simp at h
structure bJ where
 key:Int
 ah:Int
def kj:Ty bJ:=tM (tP tI tI) (fun s:bJ=>(s.key,s.ah))
theorem kj.parts {aG:Nat->Prop} {w:World} {cs:List Value} {s:bJ} (h:kj.rd aG w cs s):cs=[.int .i64 s.key,.int .i64 s.ah]/\(-9223372036854775808<=s.key/\s.key<=9223372036854775807)/\(-9223372036854775808<=s.ah/\s.ah<=9223372036854775807):=by
 obtain⟨c0,c1,rfl,h0,h1⟩:=h
 obtain⟨rfl,b0⟩:=h0
 obtain⟨rfl,b1⟩:=h1
 exact⟨rfl,b0,b1⟩
theorem kj.mk {aG:Nat->Prop} {w:World} {s:bJ} (k0:(-9223372036854775808<=s.key/\s.key<=9223372036854775807)) (k1:(-9223372036854775808<=s.ah/\s.ah<=9223372036854775807)):kj.rd aG w [.int .i64 s.key,.int .i64 s.ah] s:=by
 exact⟨[.int .i64 s.key],[.int .i64 s.ah],rfl,⟨rfl,k0⟩,⟨rfl,k1⟩⟩
structure bt where
 kind:Int
 av:List UInt8
 group:List UInt8
 offset:Int
 records:List (List UInt8)
def mW:Ty bt:=tM (tP tI (tP tS (tP tS (tP tI (tL tY))))) (fun s:bt=>(s.kind,s.av,s.group,s.offset,s.records))
theorem mW.parts {aG:Nat->Prop} {w:World} {cs:List Value} {s:bt} (h:mW.rd aG w cs s):∃v1,cs=[.int .i64 s.kind,.string (aA s.av),.string (aA s.group),.int .i64 s.offset,v1]/\(-9223372036854775808<=s.kind/\s.kind<=9223372036854775807)/\s.av.length<=4194304/\s.group.length<=4194304/\(-9223372036854775808<=s.offset/\s.offset<=9223372036854775807)/\(tL tY).rd aG w [v1] s.records:=by
 obtain⟨c0,e1,rfl,h0,c1,e2,rfl,h1,c2,e3,rfl,h2,c3,c4,rfl,h3,h4⟩:=h
 obtain⟨rfl,b0⟩:=h0
 obtain⟨rfl,b1⟩:=h1
 obtain⟨rfl,b2⟩:=h2
 obtain⟨rfl,b3⟩:=h3
 obtain⟨u4,rfl⟩:=uN ((tL tY).len h4)
 exact⟨u4,rfl,b0,b1,b2,b3,h4⟩
theorem mW.mk {aG:Nat->Prop} {w:World} {s:bt} {v1:Value} (k0:(-9223372036854775808<=s.kind/\s.kind<=9223372036854775807)) (k1:s.av.length<=4194304) (k2:s.group.length<=4194304) (k3:(-9223372036854775808<=s.offset/\s.offset<=9223372036854775807)) (k4:(tL tY).rd aG w [v1] s.records):mW.rd aG w [.int .i64 s.kind,.string (aA s.av),.string (aA s.group),.int .i64 s.offset,v1] s:=by
 exact⟨[.int .i64 s.kind],[.string (aA s.av),.string (aA s.group),.int .i64 s.offset,v1],rfl,⟨rfl,k0⟩,[.string (aA s.av)],[.string (aA s.group),.int .i64 s.offset,v1],rfl,⟨rfl,k1⟩,[.string (aA s.group)],[.int .i64 s.offset,v1],rfl,⟨rfl,k2⟩,[.int .i64 s.offset],[v1],rfl,⟨rfl,k3⟩,k4⟩
structure nH where
 err:Int
 offset:Int
def xe:Ty nH:=tM (tP tI tI) (fun s:nH=>(s.err,s.offset))
theorem xe.parts {aG:Nat->Prop} {w:World} {cs:List Value} {s:nH} (h:xe.rd aG w cs s):cs=[.int .i64 s.err,.int .i64 s.offset]/\(-9223372036854775808<=s.err/\s.err<=9223372036854775807)/\(-9223372036854775808<=s.offset/\s.offset<=9223372036854775807):=by
 obtain⟨c0,c1,rfl,h0,h1⟩:=h
 obtain⟨rfl,b0⟩:=h0
 obtain⟨rfl,b1⟩:=h1
 exact⟨rfl,b0,b1⟩
theorem xe.mk {aG:Nat->Prop} {w:World} {s:nH} (k0:(-9223372036854775808<=s.err/\s.err<=9223372036854775807)) (k1:(-9223372036854775808<=s.offset/\s.offset<=9223372036854775807)):xe.rd aG w [.int .i64 s.err,.int .i64 s.offset] s:=by
 exact⟨[.int .i64 s.err],[.int .i64 s.offset],rfl,⟨rfl,k0⟩,⟨rfl,k1⟩⟩
structure ju where
 bD:Int
 time:Int
 op:bt
def JG:Ty ju:=tM (tP tI (tP tI mW)) (fun s:ju=>(s.bD,s.time,s.op))
structure bX where
 request:ju
 sign:bJ
def yw:Ty bX:=tM (tP JG kj) (fun s:bX=>(s.request,s.sign))
structure j7 where
 seq:Int
 prev:Int
 batch:Int
 root:Int
 state:Int
def yx:Ty j7:=tM (tP tI (tP tI (tP tI (tP tI tI)))) (fun s:j7=>(s.seq,s.prev,s.batch,s.root,s.state))
structure gX where
 seq:Int
 ah:Int
 cM:List (bJ)
def qO:Ty gX:=tM (tP tI (tP tI (tL kj))) (fun s:gX=>(s.seq,s.ah,s.cM))
theorem qO.parts {aG:Nat->Prop} {w:World} {cs:List Value} {s:gX} (h:qO.rd aG w cs s):∃v1,cs=[.int .i64 s.seq,.int .i64 s.ah,v1]/\(-9223372036854775808<=s.seq/\s.seq<=9223372036854775807)/\(-9223372036854775808<=s.ah/\s.ah<=9223372036854775807)/\(tL kj).rd aG w [v1] s.cM:=by
 obtain⟨c0,e1,rfl,h0,c1,c2,rfl,h1,h2⟩:=h
 obtain⟨rfl,b0⟩:=h0
 obtain⟨rfl,b1⟩:=h1
 obtain⟨u2,rfl⟩:=uN ((tL kj).len h2)
 exact⟨u2,rfl,b0,b1,h2⟩
theorem qO.mk {aG:Nat->Prop} {w:World} {s:gX} {v1:Value} (k0:(-9223372036854775808<=s.seq/\s.seq<=9223372036854775807)) (k1:(-9223372036854775808<=s.ah/\s.ah<=9223372036854775807)) (k2:(tL kj).rd aG w [v1] s.cM):qO.rd aG w [.int .i64 s.seq,.int .i64 s.ah,v1] s:=by
 exact⟨[.int .i64 s.seq],[.int .i64 s.ah,v1],rfl,⟨rfl,k0⟩,[.int .i64 s.ah],[v1],rfl,⟨rfl,k1⟩,k2⟩
structure jt where
 view:Int
 seq:Int
 ah:Int
 kG:bJ
 cM:List (bJ)
 batch:List (bX)
def C1:Ty jt:=tM (tP tI (tP tI (tP tI (tP kj (tP (tL kj) (tL yw)))))) (fun s:jt=>(s.view,s.seq,s.ah,s.kG,s.cM,s.batch))
structure cX where
 view:Int
 src:Int
 cert:gX
 cD:List (jt)
 sign:bJ
def vU:Ty cX:=tM (tP tI (tP tI (tP qO (tP (tL C1) kj)))) (fun s:cX=>(s.view,s.src,s.cert,s.cD,s.sign))
theorem vU.parts {aG:Nat->Prop} {w:World} {cs:List Value} {s:cX} (h:vU.rd aG w cs s):∃v1 v2,cs=[.int .i64 s.view,.int .i64 s.src,.int .i64 s.cert.seq,.int .i64 s.cert.ah,v1,v2,.int .i64 s.sign.key,.int .i64 s.sign.ah]/\(-9223372036854775808<=s.view/\s.view<=9223372036854775807)/\(-9223372036854775808<=s.src/\s.src<=9223372036854775807)/\(-9223372036854775808<=s.cert.seq/\s.cert.seq<=9223372036854775807)/\(-9223372036854775808<=s.cert.ah/\s.cert.ah<=9223372036854775807)/\(tL kj).rd aG w [v1] s.cert.cM/\(tL C1).rd aG w [v2] s.cD/\(-9223372036854775808<=s.sign.key/\s.sign.key<=9223372036854775807)/\(-9223372036854775808<=s.sign.ah/\s.sign.ah<=9223372036854775807):=by
 obtain⟨c0,e1,rfl,h0,c1,e2,rfl,h1,c2,e3,rfl,h2,c3,c4,rfl,h3,h4⟩:=h
 obtain⟨rfl,b0⟩:=h0
 obtain⟨rfl,b1⟩:=h1
 obtain⟨afq,rfl,afr,afs,aft⟩:=qO.parts h2
 obtain⟨u3,rfl⟩:=uN ((tL C1).len h3)
 obtain⟨rfl,afu,afv⟩:=kj.parts h4
 exact⟨afq,u3,rfl,b0,b1,afr,afs,aft,h3,afu,afv⟩
structure gq where
 view:Int
 seq:Int
 batch:List (bX)
 sign:bJ
def BL:Ty gq:=tM (tP tI (tP tI (tP (tL yw) kj))) (fun s:gq=>(s.view,s.seq,s.batch,s.sign))
structure jX where
 av:List UInt8
 offset:Int
 record:List UInt8
 headers:List (j7)
 index:Int
 count:Int
 path:List (Int)
 cert:gX
def xk:Ty jX:=tM (tP tS (tP tI (tP tY (tP (tL yx) (tP tI (tP tI (tP (tL tI) qO))))))) (fun s:jX=>(s.av,s.offset,s.record,s.headers,s.index,s.count,s.path,s.cert))
theorem xk.parts {aG:Nat->Prop} {w:World} {cs:List Value} {s:jX} (h:xk.rd aG w cs s):∃v1 v2 v3 v4,cs=[.string (aA s.av),.int .i64 s.offset,v1,v2,.int .i64 s.index,.int .i64 s.count,v3,.int .i64 s.cert.seq,.int .i64 s.cert.ah,v4]/\s.av.length<=4194304/\(-9223372036854775808<=s.offset/\s.offset<=9223372036854775807)/\tY.rd aG w [v1] s.record/\(tL yx).rd aG w [v2] s.headers/\(-9223372036854775808<=s.index/\s.index<=9223372036854775807)/\(-9223372036854775808<=s.count/\s.count<=9223372036854775807)/\(tL tI).rd aG w [v3] s.path/\(-9223372036854775808<=s.cert.seq/\s.cert.seq<=9223372036854775807)/\(-9223372036854775808<=s.cert.ah/\s.cert.ah<=9223372036854775807)/\(tL kj).rd aG w [v4] s.cert.cM:=by
 obtain⟨c0,e1,rfl,h0,c1,e2,rfl,h1,c2,e3,rfl,h2,c3,e4,rfl,h3,c4,e5,rfl,h4,c5,e6,rfl,h5,c6,c7,rfl,h6,h7⟩:=h
 obtain⟨rfl,b0⟩:=h0
 obtain⟨rfl,b1⟩:=h1
 obtain⟨u2,rfl⟩:=uN (tY.len h2)
 obtain⟨u3,rfl⟩:=uN ((tL yx).len h3)
 obtain⟨rfl,b4⟩:=h4
 obtain⟨rfl,b5⟩:=h5
 obtain⟨u6,rfl⟩:=uN ((tL tI).len h6)
 obtain⟨afw,rfl,Lq,Lr,afx⟩:=qO.parts h7
 exact⟨u2,u3,u6,afw,rfl,b0,b1,h2,h3,b4,b5,h6,Lq,Lr,afx⟩
theorem xk.mk {aG:Nat->Prop} {w:World} {s:jX} {v1 v2 v3 v4:Value} (k0:s.av.length<=4194304) (k1:(-9223372036854775808<=s.offset/\s.offset<=9223372036854775807)) (k2:tY.rd aG w [v1] s.record) (k3:(tL yx).rd aG w [v2] s.headers) (k4:(-9223372036854775808<=s.index/\s.index<=9223372036854775807)) (k5:(-9223372036854775808<=s.count/\s.count<=9223372036854775807)) (k6:(tL tI).rd aG w [v3] s.path) (k7:(-9223372036854775808<=s.cert.seq/\s.cert.seq<=9223372036854775807)) (k8:(-9223372036854775808<=s.cert.ah/\s.cert.ah<=9223372036854775807)) (k9:(tL kj).rd aG w [v4] s.cert.cM):xk.rd aG w [.string (aA s.av),.int .i64 s.offset,v1,v2,.int .i64 s.index,.int .i64 s.count,v3,.int .i64 s.cert.seq,.int .i64 s.cert.ah,v4] s:=by
 exact⟨[.string (aA s.av)],[.int .i64 s.offset,v1,v2,.int .i64 s.index,.int .i64 s.count,v3,.int .i64 s.cert.seq,.int .i64 s.cert.ah,v4],rfl,⟨rfl,k0⟩,[.int .i64 s.offset],[v1,v2,.int .i64 s.index,.int .i64 s.count,v3,.int .i64 s.cert.seq,.int .i64 s.cert.ah,v4],rfl,⟨rfl,k1⟩,[v1],[v2,.int .i64 s.index,.int .i64 s.count,v3,.int .i64 s.cert.seq,.int .i64 s.cert.ah,v4],rfl,k2,[v2],[.int .i64 s.index,.int .i64 s.count,v3,.int .i64 s.cert.seq,.int .i64 s.cert.ah,v4],rfl,k3,[.int .i64 s.index],[.int .i64 s.count,v3,.int .i64 s.cert.seq,.int .i64 s.cert.ah,v4],rfl,⟨rfl,k4⟩,[.int .i64 s.count],[v3,.int .i64 s.cert.seq,.int .i64 s.cert.ah,v4],rfl,⟨rfl,k5⟩,[v3],[.int .i64 s.cert.seq,.int .i64 s.cert.ah,v4],rfl,k6,qO.mk k7 k8 k9⟩
structure aD where
 kind:Int
 src:Int
 view:Int
 seq:Int
 ah:Int
 bD:Int
 time:Int
 result:nH
 batch:List (bX)
 cert:gX
 changes:List (cX)
 entries:List (gq)
 state:List UInt8
 av:List UInt8
 offset:Int
 proof:jX
 sign:bJ
def jE:Ty aD:=tM (tP tI (tP tI (tP tI (tP tI (tP tI (tP tI (tP tI (tP xe (tP (tL yw) (tP qO (tP (tL vU) (tP (tL BL) (tP tY (tP tS (tP tI (tP xk kj)))))))))))))))) (fun s:aD=>(s.kind,s.src,s.view,s.seq,s.ah,s.bD,s.time,s.result,s.batch,s.cert,s.changes,s.entries,s.state,s.av,s.offset,s.proof,s.sign))
theorem jE.parts {aG:Nat->Prop} {w:World} {cs:List Value} {s:aD} (h:jE.rd aG w cs s):∃v1 v2 v3 v4 v5 v6 v7 v8 v9,cs=[.int .i64 s.kind,.int .i64 s.src,.int .i64 s.view,.int .i64 s.seq,.int .i64 s.ah,.int .i64 s.bD,.int .i64 s.time,.int .i64 s.result.err,.int .i64 s.result.offset,v1,.int .i64 s.cert.seq,.int .i64 s.cert.ah,v2,v3,v4,v5,.string (aA s.av),.int .i64 s.offset,.string (aA s.proof.av),.int .i64 s.proof.offset,v6,v7,.int .i64 s.proof.index,.int .i64 s.proof.count,v8,.int .i64 s.proof.cert.seq,.int .i64 s.proof.cert.ah,v9,.int .i64 s.sign.key,.int .i64 s.sign.ah]/\(-9223372036854775808<=s.kind/\s.kind<=9223372036854775807)/\(-9223372036854775808<=s.src/\s.src<=9223372036854775807)/\(-9223372036854775808<=s.view/\s.view<=9223372036854775807)/\(-9223372036854775808<=s.seq/\s.seq<=9223372036854775807)/\(-9223372036854775808<=s.ah/\s.ah<=9223372036854775807)/\(-9223372036854775808<=s.bD/\s.bD<=9223372036854775807)/\(-9223372036854775808<=s.time/\s.time<=9223372036854775807)/\(-9223372036854775808<=s.result.err/\s.result.err<=9223372036854775807)/\(-9223372036854775808<=s.result.offset/\s.result.offset<=9223372036854775807)/\(tL yw).rd aG w [v1] s.batch/\(-9223372036854775808<=s.cert.seq/\s.cert.seq<=9223372036854775807)/\(-9223372036854775808<=s.cert.ah/\s.cert.ah<=9223372036854775807)/\(tL kj).rd aG w [v2] s.cert.cM/\(tL vU).rd aG w [v3] s.changes/\(tL BL).rd aG w [v4] s.entries/\tY.rd aG w [v5] s.state/\s.av.length<=4194304/\(-9223372036854775808<=s.offset/\s.offset<=9223372036854775807)/\s.proof.av.length<=4194304/\(-9223372036854775808<=s.proof.offset/\s.proof.offset<=9223372036854775807)/\tY.rd aG w [v6] s.proof.record/\(tL yx).rd aG w [v7] s.proof.headers/\(-9223372036854775808<=s.proof.index/\s.proof.index<=9223372036854775807)/\(-9223372036854775808<=s.proof.count/\s.proof.count<=9223372036854775807)/\(tL tI).rd aG w [v8] s.proof.path/\(-9223372036854775808<=s.proof.cert.seq/\s.proof.cert.seq<=9223372036854775807)/\(-9223372036854775808<=s.proof.cert.ah/\s.proof.cert.ah<=9223372036854775807)/\(tL kj).rd aG w [v9] s.proof.cert.cM/\(-9223372036854775808<=s.sign.key/\s.sign.key<=9223372036854775807)/\(-9223372036854775808<=s.sign.ah/\s.sign.ah<=9223372036854775807):=by
 obtain⟨c0,e1,rfl,h0,c1,e2,rfl,h1,c2,e3,rfl,h2,c3,e4,rfl,h3,c4,e5,rfl,h4,c5,e6,rfl,h5,c6,e7,rfl,h6,c7,e8,rfl,h7,c8,e9,rfl,h8,c9,uW,rfl,h9,c10,To,rfl,kN,c11,AN,rfl,iG,c12,e13,rfl,rR,c13,e14,rfl,rS,c14,e15,rfl,tT,c15,c16,rfl,tU,nW⟩:=h
 obtain⟨rfl,b0⟩:=h0
 obtain⟨rfl,b1⟩:=h1
 obtain⟨rfl,b2⟩:=h2
 obtain⟨rfl,b3⟩:=h3
 obtain⟨rfl,b4⟩:=h4
 obtain⟨rfl,b5⟩:=h5
 obtain⟨rfl,b6⟩:=h6
 obtain⟨rfl,Lq,Lr⟩:=xe.parts h7
 obtain⟨u8,rfl⟩:=uN ((tL yw).len h8)
 obtain⟨afy,rfl,afz,afA,afB⟩:=qO.parts h9
 obtain⟨Uy,rfl⟩:=uN ((tL vU).len kN)
 obtain⟨UD,rfl⟩:=uN ((tL BL).len iG)
 obtain⟨UE,rfl⟩:=uN (tY.len rR)
 obtain⟨rfl,S3⟩:=rS
 obtain⟨rfl,S4⟩:=tT
 obtain⟨aem,aen,aeo,aep,rfl,aer,aes,aet,aeu,aev,aew,aex,aey,aez,aeA⟩:=xk.parts tU
 obtain⟨rfl,aeB,aeC⟩:=kj.parts nW
 exact⟨u8,afy,Uy,UD,UE,aem,aen,aeo,aep,rfl,b0,b1,b2,b3,b4,b5,b6,Lq,Lr,h8,afz,afA,afB,kN,iG,rR,S3,S4,aer,aes,aet,aeu,aev,aew,aex,aey,aez,aeA,aeB,aeC⟩
theorem jE.mk {aG:Nat->Prop} {w:World} {s:aD} {v1 v2 v3 v4 v5 v6 v7 v8 v9:Value} (k0:(-9223372036854775808<=s.kind/\s.kind<=9223372036854775807)) (k1:(-9223372036854775808<=s.src/\s.src<=9223372036854775807)) (k2:(-9223372036854775808<=s.view/\s.view<=9223372036854775807)) (k3:(-9223372036854775808<=s.seq/\s.seq<=9223372036854775807)) (k4:(-9223372036854775808<=s.ah/\s.ah<=9223372036854775807)) (k5:(-9223372036854775808<=s.bD/\s.bD<=9223372036854775807)) (k6:(-9223372036854775808<=s.time/\s.time<=9223372036854775807)) (k7:(-9223372036854775808<=s.result.err/\s.result.err<=9223372036854775807)) (k8:(-9223372036854775808<=s.result.offset/\s.result.offset<=9223372036854775807)) (k9:(tL yw).rd aG w [v1] s.batch) (ud:(-9223372036854775808<=s.cert.seq/\s.cert.seq<=9223372036854775807)) (oU:(-9223372036854775808<=s.cert.ah/\s.cert.ah<=9223372036854775807)) (ue:(tL kj).rd aG w [v2] s.cert.cM) (UF:(tL vU).rd aG w [v3] s.changes) (UG:(tL BL).rd aG w [v4] s.entries) (UH:tY.rd aG w [v5] s.state) (UI:s.av.length<=4194304) (UJ:(-9223372036854775808<=s.offset/\s.offset<=9223372036854775807)) (UK:s.proof.av.length<=4194304) (UL:(-9223372036854775808<=s.proof.offset/\s.proof.offset<=9223372036854775807)) (UM:tY.rd aG w [v6] s.proof.record) (UU:(tL yx).rd aG w [v7] s.proof.headers) (UW:(-9223372036854775808<=s.proof.index/\s.proof.index<=9223372036854775807)) (Vk:(-9223372036854775808<=s.proof.count/\s.proof.count<=9223372036854775807)) (VU:(tL tI).rd aG w [v8] s.proof.path) (VV:(-9223372036854775808<=s.proof.cert.seq/\s.proof.cert.seq<=9223372036854775807)) (VW:(-9223372036854775808<=s.proof.cert.ah/\s.proof.cert.ah<=9223372036854775807)) (WL:(tL kj).rd aG w [v9] s.proof.cert.cM) (WM:(-9223372036854775808<=s.sign.key/\s.sign.key<=9223372036854775807)) (WN:(-9223372036854775808<=s.sign.ah/\s.sign.ah<=9223372036854775807)):jE.rd aG w [.int .i64 s.kind,.int .i64 s.src,.int .i64 s.view,.int .i64 s.seq,.int .i64 s.ah,.int .i64 s.bD,.int .i64 s.time,.int .i64 s.result.err,.int .i64 s.result.offset,v1,.int .i64 s.cert.seq,.int .i64 s.cert.ah,v2,v3,v4,v5,.string (aA s.av),.int .i64 s.offset,.string (aA s.proof.av),.int .i64 s.proof.offset,v6,v7,.int .i64 s.proof.index,.int .i64 s.proof.count,v8,.int .i64 s.proof.cert.seq,.int .i64 s.proof.cert.ah,v9,.int .i64 s.sign.key,.int .i64 s.sign.ah] s:=by
 exact⟨[.int .i64 s.kind],[.int .i64 s.src,.int .i64 s.view,.int .i64 s.seq,.int .i64 s.ah,.int .i64 s.bD,.int .i64 s.time,.int .i64 s.result.err,.int .i64 s.result.offset,v1,.int .i64 s.cert.seq,.int .i64 s.cert.ah,v2,v3,v4,v5,.string (aA s.av),.int .i64 s.offset,.string (aA s.proof.av),.int .i64 s.proof.offset,v6,v7,.int .i64 s.proof.index,.int .i64 s.proof.count,v8,.int .i64 s.proof.cert.seq,.int .i64 s.proof.cert.ah,v9,.int .i64 s.sign.key,.int .i64 s.sign.ah],rfl,⟨rfl,k0⟩,[.int .i64 s.src],[.int .i64 s.view,.int .i64 s.seq,.int .i64 s.ah,.int .i64 s.bD,.int .i64 s.time,.int .i64 s.result.err,.int .i64 s.result.offset,v1,.int .i64 s.cert.seq,.int .i64 s.cert.ah,v2,v3,v4,v5,.string (aA s.av),.int .i64 s.offset,.string (aA s.proof.av),.int .i64 s.proof.offset,v6,v7,.int .i64 s.proof.index,.int .i64 s.proof.count,v8,.int .i64 s.proof.cert.seq,.int .i64 s.proof.cert.ah,v9,.int .i64 s.sign.key,.int .i64 s.sign.ah],rfl,⟨rfl,k1⟩,[.int .i64 s.view],[.int .i64 s.seq,.int .i64 s.ah,.int .i64 s.bD,.int .i64 s.time,.int .i64 s.result.err,.int .i64 s.result.offset,v1,.int .i64 s.cert.seq,.int .i64 s.cert.ah,v2,v3,v4,v5,.string (aA s.av),.int .i64 s.offset,.string (aA s.proof.av),.int .i64 s.proof.offset,v6,v7,.int .i64 s.proof.index,.int .i64 s.proof.count,v8,.int .i64 s.proof.cert.seq,.int .i64 s.proof.cert.ah,v9,.int .i64 s.sign.key,.int .i64 s.sign.ah],rfl,⟨rfl,k2⟩,[.int .i64 s.seq],[.int .i64 s.ah,.int .i64 s.bD,.int .i64 s.time,.int .i64 s.result.err,.int .i64 s.result.offset,v1,.int .i64 s.cert.seq,.int .i64 s.cert.ah,v2,v3,v4,v5,.string (aA s.av),.int .i64 s.offset,.string (aA s.proof.av),.int .i64 s.proof.offset,v6,v7,.int .i64 s.proof.index,.int .i64 s.proof.count,v8,.int .i64 s.proof.cert.seq,.int .i64 s.proof.cert.ah,v9,.int .i64 s.sign.key,.int .i64 s.sign.ah],rfl,⟨rfl,k3⟩,[.int .i64 s.ah],[.int .i64 s.bD,.int .i64 s.time,.int .i64 s.result.err,.int .i64 s.result.offset,v1,.int .i64 s.cert.seq,.int .i64 s.cert.ah,v2,v3,v4,v5,.string (aA s.av),.int .i64 s.offset,.string (aA s.proof.av),.int .i64 s.proof.offset,v6,v7,.int .i64 s.proof.index,.int .i64 s.proof.count,v8,.int .i64 s.proof.cert.seq,.int .i64 s.proof.cert.ah,v9,.int .i64 s.sign.key,.int .i64 s.sign.ah],rfl,⟨rfl,k4⟩,[.int .i64 s.bD],[.int .i64 s.time,.int .i64 s.result.err,.int .i64 s.result.offset,v1,.int .i64 s.cert.seq,.int .i64 s.cert.ah,v2,v3,v4,v5,.string (aA s.av),.int .i64 s.offset,.string (aA s.proof.av),.int .i64 s.proof.offset,v6,v7,.int .i64 s.proof.index,.int .i64 s.proof.count,v8,.int .i64 s.proof.cert.seq,.int .i64 s.proof.cert.ah,v9,.int .i64 s.sign.key,.int .i64 s.sign.ah],rfl,⟨rfl,k5⟩,[.int .i64 s.time],[.int .i64 s.result.err,.int .i64 s.result.offset,v1,.int .i64 s.cert.seq,.int .i64 s.cert.ah,v2,v3,v4,v5,.string (aA s.av),.int .i64 s.offset,.string (aA s.proof.av),.int .i64 s.proof.offset,v6,v7,.int .i64 s.proof.index,.int .i64 s.proof.count,v8,.int .i64 s.proof.cert.seq,.int .i64 s.proof.cert.ah,v9,.int .i64 s.sign.key,.int .i64 s.sign.ah],rfl,⟨rfl,k6⟩,[.int .i64 s.result.err,.int .i64 s.result.offset],[v1,.int .i64 s.cert.seq,.int .i64 s.cert.ah,v2,v3,v4,v5,.string (aA s.av),.int .i64 s.offset,.string (aA s.proof.av),.int .i64 s.proof.offset,v6,v7,.int .i64 s.proof.index,.int .i64 s.proof.count,v8,.int .i64 s.proof.cert.seq,.int .i64 s.proof.cert.ah,v9,.int .i64 s.sign.key,.int .i64 s.sign.ah],rfl,xe.mk k7 k8,[v1],[.int .i64 s.cert.seq,.int .i64 s.cert.ah,v2,v3,v4,v5,.string (aA s.av),.int .i64 s.offset,.string (aA s.proof.av),.int .i64 s.proof.offset,v6,v7,.int .i64 s.proof.index,.int .i64 s.proof.count,v8,.int .i64 s.proof.cert.seq,.int .i64 s.proof.cert.ah,v9,.int .i64 s.sign.key,.int .i64 s.sign.ah],rfl,k9,[.int .i64 s.cert.seq,.int .i64 s.cert.ah,v2],[v3,v4,v5,.string (aA s.av),.int .i64 s.offset,.string (aA s.proof.av),.int .i64 s.proof.offset,v6,v7,.int .i64 s.proof.index,.int .i64 s.proof.count,v8,.int .i64 s.proof.cert.seq,.int .i64 s.proof.cert.ah,v9,.int .i64 s.sign.key,.int .i64 s.sign.ah],rfl,qO.mk ud oU ue,[v3],[v4,v5,.string (aA s.av),.int .i64 s.offset,.string (aA s.proof.av),.int .i64 s.proof.offset,v6,v7,.int .i64 s.proof.index,.int .i64 s.proof.count,v8,.int .i64 s.proof.cert.seq,.int .i64 s.proof.cert.ah,v9,.int .i64 s.sign.key,.int .i64 s.sign.ah],rfl,UF,[v4],[v5,.string (aA s.av),.int .i64 s.offset,.string (aA s.proof.av),.int .i64 s.proof.offset,v6,v7,.int .i64 s.proof.index,.int .i64 s.proof.count,v8,.int .i64 s.proof.cert.seq,.int .i64 s.proof.cert.ah,v9,.int .i64 s.sign.key,.int .i64 s.sign.ah],rfl,UG,[v5],[.string (aA s.av),.int .i64 s.offset,.string (aA s.proof.av),.int .i64 s.proof.offset,v6,v7,.int .i64 s.proof.index,.int .i64 s.proof.count,v8,.int .i64 s.proof.cert.seq,.int .i64 s.proof.cert.ah,v9,.int .i64 s.sign.key,.int .i64 s.sign.ah],rfl,UH,[.string (aA s.av)],[.int .i64 s.offset,.string (aA s.proof.av),.int .i64 s.proof.offset,v6,v7,.int .i64 s.proof.index,.int .i64 s.proof.count,v8,.int .i64 s.proof.cert.seq,.int .i64 s.proof.cert.ah,v9,.int .i64 s.sign.key,.int .i64 s.sign.ah],rfl,⟨rfl,UI⟩,[.int .i64 s.offset],[.string (aA s.proof.av),.int .i64 s.proof.offset,v6,v7,.int .i64 s.proof.index,.int .i64 s.proof.count,v8,.int .i64 s.proof.cert.seq,.int .i64 s.proof.cert.ah,v9,.int .i64 s.sign.key,.int .i64 s.sign.ah],rfl,⟨rfl,UJ⟩,[.string (aA s.proof.av),.int .i64 s.proof.offset,v6,v7,.int .i64 s.proof.index,.int .i64 s.proof.count,v8,.int .i64 s.proof.cert.seq,.int .i64 s.proof.cert.ah,v9],[.int .i64 s.sign.key,.int .i64 s.sign.ah],rfl,xk.mk UK UL UM UU UW Vk VU VV VW WL,kj.mk WM WN⟩
structure sW where
 f:Int
 jP:Int
 jC:Int
 room:Int
 av:List UInt8
def nN:Ty sW:=tM (tP tI (tP tW (tP tW (tP tI tS)))) (fun s:sW=>(s.f,s.jP,s.jC,s.room,s.av))
theorem nN.parts {aG:Nat->Prop} {w:World} {cs:List Value} {s:sW} (h:nN.rd aG w cs s):cs=[.int .i64 s.f,.int .u16 s.jP,.int .u16 s.jC,.int .i64 s.room,.string (aA s.av)]/\(-9223372036854775808<=s.f/\s.f<=9223372036854775807)/\(0<=s.jP/\s.jP<=65535)/\(0<=s.jC/\s.jC<=65535)/\(-9223372036854775808<=s.room/\s.room<=9223372036854775807)/\s.av.length<=4194304:=by
 obtain⟨c0,e1,rfl,h0,c1,e2,rfl,h1,c2,e3,rfl,h2,c3,c4,rfl,h3,h4⟩:=h
 obtain⟨rfl,b0⟩:=h0
 obtain⟨rfl,b1⟩:=h1
 obtain⟨rfl,b2⟩:=h2
 obtain⟨rfl,b3⟩:=h3
 obtain⟨rfl,b4⟩:=h4
 exact⟨rfl,b0,b1,b2,b3,b4⟩
theorem nN.mk {aG:Nat->Prop} {w:World} {s:sW} (k0:(-9223372036854775808<=s.f/\s.f<=9223372036854775807)) (k1:(0<=s.jP/\s.jP<=65535)) (k2:(0<=s.jC/\s.jC<=65535)) (k3:(-9223372036854775808<=s.room/\s.room<=9223372036854775807)) (k4:s.av.length<=4194304):nN.rd aG w [.int .i64 s.f,.int .u16 s.jP,.int .u16 s.jC,.int .i64 s.room,.string (aA s.av)] s:=by
 exact⟨[.int .i64 s.f],[.int .u16 s.jP,.int .u16 s.jC,.int .i64 s.room,.string (aA s.av)],rfl,⟨rfl,k0⟩,[.int .u16 s.jP],[.int .u16 s.jC,.int .i64 s.room,.string (aA s.av)],rfl,⟨rfl,k1⟩,[.int .u16 s.jC],[.int .i64 s.room,.string (aA s.av)],rfl,⟨rfl,k2⟩,[.int .i64 s.room],[.string (aA s.av)],rfl,⟨rfl,k3⟩,⟨rfl,k4⟩⟩
structure bK where
 kind:Int
 bA:Int
 num:Int
 op:bt
 bytes:List UInt8
 msg:aD
 jN:Bool
def iF:Ty bK:=tM (tP tI (tP tI (tP tI (tP mW (tP tY (tP jE tB)))))) (fun s:bK=>(s.kind,s.bA,s.num,s.op,s.bytes,s.msg,s.jN))
structure qw where
 fJ:sW
 kA:List (bK)
def BD:Ty qw:=tM (tP nN (tL iF)) (fun s:qw=>(s.fJ,s.kA))
theorem BD.mk {aG:Nat->Prop} {w:World} {s:qw} {v1:Value} (k0:(-9223372036854775808<=s.fJ.f/\s.fJ.f<=9223372036854775807)) (k1:(0<=s.fJ.jP/\s.fJ.jP<=65535)) (k2:(0<=s.fJ.jC/\s.fJ.jC<=65535)) (k3:(-9223372036854775808<=s.fJ.room/\s.fJ.room<=9223372036854775807)) (k4:s.fJ.av.length<=4194304) (k5:(tL iF).rd aG w [v1] s.kA):BD.rd aG w [.int .i64 s.fJ.f,.int .u16 s.fJ.jP,.int .u16 s.fJ.jC,.int .i64 s.fJ.room,.string (aA s.fJ.av),v1] s:=by
 exact⟨[.int .i64 s.fJ.f,.int .u16 s.fJ.jP,.int .u16 s.fJ.jC,.int .i64 s.fJ.room,.string (aA s.fJ.av)],[v1],rfl,nN.mk k0 k1 k2 k3 k4,k5⟩
end
section
set_option linter.unusedSectionVars false
variable [Old]
def gS (b:List UInt8):List D:=[.list 1 (b.map af)]
def eD (n:Int):List D:=[.int .i64 n]
def iO:Dt bJ:=dM (dP dI dI) (fun s:bJ=>(s.key,s.ah))
def bL (s:bJ):List D:=[.int .i64 s.key,.int .i64 s.ah]
set_option maxRecDepth 10000 in
theorem Aa:Lk kj iO:=r7 _ (dZ gU gU)
def fD:Dt bt:=dM (dP dI (dP dS (dP dS (dP dI (dL dY))))) (fun s:bt=>(s.kind,s.av,s.group,s.offset,s.records))
def cC (s:bt):List D:=[.int .i64 s.kind,.str s.av,.str s.group,.int .i64 s.offset,.list 1 (s.records.map gS)]
set_option maxRecDepth 10000 in
theorem SY:Lk mW fD:=r7 _ (dZ gU (dZ Ex (dZ Ex (dZ gU (vv Ii)))))
def mZ:Dt nH:=dM (dP dI dI) (fun s:nH=>(s.err,s.offset))
def wV (s:nH):List D:=[.int .i64 s.err,.int .i64 s.offset]
set_option maxRecDepth 10000 in
theorem aan:Lk xe mZ:=r7 _ (dZ gU gU)
def su:Dt ju:=dM (dP dI (dP dI fD)) (fun s:ju=>(s.bD,s.time,s.op))
def sw (s:ju):List D:=[.int .i64 s.bD,.int .i64 s.time,.int .i64 s.op.kind,.str s.op.av,.str s.op.group,.int .i64 s.op.offset,.list 1 (s.op.records.map gS)]
set_option maxRecDepth 10000 in
theorem Yc:Lk JG su:=r7 _ (dZ gU (dZ gU SY))
def fX:Dt bX:=dM (dP su iO) (fun s:bX=>(s.request,s.sign))
def bI (s:bX):List D:=[.int .i64 s.request.bD,.int .i64 s.request.time,.int .i64 s.request.op.kind,.str s.request.op.av,.str s.request.op.group,.int .i64 s.request.op.offset,.list 1 (s.request.op.records.map gS),.int .i64 s.sign.key,.int .i64 s.sign.ah]
set_option maxRecDepth 10000 in
theorem JN:Lk yw fX:=r7 _ (dZ Yc Aa)
def yq:Dt j7:=dM (dP dI (dP dI (dP dI (dP dI dI)))) (fun s:j7=>(s.seq,s.prev,s.batch,s.root,s.state))
def eO (s:j7):List D:=[.int .i64 s.seq,.int .i64 s.prev,.int .i64 s.batch,.int .i64 s.root,.int .i64 s.state]
set_option maxRecDepth 10000 in
theorem aao:Lk yx yq:=r7 _ (dZ gU (dZ gU (dZ gU (dZ gU gU))))
def je:Dt gX:=dM (dP dI (dP dI (dL iO))) (fun s:gX=>(s.seq,s.ah,s.cM))
def mj (s:gX):List D:=[.int .i64 s.seq,.int .i64 s.ah,.list 2 (s.cM.map bL)]
set_option maxRecDepth 10000 in
theorem KR:Lk qO je:=r7 _ (dZ gU (dZ gU (vv Aa)))
def oC:Dt jt:=dM (dP dI (dP dI (dP dI (dP iO (dP (dL iO) (dL fX)))))) (fun s:jt=>(s.view,s.seq,s.ah,s.kG,s.cM,s.batch))
def fk (s:jt):List D:=[.int .i64 s.view,.int .i64 s.seq,.int .i64 s.ah,.int .i64 s.kG.key,.int .i64 s.kG.ah,.list 2 (s.cM.map bL),.list 9 (s.batch.map bI)]
set_option maxRecDepth 10000 in
theorem WZ:Lk C1 oC:=r7 _ (dZ gU (dZ gU (dZ gU (dZ Aa (dZ (vv Aa) (vv JN))))))
def fP:Dt cX:=dM (dP dI (dP dI (dP je (dP (dL oC) iO)))) (fun s:cX=>(s.view,s.src,s.cert,s.cD,s.sign))
def bU (s:cX):List D:=[.int .i64 s.view,.int .i64 s.src,.int .i64 s.cert.seq,.int .i64 s.cert.ah,.list 2 (s.cert.cM.map bL),.list 7 (s.cD.map fk),.int .i64 s.sign.key,.int .i64 s.sign.ah]
set_option maxRecDepth 10000 in
theorem aap:Lk vU fP:=r7 _ (dZ gU (dZ gU (dZ KR (dZ (vv WZ) Aa))))
def jx:Dt gq:=dM (dP dI (dP dI (dP (dL fX) iO))) (fun s:gq=>(s.view,s.seq,s.batch,s.sign))
def dV (s:gq):List D:=[.int .i64 s.view,.int .i64 s.seq,.list 9 (s.batch.map bI),.int .i64 s.sign.key,.int .i64 s.sign.ah]
set_option maxRecDepth 10000 in
theorem acr:Lk BL jx:=r7 _ (dZ gU (dZ gU (dZ (vv JN) Aa)))
def jY:Dt jX:=dM (dP dS (dP dI (dP dY (dP (dL yq) (dP dI (dP dI (dP (dL dI) je))))))) (fun s:jX=>(s.av,s.offset,s.record,s.headers,s.index,s.count,s.path,s.cert))
def jv (s:jX):List D:=[.str s.av,.int .i64 s.offset,.list 1 (s.record.map af),.list 5 (s.headers.map eO),.int .i64 s.index,.int .i64 s.count,.list 1 (s.path.map eD),.int .i64 s.cert.seq,.int .i64 s.cert.ah,.list 2 (s.cert.cM.map bL)]
set_option maxRecDepth 10000 in
theorem acs:Lk xk jY:=r7 _ (dZ Ex (dZ gU (dZ Ii (dZ (vv aao) (dZ gU (dZ gU (dZ (vv gU) KR)))))))
def bh:Dt aD:=dM (dP dI (dP dI (dP dI (dP dI (dP dI (dP dI (dP dI (dP mZ (dP (dL fX) (dP je (dP (dL fP) (dP (dL jx) (dP dY (dP dS (dP dI (dP jY iO)))))))))))))))) (fun s:aD=>(s.kind,s.src,s.view,s.seq,s.ah,s.bD,s.time,s.result,s.batch,s.cert,s.changes,s.entries,s.state,s.av,s.offset,s.proof,s.sign))
def aC (s:aD):List D:=[.int .i64 s.kind,.int .i64 s.src,.int .i64 s.view,.int .i64 s.seq,.int .i64 s.ah,.int .i64 s.bD,.int .i64 s.time,.int .i64 s.result.err,.int .i64 s.result.offset,.list 9 (s.batch.map bI),.int .i64 s.cert.seq,.int .i64 s.cert.ah,.list 2 (s.cert.cM.map bL),.list 8 (s.changes.map bU),.list 5 (s.entries.map dV),.list 1 (s.state.map af),.str s.av,.int .i64 s.offset,.str s.proof.av,.int .i64 s.proof.offset,.list 1 (s.proof.record.map af),.list 5 (s.proof.headers.map eO),.int .i64 s.proof.index,.int .i64 s.proof.count,.list 1 (s.proof.path.map eD),.int .i64 s.proof.cert.seq,.int .i64 s.proof.cert.ah,.list 2 (s.proof.cert.cM.map bL),.int .i64 s.sign.key,.int .i64 s.sign.ah]
set_option maxRecDepth 10000 in
theorem aeO:Lk jE bh:=r7 _ (dZ gU (dZ gU (dZ gU (dZ gU (dZ gU (dZ gU (dZ gU (dZ aan (dZ (vv JN) (dZ KR (dZ (vv aap) (dZ (vv acr) (dZ Ii (dZ Ex (dZ gU (dZ acs Aa))))))))))))))))
def afW:Dt sW:=dM (dP dI (dP dW (dP dW (dP dI dS)))) (fun s:sW=>(s.f,s.jP,s.jC,s.room,s.av))
def aga (s:sW):List D:=[.int .i64 s.f,.int .u16 s.jP,.int .u16 s.jC,.int .i64 s.room,.str s.av]
set_option maxRecDepth 10000 in
theorem aih:Lk nN afW:=r7 _ (dZ gU (dZ Mq (dZ Mq (dZ gU Ex))))
def gh:Dt bK:=dM (dP dI (dP dI (dP dI (dP fD (dP dY (dP bh dB)))))) (fun s:bK=>(s.kind,s.bA,s.num,s.op,s.bytes,s.msg,s.jN))
def cr (s:bK):List D:=[.int .i64 s.kind,.int .i64 s.bA,.int .i64 s.num,.int .i64 s.op.kind,.str s.op.av,.str s.op.group,.int .i64 s.op.offset,.list 1 (s.op.records.map gS),.list 1 (s.bytes.map af),.int .i64 s.msg.kind,.int .i64 s.msg.src,.int .i64 s.msg.view,.int .i64 s.msg.seq,.int .i64 s.msg.ah,.int .i64 s.msg.bD,.int .i64 s.msg.time,.int .i64 s.msg.result.err,.int .i64 s.msg.result.offset,.list 9 (s.msg.batch.map bI),.int .i64 s.msg.cert.seq,.int .i64 s.msg.cert.ah,.list 2 (s.msg.cert.cM.map bL),.list 8 (s.msg.changes.map bU),.list 5 (s.msg.entries.map dV),.list 1 (s.msg.state.map af),.str s.msg.av,.int .i64 s.msg.offset,.str s.msg.proof.av,.int .i64 s.msg.proof.offset,.list 1 (s.msg.proof.record.map af),.list 5 (s.msg.proof.headers.map eO),.int .i64 s.msg.proof.index,.int .i64 s.msg.proof.count,.list 1 (s.msg.proof.path.map eD),.int .i64 s.msg.proof.cert.seq,.int .i64 s.msg.proof.cert.ah,.list 2 (s.msg.proof.cert.cM.map bL),.int .i64 s.msg.sign.key,.int .i64 s.msg.sign.ah,.bool s.jN]
set_option maxRecDepth 10000 in
theorem Sc:Lk iF gh:=r7 _ (dZ gU (dZ gU (dZ gU (dZ SY (dZ Ii (dZ aeO LkB))))))
def agA (s:qw):List D:=[.int .i64 s.fJ.f,.int .u16 s.fJ.jP,.int .u16 s.fJ.jC,.int .i64 s.fJ.room,.str s.fJ.av,.list 40 (s.kA.map cr)]
end
section
set_option linter.unusedSectionVars false
variable [Wd]
abbrev aq (P:Program) (f:FuncId) (ar:List D) (r:D):Prop:=bC P f ar [] (fun r' h'=>r'=r/\h'=[])
theorem P7 (σ:List Nat):∀(d:D),ga d=true->d.bO σ=d
 |.agg cs,h=>by simp only[D.bO];rw[go cs h]
 |.aj cs,h=>by simp only[D.bO];rw[go cs h]
 |.fn f n cs,h=>by simp only[D.bO];rw[go cs h]
 |.bool _,_|.int _ _,_|.str _,_|.list _ _,_|.own _ _,_|.nils,_|.ff,_|.ay,_|.kL,_|.ref _,_=>rfl
 |.ptr _ _,h|.row _,h|.gy _ _ _ _,h|.jI _,h|.gj _,h|.any,h|.bad,h=>by cases h
 where go:∀(cs:List D),ga.pl cs=true->D.bO.rl σ cs=cs
 |[],_=>rfl
 |d::ds,h=>by
  simp only[ga.pl,Bool.and_eq_true] at h
  rw[D.bO.rl,P7 σ d h.1,go ds h.2]
theorem JO (h:List AO):∀d:D,d.dj h []=d
 |.agg cs=>by simp only[D.dj];rw[go cs]
 |.aj cs=>by simp only[D.dj];rw[go cs]
 |.row o=>rfl
 |.fn _ _ _=>rfl
 |.bool _|.int _ _|.str _|.list _ _|.own _ _|.nils|.ff|.ay|.kL|.ref _|.ptr _ _|.gy _ _ _ _|.jI _|.gj _|.any|.bad=>rfl
 where go:∀cs:List D,D.dj.fl h [] cs=cs
 |[]=>rfl
 |d::ds=>by rw[D.dj.fl,JO h d,go ds]
theorem Rc (h:List AO):∀(l:List AO) (k:Nat),uo h [] k l=l
 |[],k=>rfl
 |a::l,k=>by
  rw[uo,Rc h l]
  cases a with
  |cells t cs=>simp only[AO.dj,JO.go];rfl
  |row t n xs=>rfl
  |gone=>rfl
theorem zQ (s:S):s.dj []=s:=by
 cases s with
 |mk t h=>
  simp only[S.dj,Rc]
  congr 1
  rw[show(fun x:Nat×D=>(x.1,x.2.dj h []))=id from funext fun x=>by rw[JO];rfl]
  simp
section
variable {P:Program} {Q:Exit->S->Prop}
theorem an {b:Bool} {t f:T} (h1:b=true->t.ok P Q) (h2:b=false->f.ok P Q):(bT b t f).ok P Q:=by
 cases b
 ·exact h2 rfl
 ·exact h1 rfl
theorem aT {p:Prop} {t:T} (h:p) (k:t.ok P Q):(T.ask p t).ok P Q:=⟨h,k⟩
theorem aV {a b:T} (h:a.ok P Q) (k:b.ok P Q):(T.both a b).ok P Q:=⟨h,k⟩
theorem bw {k:IntKind} {e:Int} {c:Int->T} (hw:k.wrap e=e) (h:(c e).ok P Q):(T.wrap k e c).ok P Q:=by
 show(c (k.wrap e)).ok P Q
 rw[hw];exact h
theorem lD {k:IntKind} {e:Int} {c:Int->T} (h:(c (k.wrap e)).ok P Q):(T.wrap k e c).ok P Q:=h
theorem eT {xs:List (List D)} {i:Int} {c:List D->T} (x:List D) (h0:0<=i) (h1:xs[i.toNat]?=some x) (h:(c x).ok P Q):(T.nth xs i c).ok P Q:=⟨x,h0,h1,h⟩
theorem cK {α:Type} {l:List α} {f:α->List D} {q:Nat} {c:List D->T} (hq:q<l.length) (h:∀x,l[q]?=some x->(c (f x)).ok P Q):(T.nth (l.map f) (q:Int) c).ok P Q:=
 ⟨f l[q],Int.natCast_nonneg q,by simp[hq],h _ (List.getElem?_eq_getElem hq)⟩
theorem dK {s:List UInt8} {i:Int} {c:UInt8->T} (x:UInt8) (h0:0<=i) (h1:s[i.toNat]?=some x) (h:(c x).ok P Q):(T.byte s i c).ok P Q:=⟨x,h0,h1,h⟩
theorem j8 {xs:List (List D)} {c:List UInt8->T} (s:List UInt8) (h1:xs=s.map af) (h:(c s).ok P Q):(T.D7 xs c).ok P Q:=⟨s,h1,h⟩
theorem iQ {f:FuncId} {ar bR:List D} {h:List AO} {c:D->List AO->T} {r:D} (hF:aq P f ar r) (hp:ga.pl ar=true) (hc:aa bR ar) (k:(c r h).ok P Q):(T.call f bR h c).ok P Q:=
 ⟨_,hF.pure (R:=fun r'=>r'=r) hp hc,fun r' h' ⟨e1,e2⟩=>by subst e1 e2;exact k⟩
theorem mA {f:FuncId} {ar bR:List D} {hs hb:List AO} {c:D->List AO->T} {r:D} {kD:List AO} (σ:List Nat) (hF:bC P f ar hs (fun r' h'=>r'=r/\h'=kD)) (V:View σ hb hs) (hc:aa bR (D.bO.rl σ ar)) (hM:(σ.all fun o=>(jT hb bR).elem o)=true) (k:(c (r.bO (mz hb σ hs kD)) (lK hb σ hs kD)).ok P Q):(T.call f bR hb c).ok P Q:=
 ⟨_,hF.aL V hc (fun o ho=>by have:=List.all_eq_true.1 hM o ho;simpa using this),fun r' h' ⟨r0,h0,⟨e1,e2⟩,e3,e4⟩=>by subst e1 e2 e3 e4;exact k⟩
theorem mE {tb:TT} {rs:List ResultVar} {e:Exit} {s:S} {r:D} (fz:List Nat) {ds:List D} (he:e=.normal\/e=.ret) (hr:iD tb (s.dj fz) rs=some ds) (iw:Co (lI ds) r) (hp:ga r=true):(T.leaf e s).ok P (Lf tb rs [] (fun r' h'=>r'=r/\h'=[])):=
 ⟨he,fz,ds,hr,[],r,r,[],⟨rfl,fun i j o h=>by simp at h,fun i o a h=>by simp at h⟩,iw,(P7 [] r hp).symm,fun o t cs h=>by simp at h,rfl,rfl⟩
theorem qB {tb:TT} {rs:List ResultVar} {e:Exit} {s:S} {r:D} {ds:List D} (he:e=.normal\/e=.ret) (hr:iD tb s rs=some ds) (iw:Co (lI ds) r) (hp:ga r=true):(T.leaf e s).ok P (Lf tb rs [] (fun r' h'=>r'=r/\h'=[])):=
 mE [] he (by rw[zQ];exact hr) iw hp
theorem adJ {tb:TT} {rs:List ResultVar} {e:Exit} {s:S} {k:IntKind} {n m:Int} (he:e=.normal\/e=.ret) (hr:iD tb s rs=some [.int k n]) (h:n=m):(T.leaf e s).ok P (Lf tb rs [] (fun r' h'=>r'=.int k m/\h'=[])):=by
 subst h
 exact qB he hr (.refl _) rfl
theorem acu {tb:TT} {rs:List ResultVar} {e:Exit} {s:S} {n m:Bool} (he:e=.normal\/e=.ret) (hr:iD tb s rs=some [.bool n]) (h:n=m):(T.leaf e s).ok P (Lf tb rs [] (fun r' h'=>r'=.bool m/\h'=[])):=by
 subst h
 exact qB he hr (.refl _) rfl
end
def nodupB:List Nat->Bool
 |[]=>true
 |o::r=>!r.elem o&&nodupB r
def jF (h:List AO) (σ:List Nat):List Nat->List AO->Prop
 |[],[]=>True
 |o::r,a::l=>(Nat.blt o h.length=true/\lh h o=a.bO σ)/\jF h σ r l
 |_,_=>False
theorem O6:∀{l:List Nat},nodupB l=true->∀(i j o:Nat),l[i]?=some o->l[j]?=some o->i=j
 |[],_,i,j,o,h,_=>by simp at h
 |x::r,h,i,j,o,h1,h2=>by
  simp only[nodupB,Bool.and_eq_true,Bool.not_eq_true'] at h
  have hx:x∉r:=by
   intro hm
   have:r.elem x=true:=by simpa using hm
   rw[this] at h
   cases h.1
  cases i with
  |zero=>
   cases j with
   |zero=>rfl
   |succ j=>
    simp at h1 h2
    subst h1
    exact absurd (List.mem_of_getElem? h2) hx
  |succ i=>
   cases j with
   |zero=>
    simp at h1 h2
    subst h2
    exact absurd (List.mem_of_getElem? h1) hx
   |succ j=>
    simp at h1 h2
    rw[O6 h.2 i j o h1 h2]
theorem aeP {h:List AO} {o:Nat} {a:AO} (hl:o<h.length) (k:lh h o=a):h[o]?=some a:=by
 have:∀(l:List AO) (n:Nat),n<l.length->l[n]?=some (lh l n):=by
  intro l
  induction l with
  |nil=>intro n h;simp at h
  |cons b l ih=>
   intro n h
   cases n with
   |zero=>simp[lh]
   |succ n=>simp at h;simp[lh,ih n h]
 rw[this h o hl,k]
theorem Kk {h:List AO} {σ:List Nat}:∀{r:List Nat} {l:List AO},jF h σ r l->r.length=l.length/\∀(i o:Nat) a,r[i]?=some o->l[i]?=some a->h[o]?=some (a.bO σ)
 |[],[],_=>⟨rfl,fun i o a h=>by simp at h⟩
 |o::r,a::l,k=>by
  obtain⟨⟨k1,k2⟩,k3⟩:=k
  obtain⟨e1,e2⟩:=Kk k3
  refine⟨by simp[e1],fun i o' a' h1 h2=>?_⟩
  cases i with
  |zero=>simp at h1 h2;subst h1 h2;exact aeP (Nat.le_of_ble_eq_true k1) k2
  |succ i=>simp at h1 h2;exact e2 i o' a' h1 h2
 |[],_::_,k=>k.elim
 |_::_,[],k=>k.elim
theorem View.mk' {σ:List Nat} {h h':List AO} (hn:nodupB σ=true) (hv:jF h σ σ h'):View σ h h':=
 ⟨(Kk hv).1,O6 hn,(Kk hv).2⟩
def Ij (t:List (Nat×D)) (σ:List Nat):List (Nat×D)->Prop
 |[]=>True
 |(j,d)::r=>lk t j=d.bO σ/\Ij t σ r
theorem RM {t:List (Nat×D)} {σ:List Nat}:∀{l:List (Nat×D)},Ij t σ l->∀j,lk l j=.any\/lk t j=(lk l j).bO σ
 |[],_,j=>.inl rfl
 |(i,d)::r,k,j=>by
  simp only[lk]
  cases hb:Nat.beq j i with
  |true=>
   cases Nat.eq_of_beq_eq_true hb
   exact .inr k.1
  |false=>exact RM k.2 j
def EO:Nat->List Nat->Bool
 |0,_=>true
 |n+1,σ=>(match ln σ n with|some o=>Nat.beq o n|none=>false)&&EO n σ
theorem RN {σ:List Nat}:∀{m:Nat},EO m σ=true->∀i,i<m->σ[i]?=some i
 |0,_,i,h=>by omega
 |n+1,h,i,hi=>by
  simp only[EO,Bool.and_eq_true] at h
  by_cases e:i=n
  ·subst e
   rw[<-vW]
   cases hl:ln σ i with
   |none=>rw[hl] at h;cases h.1
   |some o=>rw[hl] at h;rw[Nat.eq_of_beq_eq_true h.1]
  ·exact RN h.2 i (by omega)
theorem Sv.mk' {m:Nat} {s s':S} (σ:List Nat) (h1:(nodupB σ&&EO m σ)=true) (h2:jF s.h σ σ s'.h) (h3:Ij s.t σ s'.t):Sv m s s':=by
 rw[Bool.and_eq_true] at h1
 exact⟨σ,.mk' h1.1 h2,RN h1.2,RM h3⟩
theorem bE {P:Program} {Q:Exit->S->Prop} {α:Type} {m:Nat} {s:S} {body:S->T} {c:Exit->S->T} (st:α->S) (J:α->Prop) (μ:α->Nat) (a0:α) (h0:J a0) (hv:Sv m s (st a0))
 (hb:∀a,J a->(body (st a)).ok P fun e s'=>match e with
   |.normal=>∃a',Sv m s' (st a')/\J a'/\μ a'<μ a
   |e=>(c e s').ok P Q):(T.loop m s body c).ok P Q:=by
 classical
 have hex:∀s,(∃a,s=st a/\J a)->∃n,∃a,s=st a/\J a/\μ a=n:=fun s ⟨a,h1,h2⟩=>⟨_,a,h1,h2,rfl⟩
 let μ':S->Nat:=fun s=>if hh:∃a,s=st a/\J a then Classical.choose (least (hex s hh)) else 0
 have At:∀s (hh:∃a,s=st a/\J a),μ' s=Classical.choose (least (hex s hh)):=fun s hh=>by simp only[μ',dif_pos hh]
 have hle:∀a,J a->μ' (st a)<=μ a:=fun a h2=>by
  have hh:∃b,st a=st b/\J b:=⟨a,rfl,h2⟩
  rw[At _ hh]
  exact(Classical.choose_spec (least (hex _ hh))).2 _ ⟨a,rfl,h2,rfl⟩
 have ug:∀s,(∃a,s=st a/\J a)->∃a,s=st a/\J a/\μ a=μ' s:=fun s hh=>by
  rw[At s hh]
  exact(Classical.choose_spec (least (hex s hh))).1
 refine⟨fun s=>∃a,s=st a/\J a,μ',⟨st a0,hv,a0,rfl,h0⟩,fun s0 hs=>?_⟩
 obtain⟨a,rfl,hJ,hμ⟩:=ug s0 hs
 refine T.ace (fun e s' he=>?_) (hb a hJ)
 cases e with
 |normal=>
  obtain⟨a',k1,k2,k3⟩:=he
  exact⟨st a',k1,⟨a',rfl,k2⟩,by have:=hle a' k2;omega⟩
 |_=>exact he
theorem aZ {P:Program} {Q:Exit->S->Prop} {α:Type} {m n:Nat} {s':S} {c:Exit->S->T} {st:α->S} {J:α->Prop} {μ:α->Nat} (a':α) (hv:Sv m s' (st a')) (hJ:J a') (hμ:μ a'<n):(T.leaf .normal s').ok P (fun e s'=>match e with
 |.normal=>∃a',Sv m s' (st a')/\J a'/\μ a'<n
 |e=>(c e s').ok P Q):=⟨a',hv,hJ,hμ⟩
theorem bq {P:Program} {Q:Exit->S->Prop} {α:Type} {m n:Nat} {s':S} {c:Exit->S->T} {st:α->S} {J:α->Prop} {μ:α->Nat} {id:Nat} (h:(c (.exit id) s').ok P Q):(T.leaf (.exit id) s').ok P (fun e s'=>match e with
 |.normal=>∃a',Sv m s' (st a')/\J a'/\μ a'<n
 |e=>(c e s').ok P Q):=h
theorem eG {P:Program} {Q:Exit->S->Prop} {α:Type} {m n:Nat} {s':S} {c:Exit->S->T} {st:α->S} {J:α->Prop} {μ:α->Nat} (h:(c .ret s').ok P Q):(T.leaf .ret s').ok P (fun e s'=>match e with
 |.normal=>∃a',Sv m s' (st a')/\J a'/\μ a'<n
 |e=>(c e s').ok P Q):=h
def tg:Nat->List AO->List Nat->List AO->Prop
 |_,[],_,_=>True
 |i,.cells _ _::r,σ,h'=>(ln σ i=some i/\qh (lh h' i)=true)/\tg (i+1) r σ h'
 |i,_::r,σ,h'=>tg (i+1) r σ h'
theorem Bv {σ:List Nat} {h':List AO}:∀{h:List AO} {k:Nat},tg k h σ h'->∀(o:Nat) t cs,h[o]?=some (.cells t cs)->σ[k+o]?=some (k+o)/\∃t' fU,h'[k+o]?=some (.cells t' fU)
 |[],k,_,o,t,cs,h1=>by simp at h1
 |a::r,k,hk,o,t,cs,h1=>by
  have hr:tg (k+1) r σ h':=by cases a<;>first|exact hk.2|exact hk
  cases o with
  |zero=>
   simp at h1
   subst h1
   obtain⟨⟨k1,k2⟩,_⟩:=hk
   rw[vW] at k1
   exact⟨k1,GD k2⟩
  |succ o=>
   simp at h1
   have:=Bv hr o t cs h1
   rw[show k+(o+1)=k+1+o from by omega]
   exact this
section
variable {P:Program}
theorem mL {tb:TT} {rs:List ResultVar} {e:Exit} {s:S} {h:List AO} {r:D} {h':List AO} {ds:List D} (σ:List Nat) (he:e=.normal\/e=.ret) (hr:iD tb s rs=some ds) (hn:nodupB σ=true) (hv:jF s.h σ σ h') (hk:tg 0 h σ h') (iw:Co (lI ds) (r.bO σ)):
 (T.leaf e s).ok P (Lf tb rs h (fun r' M8=>r'=r/\M8=h')):=
 ⟨he,[],ds,by rw[zQ];exact hr,σ,r,_,h',by rw[zQ];exact .mk' hn hv,iw,rfl,fun o t cs h1=>by have:=Bv hk o t cs h1;simpa using this,rfl,rfl⟩
theorem abw {tb:TT} {rs:List ResultVar} {e:Exit} {s:S} {h:List AO} {r:D} {h':List AO} {ds:List D} (fz σ:List Nat) (he:e=.normal\/e=.ret) (hr:iD tb (s.dj fz) rs=some ds) (hn:nodupB σ=true) (hv:jF (s.dj fz).h σ σ h') (hk:tg 0 h σ h') (iw:Co (lI ds) (r.bO σ)):
 (T.leaf e s).ok P (Lf tb rs h (fun r' M8=>r'=r/\M8=h')):=
 ⟨he,fz,ds,hr,σ,r,_,h',.mk' hn hv,iw,rfl,fun o t cs h1=>by have:=Bv hk o t cs h1;simpa using this,rfl,rfl⟩
end
theorem Co.of_eq {d e:D} (h:d=e):Co d e:=by subst h;exact .refl _
section
variable {P:Program} {Q:Exit->S->Prop}
def M9 (d e:D):D:=match d with
 |.nils=>match e with
  |.list n []=>.list n []
  |.nils=>.nils
  |_=>.any
 |d=>d
def CM:List D->List D->List D
 |[],_=>[]
 |d::ds,e::es=>M9 d e::CM ds es
 |d::ds,[]=>d::ds
theorem adK {d e:D} (h:M9 d e=e):Co d e:=by
 unfold M9 at h
 split at h
 ·split at h
  ·exact .nil _
  ·exact .refl _
  ·subst h;exact .any _
 ·subst h;exact .refl _
theorem aa.z:∀{ds es:List D},CM ds es=es->ds.length=es.length->aa ds es
 |[],[],_,_=>aa.nil
 |d::ds,e::es,h,hl=>by
  simp only[CM,List.cons.injEq] at h
  exact aa.cons (adK h.1) (aa.z h.2 (by simpa using hl))
 |[],_::_,_,hl=>by simp at hl
 |_::_,[],_,hl=>by simp at hl
theorem Co.z {ds es:List D} (h1:CM ds es=es:=by exact rfl) (h2:ds.length=es.length:=by exact rfl):Co (.agg ds) (.agg es):=aa.eU (.z h1 h2)
theorem Co.y {ds es:List D} {d:D} (h1:CM ds es=es:=by exact rfl) (h2:ds.length=es.length:=by exact rfl):Co (.aj [.agg ds,d]) (.aj [.agg es,d]):=aa.oO (.cons (aa.eU (.z h1 h2)) (.cons (.refl _) .nil))
theorem okF {f:FuncId} {ar:List D} {h:List AO} {c:D->List AO->T} {r:D} (hF:aq P f ar r) (k:(c r h).ok P Q) (hp:ga.pl ar=true:=by exact rfl):(T.call f ar h c).ok P Q:=iQ hF hp (aa.refl _) k
theorem iU {f:FuncId} {ar bR:List D} {h:List AO} {c:D->List AO->T} {r:D} (hF:aq P f ar r) (hc:aa bR ar) (k:(c r h).ok P Q) (hp:ga.pl ar=true:=by exact rfl):(T.call f bR h c).ok P Q:=iQ hF hp hc k
theorem j5 {tb:TT} {rs:List ResultVar} {s:S} {r:D} {ds:List D} (hr:iD tb s rs=some ds) (iw:Co (lI ds) r) (hp:ga r=true:=by exact rfl):(T.leaf .ret s).ok P (Lf tb rs [] (fun r' h'=>r'=r/\h'=[])):=qB (.inr rfl) hr iw hp
theorem cg {tb:TT} {rs:List ResultVar} {s:S} {r:D} {ds:List D} (hr:iD tb s rs=some ds:=by exact rfl) (hv:lI ds=r:=by exact rfl) (hp:ga r=true:=by exact rfl):(T.leaf .ret s).ok P (Lf tb rs [] (fun r' h'=>r'=r/\h'=[])):=by
 subst hv
 exact qB (.inr rfl) hr (.refl _) hp
theorem G5 {tb:TT} {rs:List ResultVar} {s:S} {us es:List D} {d:D} (hr:iD tb s rs=some [.agg us,d]:=by exact rfl) (h1:CM us es=es:=by exact rfl) (h2:us.length=es.length:=by exact rfl) (hp:ga (.aj [.agg es,d])=true:=by exact rfl):(T.leaf .ret s).ok P (Lf tb rs [] (fun r' h'=>r'=.aj [.agg es,d]/\h'=[])):=qB (.inr rfl) hr (Co.y h1 h2) hp
theorem cF {tb:TT} {rs:List ResultVar} {s:S} {k:IntKind} {n m:Int} (h:n=m) (hr:iD tb s rs=some [.int k n]:=by exact rfl):(T.leaf .ret s).ok P (Lf tb rs [] (fun r' h'=>r'=.int k m/\h'=[])):=adJ (.inr rfl) hr h
theorem cL {tb:TT} {rs:List ResultVar} {s:S} {n m:Bool} (h:n=m) (hr:iD tb s rs=some [.bool n]:=by exact rfl):(T.leaf .ret s).ok P (Lf tb rs [] (fun r' h'=>r'=.bool m/\h'=[])):=acu (.inr rfl) hr h
theorem aY {p:Prop} {t:T} (k:t.ok P Q) (h:p:=by kernel_rfl):(T.ask p t).ok P Q:=⟨h,k⟩
end
def xO (h:List AO):List Nat->List (Bool×AO)
 |[]=>[]
 |o::r=>(Nat.blt o h.length,lh h o)::xO h r
def xP (σ:List Nat):List AO->List (Bool×AO)
 |[]=>[]
 |a::l=>(true,a.bO σ)::xP σ l
theorem Dz {h:List AO} {σ:List Nat}:∀{r:List Nat} {l:List AO},xO h r=xP σ l->jF h σ r l
 |[],[],_=>trivial
 |o::r,a::l,e=>by
  simp only[xO,xP,List.cons.injEq,Prod.mk.injEq] at e
  exact⟨⟨e.1.1,e.1.2⟩,Dz e.2⟩
 |[],_::_,e=>by simp[xO,xP] at e
 |_::_,[],e=>by simp[xO,xP] at e
def Ik (t:List (Nat×D)):List (Nat×D)->List D
 |[]=>[]
 |(j,_)::r=>lk t j::Ik t r
def Il (σ:List Nat):List (Nat×D)->List D
 |[]=>[]
 |(_,d)::r=>d.bO σ::Il σ r
theorem RO {t:List (Nat×D)} {σ:List Nat}:∀{l:List (Nat×D)},Ik t l=Il σ l->Ij t σ l
 |[],_=>trivial
 |(j,d)::r,e=>by
  simp only[Ik,Il,List.cons.injEq] at e
  exact⟨e.1,RO e.2⟩
theorem Sv.aK {m:Nat} {s s':S} (σ:List Nat) (h1:(nodupB σ&&EO m σ)=true:=by exact rfl) (h2:xO s.h σ=xP σ s'.h:=by exact rfl) (h3:Ik s.t s'.t=Il σ s'.t:=by exact rfl):Sv m s s':=.mk' σ h1 (Dz h2) (RO h3)
theorem cV {P:Program} {Q:Exit->S->Prop} {f:FuncId} {ar bR:List D} {hs hb:List AO} {c:D->List AO->T} {r:D} {kD:List AO} (σ:List Nat) (hF:bC P f ar hs (fun r' h'=>r'=r/\h'=kD)) (k:(c (r.bO (mz hb σ hs kD)) (lK hb σ hs kD)).ok P Q) (hn:nodupB σ=true:=by exact rfl) (hv:xO hb σ=xP σ hs:=by exact rfl) (hc:aa bR (D.bO.rl σ ar):=by exact aa.refl _) (hM:(σ.all fun o=>(jT hb bR).elem o)=true:=by exact rfl):(T.call f bR hb c).ok P Q:=mA σ hF (.mk' hn (Dz hv)) hc hM k
end
end Go.Proofs.YtafomdobfmmleaaGreatDoor
