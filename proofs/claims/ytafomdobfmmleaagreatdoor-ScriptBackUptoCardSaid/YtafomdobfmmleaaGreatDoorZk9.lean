/- Lemmas and contracts, part 9. -/
import Derived.Test.YtafomdobfmmleaaGreatDoorZk8
import Derived.Test.YtafomdobfmmleaaGreatDoorRows
import Derived.Deep.RegionLaw
import Derived.Deep.Slices
import Derived.Deep.Fields
import Derived.ChangeSame
import Derived.SizedLaws
import Derived.JoinedCond
/- Lemmas and contracts. -/
namespace Go.Proofs.YtafomdobfmmleaaGreatDoor
open Go.ChangeShapes Go.WideShapes Go.ChangeAt Go.RowKit Go.Deep
set_option linter.unusedVariables false
theorem Df:(Tryz.prog.info? 5).map (fun i=>(i.zero,i.size,i.bytes))=some (some (.int .u8 0),1,1):=by kernel_rfl
def xg (w:World) (bs:List UInt8) (e:Ending) (w':World):Prop:=∃v',e=.returned v'/\w'.ownsRow w.heap.size 5 1 v' bs.length (dA bs)/\B w w'
set_option maxHeartbeats 400000 in
theorem uf {w:World} {v:Value} {bs:List UInt8} (h:Bs w v bs):Calls Tryz.prog 153 #[v] w (xg w bs):=by
 rcases h.isNil with⟨rfl,rfl⟩|⟨ad,cap,rfl⟩
 ·have q:∀w,(binOp .eql 26 (.slice none 0 0) (.slice none 0 0)).run Tryz.prog w=.ok (.bool true) w:=fun w=>by kernel_rfl
  have E:=Lib.hid (show xg w [] (.returned (.slice none 0 0)) w from⟨_,rfl,CV w _ _ _,Below.refl _ _⟩)
  clear h
  go_enter Tryz.func153,Tryz.ntmps153
  go_wp2
  go_ret
  exact E.out
 ·have q:∀w,(binOp .eql 26 (.slice (some ad) bs.length cap) (.slice none 0 0)).run Tryz.prog w=.ok (.bool false) w:=fun w=>by kernel_rfl
  have hb:B w (w.alloc (.cells #[] 5)):=B.jV _ _
  have ho:(w.alloc (.cells #[] 5)).ownsRow w.heap.size 5 1 (.slice (some ⟨w.heap.size,0,none⟩) 0 0) ([]:List UInt8).length (dA []):=⟨rfl,.inr ⟨_,0,#[],rfl,Nat.le_refl _,heap_alloc_new w _,Nat.le_refl _,by unfold maxLen;omega,rfl,rfl⟩⟩
  obtain⟨v',w',iA,h2,h3,h4⟩:=Kk (P:=Tryz.prog) (t:=26) (ty:=47) Tryz.underlying26 Df ho (h.later hb) (by have:=h.len;simpa using this) (by simp)
  have E:=Lib.hid (show xg w bs (.returned v') w' from⟨_,rfl,h2,hb.grown h3 (fun k hk=>by simp[Value.ownBlock] at hk;omega)⟩)
  clear h ho h2 h3 h4 hb
  go_enter Tryz.func153,Tryz.ntmps153
  go_wp2_with (at_builtin;refine Ec rfl (.tmp 5) (.tmp 6) 26 rfl rfl rfl iA ?_)
  go_ret
  exact E.out
def Fresh (w:World) (bs:List UInt8) (e:Ending) (w':World):Prop:=∃v',e=.returned v'/\w'.ownsRow w.heap.size 5 1 v' bs.length (dA bs)/\B w w'
section
variable {P:Program} {W w:World} {ops:Array Oper} {rest:List Oper} {o:Oper} {a:Act} {Q:Exit->Act->World->Prop} {L:List dG}
end
section
variable {P:Program} {W w:World} {ops:Array Oper} {rest:List Oper} {o:Oper} {a:Act} {Q:Exit->Act->World->Prop} {L:List dG}
end
section
variable {P:Program} {W w:World} {ops:Array Oper} {rest:List Oper} {o:Oper} {a:Act} {Q:Exit->Act->World->Prop} {L:List dG}
theorem St.WX (h:St W w L) {w':World} (hb:B w w') {v:Value} {e:TypeId} {sz n:Nat} {xs:List Value} (hr:w'.ownsRow w.heap.size e sz v n xs):St W w' (AL e sz v n xs::L):=
 h.add hb (A:=AL e sz v n xs) (own:=fun x=>w.heap.size<=x) ⟨K2 hr (Nat.zero_le _),fun g hg=>F5 hr hg⟩ (fun x e=>e)
end
theorem St.XR {W w:World} {X:List dG} {v:Value} {x:List UInt8} {n:Nat} (h:St W w (AL 5 1 v n (dA x)::X)) (hn:n=x.length) (hl:x.length<=bz):Bs w v x:=by
 subst hn
 obtain⟨own,hr,_⟩:=h.get
 exact Bs.MT hr.1 hl
def rV (v:Value) (bs:List UInt8):dG:=AL 5 1 v bs.length (dA bs)
theorem rV.nil {W w:World} {L:List dG} (h:St W w L):St W w (rV (.slice none 0 0) []::L):=
 h.add (Below.refl _ _) (A:=rV (.slice none 0 0) []) (own:=fun _=>False) ⟨CV _ _ _ _,fun g hg=>by simp[Value.ownBlock] at hg⟩ (fun x e=>e.elim)
section
variable {W w:World} {L:List dG} {v:Value} {bs:List UInt8}
theorem St.fresh {P:Program} {f:FuncId} {args:Array Value} (h:St W w L) (hc:Calls P f args w (Fresh w bs)):Calls P f args w fun e w'=>∃v,e=.returned v/\St W w' (rV v bs::L):=
 hc.mono fun e w' ⟨v,he,hr,hb⟩=>⟨v,he,h.WX hb hr⟩
end
section
variable {W w:World} {L:List dG} {v:Value} {bs:List UInt8}
theorem St.kG (h:St W w (rV v bs::L)) (hl:bs.length<=bz):Bs w v bs:=h.XR rfl hl
end
section
variable {W w:World} {L:List dG} {v:Value} {bs:List UInt8}
end
section
variable {W w:World} {L:List dG} {v:Value} {bs:List UInt8}
end
section
variable {W w:World} {L:List dG}
end
section
variable {W w:World} {L:List dG}
end
section
variable {P:Program} {W w:World} {ops:Array Oper} {rest:List Oper} {o:Oper} {a:Act} {K:Act->World->Prop} {Q:Exit->Act->World->Prop} {E:Prop} {L:List dG}
end
theorem VO (g o j:Nat):(⟨g,o,none⟩:Addr).add j=⟨g,o+j,none⟩:=by unfold Addr.add;split<;>simp_all
end Go.Proofs.YtafomdobfmmleaaGreatDoor

/- Lemmas and contracts. -/
namespace Go.Proofs.YtafomdobfmmleaaGreatDoor
open Go.ChangeShapes Go.WideShapes Go.ChangeAt Go.RowKit Go.Deep
set_option linter.unusedVariables false
theorem Jy {α:Type} {P:Nat->α->Prop} (n:Nat) (h:∀i,i<n->∃x,P i x):∃L:List α,L.length=n/\∀i x,L[i]?=some x->P i x:=by
 induction n with
 |zero=>exact⟨[],rfl,fun i x hx=>by simp at hx⟩
 |succ n ih=>
  obtain⟨L,hl,hL⟩:=ih (fun i hi=>h i (by omega))
  obtain⟨x,hx⟩:=h n (by omega)
  refine⟨L++[x],by simp[hl],fun i y hy=>?_⟩
  by_cases hi:i<L.length
  ·rw[List.getElem?_append_left hi] at hy;exact hL i y hy
  ·rw[List.getElem?_append_right (by omega)] at hy
   have:i-L.length=0:=by
    rcases Nat.eq_zero_or_pos (i-L.length) with e|e
    ·exact e
    ·rw[List.getElem?_eq_none (by simp;omega)] at hy;cases hy
   rw[this] at hy
   simp at hy
   subst hy
   have:i=n:=by omega
   rw[this];exact hx
theorem addr_add (b off k:Nat):(⟨b,off,none⟩:Addr).add k=⟨b,off+k,none⟩:=by unfold Addr.add;split<;>simp_all
theorem SU {w:World} {a:Addr} {v:Value} (h:w.cell? a=some v):a=⟨a.block,a.off,none⟩:=by
 unfold World.cell? at h
 split at h
 ·split at h
  ·cases h
  ·rename_i hs
   cases a with
   |mk b o s=>cases s with
    |none=>rfl
    |some x=>simp at hs
 ·cases h
theorem Lu {H:Type} (d:DataW H):1<=Rows.uptoBulk d:=by
 cases d with
 |lit l=>cases l<;>simp[Rows.uptoBulk]
 |nil=>simp[Rows.uptoBulk]
 |ptr d=>simp[Rows.uptoBulk]
 |slice elems spare=>simp[Rows.uptoBulk]
 |agg parts=>simp[Rows.uptoBulk]
 |iface t d=>simp[Rows.uptoBulk]
 |map entries=>simp[Rows.uptoBulk]
 |held h=>simp[Rows.uptoBulk]
theorem Lj {H:Type} (l:List (DataW H)):l.length<=Rows.uptoBulkAll l:=by
 induction l with
 |nil=>simp[Rows.uptoBulkAll]
 |cons x r ih=>have:=Lu x;simp only[Rows.uptoBulkAll,List.length_cons];omega
theorem Ll {H α:Type} (f:α->Nat):∀(L:List α) (E:List (DataW H)),L.length=E.length->(∀(i:Nat) (x:α) (d:DataW H),L[i]?=some x->E[i]?=some d->f x<=Rows.uptoBulk d)->(L.map f).sum<=Rows.uptoBulkAll E
 |[],[],_,_=>by simp
 |[],_::_,h,_=>by simp at h
 |_::_,[],h,_=>by simp at h
 |x::L,d::E,h,hf=>by
  have h0:=hf 0 x d rfl rfl
  have:=Ll f L E (by simpa using h) (fun i y c h1 h2=>hf (i+1) y c (by simpa using h1) (by simpa using h2))
  simp only[List.map_cons,List.sum_cons,Rows.uptoBulkAll]
  omega
section
variable {H:Type} {enc:TypeId×Value->H} {P:Program} {w:World} {base:Nat} {held:Bool} {spare:Nat->Bool}
theorem RZ {fuel:Nat} {t e:TypeId} {c:Value} {x:DataW H×List MemPlace} (ht:P.underlying t=some (.slice e)) (he:P.underlying e=some (.int .u8)) (hC:P.cellsOf e=1)
 (h:DataW.trod enc P w base spare held fuel t [c]=some x) (pW:∀len cap a,c=.slice a len cap->len<=bz):∃bs,Bs w c bs:=by
 rcases open_slice ht h with⟨h2,h3⟩|⟨a,len,cap,m,n,D,Pl,lO,hb,hl,hm,DS,hx,hi⟩
 ·simp at h2
  subst h2
  exact⟨[],Bs.nil w⟩
 ·simp at lO
  subst lO
  have H7:len<=m:=by rw[DS];split<;>omega
  obtain⟨bs,tj,qT⟩:=Jy (P:=fun i (b:UInt8)=>w.cell? (a.add i)=some (.int .u8 (b.toNat:Int))) len (fun i y4=>by
   obtain⟨fB,hc,H8⟩:=hi i (by omega)
   rw[hC] at hc
   obtain⟨_,fy,yH⟩:=World.cells?_some hc
   obtain⟨k,rfl,_,hw⟩:=DataW.trod_int he H8
   have hk:0<=k/\k<=255:=by simpa[Lit.wf,IntKind.min,IntKind.max,IntKind.signed,IntKind.bits] using hw
   refine⟨UInt8.ofNat k.toNat,?_⟩
   have:=yH 0 (by omega)
   have e1:((UInt8.ofNat k.toNat).toNat:Int)=k:=by
    rw[UInt8.toNat_ofNat'];omega
   rw[e1]
   simpa[Addr.add] using this)
  refine⟨bs,⟨⟨some a,cap,by rw[tj],fun e=>(by cases e),by omega,hm,fun ad iP=>?_⟩,by rw[tj];exact pW len cap (some a) rfl⟩⟩
  cases iP
  have s8:∀j u,(dA bs)[j]?=some u->w.cell? (a.add j)=some u:=fun j u hu=>by
   have hj:j<bs.length:=by
    rcases Nat.lt_or_ge j bs.length with h|h
    ·exact h
    ·rw[List.getElem?_eq_none (by rw[om];exact h)] at hu;cases hu
   rw[qi bs j hj] at hu
   rw[<-hu]
   exact qT j _ (List.getElem?_eq_getElem hj)
  refine⟨fun bS=>?_,s8⟩
  have h0:0<bs.length:=List.length_pos_iff.2 bS
  have:=World.block_lt_of_cell? w _ (s8 0 _ (qi bs 0 h0))
  rwa [Jp] at this
theorem Wi {fuel:Nat} {t e:TypeId} {c:Value} {x:DataW H×List MemPlace} (ht:P.underlying t=some (.slice e)) (he:P.underlying e=some (.int .u8)) (hC:P.cellsOf e=1)
 (h:DataW.trod enc P w base spare held fuel t [c]=some x) (hB:Rows.uptoBulk x.1<=1048576):∃bs,Bs w c bs/\bs.length+1<=Rows.uptoBulk x.1:=by
 have hlen:∀len cap a,c=.slice a len cap->len+1<=Rows.uptoBulk x.1:=by
  intro len cap a hc
  subst hc
  rcases open_slice ht h with⟨h2,h3⟩|⟨a,len,cap,m,n,D,Pl,lO,hb,hl,hm,DS,rfl,hi⟩
  ·simp at h2;have:=Lu x.1;omega
  ·simp at lO
   obtain⟨_,rfl,_⟩:=lO
   have h1:=Lj ((List.range len).map D)
   rw[List.length_map,List.length_range] at h1
   simp only[Rows.uptoBulk]
   omega
 obtain⟨bs,hb⟩:=RZ ht he hC h (fun len cap a hc=>by have:=hlen len cap a hc;unfold bz;omega)
 obtain⟨⟨A,abH,hv,_⟩,_⟩:=id hb
 exact⟨bs,hb,hlen _ _ _ hv⟩
theorem Uq {l:List (DataW H)} {y:DataW H} (hy:y∈l):Rows.uptoBulk y<=Rows.uptoBulkAll l:=by
 induction l with
 |nil=>cases hy
 |cons z r ih=>
  simp only[Rows.uptoBulkAll]
  rcases List.mem_cons.1 hy with e|e
  ·subst e;omega
  ·have:=ih e;omega
theorem S4 {l:List (DataW H)} (hk:Rows.uptoSmall H l=true):Rows.uptoBulkAll l<=1048576:=of_decide_eq_true hk
end
end Go.Proofs.YtafomdobfmmleaaGreatDoor

/- Lemmas and contracts. -/
namespace Go.Proofs.YtafomdobfmmleaaGreatDoor
open Go.ChangeShapes Go.WideShapes Go.ChangeAt Go.RowKit Go.Deep
set_option linter.unusedVariables false
structure Ty (α:Type) where
 n:Nat
 rd:(Nat->Prop)->World->List Value->α->Prop
 sz:α->Nat
 len:∀{ay:Nat->Prop} {w:World} {cs:List Value} {a:α},rd ay w cs a->cs.length=n
 ext:∀{ay own:Nat->Prop} {w w':World} {cs:List Value} {a:α},rd ay w cs a->Ext own w w'->(∀g,ay g->¬own g)->rd ay w' cs a
 mono:∀{ay qB:Nat->Prop} {w:World} {cs:List Value} {a:α},rd ay w cs a->(∀g,ay g->qB g)->rd qB w cs a
 bound:∀{ay:Nat->Prop} {w:World} {cs:List Value} {a:α},rd ay w cs a->rd (fun g=>ay g/\g<w.heap.size) w cs a
theorem Ty.later {α:Type} (T:Ty α) {ay:Nat->Prop} {w w':World} {cs:List Value} {a:α} (h:T.rd ay w cs a) (hb:B w w'):T.rd ay w' cs a:=
 T.ext h (Ext.of_B (own:=fun _=>False) hb) (fun _ _=>id)
def tI:Ty Int where
 n:=1
 rd _ _ cs a:=cs=[.int .i64 a]/\-9223372036854775808<=a/\a<=9223372036854775807
 sz _:=1
 len h:=by rw[h.1];rfl
 ext h _ _:=h
 mono h _:=h
 bound h:=h
def tW:Ty Int where
 n:=1
 rd _ _ cs a:=cs=[.int .u16 a]/\0<=a/\a<=65535
 sz _:=1
 len h:=by rw[h.1];rfl
 ext h _ _:=h
 mono h _:=h
 bound h:=h
def tB:Ty Bool where
 n:=1
 rd _ _ cs a:=cs=[.bool a]
 sz _:=1
 len h:=by rw[h];rfl
 ext h _ _:=h
 mono h _:=h
 bound h:=h
def tS:Ty (List UInt8) where
 n:=1
 rd _ _ cs a:=cs=[.string (au a)]/\a.length<=4194304
 sz a:=a.length+1
 len h:=by rw[h.1];rfl
 ext h _ _:=h
 mono h _:=h
 bound h:=h
def tY:Ty (List UInt8) where
 n:=1
 rd ay w cs a:=∃v,cs=[v]/\Bs w v a/\(∀g,v.ownBlock=some g->a≠[]->ay g)/\a.length<=4194304
 sz a:=a.length+1
 len h:=by obtain⟨v,rfl,_⟩:=h;rfl
 ext h hx hd:=by obtain⟨v,rfl,h1,h2,h3⟩:=h;exact⟨v,rfl,h1.ext hx (fun g hg bS=>hd g (h2 g hg bS)),h2,h3⟩
 mono h hs:=by obtain⟨v,rfl,h1,h2,h3⟩:=h;exact⟨v,rfl,h1,fun g hg bS=>hs g (h2 g hg bS),h3⟩
 bound h:=by obtain⟨v,rfl,h1,h2,h3⟩:=h;exact⟨v,rfl,h1,fun g hg bS=>⟨h2 g hg bS,h1.lt bS hg⟩,h3⟩
def tP {α β:Type} (T:Ty α) (U:Ty β):Ty (α×β) where
 n:=T.n+U.n
 rd ay w cs p:=∃c d,cs=c++d/\T.rd ay w c p.1/\U.rd ay w d p.2
 sz p:=T.sz p.1+U.sz p.2
 len h:=by obtain⟨c,d,rfl,h1,h2⟩:=h;rw[List.length_append,T.len h1,U.len h2]
 ext h hx hd:=by obtain⟨c,d,rfl,h1,h2⟩:=h;exact⟨c,d,rfl,T.ext h1 hx hd,U.ext h2 hx hd⟩
 mono h hs:=by obtain⟨c,d,rfl,h1,h2⟩:=h;exact⟨c,d,rfl,T.mono h1 hs,U.mono h2 hs⟩
 bound h:=by obtain⟨c,d,rfl,h1,h2⟩:=h;exact⟨c,d,rfl,T.bound h1,U.bound h2⟩
def tM {α β:Type} (T:Ty α) (f:β->α):Ty β where
 n:=T.n
 rd ay w cs b:=T.rd ay w cs (f b)
 sz b:=T.sz (f b)+1
 len h:=T.len h
 ext h hx hd:=T.ext h hx hd
 mono h hs:=T.mono h hs
 bound h:=T.bound h
def YY {α:Type} (T:Ty α) (ay:Nat->Prop) (w:World) (b off:Nat) (xs:List α):Prop:=
 ∀i x,xs[i]?=some x->∃cs,T.rd ay w cs x/\∀j v,cs[j]?=some v->w.cell? ⟨b,off+i*T.n+j,none⟩=some v
def tL {α:Type} (T:Ty α):Ty (List α) where
 n:=1
 rd ay w cs xs:=∃A cap,cs=[.slice A xs.length cap]/\xs.length<=cap/\cap<=maxLen/\(A=none->xs.length=0/\cap=0)/\xs.length<=4194304/\
  (0<xs.length->∃b off,A=some ⟨b,off,none⟩/\b<w.heap.size/\ay b/\YY T ay w b off xs)
 sz xs:=(xs.map T.sz).sum+1
 len h:=by obtain⟨A,cap,rfl,_⟩:=h;rfl
 ext h hx hd:=by
  obtain⟨A,cap,rfl,h1,h2,h3,h4,h5⟩:=h
  refine⟨A,cap,rfl,h1,h2,h3,h4,fun h0=>?_⟩
  obtain⟨b,off,rfl,hb,hi,rZ⟩:=h5 h0
  refine⟨b,off,rfl,Nat.lt_of_lt_of_le hb hx.size,hi,fun i x qb=>?_⟩
  obtain⟨cs,k1,k2⟩:=rZ i x qb
  exact⟨cs,T.ext k1 hx hd,fun j v hj=>hx.cell (hd b hi) (k2 j v hj)⟩
 mono h hs:=by
  obtain⟨A,cap,rfl,h1,h2,h3,h4,h5⟩:=h
  refine⟨A,cap,rfl,h1,h2,h3,h4,fun h0=>?_⟩
  obtain⟨b,off,rfl,hb,hi,rZ⟩:=h5 h0
  refine⟨b,off,rfl,hb,hs b hi,fun i x qb=>?_⟩
  obtain⟨cs,k1,k2⟩:=rZ i x qb
  exact⟨cs,T.mono k1 hs,k2⟩
 bound h:=by
  obtain⟨A,cap,rfl,h1,h2,h3,h4,h5⟩:=h
  refine⟨A,cap,rfl,h1,h2,h3,h4,fun h0=>?_⟩
  obtain⟨b,off,rfl,hb,hi,rZ⟩:=h5 h0
  refine⟨b,off,rfl,hb,⟨hi,hb⟩,fun i x qb=>?_⟩
  obtain⟨cs,k1,k2⟩:=rZ i x qb
  exact⟨cs,T.bound k1,k2⟩
theorem tL.at {α:Type} {T:Ty α} {ay:Nat->Prop} {w:World} {A:Option Addr} {l cap:Nat} {xs:List α} (h:(tL T).rd ay w [.slice A l cap] xs) {i:Nat} {x:α} (hi:xs[i]?=some x):
 l=xs.length/\∃b off cs,A=some ⟨b,off,none⟩/\T.rd ay w cs x/\∀j v,cs[j]?=some v->w.cell? ⟨b,off+i*T.n+j,none⟩=some v:=by
 obtain⟨A',Dy,he,h1,h2,h3,h4,h5⟩:=h
 injection he with he _
 injection he with e1 e2 e3
 subst e1 e2 e3
 have hl:i<xs.length:=by
  rcases Nat.lt_or_ge i xs.length with h'|h'
  ·exact h'
  ·rw[List.getElem?_eq_none h'] at hi;cases hi
 obtain⟨b,off,rfl,hb,tv,rZ⟩:=h5 (by omega)
 obtain⟨cs,k1,k2⟩:=rZ i x hi
 exact⟨rfl,b,off,cs,rfl,k1,k2⟩
theorem tL.slice {α:Type} {T:Ty α} {ay:Nat->Prop} {w:World} {cs:List Value} {xs:List α} (h:(tL T).rd ay w cs xs):∃A cap,cs=[.slice A xs.length cap]/\xs.length<=4194304:=by
 obtain⟨A,cap,rfl,_,_,_,h4,_⟩:=h
 exact⟨A,cap,rfl,h4⟩
def gX {α:Type} (P:Program) (t:TypeId) (T:Ty α):Prop:=
 P.cellsOf t=T.n/\∀{H:Type} {enc:TypeId×Value->H} {w:World} {base:Nat} {held:Bool} {spare:Nat->Bool} {fuel:Nat} {cs:List Value} {x:DataW H×List MemPlace},
   DataW.trod enc P w base spare held fuel t cs=some x->Rows.uptoBulk x.1<=1048576->∃a,T.rd (fun g=>g<w.heap.size) w cs a/\T.sz a<=Rows.uptoBulk x.1
section
variable {P:Program} {t e:TypeId}
theorem fj (ht:P.underlying t=some (.int .i64)) (hc:P.cellsOf t=1):gX P t tI:=by
 refine⟨hc,fun h hB=>?_⟩
 obtain⟨n,rfl,hx,hw⟩:=DataW.trod_int ht h
 rw[hx]
 exact⟨n,⟨rfl,by simpa[Lit.wf,IntKind.min,IntKind.max,IntKind.signed,IntKind.bits] using hw⟩,by simp[tI,Rows.uptoBulk]⟩
theorem M3 (ht:P.underlying t=some (.int .u16)) (hc:P.cellsOf t=1):gX P t tW:=by
 refine⟨hc,fun h hB=>?_⟩
 obtain⟨n,rfl,hx,hw⟩:=DataW.trod_int ht h
 rw[hx]
 exact⟨n,⟨rfl,by simpa[Lit.wf,IntKind.min,IntKind.max,IntKind.signed,IntKind.bits] using hw⟩,by simp[tW,Rows.uptoBulk]⟩
theorem Xb (ht:P.underlying t=some .bool) (hc:P.cellsOf t=1):gX P t tB:=by
 refine⟨hc,fun h hB=>?_⟩
 obtain⟨b,rfl,hx⟩:=DataW.trod_bool ht h
 rw[hx]
 exact⟨b,rfl,by simp[tB,Rows.uptoBulk]⟩
theorem xT (ht:P.underlying t=some .string) (hc:P.cellsOf t=1):gX P t tS:=by
 refine⟨hc,fun h hB=>?_⟩
 obtain⟨s,rfl,hx,_⟩:=DataW.trod_string ht h
 rw[hx] at hB ⊢
 simp only[Rows.uptoBulk] at hB ⊢
 refine⟨s.data.toList,⟨by cases s;rfl,by omega⟩,by simp[tS]⟩
theorem C3 (ht:P.underlying t=some (.slice e)) (he:P.underlying e=some (.int .u8)) (hC:P.cellsOf e=1) (hc:P.cellsOf t=1):gX P t tY:=by
 refine⟨hc,fun {H enc w base held spare fuel cs x} h hB=>?_⟩
 have lO:∃c,cs=[c]:=by
  rcases open_slice ht h with⟨rfl,_⟩|⟨a,len,cap,m,n,D,Pl,rfl,_⟩
  ·exact⟨_,rfl⟩
  ·exact⟨_,rfl⟩
 obtain⟨c,rfl⟩:=lO
 obtain⟨bs,hb,hl⟩:=Wi ht he hC h hB
 exact⟨bs,⟨c,rfl,hb,fun g hg bS=>hb.lt bS hg,by omega⟩,by simp only[tY];omega⟩
theorem pJ {α:Type} {T:Ty α} (ht:P.underlying t=some (.slice e)) (hT:gX P e T) (nU:0<T.n) (hc:P.cellsOf t=1):gX P t (tL T):=by
 refine⟨hc,fun {H enc w base held spare fuel cs x} h hB=>?_⟩
 rcases open_slice ht h with⟨rfl,hx⟩|⟨a,len,cap,m,n,D,Pl,rfl,hb,hl,hm,DS,hx,hi⟩
 ·rw[hx]
  exact⟨[],⟨none,0,rfl,Nat.le_refl _,by unfold maxLen;omega,fun _=>⟨rfl,rfl⟩,by simp,fun h0=>by simp at h0⟩,by simp[tL,Rows.uptoBulk]⟩
 ·have H7:len<=m:=by rw[DS];split<;>omega
  rw[hx] at hB ⊢
  simp only[Rows.uptoBulk] at hB ⊢
  have p9:∀i,i<len->Rows.uptoBulk (D i)<=Rows.uptoBulkAll ((List.range len).map D):=fun i y4=>Uq (List.mem_map.2 ⟨i,by simpa using y4,rfl⟩)
  obtain⟨L,Ov,hL⟩:=Jy (P:=fun i (x:α)=>(∃fB,T.rd (fun g=>g<w.heap.size) w fB x/\∀j v,fB[j]?=some v->w.cell? ((a.add (i*T.n)).add j)=some v)/\T.sz x<=Rows.uptoBulk (D i)) len (fun i y4=>by
   obtain⟨fB,DL,H8⟩:=hi i (by omega)
   obtain⟨y,hy,u7⟩:=hT.2 H8 (by have:=p9 i y4;show Rows.uptoBulk (D i)<=_;omega)
   obtain⟨_,fy,yH⟩:=World.cells?_some DL
   refine⟨y,⟨fB,hy,fun j v hj=>?_⟩,u7⟩
   have Bk:j<fB.length:=by
    rcases Nat.lt_or_ge j fB.length with h'|h'
    ·exact h'
    ·rw[List.getElem?_eq_none h'] at hj;cases hj
   rw[<-hj,<-hT.1]
   exact yH j (by omega))
  have XZ:=Lj ((List.range len).map D)
  rw[List.length_map,List.length_range] at XZ
  refine⟨L,⟨some a,cap,by rw[Ov],by omega,hm,fun h'=>(by cases h'),by omega,fun h0=>?_⟩,?_⟩
  ·obtain⟨⟨H9,y0,z0⟩,_⟩:=hL 0 _ (List.getElem?_eq_getElem h0)
   have hc0:=T.len y0
   have z1:=z0 0 _ (List.getElem?_eq_getElem (by omega))
   have za:a=⟨a.block,a.off,none⟩:=by
    have:=SU z1
    simp[Addr.add] at this
    exact this
   have GR:=World.block_lt_of_cell? w _ z1
   simp[Addr.add] at GR
   refine⟨a.block,a.off,by rw[<-za],GR,GR,fun i x qb=>?_⟩
   obtain⟨⟨fB,y,z⟩,_⟩:=hL i x qb
   refine⟨fB,y,fun j v hj=>?_⟩
   have:=z j v hj
   rw[za,addr_add,addr_add] at this
   exact this
  ·have:=Ll T.sz L ((List.range len).map D) (by simp[Ov]) (fun i x d jr hd=>by
    have y4:i<len:=by
     rcases Nat.lt_or_ge i L.length with h'|h'
     ·omega
     ·rw[List.getElem?_eq_none h'] at jr;cases jr
    rw[List.getElem?_map,List.getElem?_range y4] at hd
    cases hd
    exact(hL i x jr).2)
   simp only[tL]
   omega
def C4 {α:Type} (P:Program) (fs:List Field) (o:Nat) (T:Ty α):Prop:=
 ∀{H:Type} {enc:TypeId×Value->H} {w:World} {base:Nat} {held:Bool} {spare:Nat->Bool} {fuel:Nat} {cs:List Value} {xs:List (DataW H×List MemPlace)},
  xs.length=fs.length->(∀(i:Nat) (f:Field),fs[i]?=some f->DataW.trod enc P w base spare held fuel f.type ((cs.drop f.offset).take (P.cellsOf f.type))=xs[i]?)->Rows.uptoBulkAll (xs.map (·.1))<=1048576->
  ∃a,T.rd (fun g=>g<w.heap.size) w ((cs.drop o).take T.n) a/\T.sz a<=Rows.uptoBulkAll (xs.map (·.1))
theorem mI {α:Type} {f:Field} {T:Ty α} {o:Nat} (ho:f.offset=o) (hT:gX P f.type T):C4 P [f] o T:=by
 intro H enc w base held spare fuel cs xs hl hx hB
 obtain⟨y,rfl⟩:∃y,xs=[y]:=by
  cases xs with
  |nil=>simp at hl
  |cons y r=>cases r with
   |nil=>exact⟨y,rfl⟩
   |cons _ _=>simp at hl
 have h0:=hx 0 f rfl
 simp only[List.map_cons,List.map_nil,Rows.uptoBulkAll,Nat.add_zero] at hB ⊢
 rw[hT.1,ho] at h0
 exact hT.2 h0 hB
theorem cF {α β:Type} {f:Field} {fs:List Field} {T:Ty α} {U:Ty β} {o o':Nat} (ho:f.offset=o) (tw:o+T.n=o') (hT:gX P f.type T) (hU:C4 P fs o' U):C4 P (f::fs) o (tP T U):=by
 intro H enc w base held spare fuel cs xs hl hx hB
 cases xs with
 |nil=>simp at hl
 |cons y r=>
  simp only[List.map_cons,Rows.uptoBulkAll] at hB ⊢
  have h0:=hx 0 f rfl
  rw[hT.1,ho] at h0
  obtain⟨a,ha,hsa⟩:=hT.2 h0 (by show Rows.uptoBulk y.1<=_;omega)
  obtain⟨b,hb,hsb⟩:=hU (xs:=r) (by simpa using hl) (fun i g hg=>by have:=hx (i+1) g (by simpa using hg);simpa using this) (by omega)
  refine⟨(a,b),⟨_,_,?_,ha,hb⟩,by simp only[tP];omega⟩
  simp only[tP]
  rw[<-tw,<-List.drop_drop,<-List.take_add]
theorem mO {α β:Type} {fs:Array Field} {T:Ty α} {f:β->α} (g:α->β) (Ow:∀a,f (g a)=a) (ht:P.underlying t=some (.struct fs)) (hT:C4 P fs.toList 0 T) (hc:P.cellsOf t=T.n):gX P t (tM T f):=by
 refine⟨hc,fun {H enc w base held spare fuel cs x} h hB=>?_⟩
 obtain⟨xs,n,_,hx,fy,qM,hf⟩:=DataW.trod_struct ht h
 rw[hx] at hB ⊢
 simp only[Rows.uptoBulk] at hB ⊢
 obtain⟨a,ha,hs⟩:=hT (xs:=xs) (by simpa using qM) (fun i fl u9=>hf i fl (by simpa using u9)) (by omega)
 refine⟨g a,?_,by simp only[tM];rw[Ow];omega⟩
 show T.rd _ w cs (f (g a))
 rw[Ow]
 rw[List.drop_zero,List.take_of_length_le (by omega)] at ha
 exact ha
theorem gX.arg {α:Type} {T:Ty α} (hT:gX P t T) {H:Type} {enc:TypeId×Value->H} {w:World} {base:Nat} {held:Bool} {spare:Nat->Bool} {v:Value} {d:DataW H} {p:List MemPlace}
 (h:DataW.Trod enc P w base spare held t v d p) (hB:Rows.uptoBulk d<=1048576):∃a,T.rd (fun g=>g<w.heap.size) w v.cells.toList a/\T.sz a<=Rows.uptoBulk d:=by
 obtain⟨fuel,hf⟩:=h
 exact hT.2 hf hB
end
end Go.Proofs.YtafomdobfmmleaaGreatDoor

/- Lemmas and contracts. -/
namespace Go.Proofs.YtafomdobfmmleaaGreatDoor
open Go.RowKit
set_option linter.unusedSectionVars false
variable [Old]
set_option linter.unusedVariables false
structure Dt (α:Type) where
 c:α->List D
 n:Nat
 ok:α->Prop
 len:∀a,(c a).length=n
def dI:Dt Int:=⟨fun a=>[.int .i64 a],1,fun a=>-9223372036854775808<=a/\a<=9223372036854775807,fun _=>rfl⟩
def dW:Dt Int:=⟨fun a=>[.int .u16 a],1,fun a=>0<=a/\a<=65535,fun _=>rfl⟩
def dB:Dt Bool:=⟨fun a=>[.bool a],1,fun _=>True,fun _=>rfl⟩
def dS:Dt (List UInt8):=⟨fun a=>[.str a],1,fun a=>a.length<=4194304,fun _=>rfl⟩
def dY:Dt (List UInt8):=⟨fun a=>[.list 1 (a.map aE)],1,fun a=>a.length<=4194304,fun _=>rfl⟩
def dP {α β:Type} (A:Dt α) (B:Dt β):Dt (α×β):=⟨fun p=>A.c p.1++B.c p.2,A.n+B.n,fun p=>A.ok p.1/\B.ok p.2,fun p=>by rw[List.length_append,A.len,B.len]⟩
def dM {α β:Type} (A:Dt α) (f:β->α):Dt β:=⟨fun b=>A.c (f b),A.n,fun b=>A.ok (f b),fun b=>A.len _⟩
def dL {α:Type} (A:Dt α):Dt (List α):=⟨fun xs=>[.list A.n (xs.map A.c)],1,fun xs=>xs.length<=4194304/\∀x∈xs,A.ok x,fun _=>rfl⟩
structure Lk {α:Type} (T:Ty α) (A:Dt α):Prop where
 n:T.n=A.n
 to:∀{ay:Nat->Prop} {w:World} {cs:List Value} {a:α},T.rd ay w cs a->cC ay w cs (A.c a)/\A.ok a/\∀v∈cs,v.oneCell'=true
 of:∀{I:Nat->Prop} {w:World} {cs:List Value} {a:α},cC I w cs (A.c a)->A.ok a->T.rd I w cs a
theorem cC.one {I:Nat->Prop} {w:World} {v:Value} {d:D} (h:Dr I w v d):cC I w [v] [d]:=⟨rfl,fun i a b h1 h2=>by
 cases i with
 |zero=>simp at h1 h2;subst h1 h2;exact h
 |succ i=>simp at h1⟩
theorem cC.nE {I:Nat->Prop} {w:World} {cs:List Value} {d:D} (h:cC I w cs [d]):∃v,cs=[v]/\Dr I w v d:=by
 obtain⟨hl,h⟩:=h
 match cs,hl with
 |[v],_=>exact⟨v,rfl,h 0 v d rfl rfl⟩
theorem fC:Lk tI dI where
 n:=rfl
 to h:=by
  obtain⟨rfl,h1⟩:=h
  exact⟨.one (.int _ _),h1,by simp[Value.oneCell']⟩
 of h k:=by
  obtain⟨v,rfl,hv⟩:=h.nE
  cases hv
  exact⟨rfl,k⟩
theorem O6:Lk tW dW where
 n:=rfl
 to h:=by
  obtain⟨rfl,h1⟩:=h
  exact⟨.one (.int _ _),h1,by simp[Value.oneCell']⟩
 of h k:=by
  obtain⟨v,rfl,hv⟩:=h.nE
  cases hv
  exact⟨rfl,k⟩
theorem LkB:Lk tB dB where
 n:=rfl
 to {_ _ cs a} h:=by
  have h:cs=[.bool a]:=h
  subst h
  exact⟨.one (.bool _),trivial,by simp[Value.oneCell']⟩
 of h k:=by
  obtain⟨v,rfl,hv⟩:=h.nE
  cases hv
  rfl
theorem y8:Lk tS dS where
 n:=rfl
 to h:=by
  obtain⟨rfl,h1⟩:=h
  exact⟨.one (.str _),h1,by simp[Value.oneCell']⟩
 of h k:=by
  obtain⟨v,rfl,hv⟩:=h.nE
  cases hv
  exact⟨rfl,k⟩
theorem D7:Lk tY dY where
 n:=rfl
 to h:=by
  obtain⟨v,rfl,hb,hi,hl⟩:=h
  refine⟨.one (hb.dr hi),hl,?_⟩
  obtain⟨A,c,rfl⟩:=hb.rd.slice
  simp[Value.oneCell']
 of {I _ _ _} h k:=by
  obtain⟨v,rfl,hv⟩:=h.nE
  clear h
  have h:=hv
  clear hv
  have k':_<=4194304:=k
  refine⟨v,rfl,h.bs (by unfold bz;omega),fun g hg bS=>?_,k⟩
  generalize hq:(D.list 1 _)=q at h
  cases h<;>try (cases hq;done)
  rename_i A cap n l xs U cj hl hm eu hlen hA g1 hU
  injection hq with h1 h2
  subst h1 h2
  obtain⟨b,off,rfl,_,hI,_⟩:=hA (by rw[cj];simpa using List.length_pos_iff.2 bS)
  have:b=g:=by simpa[Value.ownBlock] using hg
  subst this
  exact hI
theorem cC.split {I:Nat->Prop} {w:World} {cs:List Value} {xs ys:List D} (h:cC I w cs (xs++ys)):∃c d,cs=c++d/\cC I w c xs/\cC I w d ys:=by
 have hl:=h.1
 rw[List.length_append] at hl
 refine⟨cs.take xs.length,cs.drop xs.length,(List.take_append_drop _ _).symm,⟨by rw[List.length_take];omega,fun i v d h1 h2=>?_⟩,⟨by rw[List.length_drop];omega,fun i v d h1 h2=>?_⟩⟩
 ·rw[List.getElem?_take] at h1
  split at h1
  ·exact h.2 i v d h1 (by rw[List.getElem?_append_left (by assumption)];exact h2)
  ·cases h1
 ·rw[List.getElem?_drop] at h1
  exact h.2 _ v d h1 (by rw[List.getElem?_append_right (by omega)];simpa using h2)
theorem cJ {α β:Type} {T:Ty α} {U:Ty β} {A:Dt α} {B:Dt β} (h:Lk T A) (k:Lk U B):Lk (tP T U) (dP A B) where
 n:=by show T.n+U.n=A.n+B.n;rw[h.n,k.n]
 to q:=by
  obtain⟨c,d,rfl,q1,q2⟩:=q
  obtain⟨a1,a2,a3⟩:=h.to q1
  obtain⟨b1,b2,b3⟩:=k.to q2
  exact⟨a1.append b1,⟨a2,b2⟩,fun v hv=>by rcases List.mem_append.1 hv with e|e;exact a3 v e;exact b3 v e⟩
 of q ok:=by
  obtain⟨c,d,rfl,q1,q2⟩:=cC.split q
  exact⟨c,d,rfl,h.of q1 ok.1,k.of q2 ok.2⟩
theorem nv {α β:Type} {T:Ty α} {A:Dt α} (f:β->α) (h:Lk T A):Lk (tM T f) (dM A f) where
 n:=h.n
 to q:=h.to q
 of q ok:=h.of q ok
theorem nV {α:Type} {T:Ty α} {A:Dt α} (h:Lk T A):Lk (tL T) (dL A) where
 n:=rfl
 to {ay w cs xs} q:=by
  obtain⟨P,cap,rfl,h1,h2,h3,h4,h5⟩:=q
  have key:∀i,∃ys:List Value,i<xs.length->∃x b off,xs[i]?=some x/\P=some ⟨b,off,none⟩/\b<w.heap.size/\ay b/\T.rd ay w ys x/\∀j v,ys[j]?=some v->w.cell? ⟨b,off+i*T.n+j,none⟩=some v:=by
   intro i
   by_cases hi:i<xs.length
   ·obtain⟨b,off,e,hb,tv,rZ⟩:=h5 (by omega)
    obtain⟨ys,k1,k2⟩:=rZ i _ (List.getElem?_eq_getElem hi)
    exact⟨ys,fun _=>⟨_,b,off,List.getElem?_eq_getElem hi,e,hb,tv,k1,k2⟩⟩
   ·exact⟨[],fun h=>absurd h hi⟩
  let Y:Nat->List Value:=fun i=>Classical.choose (key i)
  have hY:∀i,i<xs.length->∃x b off,xs[i]?=some x/\P=some ⟨b,off,none⟩/\b<w.heap.size/\ay b/\T.rd ay w (Y i) x/\∀j v,(Y i)[j]?=some v->w.cell? ⟨b,off+i*T.n+j,none⟩=some v:=fun i hi=>Classical.choose_spec (key i) hi
  have s8:∀(i:Nat) x (j:Nat) d,(xs.map A.c)[i]?=some x->x[j]?=some d->∃a v,xs[i]?=some a/\x=A.c a/\i<xs.length/\(Y i)[j]?=some v/\Dr ay w v d/\v.oneCell'=true:=by
   intro i x j d hx hj
   rw[List.getElem?_map] at hx
   cases hq:xs[i]? with
   |none=>rw[hq] at hx;cases hx
   |some a=>
    rw[hq] at hx
    injection hx with hx
    subst hx
    have hi:=(List.getElem?_eq_some_iff.1 hq).1
    obtain⟨a',b,off,e1,e2,e3,e4,e5,e6⟩:=hY i hi
    rw[hq] at e1
    injection e1 with e1
    subst e1
    obtain⟨d1,_,d3⟩:=h.to e5
    have hlt:j<(Y i).length:=by rw[d1.1];exact(List.getElem?_eq_some_iff.1 hj).1
    exact⟨a,_,rfl,rfl,hi,List.getElem?_eq_getElem hlt,d1.2 j _ d (List.getElem?_eq_getElem hlt) hj,d3 _ (List.getElem_mem _)⟩
  refine⟨.one (.list P cap A.n xs.length (xs.map A.c) (fun i j=>(Y i).getD j undef) (by simp) h1 h2 h3 (fun x hx=>?_) (fun h0=>?_) (fun i x j d hx hj=>?_) (fun i x j d hx hj=>?_)),⟨h4,fun x hx=>?_⟩,by simp[Value.oneCell']⟩
  ·obtain⟨a,_,rfl⟩:=List.mem_map.1 hx
   exact A.len a
  ·obtain⟨b,off,e,hb,tv,rZ⟩:=h5 h0
   refine⟨b,off,e,hb,tv,fun i x j d hx hj=>?_⟩
   obtain⟨a,v,q1,q2,hi,q3,_⟩:=s8 i x j d hx hj
   obtain⟨a',b',NS,e1,e2,e3,e4,e5,e6⟩:=hY i hi
   rw[e] at e2
   injection e2 with e2
   injection e2 with e2 uZ _
   subst e2 uZ
   rw[<-h.n,e6 j v q3]
   simp[List.getD,q3]
  ·obtain⟨a,v,q1,q2,hi,q3,q4,q5⟩:=s8 i x j d hx hj
   simp only[List.getD,q3,Option.getD_some]
   exact q5
  ·obtain⟨a,v,q1,q2,hi,q3,q4,q5⟩:=s8 i x j d hx hj
   simp only[List.getD,q3,Option.getD_some]
   exact q4
  ·obtain⟨i,hi⟩:=List.getElem?_of_mem hx
   have hlt:=(List.getElem?_eq_some_iff.1 hi).1
   obtain⟨a',b',NS,e1,e2,e3,e4,e5,e6⟩:=hY i hlt
   rw[hi] at e1
   injection e1 with e1
   subst e1
   exact(h.to e5).2.1
 of {I w cs xs} q ok:=by
  obtain⟨v,rfl,qv⟩:=q.nE
  clear q
  have q:=qv
  clear qv
  generalize hq:(D.list A.n (xs.map A.c))=d at q
  cases q<;>try (cases hq;done)
  rename_i P cap n l ys U cj hl hm eu hlen hA g1 hU
  injection hq with e1 e2
  subst e1 e2
  rw[List.length_map] at cj
  subst cj
  refine⟨P,cap,rfl,hl,hm,eu,ok.1,fun h0=>?_⟩
  obtain⟨b,off,rfl,hb,hI,hc⟩:=hA h0
  refine⟨b,off,rfl,hb,hI,fun i x hx=>⟨(List.range A.n).map (U i),h.of ⟨by simp[A.len],fun j v d h1 h2=>?_⟩ (ok.2 x (List.mem_of_getElem? hx)),fun j v hj=>?_⟩⟩
  ·have hlt:j<A.n:=by have:=(List.getElem?_eq_some_iff.1 h1).1;simpa using this
   rw[List.getElem?_map,List.getElem?_range hlt] at h1
   injection h1 with h1
   subst h1
   exact hU i (A.c x) j d (by rw[List.getElem?_map,hx];rfl) h2
  ·have hlt:j<A.n:=by have:=(List.getElem?_eq_some_iff.1 hj).1;simpa using this
   rw[List.getElem?_map,List.getElem?_range hlt] at hj
   injection hj with hj
   subst hj
   have ZA:j<(A.c x).length:=by rw[A.len];exact hlt
   rw[h.n]
   exact hc i (A.c x) j _ (by rw[List.getElem?_map,hx];rfl) (List.getElem?_eq_getElem ZA)
end Go.Proofs.YtafomdobfmmleaaGreatDoor

/- Lemmas and contracts. -/
namespace Go.Proofs.YtafomdobfmmleaaGreatDoor
open Go.ChangeShapes Go.WideShapes Go.ChangeAt Go.RowKit Go.Deep
set_option linter.unusedVariables false
theorem oK {cs:List Value} (h:cs.length=1):∃v,cs=[v]:=by
 cases cs with
 |nil=>simp at h
 |cons v r=>cases r with
  |nil=>exact⟨v,rfl⟩
  |cons _ _=>simp at h
structure bH where
 key:Int
 an:Int
def iG:Ty bH:=tM (tP tI tI) (fun s:bH=>(s.key,s.an))
theorem vn:gX Tryz.prog 57 iG:=by
 refine mO (fun p=>⟨p.1,p.2⟩) (fun _=>rfl) Tryz.underlying57 ?_ (by kernel_rfl)
 simp only
 refine cF (o':=1) rfl rfl ?_ ?_
 ·exact fj Tryz.underlying3 (by kernel_rfl)
 refine mI rfl ?_
 exact fj Tryz.underlying41 (by kernel_rfl)
theorem iG.parts {ay:Nat->Prop} {w:World} {cs:List Value} {s:bH} (h:iG.rd ay w cs s):cs=[.int .i64 s.key,.int .i64 s.an]/\(-9223372036854775808<=s.key/\s.key<=9223372036854775807)/\(-9223372036854775808<=s.an/\s.an<=9223372036854775807):=by
 obtain⟨c0,c1,rfl,h0,h1⟩:=h
 obtain⟨rfl,b0⟩:=h0
 obtain⟨rfl,b1⟩:=h1
 exact⟨rfl,b0,b1⟩
theorem iG.mk {ay:Nat->Prop} {w:World} {s:bH} (k0:(-9223372036854775808<=s.key/\s.key<=9223372036854775807)) (k1:(-9223372036854775808<=s.an/\s.an<=9223372036854775807)):iG.rd ay w [.int .i64 s.key,.int .i64 s.an] s:=by
 exact⟨[.int .i64 s.key],[.int .i64 s.an],rfl,⟨rfl,k0⟩,⟨rfl,k1⟩⟩
structure bF where
 kind:Int
 av:List UInt8
 group:List UInt8
 offset:Int
 records:List (List UInt8)
def cL:Ty bF:=tM (tP tI (tP tS (tP tS (tP tI (tL tY))))) (fun s:bF=>(s.kind,s.av,s.group,s.offset,s.records))
theorem Mp:gX Tryz.prog 40 cL:=by
 refine mO (fun p=>⟨p.1,p.2.1,p.2.2.1,p.2.2.2.1,p.2.2.2.2⟩) (fun _=>rfl) Tryz.underlying40 ?_ (by kernel_rfl)
 simp only
 refine cF (o':=1) rfl rfl ?_ ?_
 ·exact fj Tryz.underlying3 (by kernel_rfl)
 refine cF (o':=2) rfl rfl ?_ ?_
 ·exact xT Tryz.underlying9 (by kernel_rfl)
 refine cF (o':=3) rfl rfl ?_ ?_
 ·exact xT Tryz.underlying9 (by kernel_rfl)
 refine cF (o':=4) rfl rfl ?_ ?_
 ·exact fj Tryz.underlying2 (by kernel_rfl)
 refine mI rfl ?_
 refine pJ Tryz.underlying38 ?_ (by decide) (by kernel_rfl)
 exact C3 Tryz.underlying51 Tryz.underlying5 (by kernel_rfl) (by kernel_rfl)
theorem cL.parts {ay:Nat->Prop} {w:World} {cs:List Value} {s:bF} (h:cL.rd ay w cs s):∃v1,cs=[.int .i64 s.kind,.string (au s.av),.string (au s.group),.int .i64 s.offset,v1]/\(-9223372036854775808<=s.kind/\s.kind<=9223372036854775807)/\s.av.length<=4194304/\s.group.length<=4194304/\(-9223372036854775808<=s.offset/\s.offset<=9223372036854775807)/\(tL tY).rd ay w [v1] s.records:=by
 obtain⟨c0,e1,rfl,h0,c1,e2,rfl,h1,c2,e3,rfl,h2,c3,c4,rfl,h3,h4⟩:=h
 obtain⟨rfl,b0⟩:=h0
 obtain⟨rfl,b1⟩:=h1
 obtain⟨rfl,b2⟩:=h2
 obtain⟨rfl,b3⟩:=h3
 obtain⟨u4,rfl⟩:=oK ((tL tY).len h4)
 exact⟨u4,rfl,b0,b1,b2,b3,h4⟩
theorem cL.mk {ay:Nat->Prop} {w:World} {s:bF} {v1:Value} (k0:(-9223372036854775808<=s.kind/\s.kind<=9223372036854775807)) (k1:s.av.length<=4194304) (k2:s.group.length<=4194304) (k3:(-9223372036854775808<=s.offset/\s.offset<=9223372036854775807)) (k4:(tL tY).rd ay w [v1] s.records):cL.rd ay w [.int .i64 s.kind,.string (au s.av),.string (au s.group),.int .i64 s.offset,v1] s:=by
 exact⟨[.int .i64 s.kind],[.string (au s.av),.string (au s.group),.int .i64 s.offset,v1],rfl,⟨rfl,k0⟩,[.string (au s.av)],[.string (au s.group),.int .i64 s.offset,v1],rfl,⟨rfl,k1⟩,[.string (au s.group)],[.int .i64 s.offset,v1],rfl,⟨rfl,k2⟩,[.int .i64 s.offset],[v1],rfl,⟨rfl,k3⟩,k4⟩
structure lT where
 err:Int
 offset:Int
def sH:Ty lT:=tM (tP tI tI) (fun s:lT=>(s.err,s.offset))
theorem Q5:gX Tryz.prog 43 sH:=by
 refine mO (fun p=>⟨p.1,p.2⟩) (fun _=>rfl) Tryz.underlying43 ?_ (by kernel_rfl)
 simp only
 refine cF (o':=1) rfl rfl ?_ ?_
 ·exact fj Tryz.underlying28 (by kernel_rfl)
 refine mI rfl ?_
 exact fj Tryz.underlying2 (by kernel_rfl)
theorem sH.parts {ay:Nat->Prop} {w:World} {cs:List Value} {s:lT} (h:sH.rd ay w cs s):cs=[.int .i64 s.err,.int .i64 s.offset]/\(-9223372036854775808<=s.err/\s.err<=9223372036854775807)/\(-9223372036854775808<=s.offset/\s.offset<=9223372036854775807):=by
 obtain⟨c0,c1,rfl,h0,h1⟩:=h
 obtain⟨rfl,b0⟩:=h0
 obtain⟨rfl,b1⟩:=h1
 exact⟨rfl,b0,b1⟩
theorem sH.mk {ay:Nat->Prop} {w:World} {s:lT} (k0:(-9223372036854775808<=s.err/\s.err<=9223372036854775807)) (k1:(-9223372036854775808<=s.offset/\s.offset<=9223372036854775807)):sH.rd ay w [.int .i64 s.err,.int .i64 s.offset] s:=by
 exact⟨[.int .i64 s.err],[.int .i64 s.offset],rfl,⟨rfl,k0⟩,⟨rfl,k1⟩⟩
structure jg where
 aQ:Int
 time:Int
 op:bF
def mH:Ty jg:=tM (tP tI (tP tI cL)) (fun s:jg=>(s.aQ,s.time,s.op))
theorem QC:gX Tryz.prog 181 mH:=by
 refine mO (fun p=>⟨p.1,p.2.1,p.2.2⟩) (fun _=>rfl) Tryz.underlying181 ?_ (by kernel_rfl)
 simp only
 refine cF (o':=1) rfl rfl ?_ ?_
 ·exact fj Tryz.underlying3 (by kernel_rfl)
 refine cF (o':=2) rfl rfl ?_ ?_
 ·exact fj Tryz.underlying2 (by kernel_rfl)
 refine mI rfl ?_
 exact Mp
theorem mH.parts {ay:Nat->Prop} {w:World} {cs:List Value} {s:jg} (h:mH.rd ay w cs s):∃v1,cs=[.int .i64 s.aQ,.int .i64 s.time,.int .i64 s.op.kind,.string (au s.op.av),.string (au s.op.group),.int .i64 s.op.offset,v1]/\(-9223372036854775808<=s.aQ/\s.aQ<=9223372036854775807)/\(-9223372036854775808<=s.time/\s.time<=9223372036854775807)/\(-9223372036854775808<=s.op.kind/\s.op.kind<=9223372036854775807)/\s.op.av.length<=4194304/\s.op.group.length<=4194304/\(-9223372036854775808<=s.op.offset/\s.op.offset<=9223372036854775807)/\(tL tY).rd ay w [v1] s.op.records:=by
 obtain⟨c0,e1,rfl,h0,c1,c2,rfl,h1,h2⟩:=h
 obtain⟨rfl,b0⟩:=h0
 obtain⟨rfl,b1⟩:=h1
 obtain⟨GS,rfl,GU,GV,GW,YZ,Y0⟩:=cL.parts h2
 exact⟨GS,rfl,b0,b1,GU,GV,GW,YZ,Y0⟩
theorem mH.mk {ay:Nat->Prop} {w:World} {s:jg} {v1:Value} (k0:(-9223372036854775808<=s.aQ/\s.aQ<=9223372036854775807)) (k1:(-9223372036854775808<=s.time/\s.time<=9223372036854775807)) (k2:(-9223372036854775808<=s.op.kind/\s.op.kind<=9223372036854775807)) (k3:s.op.av.length<=4194304) (k4:s.op.group.length<=4194304) (k5:(-9223372036854775808<=s.op.offset/\s.op.offset<=9223372036854775807)) (k6:(tL tY).rd ay w [v1] s.op.records):mH.rd ay w [.int .i64 s.aQ,.int .i64 s.time,.int .i64 s.op.kind,.string (au s.op.av),.string (au s.op.group),.int .i64 s.op.offset,v1] s:=by
 exact⟨[.int .i64 s.aQ],[.int .i64 s.time,.int .i64 s.op.kind,.string (au s.op.av),.string (au s.op.group),.int .i64 s.op.offset,v1],rfl,⟨rfl,k0⟩,[.int .i64 s.time],[.int .i64 s.op.kind,.string (au s.op.av),.string (au s.op.group),.int .i64 s.op.offset,v1],rfl,⟨rfl,k1⟩,cL.mk k2 k3 k4 k5 k6⟩
structure cq where
 request:jg
 sign:bH
def iI:Ty cq:=tM (tP mH iG) (fun s:cq=>(s.request,s.sign))
theorem El:gX Tryz.prog 183 iI:=by
 refine mO (fun p=>⟨p.1,p.2⟩) (fun _=>rfl) Tryz.underlying183 ?_ (by kernel_rfl)
 simp only
 refine cF (o':=7) rfl rfl ?_ ?_
 ·exact QC
 refine mI rfl ?_
 exact vn
theorem iI.parts {ay:Nat->Prop} {w:World} {cs:List Value} {s:cq} (h:iI.rd ay w cs s):∃v1,cs=[.int .i64 s.request.aQ,.int .i64 s.request.time,.int .i64 s.request.op.kind,.string (au s.request.op.av),.string (au s.request.op.group),.int .i64 s.request.op.offset,v1,.int .i64 s.sign.key,.int .i64 s.sign.an]/\(-9223372036854775808<=s.request.aQ/\s.request.aQ<=9223372036854775807)/\(-9223372036854775808<=s.request.time/\s.request.time<=9223372036854775807)/\(-9223372036854775808<=s.request.op.kind/\s.request.op.kind<=9223372036854775807)/\s.request.op.av.length<=4194304/\s.request.op.group.length<=4194304/\(-9223372036854775808<=s.request.op.offset/\s.request.op.offset<=9223372036854775807)/\(tL tY).rd ay w [v1] s.request.op.records/\(-9223372036854775808<=s.sign.key/\s.sign.key<=9223372036854775807)/\(-9223372036854775808<=s.sign.an/\s.sign.an<=9223372036854775807):=by
 obtain⟨c0,c1,rfl,h0,h1⟩:=h
 obtain⟨Y1,rfl,Y2,Y3,Y4,Y5,Y6,Y7,Y8⟩:=mH.parts h0
 obtain⟨rfl,Y9,Za⟩:=iG.parts h1
 exact⟨Y1,rfl,Y2,Y3,Y4,Y5,Y6,Y7,Y8,Y9,Za⟩
structure iS where
 seq:Int
 prev:Int
 batch:Int
 root:Int
 state:Int
def um:Ty iS:=tM (tP tI (tP tI (tP tI (tP tI tI)))) (fun s:iS=>(s.seq,s.prev,s.batch,s.root,s.state))
theorem Q6:gX Tryz.prog 187 um:=by
 refine mO (fun p=>⟨p.1,p.2.1,p.2.2.1,p.2.2.2.1,p.2.2.2.2⟩) (fun _=>rfl) Tryz.underlying187 ?_ (by kernel_rfl)
 simp only
 refine cF (o':=1) rfl rfl ?_ ?_
 ·exact fj Tryz.underlying2 (by kernel_rfl)
 refine cF (o':=2) rfl rfl ?_ ?_
 ·exact fj Tryz.underlying41 (by kernel_rfl)
 refine cF (o':=3) rfl rfl ?_ ?_
 ·exact fj Tryz.underlying41 (by kernel_rfl)
 refine cF (o':=4) rfl rfl ?_ ?_
 ·exact fj Tryz.underlying41 (by kernel_rfl)
 refine mI rfl ?_
 exact fj Tryz.underlying41 (by kernel_rfl)
structure gU where
 seq:Int
 an:Int
 cN:List (bH)
def nP:Ty gU:=tM (tP tI (tP tI (tL iG))) (fun s:gU=>(s.seq,s.an,s.cN))
theorem EY:gX Tryz.prog 48 nP:=by
 refine mO (fun p=>⟨p.1,p.2.1,p.2.2⟩) (fun _=>rfl) Tryz.underlying48 ?_ (by kernel_rfl)
 simp only
 refine cF (o':=1) rfl rfl ?_ ?_
 ·exact fj Tryz.underlying2 (by kernel_rfl)
 refine cF (o':=2) rfl rfl ?_ ?_
 ·exact fj Tryz.underlying41 (by kernel_rfl)
 refine mI rfl ?_
 refine pJ Tryz.underlying46 ?_ (by decide) (by kernel_rfl)
 exact vn
theorem nP.parts {ay:Nat->Prop} {w:World} {cs:List Value} {s:gU} (h:nP.rd ay w cs s):∃v1,cs=[.int .i64 s.seq,.int .i64 s.an,v1]/\(-9223372036854775808<=s.seq/\s.seq<=9223372036854775807)/\(-9223372036854775808<=s.an/\s.an<=9223372036854775807)/\(tL iG).rd ay w [v1] s.cN:=by
 obtain⟨c0,e1,rfl,h0,c1,c2,rfl,h1,h2⟩:=h
 obtain⟨rfl,b0⟩:=h0
 obtain⟨rfl,b1⟩:=h1
 obtain⟨u2,rfl⟩:=oK ((tL iG).len h2)
 exact⟨u2,rfl,b0,b1,h2⟩
theorem nP.mk {ay:Nat->Prop} {w:World} {s:gU} {v1:Value} (k0:(-9223372036854775808<=s.seq/\s.seq<=9223372036854775807)) (k1:(-9223372036854775808<=s.an/\s.an<=9223372036854775807)) (k2:(tL iG).rd ay w [v1] s.cN):nP.rd ay w [.int .i64 s.seq,.int .i64 s.an,v1] s:=by
 exact⟨[.int .i64 s.seq],[.int .i64 s.an,v1],rfl,⟨rfl,k0⟩,[.int .i64 s.an],[v1],rfl,⟨rfl,k1⟩,k2⟩
structure gq where
 view:Int
 seq:Int
 an:Int
 lz:bH
 cN:List (bH)
 batch:List (cq)
def zG:Ty gq:=tM (tP tI (tP tI (tP tI (tP iG (tP (tL iG) (tL iI)))))) (fun s:gq=>(s.view,s.seq,s.an,s.lz,s.cN,s.batch))
theorem Qb:gX Tryz.prog 190 zG:=by
 refine mO (fun p=>⟨p.1,p.2.1,p.2.2.1,p.2.2.2.1,p.2.2.2.2.1,p.2.2.2.2.2⟩) (fun _=>rfl) Tryz.underlying190 ?_ (by kernel_rfl)
 simp only
 refine cF (o':=1) rfl rfl ?_ ?_
 ·exact fj Tryz.underlying2 (by kernel_rfl)
 refine cF (o':=2) rfl rfl ?_ ?_
 ·exact fj Tryz.underlying2 (by kernel_rfl)
 refine cF (o':=3) rfl rfl ?_ ?_
 ·exact fj Tryz.underlying41 (by kernel_rfl)
 refine cF (o':=5) rfl rfl ?_ ?_
 ·exact vn
 refine cF (o':=6) rfl rfl ?_ ?_
 ·refine pJ Tryz.underlying46 ?_ (by decide) (by kernel_rfl)
  exact vn
 refine mI rfl ?_
 refine pJ Tryz.underlying45 ?_ (by decide) (by kernel_rfl)
 exact El
structure cX where
 view:Int
 src:Int
 cert:gU
 cR:List (gq)
 sign:bH
def rz:Ty cX:=tM (tP tI (tP tI (tP nP (tP (tL zG) iG)))) (fun s:cX=>(s.view,s.src,s.cert,s.cR,s.sign))
theorem Q7:gX Tryz.prog 145 rz:=by
 refine mO (fun p=>⟨p.1,p.2.1,p.2.2.1,p.2.2.2.1,p.2.2.2.2⟩) (fun _=>rfl) Tryz.underlying145 ?_ (by kernel_rfl)
 simp only
 refine cF (o':=1) rfl rfl ?_ ?_
 ·exact fj Tryz.underlying2 (by kernel_rfl)
 refine cF (o':=2) rfl rfl ?_ ?_
 ·exact fj Tryz.underlying3 (by kernel_rfl)
 refine cF (o':=5) rfl rfl ?_ ?_
 ·exact EY
 refine cF (o':=6) rfl rfl ?_ ?_
 ·refine pJ Tryz.underlying143 ?_ (by decide) (by kernel_rfl)
  exact Qb
 refine mI rfl ?_
 exact vn
theorem rz.parts {ay:Nat->Prop} {w:World} {cs:List Value} {s:cX} (h:rz.rd ay w cs s):∃v1 v2,cs=[.int .i64 s.view,.int .i64 s.src,.int .i64 s.cert.seq,.int .i64 s.cert.an,v1,v2,.int .i64 s.sign.key,.int .i64 s.sign.an]/\(-9223372036854775808<=s.view/\s.view<=9223372036854775807)/\(-9223372036854775808<=s.src/\s.src<=9223372036854775807)/\(-9223372036854775808<=s.cert.seq/\s.cert.seq<=9223372036854775807)/\(-9223372036854775808<=s.cert.an/\s.cert.an<=9223372036854775807)/\(tL iG).rd ay w [v1] s.cert.cN/\(tL zG).rd ay w [v2] s.cR/\(-9223372036854775808<=s.sign.key/\s.sign.key<=9223372036854775807)/\(-9223372036854775808<=s.sign.an/\s.sign.an<=9223372036854775807):=by
 obtain⟨c0,e1,rfl,h0,c1,e2,rfl,h1,c2,e3,rfl,h2,c3,c4,rfl,h3,h4⟩:=h
 obtain⟨rfl,b0⟩:=h0
 obtain⟨rfl,b1⟩:=h1
 obtain⟨GS,rfl,GU,GV,GW⟩:=nP.parts h2
 obtain⟨u3,rfl⟩:=oK ((tL zG).len h3)
 obtain⟨rfl,Zb,Zc⟩:=iG.parts h4
 exact⟨GS,u3,rfl,b0,b1,GU,GV,GW,h3,Zb,Zc⟩
structure gH where
 view:Int
 seq:Int
 batch:List (cq)
 sign:bH
def xU:Ty gH:=tM (tP tI (tP tI (tP (tL iI) iG))) (fun s:gH=>(s.view,s.seq,s.batch,s.sign))
theorem RL:gX Tryz.prog 159 xU:=by
 refine mO (fun p=>⟨p.1,p.2.1,p.2.2.1,p.2.2.2⟩) (fun _=>rfl) Tryz.underlying159 ?_ (by kernel_rfl)
 simp only
 refine cF (o':=1) rfl rfl ?_ ?_
 ·exact fj Tryz.underlying2 (by kernel_rfl)
 refine cF (o':=2) rfl rfl ?_ ?_
 ·exact fj Tryz.underlying2 (by kernel_rfl)
 refine cF (o':=3) rfl rfl ?_ ?_
 ·refine pJ Tryz.underlying45 ?_ (by decide) (by kernel_rfl)
  exact El
 refine mI rfl ?_
 exact vn
structure jL where
 av:List UInt8
 offset:Int
 record:List UInt8
 headers:List (iS)
 index:Int
 count:Int
 path:List (Int)
 cert:gU
def sQ:Ty jL:=tM (tP tS (tP tI (tP tY (tP (tL um) (tP tI (tP tI (tP (tL tI) nP))))))) (fun s:jL=>(s.av,s.offset,s.record,s.headers,s.index,s.count,s.path,s.cert))
theorem RM:gX Tryz.prog 55 sQ:=by
 refine mO (fun p=>⟨p.1,p.2.1,p.2.2.1,p.2.2.2.1,p.2.2.2.2.1,p.2.2.2.2.2.1,p.2.2.2.2.2.2.1,p.2.2.2.2.2.2.2⟩) (fun _=>rfl) Tryz.underlying55 ?_ (by kernel_rfl)
 simp only
 refine cF (o':=1) rfl rfl ?_ ?_
 ·exact xT Tryz.underlying9 (by kernel_rfl)
 refine cF (o':=2) rfl rfl ?_ ?_
 ·exact fj Tryz.underlying2 (by kernel_rfl)
 refine cF (o':=3) rfl rfl ?_ ?_
 ·exact C3 Tryz.underlying51 Tryz.underlying5 (by kernel_rfl) (by kernel_rfl)
 refine cF (o':=4) rfl rfl ?_ ?_
 ·refine pJ Tryz.underlying52 ?_ (by decide) (by kernel_rfl)
  exact Q6
 refine cF (o':=5) rfl rfl ?_ ?_
 ·exact fj Tryz.underlying3 (by kernel_rfl)
 refine cF (o':=6) rfl rfl ?_ ?_
 ·exact fj Tryz.underlying3 (by kernel_rfl)
 refine cF (o':=7) rfl rfl ?_ ?_
 ·refine pJ Tryz.underlying53 ?_ (by decide) (by kernel_rfl)
  exact fj Tryz.underlying41 (by kernel_rfl)
 refine mI rfl ?_
 exact EY
theorem sQ.parts {ay:Nat->Prop} {w:World} {cs:List Value} {s:jL} (h:sQ.rd ay w cs s):∃v1 v2 v3 v4,cs=[.string (au s.av),.int .i64 s.offset,v1,v2,.int .i64 s.index,.int .i64 s.count,v3,.int .i64 s.cert.seq,.int .i64 s.cert.an,v4]/\s.av.length<=4194304/\(-9223372036854775808<=s.offset/\s.offset<=9223372036854775807)/\tY.rd ay w [v1] s.record/\(tL um).rd ay w [v2] s.headers/\(-9223372036854775808<=s.index/\s.index<=9223372036854775807)/\(-9223372036854775808<=s.count/\s.count<=9223372036854775807)/\(tL tI).rd ay w [v3] s.path/\(-9223372036854775808<=s.cert.seq/\s.cert.seq<=9223372036854775807)/\(-9223372036854775808<=s.cert.an/\s.cert.an<=9223372036854775807)/\(tL iG).rd ay w [v4] s.cert.cN:=by
 obtain⟨c0,e1,rfl,h0,c1,e2,rfl,h1,c2,e3,rfl,h2,c3,e4,rfl,h3,c4,e5,rfl,h4,c5,e6,rfl,h5,c6,c7,rfl,h6,h7⟩:=h
 obtain⟨rfl,b0⟩:=h0
 obtain⟨rfl,b1⟩:=h1
 obtain⟨u2,rfl⟩:=oK (tY.len h2)
 obtain⟨u3,rfl⟩:=oK ((tL um).len h3)
 obtain⟨rfl,b4⟩:=h4
 obtain⟨rfl,b5⟩:=h5
 obtain⟨u6,rfl⟩:=oK ((tL tI).len h6)
 obtain⟨Zd,rfl,GX,GY,Ze⟩:=nP.parts h7
 exact⟨u2,u3,u6,Zd,rfl,b0,b1,h2,h3,b4,b5,h6,GX,GY,Ze⟩
theorem sQ.mk {ay:Nat->Prop} {w:World} {s:jL} {v1 v2 v3 v4:Value} (k0:s.av.length<=4194304) (k1:(-9223372036854775808<=s.offset/\s.offset<=9223372036854775807)) (k2:tY.rd ay w [v1] s.record) (k3:(tL um).rd ay w [v2] s.headers) (k4:(-9223372036854775808<=s.index/\s.index<=9223372036854775807)) (k5:(-9223372036854775808<=s.count/\s.count<=9223372036854775807)) (k6:(tL tI).rd ay w [v3] s.path) (k7:(-9223372036854775808<=s.cert.seq/\s.cert.seq<=9223372036854775807)) (k8:(-9223372036854775808<=s.cert.an/\s.cert.an<=9223372036854775807)) (k9:(tL iG).rd ay w [v4] s.cert.cN):sQ.rd ay w [.string (au s.av),.int .i64 s.offset,v1,v2,.int .i64 s.index,.int .i64 s.count,v3,.int .i64 s.cert.seq,.int .i64 s.cert.an,v4] s:=by
 exact⟨[.string (au s.av)],[.int .i64 s.offset,v1,v2,.int .i64 s.index,.int .i64 s.count,v3,.int .i64 s.cert.seq,.int .i64 s.cert.an,v4],rfl,⟨rfl,k0⟩,[.int .i64 s.offset],[v1,v2,.int .i64 s.index,.int .i64 s.count,v3,.int .i64 s.cert.seq,.int .i64 s.cert.an,v4],rfl,⟨rfl,k1⟩,[v1],[v2,.int .i64 s.index,.int .i64 s.count,v3,.int .i64 s.cert.seq,.int .i64 s.cert.an,v4],rfl,k2,[v2],[.int .i64 s.index,.int .i64 s.count,v3,.int .i64 s.cert.seq,.int .i64 s.cert.an,v4],rfl,k3,[.int .i64 s.index],[.int .i64 s.count,v3,.int .i64 s.cert.seq,.int .i64 s.cert.an,v4],rfl,⟨rfl,k4⟩,[.int .i64 s.count],[v3,.int .i64 s.cert.seq,.int .i64 s.cert.an,v4],rfl,⟨rfl,k5⟩,[v3],[.int .i64 s.cert.seq,.int .i64 s.cert.an,v4],rfl,k6,nP.mk k7 k8 k9⟩
structure aN where
 kind:Int
 src:Int
 view:Int
 seq:Int
 an:Int
 aQ:Int
 time:Int
 result:lT
 batch:List (cq)
 cert:gU
 changes:List (cX)
 entries:List (gH)
 state:List UInt8
 av:List UInt8
 offset:Int
 proof:jL
 sign:bH
def gJ:Ty aN:=tM (tP tI (tP tI (tP tI (tP tI (tP tI (tP tI (tP tI (tP sH (tP (tL iI) (tP nP (tP (tL rz) (tP (tL xU) (tP tY (tP tS (tP tI (tP sQ iG)))))))))))))))) (fun s:aN=>(s.kind,s.src,s.view,s.seq,s.an,s.aQ,s.time,s.result,s.batch,s.cert,s.changes,s.entries,s.state,s.av,s.offset,s.proof,s.sign))
theorem Ur:gX Tryz.prog 59 gJ:=by
 refine mO (fun p=>⟨p.1,p.2.1,p.2.2.1,p.2.2.2.1,p.2.2.2.2.1,p.2.2.2.2.2.1,p.2.2.2.2.2.2.1,p.2.2.2.2.2.2.2.1,p.2.2.2.2.2.2.2.2.1,p.2.2.2.2.2.2.2.2.2.1,p.2.2.2.2.2.2.2.2.2.2.1,p.2.2.2.2.2.2.2.2.2.2.2.1,p.2.2.2.2.2.2.2.2.2.2.2.2.1,p.2.2.2.2.2.2.2.2.2.2.2.2.2.1,p.2.2.2.2.2.2.2.2.2.2.2.2.2.2.1,p.2.2.2.2.2.2.2.2.2.2.2.2.2.2.2.1,p.2.2.2.2.2.2.2.2.2.2.2.2.2.2.2.2⟩) (fun _=>rfl) Tryz.underlying59 ?_ (by kernel_rfl)
 simp only
 refine cF (o':=1) rfl rfl ?_ ?_
 ·exact fj Tryz.underlying3 (by kernel_rfl)
 refine cF (o':=2) rfl rfl ?_ ?_
 ·exact fj Tryz.underlying3 (by kernel_rfl)
 refine cF (o':=3) rfl rfl ?_ ?_
 ·exact fj Tryz.underlying2 (by kernel_rfl)
 refine cF (o':=4) rfl rfl ?_ ?_
 ·exact fj Tryz.underlying2 (by kernel_rfl)
 refine cF (o':=5) rfl rfl ?_ ?_
 ·exact fj Tryz.underlying41 (by kernel_rfl)
 refine cF (o':=6) rfl rfl ?_ ?_
 ·exact fj Tryz.underlying3 (by kernel_rfl)
 refine cF (o':=7) rfl rfl ?_ ?_
 ·exact fj Tryz.underlying2 (by kernel_rfl)
 refine cF (o':=9) rfl rfl ?_ ?_
 ·exact Q5
 refine cF (o':=10) rfl rfl ?_ ?_
 ·refine pJ Tryz.underlying45 ?_ (by decide) (by kernel_rfl)
  exact El
 refine cF (o':=13) rfl rfl ?_ ?_
 ·exact EY
 refine cF (o':=14) rfl rfl ?_ ?_
 ·refine pJ Tryz.underlying49 ?_ (by decide) (by kernel_rfl)
  exact Q7
 refine cF (o':=15) rfl rfl ?_ ?_
 ·refine pJ Tryz.underlying50 ?_ (by decide) (by kernel_rfl)
  exact RL
 refine cF (o':=16) rfl rfl ?_ ?_
 ·exact C3 Tryz.underlying26 Tryz.underlying5 (by kernel_rfl) (by kernel_rfl)
 refine cF (o':=17) rfl rfl ?_ ?_
 ·exact xT Tryz.underlying9 (by kernel_rfl)
 refine cF (o':=18) rfl rfl ?_ ?_
 ·exact fj Tryz.underlying2 (by kernel_rfl)
 refine cF (o':=28) rfl rfl ?_ ?_
 ·exact RM
 refine mI rfl ?_
 exact vn
theorem gJ.parts {ay:Nat->Prop} {w:World} {cs:List Value} {s:aN} (h:gJ.rd ay w cs s):∃v1 v2 v3 v4 v5 v6 v7 v8 v9,cs=[.int .i64 s.kind,.int .i64 s.src,.int .i64 s.view,.int .i64 s.seq,.int .i64 s.an,.int .i64 s.aQ,.int .i64 s.time,.int .i64 s.result.err,.int .i64 s.result.offset,v1,.int .i64 s.cert.seq,.int .i64 s.cert.an,v2,v3,v4,v5,.string (au s.av),.int .i64 s.offset,.string (au s.proof.av),.int .i64 s.proof.offset,v6,v7,.int .i64 s.proof.index,.int .i64 s.proof.count,v8,.int .i64 s.proof.cert.seq,.int .i64 s.proof.cert.an,v9,.int .i64 s.sign.key,.int .i64 s.sign.an]/\(-9223372036854775808<=s.kind/\s.kind<=9223372036854775807)/\(-9223372036854775808<=s.src/\s.src<=9223372036854775807)/\(-9223372036854775808<=s.view/\s.view<=9223372036854775807)/\(-9223372036854775808<=s.seq/\s.seq<=9223372036854775807)/\(-9223372036854775808<=s.an/\s.an<=9223372036854775807)/\(-9223372036854775808<=s.aQ/\s.aQ<=9223372036854775807)/\(-9223372036854775808<=s.time/\s.time<=9223372036854775807)/\(-9223372036854775808<=s.result.err/\s.result.err<=9223372036854775807)/\(-9223372036854775808<=s.result.offset/\s.result.offset<=9223372036854775807)/\(tL iI).rd ay w [v1] s.batch/\(-9223372036854775808<=s.cert.seq/\s.cert.seq<=9223372036854775807)/\(-9223372036854775808<=s.cert.an/\s.cert.an<=9223372036854775807)/\(tL iG).rd ay w [v2] s.cert.cN/\(tL rz).rd ay w [v3] s.changes/\(tL xU).rd ay w [v4] s.entries/\tY.rd ay w [v5] s.state/\s.av.length<=4194304/\(-9223372036854775808<=s.offset/\s.offset<=9223372036854775807)/\s.proof.av.length<=4194304/\(-9223372036854775808<=s.proof.offset/\s.proof.offset<=9223372036854775807)/\tY.rd ay w [v6] s.proof.record/\(tL um).rd ay w [v7] s.proof.headers/\(-9223372036854775808<=s.proof.index/\s.proof.index<=9223372036854775807)/\(-9223372036854775808<=s.proof.count/\s.proof.count<=9223372036854775807)/\(tL tI).rd ay w [v8] s.proof.path/\(-9223372036854775808<=s.proof.cert.seq/\s.proof.cert.seq<=9223372036854775807)/\(-9223372036854775808<=s.proof.cert.an/\s.proof.cert.an<=9223372036854775807)/\(tL iG).rd ay w [v9] s.proof.cert.cN/\(-9223372036854775808<=s.sign.key/\s.sign.key<=9223372036854775807)/\(-9223372036854775808<=s.sign.an/\s.sign.an<=9223372036854775807):=by
 obtain⟨c0,e1,rfl,h0,c1,e2,rfl,h1,c2,e3,rfl,h2,c3,e4,rfl,h3,c4,e5,rfl,h4,c5,e6,rfl,h5,c6,e7,rfl,h6,c7,e8,rfl,h7,c8,e9,rfl,h8,c9,ZN,rfl,h9,c10,e11,rfl,jQ,c11,e12,rfl,gP,c12,e13,rfl,oM,c13,e14,rfl,pZ,c14,e15,rfl,p4,c15,c16,rfl,p6,lK⟩:=h
 obtain⟨rfl,b0⟩:=h0
 obtain⟨rfl,b1⟩:=h1
 obtain⟨rfl,b2⟩:=h2
 obtain⟨rfl,b3⟩:=h3
 obtain⟨rfl,b4⟩:=h4
 obtain⟨rfl,b5⟩:=h5
 obtain⟨rfl,b6⟩:=h6
 obtain⟨rfl,GX,GY⟩:=sH.parts h7
 obtain⟨u8,rfl⟩:=oK ((tL iI).len h8)
 obtain⟨Zf,rfl,Zg,Zh,Zi⟩:=nP.parts h9
 obtain⟨Z6,rfl⟩:=oK ((tL rz).len jQ)
 obtain⟨Z7,rfl⟩:=oK ((tL xU).len gP)
 obtain⟨Z8,rfl⟩:=oK (tY.len oM)
 obtain⟨rfl,Og⟩:=pZ
 obtain⟨rfl,Oh⟩:=p4
 obtain⟨X0,X1,X2,X3,rfl,X4,X5,X6,X7,X8,X9,Ya,Yb,Yc,Yd⟩:=sQ.parts p6
 obtain⟨rfl,Ye,Yf⟩:=iG.parts lK
 exact⟨u8,Zf,Z6,Z7,Z8,X0,X1,X2,X3,rfl,b0,b1,b2,b3,b4,b5,b6,GX,GY,h8,Zg,Zh,Zi,jQ,gP,oM,Og,Oh,X4,X5,X6,X7,X8,X9,Ya,Yb,Yc,Yd,Ye,Yf⟩
theorem gJ.mk {ay:Nat->Prop} {w:World} {s:aN} {v1 v2 v3 v4 v5 v6 v7 v8 v9:Value} (k0:(-9223372036854775808<=s.kind/\s.kind<=9223372036854775807)) (k1:(-9223372036854775808<=s.src/\s.src<=9223372036854775807)) (k2:(-9223372036854775808<=s.view/\s.view<=9223372036854775807)) (k3:(-9223372036854775808<=s.seq/\s.seq<=9223372036854775807)) (k4:(-9223372036854775808<=s.an/\s.an<=9223372036854775807)) (k5:(-9223372036854775808<=s.aQ/\s.aQ<=9223372036854775807)) (k6:(-9223372036854775808<=s.time/\s.time<=9223372036854775807)) (k7:(-9223372036854775808<=s.result.err/\s.result.err<=9223372036854775807)) (k8:(-9223372036854775808<=s.result.offset/\s.result.offset<=9223372036854775807)) (k9:(tL iI).rd ay w [v1] s.batch) (qQ:(-9223372036854775808<=s.cert.seq/\s.cert.seq<=9223372036854775807)) (j4:(-9223372036854775808<=s.cert.an/\s.cert.an<=9223372036854775807)) (qR:(tL iG).rd ay w [v2] s.cert.cN) (Z9:(tL rz).rd ay w [v3] s.changes) (k14:(tL xU).rd ay w [v4] s.entries) (k15:tY.rd ay w [v5] s.state) (k16:s.av.length<=4194304) (k17:(-9223372036854775808<=s.offset/\s.offset<=9223372036854775807)) (k18:s.proof.av.length<=4194304) (k19:(-9223372036854775808<=s.proof.offset/\s.proof.offset<=9223372036854775807)) (k20:tY.rd ay w [v6] s.proof.record) (k21:(tL um).rd ay w [v7] s.proof.headers) (k22:(-9223372036854775808<=s.proof.index/\s.proof.index<=9223372036854775807)) (k23:(-9223372036854775808<=s.proof.count/\s.proof.count<=9223372036854775807)) (k24:(tL tI).rd ay w [v8] s.proof.path) (k25:(-9223372036854775808<=s.proof.cert.seq/\s.proof.cert.seq<=9223372036854775807)) (k26:(-9223372036854775808<=s.proof.cert.an/\s.proof.cert.an<=9223372036854775807)) (k27:(tL iG).rd ay w [v9] s.proof.cert.cN) (k28:(-9223372036854775808<=s.sign.key/\s.sign.key<=9223372036854775807)) (k29:(-9223372036854775808<=s.sign.an/\s.sign.an<=9223372036854775807)):gJ.rd ay w [.int .i64 s.kind,.int .i64 s.src,.int .i64 s.view,.int .i64 s.seq,.int .i64 s.an,.int .i64 s.aQ,.int .i64 s.time,.int .i64 s.result.err,.int .i64 s.result.offset,v1,.int .i64 s.cert.seq,.int .i64 s.cert.an,v2,v3,v4,v5,.string (au s.av),.int .i64 s.offset,.string (au s.proof.av),.int .i64 s.proof.offset,v6,v7,.int .i64 s.proof.index,.int .i64 s.proof.count,v8,.int .i64 s.proof.cert.seq,.int .i64 s.proof.cert.an,v9,.int .i64 s.sign.key,.int .i64 s.sign.an] s:=by
 exact⟨[.int .i64 s.kind],[.int .i64 s.src,.int .i64 s.view,.int .i64 s.seq,.int .i64 s.an,.int .i64 s.aQ,.int .i64 s.time,.int .i64 s.result.err,.int .i64 s.result.offset,v1,.int .i64 s.cert.seq,.int .i64 s.cert.an,v2,v3,v4,v5,.string (au s.av),.int .i64 s.offset,.string (au s.proof.av),.int .i64 s.proof.offset,v6,v7,.int .i64 s.proof.index,.int .i64 s.proof.count,v8,.int .i64 s.proof.cert.seq,.int .i64 s.proof.cert.an,v9,.int .i64 s.sign.key,.int .i64 s.sign.an],rfl,⟨rfl,k0⟩,[.int .i64 s.src],[.int .i64 s.view,.int .i64 s.seq,.int .i64 s.an,.int .i64 s.aQ,.int .i64 s.time,.int .i64 s.result.err,.int .i64 s.result.offset,v1,.int .i64 s.cert.seq,.int .i64 s.cert.an,v2,v3,v4,v5,.string (au s.av),.int .i64 s.offset,.string (au s.proof.av),.int .i64 s.proof.offset,v6,v7,.int .i64 s.proof.index,.int .i64 s.proof.count,v8,.int .i64 s.proof.cert.seq,.int .i64 s.proof.cert.an,v9,.int .i64 s.sign.key,.int .i64 s.sign.an],rfl,⟨rfl,k1⟩,[.int .i64 s.view],[.int .i64 s.seq,.int .i64 s.an,.int .i64 s.aQ,.int .i64 s.time,.int .i64 s.result.err,.int .i64 s.result.offset,v1,.int .i64 s.cert.seq,.int .i64 s.cert.an,v2,v3,v4,v5,.string (au s.av),.int .i64 s.offset,.string (au s.proof.av),.int .i64 s.proof.offset,v6,v7,.int .i64 s.proof.index,.int .i64 s.proof.count,v8,.int .i64 s.proof.cert.seq,.int .i64 s.proof.cert.an,v9,.int .i64 s.sign.key,.int .i64 s.sign.an],rfl,⟨rfl,k2⟩,[.int .i64 s.seq],[.int .i64 s.an,.int .i64 s.aQ,.int .i64 s.time,.int .i64 s.result.err,.int .i64 s.result.offset,v1,.int .i64 s.cert.seq,.int .i64 s.cert.an,v2,v3,v4,v5,.string (au s.av),.int .i64 s.offset,.string (au s.proof.av),.int .i64 s.proof.offset,v6,v7,.int .i64 s.proof.index,.int .i64 s.proof.count,v8,.int .i64 s.proof.cert.seq,.int .i64 s.proof.cert.an,v9,.int .i64 s.sign.key,.int .i64 s.sign.an],rfl,⟨rfl,k3⟩,[.int .i64 s.an],[.int .i64 s.aQ,.int .i64 s.time,.int .i64 s.result.err,.int .i64 s.result.offset,v1,.int .i64 s.cert.seq,.int .i64 s.cert.an,v2,v3,v4,v5,.string (au s.av),.int .i64 s.offset,.string (au s.proof.av),.int .i64 s.proof.offset,v6,v7,.int .i64 s.proof.index,.int .i64 s.proof.count,v8,.int .i64 s.proof.cert.seq,.int .i64 s.proof.cert.an,v9,.int .i64 s.sign.key,.int .i64 s.sign.an],rfl,⟨rfl,k4⟩,[.int .i64 s.aQ],[.int .i64 s.time,.int .i64 s.result.err,.int .i64 s.result.offset,v1,.int .i64 s.cert.seq,.int .i64 s.cert.an,v2,v3,v4,v5,.string (au s.av),.int .i64 s.offset,.string (au s.proof.av),.int .i64 s.proof.offset,v6,v7,.int .i64 s.proof.index,.int .i64 s.proof.count,v8,.int .i64 s.proof.cert.seq,.int .i64 s.proof.cert.an,v9,.int .i64 s.sign.key,.int .i64 s.sign.an],rfl,⟨rfl,k5⟩,[.int .i64 s.time],[.int .i64 s.result.err,.int .i64 s.result.offset,v1,.int .i64 s.cert.seq,.int .i64 s.cert.an,v2,v3,v4,v5,.string (au s.av),.int .i64 s.offset,.string (au s.proof.av),.int .i64 s.proof.offset,v6,v7,.int .i64 s.proof.index,.int .i64 s.proof.count,v8,.int .i64 s.proof.cert.seq,.int .i64 s.proof.cert.an,v9,.int .i64 s.sign.key,.int .i64 s.sign.an],rfl,⟨rfl,k6⟩,[.int .i64 s.result.err,.int .i64 s.result.offset],[v1,.int .i64 s.cert.seq,.int .i64 s.cert.an,v2,v3,v4,v5,.string (au s.av),.int .i64 s.offset,.string (au s.proof.av),.int .i64 s.proof.offset,v6,v7,.int .i64 s.proof.index,.int .i64 s.proof.count,v8,.int .i64 s.proof.cert.seq,.int .i64 s.proof.cert.an,v9,.int .i64 s.sign.key,.int .i64 s.sign.an],rfl,sH.mk k7 k8,[v1],[.int .i64 s.cert.seq,.int .i64 s.cert.an,v2,v3,v4,v5,.string (au s.av),.int .i64 s.offset,.string (au s.proof.av),.int .i64 s.proof.offset,v6,v7,.int .i64 s.proof.index,.int .i64 s.proof.count,v8,.int .i64 s.proof.cert.seq,.int .i64 s.proof.cert.an,v9,.int .i64 s.sign.key,.int .i64 s.sign.an],rfl,k9,[.int .i64 s.cert.seq,.int .i64 s.cert.an,v2],[v3,v4,v5,.string (au s.av),.int .i64 s.offset,.string (au s.proof.av),.int .i64 s.proof.offset,v6,v7,.int .i64 s.proof.index,.int .i64 s.proof.count,v8,.int .i64 s.proof.cert.seq,.int .i64 s.proof.cert.an,v9,.int .i64 s.sign.key,.int .i64 s.sign.an],rfl,nP.mk qQ j4 qR,[v3],[v4,v5,.string (au s.av),.int .i64 s.offset,.string (au s.proof.av),.int .i64 s.proof.offset,v6,v7,.int .i64 s.proof.index,.int .i64 s.proof.count,v8,.int .i64 s.proof.cert.seq,.int .i64 s.proof.cert.an,v9,.int .i64 s.sign.key,.int .i64 s.sign.an],rfl,Z9,[v4],[v5,.string (au s.av),.int .i64 s.offset,.string (au s.proof.av),.int .i64 s.proof.offset,v6,v7,.int .i64 s.proof.index,.int .i64 s.proof.count,v8,.int .i64 s.proof.cert.seq,.int .i64 s.proof.cert.an,v9,.int .i64 s.sign.key,.int .i64 s.sign.an],rfl,k14,[v5],[.string (au s.av),.int .i64 s.offset,.string (au s.proof.av),.int .i64 s.proof.offset,v6,v7,.int .i64 s.proof.index,.int .i64 s.proof.count,v8,.int .i64 s.proof.cert.seq,.int .i64 s.proof.cert.an,v9,.int .i64 s.sign.key,.int .i64 s.sign.an],rfl,k15,[.string (au s.av)],[.int .i64 s.offset,.string (au s.proof.av),.int .i64 s.proof.offset,v6,v7,.int .i64 s.proof.index,.int .i64 s.proof.count,v8,.int .i64 s.proof.cert.seq,.int .i64 s.proof.cert.an,v9,.int .i64 s.sign.key,.int .i64 s.sign.an],rfl,⟨rfl,k16⟩,[.int .i64 s.offset],[.string (au s.proof.av),.int .i64 s.proof.offset,v6,v7,.int .i64 s.proof.index,.int .i64 s.proof.count,v8,.int .i64 s.proof.cert.seq,.int .i64 s.proof.cert.an,v9,.int .i64 s.sign.key,.int .i64 s.sign.an],rfl,⟨rfl,k17⟩,[.string (au s.proof.av),.int .i64 s.proof.offset,v6,v7,.int .i64 s.proof.index,.int .i64 s.proof.count,v8,.int .i64 s.proof.cert.seq,.int .i64 s.proof.cert.an,v9],[.int .i64 s.sign.key,.int .i64 s.sign.an],rfl,sQ.mk k18 k19 k20 k21 k22 k23 k24 k25 k26 k27,iG.mk k28 k29⟩
structure dX where
 f:Int
 eU:Int
 eO:Int
 room:Int
 av:List UInt8
def jz:Ty dX:=tM (tP tI (tP tW (tP tW (tP tI tS)))) (fun s:dX=>(s.f,s.eU,s.eO,s.room,s.av))
theorem RN:gX Tryz.prog 25 jz:=by
 refine mO (fun p=>⟨p.1,p.2.1,p.2.2.1,p.2.2.2.1,p.2.2.2.2⟩) (fun _=>rfl) Tryz.underlying25 ?_ (by kernel_rfl)
 simp only
 refine cF (o':=1) rfl rfl ?_ ?_
 ·exact fj Tryz.underlying3 (by kernel_rfl)
 refine cF (o':=2) rfl rfl ?_ ?_
 ·exact M3 Tryz.underlying23 (by kernel_rfl)
 refine cF (o':=3) rfl rfl ?_ ?_
 ·exact M3 Tryz.underlying23 (by kernel_rfl)
 refine cF (o':=4) rfl rfl ?_ ?_
 ·exact fj Tryz.underlying3 (by kernel_rfl)
 refine mI rfl ?_
 exact xT Tryz.underlying9 (by kernel_rfl)
theorem jz.parts {ay:Nat->Prop} {w:World} {cs:List Value} {s:dX} (h:jz.rd ay w cs s):cs=[.int .i64 s.f,.int .u16 s.eU,.int .u16 s.eO,.int .i64 s.room,.string (au s.av)]/\(-9223372036854775808<=s.f/\s.f<=9223372036854775807)/\(0<=s.eU/\s.eU<=65535)/\(0<=s.eO/\s.eO<=65535)/\(-9223372036854775808<=s.room/\s.room<=9223372036854775807)/\s.av.length<=4194304:=by
 obtain⟨c0,e1,rfl,h0,c1,e2,rfl,h1,c2,e3,rfl,h2,c3,c4,rfl,h3,h4⟩:=h
 obtain⟨rfl,b0⟩:=h0
 obtain⟨rfl,b1⟩:=h1
 obtain⟨rfl,b2⟩:=h2
 obtain⟨rfl,b3⟩:=h3
 obtain⟨rfl,b4⟩:=h4
 exact⟨rfl,b0,b1,b2,b3,b4⟩
theorem jz.mk {ay:Nat->Prop} {w:World} {s:dX} (k0:(-9223372036854775808<=s.f/\s.f<=9223372036854775807)) (k1:(0<=s.eU/\s.eU<=65535)) (k2:(0<=s.eO/\s.eO<=65535)) (k3:(-9223372036854775808<=s.room/\s.room<=9223372036854775807)) (k4:s.av.length<=4194304):jz.rd ay w [.int .i64 s.f,.int .u16 s.eU,.int .u16 s.eO,.int .i64 s.room,.string (au s.av)] s:=by
 exact⟨[.int .i64 s.f],[.int .u16 s.eU,.int .u16 s.eO,.int .i64 s.room,.string (au s.av)],rfl,⟨rfl,k0⟩,[.int .u16 s.eU],[.int .u16 s.eO,.int .i64 s.room,.string (au s.av)],rfl,⟨rfl,k1⟩,[.int .u16 s.eO],[.int .i64 s.room,.string (au s.av)],rfl,⟨rfl,k2⟩,[.int .i64 s.room],[.string (au s.av)],rfl,⟨rfl,k3⟩,⟨rfl,k4⟩⟩
structure aS where
 kind:Int
 aL:Int
 num:Int
 op:bF
 bytes:List UInt8
 msg:aN
 fL:Bool
def gB:Ty aS:=tM (tP tI (tP tI (tP tI (tP cL (tP tY (tP gJ tB)))))) (fun s:aS=>(s.kind,s.aL,s.num,s.op,s.bytes,s.msg,s.fL))
theorem Us:gX Tryz.prog 61 gB:=by
 refine mO (fun p=>⟨p.1,p.2.1,p.2.2.1,p.2.2.2.1,p.2.2.2.2.1,p.2.2.2.2.2.1,p.2.2.2.2.2.2⟩) (fun _=>rfl) Tryz.underlying61 ?_ (by kernel_rfl)
 simp only
 refine cF (o':=1) rfl rfl ?_ ?_
 ·exact fj Tryz.underlying3 (by kernel_rfl)
 refine cF (o':=2) rfl rfl ?_ ?_
 ·exact fj Tryz.underlying3 (by kernel_rfl)
 refine cF (o':=3) rfl rfl ?_ ?_
 ·exact fj Tryz.underlying3 (by kernel_rfl)
 refine cF (o':=8) rfl rfl ?_ ?_
 ·exact Mp
 refine cF (o':=9) rfl rfl ?_ ?_
 ·exact C3 Tryz.underlying26 Tryz.underlying5 (by kernel_rfl) (by kernel_rfl)
 refine cF (o':=39) rfl rfl ?_ ?_
 ·exact Ur
 refine mI rfl ?_
 exact Xb Tryz.underlying4 (by kernel_rfl)
structure jj where
 cx:dX
 fo:List (aS)
def pg:Ty jj:=tM (tP jz (tL gB)) (fun s:jj=>(s.cx,s.fo))
theorem Q8:gX Tryz.prog 69 pg:=by
 refine mO (fun p=>⟨p.1,p.2⟩) (fun _=>rfl) Tryz.underlying69 ?_ (by kernel_rfl)
 simp only
 refine cF (o':=5) rfl rfl ?_ ?_
 ·exact RN
 refine mI rfl ?_
 refine pJ Tryz.underlying67 ?_ (by decide) (by kernel_rfl)
 exact Us
theorem pg.mk {ay:Nat->Prop} {w:World} {s:jj} {v1:Value} (k0:(-9223372036854775808<=s.cx.f/\s.cx.f<=9223372036854775807)) (k1:(0<=s.cx.eU/\s.cx.eU<=65535)) (k2:(0<=s.cx.eO/\s.cx.eO<=65535)) (k3:(-9223372036854775808<=s.cx.room/\s.cx.room<=9223372036854775807)) (k4:s.cx.av.length<=4194304) (k5:(tL gB).rd ay w [v1] s.fo):pg.rd ay w [.int .i64 s.cx.f,.int .u16 s.cx.eU,.int .u16 s.cx.eO,.int .i64 s.cx.room,.string (au s.cx.av),v1] s:=by
 exact⟨[.int .i64 s.cx.f,.int .u16 s.cx.eU,.int .u16 s.cx.eO,.int .i64 s.cx.room,.string (au s.cx.av)],[v1],rfl,jz.mk k0 k1 k2 k3 k4,k5⟩
end Go.Proofs.YtafomdobfmmleaaGreatDoor

/- Lemmas and contracts. -/
namespace Go.Proofs.YtafomdobfmmleaaGreatDoor
set_option linter.unusedSectionVars false
variable [Old]
set_option linter.unusedVariables false
def kU (b:List UInt8):List D:=[.list 1 (b.map aE)]
def eY (n:Int):List D:=[.int .i64 n]
def jC:Dt bH:=dM (dP dI dI) (fun s:bH=>(s.key,s.an))
def bu (s:bH):List D:=[.int .i64 s.key,.int .i64 s.an]
set_option maxRecDepth 10000 in
theorem vT:Lk iG jC:=nv _ (cJ fC fC)
def jc:Dt bF:=dM (dP dI (dP dS (dP dS (dP dI (dL dY))))) (fun s:bF=>(s.kind,s.av,s.group,s.offset,s.records))
def cI (s:bF):List D:=[.int .i64 s.kind,.str s.av,.str s.group,.int .i64 s.offset,.list 1 (s.records.map kU)]
set_option maxRecDepth 10000 in
theorem wm:Lk cL jc:=nv _ (cJ fC (cJ y8 (cJ y8 (cJ fC (nV D7)))))
def lU:Dt lT:=dM (dP dI dI) (fun s:lT=>(s.err,s.offset))
def uc (s:lT):List D:=[.int .i64 s.err,.int .i64 s.offset]
set_option maxRecDepth 10000 in
theorem UX:Lk sH lU:=nv _ (cJ fC fC)
def zQ:Dt jg:=dM (dP dI (dP dI jc)) (fun s:jg=>(s.aQ,s.time,s.op))
def Ci (s:jg):List D:=[.int .i64 s.aQ,.int .i64 s.time,.int .i64 s.op.kind,.str s.op.av,.str s.op.group,.int .i64 s.op.offset,.list 1 (s.op.records.map kU)]
set_option maxRecDepth 10000 in
theorem Ta:Lk mH zQ:=nv _ (cJ fC (cJ fC wm))
def gF:Dt cq:=dM (dP zQ jC) (fun s:cq=>(s.request,s.sign))
def cZ (s:cq):List D:=[.int .i64 s.request.aQ,.int .i64 s.request.time,.int .i64 s.request.op.kind,.str s.request.op.av,.str s.request.op.group,.int .i64 s.request.op.offset,.list 1 (s.request.op.records.map kU),.int .i64 s.sign.key,.int .i64 s.sign.an]
set_option maxRecDepth 10000 in
theorem zO:Lk iI gF:=nv _ (cJ Ta vT)
def CO:Dt iS:=dM (dP dI (dP dI (dP dI (dP dI dI)))) (fun s:iS=>(s.seq,s.prev,s.batch,s.root,s.state))
def eM (s:iS):List D:=[.int .i64 s.seq,.int .i64 s.prev,.int .i64 s.batch,.int .i64 s.root,.int .i64 s.state]
set_option maxRecDepth 10000 in
theorem UY:Lk um CO:=nv _ (cJ fC (cJ fC (cJ fC (cJ fC fC))))
def gV:Dt gU:=dM (dP dI (dP dI (dL jC))) (fun s:gU=>(s.seq,s.an,s.cN))
def mh (s:gU):List D:=[.int .i64 s.seq,.int .i64 s.an,.list 2 (s.cN.map bu)]
set_option maxRecDepth 10000 in
theorem Gu:Lk nP gV:=nv _ (cJ fC (cJ fC (nV vT)))
def oU:Dt gq:=dM (dP dI (dP dI (dP dI (dP jC (dP (dL jC) (dL gF)))))) (fun s:gq=>(s.view,s.seq,s.an,s.lz,s.cN,s.batch))
def eK (s:gq):List D:=[.int .i64 s.view,.int .i64 s.seq,.int .i64 s.an,.int .i64 s.lz.key,.int .i64 s.lz.an,.list 2 (s.cN.map bu),.list 9 (s.batch.map cZ)]
set_option maxRecDepth 10000 in
theorem R7:Lk zG oU:=nv _ (cJ fC (cJ fC (cJ fC (cJ vT (cJ (nV vT) (nV zO))))))
def gG:Dt cX:=dM (dP dI (dP dI (dP gV (dP (dL oU) jC)))) (fun s:cX=>(s.view,s.src,s.cert,s.cR,s.sign))
def bW (s:cX):List D:=[.int .i64 s.view,.int .i64 s.src,.int .i64 s.cert.seq,.int .i64 s.cert.an,.list 2 (s.cert.cN.map bu),.list 7 (s.cR.map eK),.int .i64 s.sign.key,.int .i64 s.sign.an]
set_option maxRecDepth 10000 in
theorem UZ:Lk rz gG:=nv _ (cJ fC (cJ fC (cJ Gu (cJ (nV R7) vT))))
def jw:Dt gH:=dM (dP dI (dP dI (dP (dL gF) jC))) (fun s:gH=>(s.view,s.seq,s.batch,s.sign))
def dH (s:gH):List D:=[.int .i64 s.view,.int .i64 s.seq,.list 9 (s.batch.map cZ),.int .i64 s.sign.key,.int .i64 s.sign.an]
set_option maxRecDepth 10000 in
theorem WE:Lk xU jw:=nv _ (cJ fC (cJ fC (cJ (nV zO) vT)))
def jk:Dt jL:=dM (dP dS (dP dI (dP dY (dP (dL CO) (dP dI (dP dI (dP (dL dI) gV))))))) (fun s:jL=>(s.av,s.offset,s.record,s.headers,s.index,s.count,s.path,s.cert))
def j8 (s:jL):List D:=[.str s.av,.int .i64 s.offset,.list 1 (s.record.map aE),.list 5 (s.headers.map eM),.int .i64 s.index,.int .i64 s.count,.list 1 (s.path.map eY),.int .i64 s.cert.seq,.int .i64 s.cert.an,.list 2 (s.cert.cN.map bu)]
set_option maxRecDepth 10000 in
theorem WG:Lk sQ jk:=nv _ (cJ y8 (cJ fC (cJ D7 (cJ (nV UY) (cJ fC (cJ fC (cJ (nV fC) Gu)))))))
def cr:Dt aN:=dM (dP dI (dP dI (dP dI (dP dI (dP dI (dP dI (dP dI (dP lU (dP (dL gF) (dP gV (dP (dL gG) (dP (dL jw) (dP dY (dP dS (dP dI (dP jk jC)))))))))))))))) (fun s:aN=>(s.kind,s.src,s.view,s.seq,s.an,s.aQ,s.time,s.result,s.batch,s.cert,s.changes,s.entries,s.state,s.av,s.offset,s.proof,s.sign))
def aU (s:aN):List D:=[.int .i64 s.kind,.int .i64 s.src,.int .i64 s.view,.int .i64 s.seq,.int .i64 s.an,.int .i64 s.aQ,.int .i64 s.time,.int .i64 s.result.err,.int .i64 s.result.offset,.list 9 (s.batch.map cZ),.int .i64 s.cert.seq,.int .i64 s.cert.an,.list 2 (s.cert.cN.map bu),.list 8 (s.changes.map bW),.list 5 (s.entries.map dH),.list 1 (s.state.map aE),.str s.av,.int .i64 s.offset,.str s.proof.av,.int .i64 s.proof.offset,.list 1 (s.proof.record.map aE),.list 5 (s.proof.headers.map eM),.int .i64 s.proof.index,.int .i64 s.proof.count,.list 1 (s.proof.path.map eY),.int .i64 s.proof.cert.seq,.int .i64 s.proof.cert.an,.list 2 (s.proof.cert.cN.map bu),.int .i64 s.sign.key,.int .i64 s.sign.an]
set_option maxRecDepth 10000 in
theorem Yv:Lk gJ cr:=nv _ (cJ fC (cJ fC (cJ fC (cJ fC (cJ fC (cJ fC (cJ fC (cJ UX (cJ (nV zO) (cJ Gu (cJ (nV UZ) (cJ (nV WE) (cJ D7 (cJ y8 (cJ fC (cJ WG vT))))))))))))))))
def mM:Dt dX:=dM (dP dI (dP dW (dP dW (dP dI dS)))) (fun s:dX=>(s.f,s.eU,s.eO,s.room,s.av))
def vR (s:dX):List D:=[.int .i64 s.f,.int .u16 s.eU,.int .u16 s.eO,.int .i64 s.room,.str s.av]
set_option maxRecDepth 10000 in
theorem Ma:Lk jz mM:=nv _ (cJ fC (cJ O6 (cJ O6 (cJ fC y8))))
def ey:Dt aS:=dM (dP dI (dP dI (dP dI (dP jc (dP dY (dP cr dB)))))) (fun s:aS=>(s.kind,s.aL,s.num,s.op,s.bytes,s.msg,s.fL))
def cg (s:aS):List D:=[.int .i64 s.kind,.int .i64 s.aL,.int .i64 s.num,.int .i64 s.op.kind,.str s.op.av,.str s.op.group,.int .i64 s.op.offset,.list 1 (s.op.records.map kU),.list 1 (s.bytes.map aE),.int .i64 s.msg.kind,.int .i64 s.msg.src,.int .i64 s.msg.view,.int .i64 s.msg.seq,.int .i64 s.msg.an,.int .i64 s.msg.aQ,.int .i64 s.msg.time,.int .i64 s.msg.result.err,.int .i64 s.msg.result.offset,.list 9 (s.msg.batch.map cZ),.int .i64 s.msg.cert.seq,.int .i64 s.msg.cert.an,.list 2 (s.msg.cert.cN.map bu),.list 8 (s.msg.changes.map bW),.list 5 (s.msg.entries.map dH),.list 1 (s.msg.state.map aE),.str s.msg.av,.int .i64 s.msg.offset,.str s.msg.proof.av,.int .i64 s.msg.proof.offset,.list 1 (s.msg.proof.record.map aE),.list 5 (s.msg.proof.headers.map eM),.int .i64 s.msg.proof.index,.int .i64 s.msg.proof.count,.list 1 (s.msg.proof.path.map eY),.int .i64 s.msg.proof.cert.seq,.int .i64 s.msg.proof.cert.an,.list 2 (s.msg.proof.cert.cN.map bu),.int .i64 s.msg.sign.key,.int .i64 s.msg.sign.an,.bool s.fL]
set_option maxRecDepth 10000 in
theorem Nw:Lk gB ey:=nv _ (cJ fC (cJ fC (cJ fC (cJ wm (cJ D7 (cJ Yv LkB))))))
def Ae:Dt jj:=dM (dP mM (dL ey)) (fun s:jj=>(s.cx,s.fo))
def xI (s:jj):List D:=[.int .i64 s.cx.f,.int .u16 s.cx.eU,.int .u16 s.cx.eO,.int .i64 s.cx.room,.str s.cx.av,.list 40 (s.fo.map cg)]
set_option maxRecDepth 10000 in
theorem Lr:Lk pg Ae:=nv _ (cJ Ma (nV Nw))
end Go.Proofs.YtafomdobfmmleaaGreatDoor

/- Lemmas and contracts. -/
namespace Go.Proofs.YtafomdobfmmleaaGreatDoor
open Go.RowKit
set_option linter.unusedSectionVars false
variable [Wd]
set_option linter.unusedVariables false
abbrev aJ (P:Program) (f:FuncId) (ar:List D) (r:D):Prop:=bf P f ar [] (fun r' h'=>r'=r/\h'=[])
theorem LI (σ:List Nat):∀(d:D),gh d=true->d.bG σ=d
 |.agg cs,h=>by simp only[D.bG];rw[go cs h]
 |.aD cs,h=>by simp only[D.bG];rw[go cs h]
 |.fn f n cs,h=>by simp only[D.bG];rw[go cs h]
 |.bool _,_|.int _ _,_|.str _,_|.list _ _,_|.own _ _,_|.nils,_|.dF,_|.aB,_|.iW,_|.ref _,_=>rfl
 |.ptr _ _,h|.row _,h|.fq _ _ _ _,h|.ia _,h|.eZ _,h|.any,h|.bad,h=>by cases h
 where go:∀(cs:List D),gh.pl cs=true->D.bG.rl σ cs=cs
 |[],_=>rfl
 |d::ds,h=>by
  simp only[gh.pl,Bool.and_eq_true] at h
  rw[D.bG.rl,LI σ d h.1,go ds h.2]
theorem Fv (h:List AO):∀d:D,d.cM h []=d
 |.agg cs=>by simp only[D.cM];rw[go cs]
 |.aD cs=>by simp only[D.cM];rw[go cs]
 |.row o=>rfl
 |.fn _ _ _=>rfl
 |.bool _|.int _ _|.str _|.list _ _|.own _ _|.nils|.dF|.aB|.iW|.ref _|.ptr _ _|.fq _ _ _ _|.ia _|.eZ _|.any|.bad=>rfl
 where go:∀cs:List D,D.cM.fl h [] cs=cs
 |[]=>rfl
 |d::ds=>by rw[D.cM.fl,Fv h d,go ds]
theorem MK (h:List AO):∀(l:List AO) (k:Nat),qh h [] k l=l
 |[],k=>rfl
 |a::l,k=>by
  rw[qh,MK h l]
  cases a with
  |cells t cs=>simp only[AO.cM,Fv.go];rfl
  |row t n xs=>rfl
  |gone=>rfl
theorem vJ (s:S):s.cM []=s:=by
 cases s with
 |mk t h=>
  simp only[S.cM,MK]
  congr 1
  rw[show(fun x:Nat×D=>(x.1,x.2.cM h []))=id from funext fun x=>by rw[Fv];rfl]
  simp
section
variable {P:Program} {Q:Exit->S->Prop}
theorem aG {b:Bool} {t f:T} (h1:b=true->t.ok P Q) (h2:b=false->f.ok P Q):(T.br b t f).ok P Q:=⟨h1,h2⟩
theorem ah {t f:T} (h:t.ok P Q):(T.br true t f).ok P Q:=⟨fun _=>h,fun e=>(by cases e)⟩
theorem aj {t f:T} (h:f.ok P Q):(T.br false t f).ok P Q:=⟨fun e=>(by cases e),fun _=>h⟩
theorem af {p:Prop} {t:T} (h:p) (k:t.ok P Q):(T.ask p t).ok P Q:=⟨h,k⟩
theorem aA {a b:T} (h:a.ok P Q) (k:b.ok P Q):(T.both a b).ok P Q:=⟨h,k⟩
theorem aP {k:IntKind} {e:Int} {c:Int->T} (hw:k.wrap e=e) (h:(c e).ok P Q):(T.wrap k e c).ok P Q:=by
 show(c (k.wrap e)).ok P Q
 rw[hw];exact h
theorem uG {k:IntKind} {e:Int} {c:Int->T} (h:(c (k.wrap e)).ok P Q):(T.wrap k e c).ok P Q:=h
theorem kS {xs:List (List D)} {i:Int} {c:List D->T} (x:List D) (h0:0<=i) (h1:xs[i.toNat]?=some x) (h:(c x).ok P Q):(T.nth xs i c).ok P Q:=⟨x,h0,h1,h⟩
theorem cV {α:Type} {l:List α} {f:α->List D} {q:Nat} {c:List D->T} (hq:q<l.length) (h:∀x,l[q]?=some x->(c (f x)).ok P Q):(T.nth (l.map f) (q:Int) c).ok P Q:=
 ⟨f l[q],Int.natCast_nonneg q,by simp[hq],h _ (List.getElem?_eq_getElem hq)⟩
theorem gS {s:List UInt8} {i:Int} {c:UInt8->T} (x:UInt8) (h0:0<=i) (h1:s[i.toNat]?=some x) (h:(c x).ok P Q):(T.byte s i c).ok P Q:=⟨x,h0,h1,h⟩
theorem kO {xs:List (List D)} {c:List UInt8->T} (s:List UInt8) (h1:xs=s.map aE) (h:(c s).ok P Q):(T.AX xs c).ok P Q:=⟨s,h1,h⟩
theorem ak {f:FuncId} {ar cu:List D} {h:List AO} {c:D->List AO->T} {r:D} (hF:aJ P f ar r) (hp:gh.pl ar=true) (hc:aa cu ar) (k:(c r h).ok P Q):(T.call f cu h c).ok P Q:=
 ⟨_,hF.pure (R:=fun r'=>r'=r) hp hc,fun r' h' ⟨e1,e2⟩=>by subst e1 e2;exact k⟩
theorem dx {f:FuncId} {ar cu:List D} {hs hb:List AO} {c:D->List AO->T} {r:D} {jR:List AO} (σ:List Nat) (hF:bf P f ar hs (fun r' h'=>r'=r/\h'=jR)) (V:View σ hb hs) (hc:aa cu (D.bG.rl σ ar)) (hM:(σ.all fun o=>(kg hb cu).elem o)=true) (k:(c (r.bG (mY hb σ hs jR)) (mW hb σ hs jR)).ok P Q):(T.call f cu hb c).ok P Q:=
 ⟨_,hF.bz V hc (fun o ho=>by have:=List.all_eq_true.1 hM o ho;simpa using this),fun r' h' ⟨r0,h0,⟨e1,e2⟩,e3,e4⟩=>by subst e1 e2 e3 e4;exact k⟩
theorem jo {tb:TT} {rs:List ResultVar} {e:Exit} {s:S} {r:D} (fz:List Nat) {ds:List D} (he:e=.normal\/e=.ret) (hr:jG tb (s.cM fz) rs=some ds) (iZ:Co (lJ ds) r) (hp:gh r=true):(T.leaf e s).ok P (Lf tb rs [] (fun r' h'=>r'=r/\h'=[])):=
 ⟨he,fz,ds,hr,[],r,r,[],⟨rfl,fun i j o h=>by simp at h,fun i o a h=>by simp at h⟩,iZ,(LI [] r hp).symm,fun o t cs h=>by simp at h,rfl,rfl⟩
theorem bq {tb:TT} {rs:List ResultVar} {e:Exit} {s:S} {r:D} {ds:List D} (he:e=.normal\/e=.ret) (hr:jG tb s rs=some ds) (iZ:Co (lJ ds) r) (hp:gh r=true):(T.leaf e s).ok P (Lf tb rs [] (fun r' h'=>r'=r/\h'=[])):=
 jo [] he (by rw[vJ];exact hr) iZ hp
theorem F3 {tb:TT} {rs:List ResultVar} {e:Exit} {s:S} {k:IntKind} {n m:Int} (he:e=.normal\/e=.ret) (hr:jG tb s rs=some [.int k n]) (h:n=m):(T.leaf e s).ok P (Lf tb rs [] (fun r' h'=>r'=.int k m/\h'=[])):=by
 subst h
 exact bq he hr (.refl _) rfl
theorem bT {tb:TT} {rs:List ResultVar} {e:Exit} {s:S} {n m:Bool} (he:e=.normal\/e=.ret) (hr:jG tb s rs=some [.bool n]) (h:n=m):(T.leaf e s).ok P (Lf tb rs [] (fun r' h'=>r'=.bool m/\h'=[])):=by
 subst h
 exact bq he hr (.refl _) rfl
end
def nodupB:List Nat->Bool
 |[]=>true
 |o::r=>!r.elem o&&nodupB r
def kK (h:List AO) (σ:List Nat):List Nat->List AO->Prop
 |[],[]=>True
 |o::r,a::l=>(Nat.blt o h.length=true/\lh h o=a.bG σ)/\kK h σ r l
 |_,_=>False
theorem KT:∀{l:List Nat},nodupB l=true->∀(i j o:Nat),l[i]?=some o->l[j]?=some o->i=j
 |[],_,i,j,o,h,_=>by simp at h
 |x::r,h,i,j,o,h1,h2=>by
  simp only[nodupB,Bool.and_eq_true,Bool.not_eq_true'] at h
  have hx:x∉r:=by
   intro hm
   have:r.elem x=true:=by simpa using hm
   rw[this] at h
   cases h.1
  cases i with
  |zero=>
   cases j with
   |zero=>rfl
   |succ j=>
    simp at h1 h2
    subst h1
    exact absurd (List.mem_of_getElem? h2) hx
  |succ i=>
   cases j with
   |zero=>
    simp at h1 h2
    subst h2
    exact absurd (List.mem_of_getElem? h1) hx
   |succ j=>
    simp at h1 h2
    rw[KT h.2 i j o h1 h2]
theorem Yw {h:List AO} {o:Nat} {a:AO} (hl:o<h.length) (k:lh h o=a):h[o]?=some a:=by
 have:∀(l:List AO) (n:Nat),n<l.length->l[n]?=some (lh l n):=by
  intro l
  induction l with
  |nil=>intro n h;simp at h
  |cons b l ih=>
   intro n h
   cases n with
   |zero=>simp[lh]
   |succ n=>simp at h;simp[lh,ih n h]
 rw[this h o hl,k]
theorem FZ {h:List AO} {σ:List Nat}:∀{r:List Nat} {l:List AO},kK h σ r l->r.length=l.length/\∀(i o:Nat) a,r[i]?=some o->l[i]?=some a->h[o]?=some (a.bG σ)
 |[],[],_=>⟨rfl,fun i o a h=>by simp at h⟩
 |o::r,a::l,k=>by
  obtain⟨⟨k1,k2⟩,k3⟩:=k
  obtain⟨e1,e2⟩:=FZ k3
  refine⟨by simp[e1],fun i o' a' h1 h2=>?_⟩
  cases i with
  |zero=>simp at h1 h2;subst h1 h2;exact Yw (Nat.le_of_ble_eq_true k1) k2
  |succ i=>simp at h1 h2;exact e2 i o' a' h1 h2
 |[],_::_,k=>k.elim
 |_::_,[],k=>k.elim
theorem View.mk' {σ:List Nat} {h h':List AO} (hn:nodupB σ=true) (hv:kK h σ σ h'):View σ h h':=
 ⟨(FZ hv).1,KT hn,(FZ hv).2⟩
def I3 (t:List (Nat×D)) (σ:List Nat):List (Nat×D)->Prop
 |[]=>True
 |(j,d)::r=>lk t j=d.bG σ/\I3 t σ r
theorem Nd {t:List (Nat×D)} {σ:List Nat}:∀{l:List (Nat×D)},I3 t σ l->∀j,lk l j=.any\/lk t j=(lk l j).bG σ
 |[],_,j=>.inl rfl
 |(i,d)::r,k,j=>by
  simp only[lk]
  cases hb:Nat.beq j i with
  |true=>
   cases Nat.eq_of_beq_eq_true hb
   exact .inr k.1
  |false=>exact Nd k.2 j
def D8:Nat->List Nat->Bool
 |0,_=>true
 |n+1,σ=>(match ln σ n with|some o=>Nat.beq o n|none=>false)&&D8 n σ
theorem Nf {σ:List Nat}:∀{m:Nat},D8 m σ=true->∀i,i<m->σ[i]?=some i
 |0,_,i,h=>by omega
 |n+1,h,i,hi=>by
  simp only[D8,Bool.and_eq_true] at h
  by_cases e:i=n
  ·subst e
   rw[<-rE]
   cases hl:ln σ i with
   |none=>rw[hl] at h;cases h.1
   |some o=>rw[hl] at h;rw[Nat.eq_of_beq_eq_true h.1]
  ·exact Nf h.2 i (by omega)
theorem Sv.mk' {m:Nat} {s s':S} (σ:List Nat) (h1:(nodupB σ&&D8 m σ)=true) (h2:kK s.h σ σ s'.h) (h3:I3 s.t σ s'.t):Sv m s s':=by
 rw[Bool.and_eq_true] at h1
 exact⟨σ,.mk' h1.1 h2,Nf h1.2,Nd h3⟩
theorem cD {P:Program} {Q:Exit->S->Prop} {α:Type} {m:Nat} {s:S} {body:S->T} {c:Exit->S->T} (st:α->S) (J:α->Prop) (μ:α->Nat) (a0:α) (h0:J a0) (hv:Sv m s (st a0))
 (hb:∀a,J a->(body (st a)).ok P fun e s'=>match e with
   |.normal=>∃a',Sv m s' (st a')/\J a'/\μ a'<μ a
   |e=>(c e s').ok P Q):(T.loop m s body c).ok P Q:=by
 classical
 have hex:∀s,(∃a,s=st a/\J a)->∃n,∃a,s=st a/\J a/\μ a=n:=fun s ⟨a,h1,h2⟩=>⟨_,a,h1,h2,rfl⟩
 let μ':S->Nat:=fun s=>if hh:∃a,s=st a/\J a then Classical.choose (least (hex s hh)) else 0
 have wD:∀s (hh:∃a,s=st a/\J a),μ' s=Classical.choose (least (hex s hh)):=fun s hh=>by simp only[μ',dif_pos hh]
 have hle:∀a,J a->μ' (st a)<=μ a:=fun a h2=>by
  have hh:∃b,st a=st b/\J b:=⟨a,rfl,h2⟩
  rw[wD _ hh]
  exact(Classical.choose_spec (least (hex _ hh))).2 _ ⟨a,rfl,h2,rfl⟩
 have p9:∀s,(∃a,s=st a/\J a)->∃a,s=st a/\J a/\μ a=μ' s:=fun s hh=>by
  rw[wD s hh]
  exact(Classical.choose_spec (least (hex s hh))).1
 refine⟨fun s=>∃a,s=st a/\J a,μ',⟨st a0,hv,a0,rfl,h0⟩,fun s0 hs=>?_⟩
 obtain⟨a,rfl,hJ,hμ⟩:=p9 s0 hs
 refine T.Wr (fun e s' he=>?_) (hb a hJ)
 cases e with
 |normal=>
  obtain⟨a',k1,k2,k3⟩:=he
  exact⟨st a',k1,⟨a',rfl,k2⟩,by have:=hle a' k2;omega⟩
 |_=>exact he
theorem bV {P:Program} {Q:Exit->S->Prop} {α:Type} {m n:Nat} {s':S} {c:Exit->S->T} {st:α->S} {J:α->Prop} {μ:α->Nat} (a':α) (hv:Sv m s' (st a')) (hJ:J a') (hμ:μ a'<n):(T.leaf .normal s').ok P (fun e s'=>match e with
 |.normal=>∃a',Sv m s' (st a')/\J a'/\μ a'<n
 |e=>(c e s').ok P Q):=⟨a',hv,hJ,hμ⟩
theorem bD {P:Program} {Q:Exit->S->Prop} {α:Type} {m n:Nat} {s':S} {c:Exit->S->T} {st:α->S} {J:α->Prop} {μ:α->Nat} {id:Nat} (h:(c (.exit id) s').ok P Q):(T.leaf (.exit id) s').ok P (fun e s'=>match e with
 |.normal=>∃a',Sv m s' (st a')/\J a'/\μ a'<n
 |e=>(c e s').ok P Q):=h
theorem fF {P:Program} {Q:Exit->S->Prop} {α:Type} {m n:Nat} {s':S} {c:Exit->S->T} {st:α->S} {J:α->Prop} {μ:α->Nat} (h:(c .ret s').ok P Q):(T.leaf .ret s').ok P (fun e s'=>match e with
 |.normal=>∃a',Sv m s' (st a')/\J a'/\μ a'<n
 |e=>(c e s').ok P Q):=h
def rJ:Nat->List AO->List Nat->List AO->Prop
 |_,[],_,_=>True
 |i,.cells _ _::r,σ,h'=>(ln σ i=some i/\nu (lh h' i)=true)/\rJ (i+1) r σ h'
 |i,_::r,σ,h'=>rJ (i+1) r σ h'
theorem xu {σ:List Nat} {h':List AO}:∀{h:List AO} {k:Nat},rJ k h σ h'->∀(o:Nat) t cs,h[o]?=some (.cells t cs)->σ[k+o]?=some (k+o)/\∃t' fB,h'[k+o]?=some (.cells t' fB)
 |[],k,_,o,t,cs,h1=>by simp at h1
 |a::r,k,hk,o,t,cs,h1=>by
  have hr:rJ (k+1) r σ h':=by cases a<;>first|exact hk.2|exact hk
  cases o with
  |zero=>
   simp at h1
   subst h1
   obtain⟨⟨k1,k2⟩,_⟩:=hk
   rw[rE] at k1
   exact⟨k1,Db k2⟩
  |succ o=>
   simp at h1
   have:=xu hr o t cs h1
   rw[show k+(o+1)=k+1+o from by omega]
   exact this
section
variable {P:Program}
theorem mL {tb:TT} {rs:List ResultVar} {e:Exit} {s:S} {h:List AO} {r:D} {h':List AO} {ds:List D} (σ:List Nat) (he:e=.normal\/e=.ret) (hr:jG tb s rs=some ds) (hn:nodupB σ=true) (hv:kK s.h σ σ h') (hk:rJ 0 h σ h') (iZ:Co (lJ ds) (r.bG σ)):
 (T.leaf e s).ok P (Lf tb rs h (fun r' I4=>r'=r/\I4=h')):=
 ⟨he,[],ds,by rw[vJ];exact hr,σ,r,_,h',by rw[vJ];exact .mk' hn hv,iZ,rfl,fun o t cs h1=>by have:=xu hk o t cs h1;simpa using this,rfl,rfl⟩
theorem VX {tb:TT} {rs:List ResultVar} {e:Exit} {s:S} {h:List AO} {r:D} {h':List AO} {ds:List D} (fz σ:List Nat) (he:e=.normal\/e=.ret) (hr:jG tb (s.cM fz) rs=some ds) (hn:nodupB σ=true) (hv:kK (s.cM fz).h σ σ h') (hk:rJ 0 h σ h') (iZ:Co (lJ ds) (r.bG σ)):
 (T.leaf e s).ok P (Lf tb rs h (fun r' I4=>r'=r/\I4=h')):=
 ⟨he,fz,ds,hr,σ,r,_,h',.mk' hn hv,iZ,rfl,fun o t cs h1=>by have:=xu hk o t cs h1;simpa using this,rfl,rfl⟩
end
theorem Co.of_eq {d e:D} (h:d=e):Co d e:=by subst h;exact .refl _
end Go.Proofs.YtafomdobfmmleaaGreatDoor
