/- Lemmas and contracts, part 3. -/
import Derived.Test.YtafomdobfmmleaaGreatDoorZp2
import Derived.Laws.BytesArg
namespace Go.Proofs.YtafomdobfmmleaaGreatDoor
set_option linter.unusedVariables false
open Go.RowKit
section
def fm (bs:List UInt8):List Value:=bs.map fun b=>.int .u8 b.toNat
theorem r8 (bs:List UInt8):(fm bs).length=bs.length:=by simp[fm]
theorem Bc (a b:List UInt8):fm (a++b)=fm a++fm b:=by simp[fm]
theorem vD (bs:List UInt8) (j:Nat) (h:j<bs.length):(fm bs)[j]?=some (.int .u8 (bs[j]).toNat):=by simp[fm,h]
theorem wO (bs:List UInt8):∀u∈fm bs,u.oneCell'=true:=by
 intro u hu
 simp only[fm,List.mem_map] at hu
 obtain⟨b,_,rfl⟩:=hu
 rfl
def aA (bs:List UInt8):ByteArray:=⟨bs.toArray⟩
theorem A8 (bs:List UInt8):(aA bs).toList=bs:=by rw[ByteArray.toList_eq];rfl
def aL:Nat:=140737488355328
structure Bs (w:World) (v:Value) (bs:List UInt8):Prop where
 ex:∃(A:Option Addr) (cap:Nat),v=.slice A bs.length cap/\(A=none->bs=[]/\cap=0)/\bs.length<=cap/\cap<=maxLen/\
  ∀ad,A=some ad->(bs≠[]->ad.block<w.heap.size)/\∀j u,(fm bs)[j]?=some u->w.cell? (ad.add j)=some u
 len:bs.length<=aL
theorem NA (a:Addr) (n:Nat):(a.add n).block=a.block:=by unfold Addr.add;split<;>rfl
theorem Bs.nil (w:World):Bs w (.slice none 0 0) []:=⟨⟨none,0,rfl,fun _=>⟨rfl,rfl⟩,Nat.le_refl _,by unfold maxLen;omega,fun ad h=>by cases h⟩,by simp[aL]⟩
theorem Bs.ext {own:Nat->Prop} {w w':World} {v:Value} {bs:List UInt8} (h:Bs w v bs) (hb:Ext own w w') (hd:∀g,v.ownBlock=some g->bs≠[]->¬own g):Bs w' v bs:=by
 obtain⟨⟨A,cap,hv,hn,hc,hm,hr⟩,hl⟩:=h
 refine⟨⟨A,cap,hv,hn,hc,hm,fun ad kB=>?_⟩,hl⟩
 obtain⟨h1,h2⟩:=hr ad kB
 exact⟨fun cu=>Nat.lt_of_lt_of_le (h1 cu) hb.size,fun j u hu=>hb.cell (by
  rw[NA]
  exact hd _ (by rw[hv,kB];rfl) (fun e=>by subst e;simp[fm] at hu)) (h2 j u hu)⟩
theorem Bs.later {w w':World} {v:Value} {bs:List UInt8} (h:Bs w v bs) (hb:B w w'):Bs w' v bs:=h.ext (Ext.of_B (own:=fun _=>False) hb) (fun _ _ _=>id)
theorem Bs.lt {w:World} {v:Value} {bs:List UInt8} (h:Bs w v bs) (cu:bs≠[]) {g:Nat} (hg:v.ownBlock=some g):g<w.heap.size:=by
 obtain⟨⟨A,cap,rfl,hn,hc,hm,hr⟩,hl⟩:=h
 cases A with
 |none=>simp[Value.ownBlock] at hg
 |some ad=>
  have:ad.block=g:=by simpa[Value.ownBlock] using hg
  rw[<-this];exact(hr ad rfl).1 cu
theorem Bs.acX {w:World} {base:Nat} {e:TypeId} {v:Value} {bs:List UInt8} (h:w.ownsRow base e 1 v bs.length (fm bs)) (hl:bs.length<=aL):Bs w v bs:=by
 obtain⟨h1,h2⟩:=h
 rcases h2 with⟨rfl,h0⟩|⟨g,cap,cur,rfl,hg,hh,hc,hm,hs,ht⟩
 ·have:bs=[]:=List.eq_nil_of_length_eq_zero h0
  subst this;exact Bs.nil w
 ·refine⟨⟨_,cap,rfl,fun e=>(by cases e),hc,hm,fun ad kB=>?_⟩,hl⟩
  cases kB
  refine⟨fun _=>dR.lt (t:=e) hh,fun j u hu=>?_⟩
  have hj:j<bs.length:=by
   rcases Nat.lt_or_ge j bs.length with h|h
   ·exact h
   ·rw[List.getElem?_eq_none (by rw[r8];exact h)] at hu;cases hu
  have ea:(⟨g,0,none⟩:Addr).add j=⟨g,j,none⟩:=by unfold Addr.add;split<;>simp_all
  rw[ea,dR.cell (t:=e) hh,<-hu,<-ht]
  simp[hj]
section
variable {P:Program}
theorem Bs.conv {w:World} {v:Value} {bs:List UInt8} (h:Bs w v bs) {src dst e:TypeId} (hs:P.underlying src=some (.slice e)) (he:P.underlying e=some (.int .u8)) (hd:P.underlying dst=some .string):
 (convert src dst v).run P w=.ok (.string (aA bs)) w:=by
 obtain⟨⟨A,cap,rfl,hn,hc,hm,hr⟩,hl⟩:=h
 cases A with
 |none=>
  rw[(hn rfl).1]
  exact run_convert_bytes_nil w src e hs he _ _ dst hd
 |some ad=>
  have hx:(bs.map fun b=>(b.toNat:Int)).length=bs.length:=by simp
  have hl:(loadCells ad bs.length).run P w=.ok ((bs.map fun b=>(b.toNat:Int)).map (Value.int .u8)).toArray w:=by
   have:=run_loadCells_list (P:=P) w ad (fm bs) ((hr ad rfl).2)
   simpa[fm,Function.comp_def] using this
  rw[run_convert_bytes_string w src dst e _ _ cap hs he hd,run_bytesToString w _ _ cap _ hl,foldl_push_bytes]
  simp[aA,ByteArray.empty,ByteArray.emptyWithCapacity,Function.comp_def]
  rfl
theorem Bs.isNil {w:World} {v:Value} {bs:List UInt8} (h:Bs w v bs):(v=.slice none 0 0/\bs=[])\/∃ad cap,v=.slice (some ad) bs.length cap:=by
 obtain⟨⟨A,cap,rfl,hn,hc,hm,hr⟩,hl⟩:=h
 cases A with
 |none=>obtain⟨h1,h2⟩:=hn rfl;subst h1 h2;exact .inl ⟨rfl,rfl⟩
 |some ad=>exact .inr ⟨ad,cap,rfl⟩
theorem XQ {w:World} {t ty e:TypeId} (ht:P.underlying t=some (.slice e)) (Hs:(P.info? e).map (fun i=>(i.zero,i.size,i.bytes))=some (some (.int .u8 0),1,1))
 {base:Nat} {v u:Value} {xs bs:List UInt8} (eV:w.ownsRow base e 1 v xs.length (fm xs)) (hu:Bs w u bs) (lF:xs.length+bs.length<=aL) (DO:base<=w.heap.size):
 ∃v' w',(Builtin.append_ #[t,t] ty #[v,u]).run P w=.ok v' w'/\w'.ownsRow base e 1 v' (xs++bs).length (fm (xs++bs))/\w.grownBy w' v.ownBlock/\(v'.ownBlock=v.ownBlock\/v'.ownBlock=some w.heap.size):=by
 obtain⟨i,hi,hz,hs,hb⟩:=info_parts Hs
 obtain⟨⟨A,cap,rfl,hn,hc,hm,hr⟩,hl⟩:=hu
 unfold aL at lF hl
 cases A with
 |none=>
  obtain⟨rfl,rfl⟩:=hn rfl
  refine⟨v,w,?_,by simpa using eV,World.grownBy.refl w _,.inl rfl⟩
  rcases eV.2 with⟨rfl,_⟩|⟨g,c,cur,rfl,_,_,LZ,_⟩
  ·simp[Builtin.append_,run_underlying ht,sizeOf,typeInfo,hi,Builtin.lenOf,Builtin.firstCells]
  ·simp[Builtin.append_,run_underlying ht,sizeOf,typeInfo,hi,Builtin.lenOf,Builtin.firstCells,LZ,storeCells]
 |some ad=>
  obtain⟨v',w',h1,h2,h3,h4,h5⟩:=run_append_own_at (P:=P) w base t ty e i (.int .u8 0) 1 1 ht hi hz hs hb rfl (by omega) v xs.length (fm xs) eV ad bs.length cap (fm bs) (by rw[r8];omega) (hr ad rfl).2 (wO bs) (by unfold maxLen;omega) (by omega) DO
  exact⟨v',w',h1,by rw[List.length_append,Bc];exact h2,h3,h5⟩
end
end
section
def Rd (w:World) (u:Value) (m sz:Nat) (xs:List Value):Prop:=
 xs.length=m*sz/\∃(A:Option Addr) (cap:Nat),u=.slice A m cap/\(A=none->m=0/\cap=0)/\m<=cap/\∀ad,A=some ad->(0<m->ad.block<w.heap.size)/\∀j x,xs[j]?=some x->w.cell? (ad.add j)=some x
theorem Rd.slice {w:World} {u:Value} {m sz:Nat} {xs:List Value} (h:Rd w u m sz xs):∃A c,u=.slice A m c:=by
 obtain⟨_,A,cap,hv,_⟩:=h;exact⟨A,cap,hv⟩
section
variable {P:Program}
theorem I3 {w:World} {t ty e:TypeId} {z:Value} {sz bytes:Nat} (ht:P.underlying t=some (.slice e)) (xQ:(P.info? e).map (fun i=>(i.zero,i.size,i.bytes))=some (some z,sz,bytes)) (hz:z.cells.size=sz) (eE:0<sz)
 {base n m:Nat} {v u:Value} {xs news:List Value} (eV:w.ownsRow base e sz v n xs) (hu:Rd w u m sz news) (h1:∀x∈news,x.oneCell'=true) (nD:n+m<=maxLen) (lF:(n+m)*bytes<=140737488355328) (DO:base<=w.heap.size):
 ∃v' w',(Builtin.append_ #[t,t] ty #[v,u]).run P w=.ok v' w'/\w'.ownsRow base e sz v' (n+m) (xs++news)/\w.grownBy w' v.ownBlock/\(v'.ownBlock=v.ownBlock\/v'.ownBlock=some w.heap.size):=by
 obtain⟨i,hi,xL,hs,hb⟩:=info_parts xQ
 obtain⟨hl,A,cap,rfl,hn,hc,hr⟩:=hu
 cases A with
 |none=>
  obtain⟨rfl,rfl⟩:=hn rfl
  have Lo:news=[]:=List.eq_nil_of_length_eq_zero (by simpa using hl)
  subst Lo
  refine⟨v,w,?_,by simpa using eV,World.grownBy.refl w _,.inl rfl⟩
  rcases eV.2 with⟨rfl,rfl⟩|⟨g,c,cur,rfl,_,_,LZ,_⟩
  ·simp[Builtin.append_,run_underlying ht,sizeOf,typeInfo,hi,Builtin.lenOf,Builtin.firstCells]
  ·simp[Builtin.append_,run_underlying ht,sizeOf,typeInfo,hi,Builtin.lenOf,Builtin.firstCells,LZ,storeCells]
 |some ad=>
  obtain⟨v',w',h1,h2,h3,h4,h5⟩:=run_append_own_at (P:=P) w base t ty e i z sz bytes ht hi xL hs hb hz eE v n xs eV ad m cap news hl (hr ad rfl).2 h1 nD lF DO
  exact⟨v',w',h1,h2,h3,h5⟩
end
section
variable {P:Program} {w:World} {ops:Array Oper} {rest:List Oper} {o:Oper} {a:Act} {K:Act->World->Prop} {Q:Exit->Act->World->Prop} {E:Prop}
theorem CO (rY:o.guard=none) (s x:Operand) (t:TypeId) (ho:o.op=.call {callee:=.builtin .append,args:=#[s,x],argTypes:=#[t,t]})
 {e:TypeId} {z:Value} {sz bytes:Nat} (ht:P.underlying t=some (.slice e)) (xQ:(P.info? e).map (fun i=>(i.zero,i.size,i.bytes))=some (some z,sz,bytes)) (hz:z.cells.size=sz) (eE:0<sz)
 {base n m:Nat} {v u:Value} {xs news:List Value} (hs:a.eval s=v) (hx:a.eval x=u) (eV:w.ownsRow base e sz v n xs) (hu:Rd w u m sz news) (h1:∀x∈news,x.oneCell'=true) (nD:n+m<=maxLen) (lF:(n+m)*bytes<=140737488355328) (DO:base<=w.heap.size)
 (h:∀A c w',w'.ownsRow base e sz (.slice A (n+m) c) (n+m) (xs++news)->w.grownBy w' v.ownBlock->((Value.slice A (n+m) c).ownBlock=v.ownBlock\/(Value.slice A (n+m) c).ownBlock=some w.heap.size)->wpList P ops Q rest (a.put o.dst (.slice A (n+m) c)) w'):
 wpList P ops Q (o::rest) a w:=by
 obtain⟨v',w',lJ,h2,h3,h4⟩:=I3 (P:=P) (t:=t) (ty:=o.type) ht xQ hz eE eV hu h1 nD lF DO
 obtain⟨A,c,rfl⟩:=I5 h2
 exact No rY s x t ho hs hx lJ (h A c w' h2 h3 h4)
end
theorem Bs.rd {w:World} {v:Value} {bs:List UInt8} (h:Bs w v bs):Rd w v bs.length 1 (fm bs):=by
 obtain⟨⟨A,cap,rfl,hn,hc,hm,hr⟩,hl⟩:=h
 refine⟨by rw[r8];omega,A,cap,rfl,fun e=>?_,hc,fun ad kB=>?_⟩
 ·obtain⟨rfl,rfl⟩:=hn e;exact⟨rfl,rfl⟩
 ·obtain⟨h1,h2⟩:=hr ad kB
  exact⟨fun h0=>h1 (fun e=>by subst e;simp at h0),h2⟩
theorem Ks (w:World) (b e s:Nat):w.ownsRow b e s (.slice none 0 0) 0 []:=⟨by simp,.inl ⟨rfl,rfl⟩⟩
theorem B.grown {w w' y4:World} {row:Option Nat} (h:B w w') (hg:w'.grownBy y4 row) (hr:∀k,row=some k->w.heap.size<=k):B w y4:=Below.grown h hg h.size hr
end
section
structure gi where
 at_:(Nat->Prop)->World->Prop
 ext:∀{own uK:Nat->Prop} {w w':World},at_ own w->Ext uK w w'->(∀b,own b->¬uK b)->at_ own w'
 bound:∀{own:Nat->Prop} {w:World},at_ own w->at_ (fun x=>own x/\x<w.heap.size) w
def Sep (w:World):(Nat->Prop)->List gi->Prop
 |_,[]=>True
 |U,A::L=>∃own:Nat->Prop,(∀b,own b->U b/\b<w.heap.size)/\A.at_ own w/\Sep w (fun b=>U b/\¬own b) L
theorem Sep.mono {w:World} {U U':Nat->Prop} {L:List gi} (h:Sep w U L) (hs:∀b,b<w.heap.size->U b->U' b):Sep w U' L:=by
 induction L generalizing U U' with
 |nil=>trivial
 |cons A L ih=>
  obtain⟨own,h1,h2,h3⟩:=h
  exact⟨own,fun b hb=>⟨hs b (h1 b hb).2 (h1 b hb).1,(h1 b hb).2⟩,h2,ih h3 (fun b hl hb=>⟨hs b hl hb.1,hb.2⟩)⟩
theorem Sep.ext {own:Nat->Prop} {w w':World} {U:Nat->Prop} {L:List gi} (h:Sep w U L) (hx:Ext own w w') (hd:∀b,b<w.heap.size->U b->¬own b):Sep w' (fun b=>U b/\b<w.heap.size) L:=by
 induction L generalizing U with
 |nil=>trivial
 |cons A L ih=>
  obtain⟨o,h1,h2,h3⟩:=h
  refine⟨o,fun b hb=>⟨⟨(h1 b hb).1,(h1 b hb).2⟩,Nat.lt_of_lt_of_le (h1 b hb).2 hx.size⟩,A.ext h2 hx (fun b hb=>hd b (h1 b hb).2 (h1 b hb).1),?_⟩
  exact(ih h3 (fun b hl hb=>hd b hl hb.1)).mono (fun b _ hb=>⟨⟨hb.1.1,hb.2⟩,hb.1.2⟩)
def St (W w:World) (L:List gi):Prop:=B W w/\Sep w (fun b=>W.heap.size<=b) L
section
variable {W w w':World} {A C D:gi} {L:List gi}
theorem St.nil (W:World):St W W []:=⟨Below.refl _ _,trivial⟩
theorem St.b (h:St W w L):B W w:=h.1
theorem St.later (h:St W w L) (hb:B w w'):St W w' L:=
 ⟨h.1.trans hb,(h.2.ext (Ext.of_B (own:=fun _=>False) hb) (fun _ _ _=>id)).mono (fun b _ hb=>hb.1)⟩
theorem St.add (h:St W w L) (hb:B w w') {own:Nat->Prop} (ha:A.at_ own w') (ho:∀x,own x->w.heap.size<=x):St W w' (A::L):=by
 refine⟨h.1.trans hb,_,fun b cw=>⟨?_,cw.2⟩,A.bound ha,?_⟩
 ·have:=ho b cw.1;have:=h.1.size;show W.heap.size<=b;omega
 ·exact(h.2.ext (Ext.of_B (own:=fun _=>False) hb) (fun _ _ _=>id)).mono (fun b _ cw=>⟨cw.1,fun e=>by have:=ho b e.1;omega⟩)
theorem St.back {own:Nat->Prop} (hb:B W w) (h1:∀b,own b->W.heap.size<=b/\b<w.heap.size) (h3:Sep w (fun b=>W.heap.size<=b/\¬own b) L) {w':World} {A':gi} (hx:Ext own w w') (ha:A'.at_ (fun x=>own x\/w.heap.size<=x) w'):St W w' (A'::L):=by
 refine⟨?_,_,fun b cw=>⟨?_,cw.2⟩,A'.bound ha,?_⟩
 ·exact(((Ext.of_B (own:=own) hb).Gk hx).Ld (fun x kZ e=>by have:=(h1 x e).1;omega))
 ·rcases cw.1 with e|e
  ·exact(h1 b e).1
  ·have:=hb.size;show W.heap.size<=b;omega
 ·exact(h3.ext hx (fun b _ cw=>cw.2)).mono (fun b _ cw=>⟨cw.1.1,fun e=>e.1.elim (fun e=>cw.1.2 e) (fun e=>by omega)⟩)
theorem St.focus (h:St W w (A::L)):∃own:Nat->Prop,A.at_ own w/\(∀x,own x->W.heap.size<=x/\x<w.heap.size)/\
 ∀(w':World) (A':gi),Ext own w w'->A'.at_ (fun x=>own x\/w.heap.size<=x) w'->St W w' (A'::L):=by
 obtain⟨hb,own,h1,h2,h3⟩:=h
 exact⟨own,h2,h1,fun w' A' hx ha=>St.back hb h1 h3 hx ha⟩
theorem St.get (h:St W w (A::L)):∃own:Nat->Prop,A.at_ own w/\(∀x,own x->W.heap.size<=x/\x<w.heap.size):=by
 obtain⟨own,h1,h2,_⟩:=h.focus
 exact⟨own,h1,h2⟩
end
def gK (g:Nat) (t:TypeId) (cs:Array Value):gi where
 at_ own w:=own g/\dR w g t cs
 ext h hx hd:=⟨h.1,h.2.ext hx (hd _ h.1)⟩
 bound h:=⟨⟨h.1,h.2.lt⟩,h.2⟩
theorem gK.new {W w:World} {L:List gi} (h:St W w L) (t:TypeId) (cs:Array Value):St W (w.alloc (.cells cs t)) (gK w.heap.size t cs::L):=
 h.add (B.j9 _ _) (A:=gK w.heap.size t cs) (own:=fun x=>x=w.heap.size) ⟨rfl,dR.new w t cs⟩ (fun x e=>by omega)
theorem gK.set {W w:World} {L:List gi} {g:Nat} {t:TypeId} {cs:Array Value} (h:St W w (gK g t cs::L)) (i:Nat) (u:Value):St W (w.setCell ⟨g,i,none⟩ u) (gK g t (cs.setIfInBounds i u)::L):=by
 obtain⟨own,h1,h2,h3⟩:=h.focus
 exact h3 _ (gK g t (cs.setIfInBounds i u)) ((Ext.refl own w).set (p:=⟨g,i,none⟩) (fun _=>h1.1) _) ⟨.inl h1.1,h1.2.GX i u⟩
theorem gK.get {W w:World} {L:List gi} {g:Nat} {t:TypeId} {cs:Array Value} (h:St W w (gK g t cs::L)):dR w g t cs:=by
 obtain⟨own,h1,h2⟩:=h.get;exact h1.2
def afD (e:TypeId) (sz:Nat) (v:Value) (n:Nat) (xs:List Value):gi where
 at_ own w:=w.ownsRow 0 e sz v n xs/\∀g,v.ownBlock=some g->own g
 ext h hx hd:=⟨QI h.1 hx (fun g hg=>hd g (h.2 g hg)),h.2⟩
 bound h:=⟨h.1,fun g hg=>⟨h.2 g hg,Ry h.1 hg⟩⟩
end
end Go.Proofs.YtafomdobfmmleaaGreatDoor
