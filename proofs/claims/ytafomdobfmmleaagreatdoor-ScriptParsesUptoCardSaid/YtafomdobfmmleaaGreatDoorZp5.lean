/- Lemmas and contracts, part 5. -/
import Derived.Test.YtafomdobfmmleaaGreatDoorZp4
import Derived.Deep.MidRow
namespace Go.Proofs.YtafomdobfmmleaaGreatDoor
set_option linter.unusedVariables false
open Go.RowKit
section
class Old where
 A:Nat->Prop
set_option linter.unusedSectionVars false
variable [Old]
inductive D where
 |bool (b:Bool)
 |int (k:IntKind) (n:Int)
 |str (s:List UInt8)
 |list (n:Nat) (xs:List (List D))
 |own (n:Nat) (xs:List (List D))
 |nils|ff|ay|kL
 |ref (cs:List D)
 |ptr (o off:Nat)
 |row (o:Nat)
 |gy (o n i off:Nat)
 |agg (cs:List D)
 |aj (cs:List D)
 |fn (f:FuncId) (n:Nat) (fS:List D)
 |jI (t:TypeId)
 |gj (b:Bool)
 |any
 |bad
 deriving Inhabited
inductive Dr (I:Nat->Prop) (w:World):Value->D->Prop
 |bool (b:Bool):Dr I w (.bool b) (.bool b)
 |int (k:IntKind) (n:Int):Dr I w (.int k n) (.int k n)
 |str (s:List UInt8):Dr I w (.string (aA s)) (.str s)
 |nils:Dr I w (.slice none 0 0) .nils
 |ff:Dr I w (.pointer none) .ff
 |ay:Dr I w .nilFunc .ay
 |kL:Dr I w (.map none) .kL
 |list (A:Option Addr) (cap n l:Nat) (xs:List (List D)) (U:Nat->Nat->Value) (dH:l=xs.length) (hl:l<=cap) (hm:cap<=maxLen) (fI:A=none->l=0/\cap=0)
   (hlen:∀x∈xs,x.length=n)
   (hA:0<l->∃b off,A=some ⟨b,off,none⟩/\b<w.heap.size/\I b/\∀(i:Nat) x (j:Nat) d,xs[i]?=some x->x[j]?=some d->w.cell? ⟨b,off+i*n+j,none⟩=some (U i j))
   (h1:∀(i:Nat) x (j:Nat) d,xs[i]?=some x->x[j]?=some d->(U i j).oneCell'=true)
   (hU:∀(i:Nat) x (j:Nat) d,xs[i]?=some x->x[j]?=some d->Dr I w (U i j) d):Dr I w (.slice A l cap) (.list n xs)
 |own (A:Option Addr) (cap n l:Nat) (xs:List (List D)) (U:Nat->Nat->Value) (dH:l=xs.length) (hl:l<=cap) (hm:cap<=maxLen) (fI:A=none->l=0/\cap=0)
   (hlen:∀x∈xs,x.length=n)
   (hA:0<l->∃b off,A=some ⟨b,off,none⟩/\b<w.heap.size/\I b/\¬Old.A b/\(∀j,j<l*n->w.frozen? ⟨b,off+j,none⟩=false)/\∀(i:Nat) x (j:Nat) d,xs[i]?=some x->x[j]?=some d->w.cell? ⟨b,off+i*n+j,none⟩=some (U i j))
   (h1:∀(i:Nat) x (j:Nat) d,xs[i]?=some x->x[j]?=some d->(U i j).oneCell'=true)
   (hU:∀(i:Nat) x (j:Nat) d,xs[i]?=some x->x[j]?=some d->Dr I w (U i j) d):Dr I w (.slice A l cap) (.own n xs)
 |ref (b off:Nat) (cs:List D) (U:Nat->Value) (hI:I b) (hb:b<w.heap.size) (hc:∀(j:Nat) d,cs[j]?=some d->w.cell? ⟨b,off+j,none⟩=some (U j))
   (h1:∀(j:Nat) d,cs[j]?=some d->(U j).oneCell'=true)
   (hU:∀(j:Nat) d,cs[j]?=some d->Dr I w (U j) d):Dr I w (.pointer (some ⟨b,off,none⟩)) (.ref cs)
 |agg (vs:List Value) (ds:List D) (hl:vs.length=ds.length) (h1:∀v∈vs,v.oneCell'=true) (h:∀(i:Nat) v d,vs[i]?=some v->ds[i]?=some d->Dr I w v d):Dr I w (.agg vs.toArray) (.agg ds)
 |aj (vs:List Value) (ds:List D) (hl:vs.length=ds.length) (h:∀(i:Nat) v d,vs[i]?=some v->ds[i]?=some d->Dr I w v d):Dr I w (.tuple vs.toArray) (.aj ds)
 |fn (f:FuncId) (n:Nat) (vs:List Value) (ds:List D) (hl:vs.length=ds.length) (h:∀(i:Nat) v d,vs[i]?=some v->ds[i]?=some d->Dr I w v d):Dr I w (.func (.func f) (vs.take n).toArray (vs.drop n).toArray) (.fn f n ds)
theorem Dr.forget {I:Nat->Prop} {w:World} {v:Value} {n:Nat} {xs:List (List D)} (h:Dr I w v (.own n xs)):Dr I w v (.list n xs):=by
 cases h with
 |own A cap _ l _ U dH hl hm fI hlen hA h1 hU=>
  refine .list A cap n l xs U dH hl hm fI hlen (fun h0=>?_) h1 hU
  obtain⟨b,off,e1,hb,hI,_,_,hc⟩:=hA h0
  exact⟨b,off,e1,hb,hI,hc⟩
theorem Dr.ext {I own:Nat->Prop} {w w':World} {v:Value} {d:D} (h:Dr I w v d) (hx:Ext own w w') (hd:∀b,I b->¬own b):Dr I w' v d:=by
 induction h with
 |bool b=>exact .bool b
 |int k n=>exact .int k n
 |str s=>exact .str s
 |nils=>exact .nils
 |ff=>exact .ff
 |ay=>exact .ay
 |kL=>exact .kL
 |list A cap n l xs U dH hl hm fI hlen hA h1 hU ih=>
  refine .list A cap n l xs U dH hl hm fI hlen (fun h0=>?_) h1 ih
  obtain⟨b,off,rfl,hb,hI,hc⟩:=hA h0
  exact⟨b,off,rfl,Nat.lt_of_lt_of_le hb hx.size,hI,fun i x j d dh hj=>hx.cell (hd b hI) (hc i x j d dh hj)⟩
 |own A cap n l xs U dH hl hm fI hlen hA h1 hU ih=>
  refine .own A cap n l xs U dH hl hm fI hlen (fun h0=>?_) h1 ih
  obtain⟨b,off,rfl,hb,hI,hN,hF,hc⟩:=hA h0
  exact⟨b,off,rfl,Nat.lt_of_lt_of_le hb hx.size,hI,hN,fun j hj=>by rw[hx.frozen hb (hd b hI)];exact hF j hj,fun i x j d dh hj=>hx.cell (hd b hI) (hc i x j d dh hj)⟩
 |ref b off cs U hI hb hc h1 hU ih=>exact .ref b off cs U hI (Nat.lt_of_lt_of_le hb hx.size) (fun j d hj=>hx.cell (hd b hI) (hc j d hj)) h1 ih
 |agg vs ds hl h1 h ih=>exact .agg vs ds hl h1 ih
 |aj vs ds hl h ih=>exact .aj vs ds hl ih
 |fn f n vs ds hl h ih=>exact .fn f n vs ds hl ih
theorem Dr.mono {I I':Nat->Prop} {w:World} {v:Value} {d:D} (h:Dr I w v d) (hI:∀b,I b->I' b):Dr I' w v d:=by
 induction h with
 |bool b=>exact .bool b
 |int k n=>exact .int k n
 |str s=>exact .str s
 |nils=>exact .nils
 |ff=>exact .ff
 |ay=>exact .ay
 |kL=>exact .kL
 |list A cap n l xs U dH hl hm fI hlen hA h1 hU ih=>
  refine .list A cap n l xs U dH hl hm fI hlen (fun h0=>?_) h1 ih
  obtain⟨b,off,rfl,hb,kQ,hc⟩:=hA h0
  exact⟨b,off,rfl,hb,hI b kQ,hc⟩
 |own A cap n l xs U dH hl hm fI hlen hA h1 hU ih=>
  refine .own A cap n l xs U dH hl hm fI hlen (fun h0=>?_) h1 ih
  obtain⟨b,off,rfl,hb,kQ,hN,hF,hc⟩:=hA h0
  exact⟨b,off,rfl,hb,hI b kQ,hN,hF,hc⟩
 |ref b off cs U kQ hb hc h1 hU ih=>exact .ref b off cs U (hI b kQ) hb hc h1 ih
 |agg vs ds hl h1 h ih=>exact .agg vs ds hl h1 ih
 |aj vs ds hl h ih=>exact .aj vs ds hl ih
 |fn f n vs ds hl h ih=>exact .fn f n vs ds hl ih
abbrev bH:=List (Option Nat×Value)
inductive Vr (I:Nat->Prop) (g:bH) (w:World):Value->D->Prop
 |rd {v:Value} {d:D} (h:Dr I w v d):Vr I g w v d
 |any (v:Value):Vr I g w v .any
 |jI (t:TypeId):Vr I g w (.iface t (.agg #[])) (.jI t)
 |oQ:Vr I g w .nilIface (.gj true)
 |gj (t:TypeId) (x:Value):Vr I g w (.iface t x) (.gj false)
 |ptr (o off b:Nat) (bo:Option Nat) (h:g[o]?=some (bo,.pointer (some ⟨b,0,none⟩))):Vr I g w (.pointer (some ⟨b,off,none⟩)) (.ptr o off)
 |row (o:Nat) (bo:Option Nat) (a:Option Addr) (l c:Nat) (h:g[o]?=some (bo,.slice a l c)):Vr I g w (.slice a l c) (.row o)
 |gy (o n i off b base l c:Nat) (bo:Option Nat) (h:g[o]?=some (bo,.slice (some ⟨b,base,none⟩) l c)):Vr I g w (.pointer (some ⟨b,base+i*n+off,none⟩)) (.gy o n i off)
 |agg (vs:List Value) (ds:List D) (hl:vs.length=ds.length) (h1:∀v∈vs,v.oneCell'=true) (h:∀(i:Nat) v d,vs[i]?=some v->ds[i]?=some d->Vr I g w v d):Vr I g w (.agg vs.toArray) (.agg ds)
 |aj (vs:List Value) (ds:List D) (hl:vs.length=ds.length) (h:∀(i:Nat) v d,vs[i]?=some v->ds[i]?=some d->Vr I g w v d):Vr I g w (.tuple vs.toArray) (.aj ds)
 |fn (f:FuncId) (n:Nat) (vs:List Value) (ds:List D) (hl:vs.length=ds.length) (h:∀(i:Nat) v d,vs[i]?=some v->ds[i]?=some d->Vr I g w v d):Vr I g w (.func (.func f) (vs.take n).toArray (vs.drop n).toArray) (.fn f n ds)
theorem Vr.ext {I own:Nat->Prop} {g:bH} {w w':World} {v:Value} {d:D} (h:Vr I g w v d) (hx:Ext own w w') (hd:∀b,I b->¬own b):Vr I g w' v d:=by
 induction h with
 |rd h=>exact .rd (h.ext hx hd)
 |any v=>exact .any v
 |jI t=>exact .jI t
 |oQ=>exact .oQ
 |gj t x=>exact .gj t x
 |ptr o off b bo h=>exact .ptr o off b bo h
 |row o bo a l c h=>exact .row o bo a l c h
 |gy o n i off b base l c bo h=>exact .gy o n i off b base l c bo h
 |agg vs ds hl h1 h ih=>exact .agg vs ds hl h1 ih
 |aj vs ds hl h ih=>exact .aj vs ds hl ih
 |fn f n vs ds hl h ih=>exact .fn f n vs ds hl ih
theorem Vr.mono {I I':Nat->Prop} {g g':bH} {w:World} {v:Value} {d:D} (h:Vr I g w v d) (hI:∀b,I b->I' b) (hg:∀(o:Nat) p,g[o]?=some p->g'[o]?=some p):Vr I' g' w v d:=by
 induction h with
 |rd h=>exact .rd (h.mono hI)
 |any v=>exact .any v
 |jI t=>exact .jI t
 |oQ=>exact .oQ
 |gj t x=>exact .gj t x
 |ptr o off b bo h=>exact .ptr o off b bo (hg _ _ h)
 |row o bo a l c h=>exact .row o bo a l c (hg _ _ h)
 |gy o n i off b base l c bo h=>exact .gy o n i off b base l c bo (hg _ _ h)
 |agg vs ds hl h1 h ih=>exact .agg vs ds hl h1 ih
 |aj vs ds hl h ih=>exact .aj vs ds hl ih
 |fn f n vs ds hl h ih=>exact .fn f n vs ds hl ih
def cJ (I:Nat->Prop) (g:bH) (w:World) (vs:List Value) (ds:List D):Prop:=vs.length=ds.length/\∀(i:Nat) v d,vs[i]?=some v->ds[i]?=some d->Vr I g w v d
theorem cJ.ext {I own:Nat->Prop} {g:bH} {w w':World} {vs:List Value} {ds:List D} (h:cJ I g w vs ds) (hx:Ext own w w') (hd:∀b,I b->¬own b):cJ I g w' vs ds:=⟨h.1,fun i v d h1 h2=>(h.2 i v d h1 h2).ext hx hd⟩
theorem cJ.mono {I I':Nat->Prop} {g g':bH} {w:World} {vs:List Value} {ds:List D} (h:cJ I g w vs ds) (hI:∀b,I b->I' b) (hg:∀(o:Nat) p,g[o]?=some p->g'[o]?=some p):cJ I' g' w vs ds:=⟨h.1,fun i v d h1 h2=>(h.2 i v d h1 h2).mono hI hg⟩
theorem cJ.nil {I:Nat->Prop} {g:bH} {w:World}:cJ I g w [] []:=⟨rfl,fun i v d h=>by simp at h⟩
theorem cJ.cons {I:Nat->Prop} {g:bH} {w:World} {v:Value} {d:D} {vs:List Value} {ds:List D} (h:Vr I g w v d) (k:cJ I g w vs ds):cJ I g w (v::vs) (d::ds):=by
 refine⟨by simp[k.1],fun i u e h1 h2=>?_⟩
 cases i with
 |zero=>simp at h1 h2;subst h1 h2;exact h
 |succ i=>simp at h1 h2;exact k.2 i u e h1 h2
theorem cJ.zW {I:Nat->Prop} {g:bH} {w:World} {d:D} {vs:List Value} {ds:List D} (h:cJ I g w vs (d::ds)):∃v xN,vs=v::xN/\Vr I g w v d/\cJ I g w xN ds:=by
 obtain⟨hl,h⟩:=h
 cases vs with
 |nil=>simp at hl
 |cons v vs=>exact⟨v,vs,rfl,h 0 v d (by simp) (by simp),by simpa using hl,fun i u e h1 h2=>h (i+1) u e (by simpa using h1) (by simpa using h2)⟩
theorem cJ.Dm {I:Nat->Prop} {g:bH} {w:World} {vs:List Value} (h:cJ I g w vs []):vs=[]:=List.eq_nil_of_length_eq_zero (by simpa using h.1)
theorem cJ.append {I:Nat->Prop} {g:bH} {w:World} {vs us:List Value} {ds es:List D} (h:cJ I g w vs ds) (k:cJ I g w us es):cJ I g w (vs++us) (ds++es):=by
 refine⟨by simp[h.1,k.1],fun i v d h1 h2=>?_⟩
 rw[List.getElem?_append] at h1 h2
 rw[<-h.1] at h2
 split at h1
 ·rename_i hi;rw[if_pos hi] at h2;exact h.2 i v d h1 h2
 ·rename_i hi;rw[if_neg hi] at h2;exact k.2 _ v d h1 h2
theorem cJ.set {I:Nat->Prop} {g:bH} {w:World} {vs:List Value} {ds:List D} (h:cJ I g w vs ds) {v:Value} {d:D} (k:Vr I g w v d) (i:Nat):cJ I g w (vs.set i v) (ds.set i d):=by
 refine⟨by simp[h.1],fun j u e h1 h2=>?_⟩
 rw[List.getElem?_set] at h1 h2
 split at h1
 ·rename_i vo
  subst vo
  rw[if_pos rfl] at h2
  split at h1
  ·rename_i hlt
   rw[if_pos (by rw[<-h.1];exact hlt)] at h2
   injection h1 with h1;injection h2 with h2
   subst h1 h2
   exact k
  ·cases h1
 ·rename_i vo
  rw[if_neg vo] at h2
  exact h.2 j u e h1 h2
theorem cJ.take {I:Nat->Prop} {g:bH} {w:World} {vs:List Value} {ds:List D} (h:cJ I g w vs ds) (n:Nat):cJ I g w (vs.take n) (ds.take n):=by
 refine⟨by simp[h.1],fun i v d h1 h2=>?_⟩
 rw[List.getElem?_take] at h1 h2
 split at h1
 ·rename_i hi;rw[if_pos hi] at h2;exact h.2 i v d h1 h2
 ·cases h1
theorem cJ.drop {I:Nat->Prop} {g:bH} {w:World} {vs:List Value} {ds:List D} (h:cJ I g w vs ds) (n:Nat):cJ I g w (vs.drop n) (ds.drop n):=by
 refine⟨by simp[h.1],fun i v d h1 h2=>?_⟩
 rw[List.getElem?_drop] at h1 h2
 exact h.2 _ v d h1 h2
def dQ (I:Nat->Prop) (w:World) (vs:List Value) (ds:List D):Prop:=vs.length=ds.length/\∀(i:Nat) v d,vs[i]?=some v->ds[i]?=some d->Dr I w v d
theorem dQ.ext {I own:Nat->Prop} {w w':World} {vs:List Value} {ds:List D} (h:dQ I w vs ds) (hx:Ext own w w') (hd:∀b,I b->¬own b):dQ I w' vs ds:=⟨h.1,fun i v d h1 h2=>(h.2 i v d h1 h2).ext hx hd⟩
theorem dQ.mono {I I':Nat->Prop} {w:World} {vs:List Value} {ds:List D} (h:dQ I w vs ds) (hI:∀b,I b->I' b):dQ I' w vs ds:=⟨h.1,fun i v d h1 h2=>(h.2 i v d h1 h2).mono hI⟩
theorem dQ.Ay {I:Nat->Prop} {g:bH} {w:World} {vs:List Value} {ds:List D} (h:dQ I w vs ds):cJ I g w vs ds:=⟨h.1,fun i v d h1 h2=>.rd (h.2 i v d h1 h2)⟩
theorem dQ.nil {I:Nat->Prop} {w:World}:dQ I w [] []:=⟨rfl,fun i v d h=>by simp at h⟩
theorem dQ.append {I:Nat->Prop} {w:World} {vs us:List Value} {ds es:List D} (h:dQ I w vs ds) (k:dQ I w us es):dQ I w (vs++us) (ds++es):=by
 refine⟨by simp[h.1,k.1],fun i v d h1 h2=>?_⟩
 rw[List.getElem?_append] at h1 h2
 rw[<-h.1] at h2
 split at h1
 ·rename_i hi;rw[if_pos hi] at h2;exact h.2 i v d h1 h2
 ·rename_i hi;rw[if_neg hi] at h2;exact k.2 _ v d h1 h2
inductive AO where
 |cells (t:TypeId) (cs:List D)
 |row (t:TypeId) (n:Nat) (xs:List (List D))
 |gone
 deriving Inhabited
def AO.owns (p:Option Nat×Value):AO->Nat->Prop
 |.gone,_=>False
 |_,b=>p.1=some b
def Ro (I:Nat->Prop) (g:bH) (w:World) (p:Option Nat×Value):AO->Prop
 |.cells t cs=>∃(b:Nat) (vs:List Value),p=(some b,.pointer (some ⟨b,0,none⟩))/\dR w b t vs.toArray/\cJ I g w vs cs/\∀v∈vs,v.oneCell'=true
 |.row t n xs=>∃(a:Option Addr) (c:Nat) (vs:List Value),p.2=.slice a xs.length c/\fT w t n p.2 xs.length vs/\p.1=p.2.ownBlock/\dQ I w vs xs.flatten/\(∀x∈xs,x.length=n)/\∀v∈vs,v.oneCell'=true
 |.gone=>True
theorem Ro.ext {I own:Nat->Prop} {g:bH} {w w':World} {p:Option Nat×Value} {ao:AO} (h:Ro I g w p ao) (hx:Ext own w w') (hd:∀b,I b->¬own b) (ho:∀b,ao.owns p b->¬own b):Ro I g w' p ao:=by
 cases ao with
 |cells t cs=>
  obtain⟨b,vs,rfl,hb,hv,h1⟩:=h
  exact⟨b,vs,rfl,hb.ext hx (ho b rfl),hv.ext hx hd,h1⟩
 |row t n xs=>
  obtain⟨a,c,vs,hp,hr,hb,hv,hl,h1⟩:=h
  exact⟨a,c,vs,hp,hr.ext hx (fun b e=>ho b (by show p.1=some b;rw[hb];exact e)),hb,hv.ext hx hd,hl,h1⟩
 |gone=>trivial
theorem Ro.mono {I I':Nat->Prop} {g g':bH} {w:World} {p:Option Nat×Value} {ao:AO} (h:Ro I g w p ao) (hI:∀b,I b->I' b) (hg:∀(o:Nat) p,g[o]?=some p->g'[o]?=some p):Ro I' g' w p ao:=by
 cases ao with
 |cells t cs=>
  obtain⟨b,vs,rfl,hb,hv,h1⟩:=h
  exact⟨b,vs,rfl,hb,hv.mono hI hg,h1⟩
 |row t n xs=>
  obtain⟨a,c,vs,hp,hr,hb,hv,hl,h1⟩:=h
  exact⟨a,c,vs,hp,hr,hb,hv.mono hI,hl,h1⟩
 |gone=>trivial
theorem Ro.lt {I:Nat->Prop} {g:bH} {w:World} {p:Option Nat×Value} {ao:AO} (h:Ro I g w p ao) {b:Nat} (hb:ao.owns p b):b<w.heap.size:=by
 cases ao with
 |cells t cs=>
  obtain⟨b',vs,rfl,cw,_⟩:=h
  injection hb with e
  subst e
  exact cw.lt
 |row t n xs=>
  obtain⟨a,c,vs,hp,hr,cw,_⟩:=h
  exact hr.lt (by rw[<-cw];exact hb)
 |gone=>exact hb.elim
structure Den (I:Nat->Prop) (g:bH) (w:World) (h:List AO):Prop where
 len:g.length=h.length
 aG:∀b,I b->b<w.heap.size
 obj:∀(o:Nat) ao p,h[o]?=some ao->g[o]?=some p->Ro I g w p ao
 own:∀(o:Nat) ao p b,h[o]?=some ao->g[o]?=some p->ao.owns p b->¬I b
 sep:∀(o o':Nat) ao cA p p' b,h[o]?=some ao->h[o']?=some cA->g[o]?=some p->g[o']?=some p'->ao.owns p b->cA.owns p' b->o=o'
def dF (g:bH) (h:List AO) (b:Nat):Prop:=∃(o:Nat) (ao:AO) (p:Option Nat×Value),h[o]?=some ao/\g[o]?=some p/\ao.owns p b
def gM (M:List Nat) (g:bH) (h:List AO) (b:Nat):Prop:=∃(o:Nat) (ao:AO) (p:Option Nat×Value),o∈M/\h[o]?=some ao/\g[o]?=some p/\ao.owns p b
theorem gM.owned {M:List Nat} {g:bH} {h:List AO} {b:Nat} (hb:gM M g h b):dF g h b:=by
 obtain⟨o,ao,p,_,h1,h2,h3⟩:=hb;exact⟨o,ao,p,h1,h2,h3⟩
theorem Den.ext {I own:Nat->Prop} {g:bH} {w w':World} {h:List AO} (hd:Den I g w h) (hx:Ext own w w') (hi:∀b,I b->¬own b) (ho:∀b,dF g h b->¬own b):Den I g w' h where
 len:=hd.len
 aG b hb:=Nat.lt_of_lt_of_le (hd.aG b hb) hx.size
 obj o ao p h1 h2:=(hd.obj o ao p h1 h2).ext hx hi (fun b hb=>ho b ⟨o,ao,p,h1,h2,hb⟩)
 own:=hd.own
 sep:=hd.sep
theorem Den.lt {I:Nat->Prop} {g:bH} {w:World} {h:List AO} (hd:Den I g w h) {b:Nat} (hb:dF g h b):b<w.heap.size:=by
 obtain⟨o,ao,p,h1,h2,h3⟩:=hb
 exact(hd.obj o ao p h1 h2).lt h3
theorem Den.later {I:Nat->Prop} {g:bH} {w w':World} {h:List AO} (hd:Den I g w h) (hb:B w w'):Den I g w' h:=
 hd.ext (Ext.of_B (own:=fun _=>False) hb) (fun _ _=>id) (fun _ _=>id)
theorem lO {α:Type} {l:List α} {x y:α} {o:Nat} (h:(l++[x])[o]?=some y):(o<l.length/\l[o]?=some y)\/(o=l.length/\y=x):=by
 rw[List.getElem?_append] at h
 split at h
 ·rename_i hlt;exact .inl ⟨hlt,h⟩
 ·rename_i dm
  have ho:o-l.length=0:=by
   rcases Nat.eq_zero_or_pos (o-l.length) with e|e
   ·exact e
   ·rw[List.getElem?_eq_none (by simp;omega)] at h;cases h
  rw[ho] at h
  exact .inr ⟨by omega,by simpa using h.symm⟩
theorem sJ {α:Type} {l:List α} {x:α} {o:Nat} {y:α} (h:l[o]?=some y):(l++[x])[o]?=some y:=by
 rw[List.getElem?_append_left (List.getElem?_eq_some_iff.1 h).1];exact h
theorem Dc {α:Type} (l:List α) (x:α):(l++[x])[l.length]?=some x:=by simp
theorem Den.DQ {I:Nat->Prop} {g:bH} {w:World} {h:List AO} (hd:Den I g w h) {p:Option Nat×Value} {ao:AO} (hr:Ro I (g++[p]) w p ao) (hn:∀b,ao.owns p b->¬I b/\¬dF g h b):Den I (g++[p]) w (h++[ao]):=by
 have L:=hd.len
 refine⟨by simp[hd.len],hd.aG,fun o a q h1 h2=>?_,fun o a q b h1 h2 h3 hI=>?_,fun o o' a a' q q' b h1 fW h2 pe h3 lY=>?_⟩
 ·rcases lO h1 with⟨e1,k1⟩|⟨e1,k1⟩<;>rcases lO h2 with⟨e2,k2⟩|⟨e2,k2⟩
  ·exact(hd.obj o a q k1 k2).mono (fun _ h=>h) (fun _ _ h=>sJ h)
  ·omega
  ·omega
  ·subst k1 k2;exact hr
 ·rcases lO h1 with⟨e1,k1⟩|⟨e1,k1⟩<;>rcases lO h2 with⟨e2,k2⟩|⟨e2,k2⟩
  ·exact hd.own o a q b k1 k2 h3 hI
  ·omega
  ·omega
  ·subst k1 k2
   exact(hn b h3).1 hI
 ·rcases lO h1 with⟨e1,k1⟩|⟨e1,k1⟩<;>rcases lO h2 with⟨e2,k2⟩|⟨e2,k2⟩<;>rcases lO fW with⟨y5,HV⟩|⟨y5,HV⟩<;>rcases lO pe with⟨y6,H6⟩|⟨y6,H6⟩<;>first
   |omega
   |exact hd.sep o o' a a' q q' b k1 HV k2 H6 h3 lY
   |(subst HV H6
     exact absurd ⟨o,a,q,k1,k2,h3⟩ (hn b lY).2)
   |(subst k1 k2
     exact absurd ⟨o',a',q',HV,H6,lY⟩ (hn b h3).2)
theorem Den.push {I:Nat->Prop} {g:bH} {w w':World} {h:List AO} (hd:Den I g w h) (hb:B w w') {p:Option Nat×Value} {ao:AO} (hr:Ro I (g++[p]) w' p ao) (hn:∀b,ao.owns p b->w.heap.size<=b):Den I (g++[p]) w' (h++[ao]):=
 (hd.later hb).DQ hr (fun b h3=>⟨fun hI=>by have:=hn b h3;have:=hd.aG b hI;omega,fun ho=>by have:=hn b h3;have:=hd.lt ho;omega⟩)
theorem Den.drop {I:Nat->Prop} {g:bH} {w:World} {h:List AO} (hd:Den I g w h) (o:Nat):Den I g w (h.set o .gone):=by
 have key:∀{i:Nat} {ao:AO},(h.set o .gone)[i]?=some ao->h[i]?=some ao\/ao=.gone:=by
  intro i ao hi
  rw[List.getElem?_set] at hi
  split at hi
  ·split at hi
   ·injection hi with e;exact .inr e.symm
   ·cases hi
  ·exact .inl hi
 refine⟨by simp[hd.len],hd.aG,fun i ao p h1 h2=>?_,fun i ao p b h1 h2 h3=>?_,fun i i' ao cA p p' b h1 fW h2 pe h3 lY=>?_⟩
 ·rcases key h1 with e|e
  ·exact hd.obj i ao p e h2
  ·subst e;trivial
 ·rcases key h1 with e|e
  ·exact hd.own i ao p b e h2 h3
  ·subst e;exact h3.elim
 ·rcases key h1 with e|e
  ·rcases key fW with e'|e'
   ·exact hd.sep i i' ao cA p p' b e e' h2 pe h3 lY
   ·subst e';exact lY.elim
  ·subst e;exact h3.elim
structure Af (I:Nat->Prop) (g:bH) (w:World) (h:List AO) (M:List Nat) (I':Nat->Prop) (g':bH) (w':World) (h':List AO):Prop where
 den:Den I' g' w' h'
 ext:Ext (gM M g h) w w'
 i1:∀b,I b->I' b
 i2:∀b,I' b->I b\/gM M g h b\/w.heap.size<=b
 gx:∀(o:Nat) p,g[o]?=some p->g'[o]?=some p
 fr:∀o,o<h.length->o∉M->h'[o]?=h[o]?
 al:∀(o:Nat) cA p b,o<h.length->h'[o]?=some cA->g'[o]?=some p->cA.owns p b->∃ao,h[o]?=some ao/\ao.owns p b
 nw:∀(o:Nat) cA p b,h.length<=o->h'[o]?=some cA->g'[o]?=some p->cA.owns p b->gM M g h b\/w.heap.size<=b
theorem Af.ow {I:Nat->Prop} {g:bH} {w:World} {h:List AO} {M:List Nat} {I':Nat->Prop} {g':bH} {w':World} {h':List AO} (hl:g.length=h.length) (k:Af I g w h M I' g' w' h'):∀b,dF g' h' b->dF g h b\/w.heap.size<=b:=by
 intro b ⟨o,ao,p,h1,h2,h3⟩
 rcases Nat.lt_or_ge o h.length with hlt|dm
 ·obtain⟨ao0,e1,e2⟩:=k.al o ao p b hlt h1 h2 h3
  have hg:g[o]?=some g[o]:=List.getElem?_eq_getElem (by omega)
  have:=k.gx o _ hg
  rw[h2] at this
  injection this with this
  exact .inl ⟨o,ao0,p,e1,by rw[hg,this],e2⟩
 ·exact(k.nw o ao p b dm h1 h2 h3).imp gM.owned id
end
structure S where
 t:List (Nat×D)
 h:List AO
 deriving Inhabited
def lk:List (Nat×D)->Nat->D
 |[],_=>.any
 |(i,d)::l,j=>bif Nat.beq j i then d else lk l j
def lh:List AO->Nat->AO
 |[],_=>.gone
 |a::_,0=>a
 |_::l,n+1=>lh l n
def sh:List AO->Nat->AO->List AO
 |[],_,_=>[]
 |_::l,0,x=>x::l
 |a::l,n+1,x=>a::sh l n x
def ld:List D->Nat->Option D
 |[],_=>none
 |d::_,0=>some d
 |_::l,n+1=>ld l n
def yN:Nat->List D->List D
 |0,l=>l
 |_+1,[]=>[]
 |n+1,_::l=>yN n l
def AP:Nat->List D->Option (List D)
 |0,_=>some []
 |_+1,[]=>none
 |n+1,d::l=>match AP n l with|some r=>some (d::r)|none=>none
def rM:List D->Nat->List D->Option (List D)
 |l,0,[]=>some l
 |[],_,[]=>some []
 |_::l,0,d::ds=>match rM l 0 ds with|some r=>some (d::r)|none=>none
 |a::l,n+1,ds=>match rM l n ds with|some r=>some (a::r)|none=>none
 |[],_,_::_=>none
inductive TK where
 |int (k:IntKind)
 |str
 |bool
 |ptr
 |slice (e:TypeId)
 |struct (fs:List (Nat×TypeId))
 |iface
 |other
 deriving Inhabited
structure qY where
 size:Nat
 bytes:Nat
 zero:List D
 kind:TK
 deriving Inhabited
inductive TT where
 |nil
 |node (l:TT) (t:Nat) (i:qY) (r:TT)
def TT.look:TT->Nat->Option qY
 |.nil,_=>none
 |.node l t i r,u=>bif Nat.beq u t then some i else bif Nat.blt u t then l.look u else r.look u
def zD:Value->Option D
 |.bool b=>some (.bool b)
 |.int k n=>some (.int k n)
 |.string s=>bif s.size==0 then some (.str []) else none
 |.slice none 0 0=>some .nils
 |.pointer none=>some .ff
 |.nilFunc=>some .ay
 |.map none=>some .kL
 |.nilIface=>some (.gj true)
 |_=>none
def uQ (P:Program) (t:TypeId):TK->Bool
 |.int k=>match P.underlying t with|some (.int k')=>k==k'|_=>false
 |.str=>match P.underlying t with|some .string=>true|_=>false
 |.bool=>match P.underlying t with|some .bool=>true|_=>false
 |.ptr=>match P.underlying t with|some (.pointer _)=>true|_=>false
 |.slice e=>match P.underlying t with|some (.slice e')=>e==e'|_=>false
 |.struct fs=>match P.underlying t with|some (.struct gs)=>fs==(gs.toList.map fun f=>(f.offset,f.type))&&gs.toList.all (fun f=>(P.info? f.type).isSome)|_=>false
 |.iface=>match P.underlying t with|some (.interface _)=>true|_=>false
 |.other=>match P.underlying t with|some (.struct _)=>false|some (.array _ _)=>false|some _=>true|none=>false
def TK.isRow:TK->Bool
 |.struct _=>true
 |_=>false
def Gv:List Value->List D->Prop
 |[],[]=>True
 |v::vs,d::ds=>zD v=some d/\Gv vs ds
 |_,_=>False
def GP (P:Program) (t:TypeId):Bool:=!P.stoodInHeld t&&(!P.eqGuardType P.depth t&&(match P.underlying t with
 |some (.struct gs)=>gs.toList.all fun f=>!(f.name== "_")
 |_=>true))
structure qY.ok (P:Program) (t:TypeId) (i:qY):Prop where
 info:∃inf z,P.info? t=some inf/\inf.size=i.size/\inf.bytes=i.bytes/\inf.zero=some z/\Gv z.cells.toList i.zero/\z.cells.size=i.size/\((∃cs,z=.agg cs)<->i.kind.isRow=true)
 kind:uQ P t i.kind=true
 eq:i.kind.isRow=true->GP P t=true
def TT.ok (P:Program) (tb:TT):Prop:=∀t i,tb.look t=some i->i.ok P t
inductive T where
 |leaf (e:Exit) (s:S)
 |ask (p:Prop) (t:T)
 |both (a b:T)
 |wrap (k:IntKind) (e:Int) (c:Int->T)
 |nth (xs:List (List D)) (i:Int) (c:List D->T)
 |byte (s:List UInt8) (i:Int) (c:UInt8->T)
 |D7 (xs:List (List D)) (c:List UInt8->T)
 |call (f:FuncId) (az:List D) (h:List AO) (c:D->List AO->T)
 |loop (m:Nat) (s:S) (body:S->T) (c:Exit->S->T)
 |val (d:D)
 |all (k:IntKind) (c:Int->T)
 |die (v:Value)
 |fail (why:Nat)
def bT (b:Bool) (t f:T):T:=(match b with
 |true=>fun _:Unit=>t
 |false=>fun _=>f) ()
theorem LB (t f:T):bT false t f=f:=rfl
def af (b:UInt8):List D:=[.int .u8 (b.toNat:Int)]
def rj (P:Program) (f:FuncId):Bool:=
 match P.funcs[f]? with
 |some fn=>!(fn.name== "runtime.NumGoroutine")&&fn.body.isSome
 |none=>false
class Wd extends Old where
 W:(Nat->Prop)->World->Prop
 kY:List PanicEntry->Prop
 aI:∀{I:Nat->Prop} {w:World},W I w->∀b,Old.A b->I b
 cl:∀{I I':Nat->Prop} {w w':World},W I w->(∀b,I b->w'.heap[b]?=w.heap[b]?)->(∀b,I b->I' b)->W I' w'
def Ej [Wd] (P:Program) (f:FuncId) (az:List D) (h:List AO) (M:List Nat) (cZ:D->List AO->Prop):Prop:=
 rj P f=true/\∀(w:World) (I:Nat->Prop) (g:bH) (vs:List Value),Wd.W I w->Den I g w h->cJ I g w vs az->Calls P f vs.toArray w fun e w'=>(∃v I' g' r h',e=.returned v/\cZ r h'/\Af I g w h M I' g' w' h'/\Vr I' g' w' v r)\/(∃ch,e=.panicked ch/\Wd.kY ch/\Ext (gM M g h) w w')
def KF:D->List Nat
 |.ptr o _=>[o]
 |.row o=>[o]
 |.gy o _ _ _=>[o]
 |.agg cs=>nl cs
 |.aj cs=>nl cs
 |.fn _ _ cs=>nl cs
 |_=>[]
 where nl:List D->List Nat
 |[]=>[]
 |d::ds=>KF d++nl ds
def reach (h:List AO):Nat->List Nat->List Nat->List Nat
 |0,_,acc=>acc
 |_+1,[],acc=>acc
 |n+1,o::r,acc=>bif acc.elem o then reach h n r acc else match lh h o with
  |.cells _ cs=>reach h n (KF.nl cs++r) (o::acc)
  |_=>reach h n r (o::acc)
def jT (h:List AO) (az:List D):List Nat:=reach h (4*h.length+8) (KF.nl az) []
def ln:List Nat->Nat->Option Nat
 |[],_=>none
 |o::_,0=>some o
 |_::l,n+1=>ln l n
def D.bO (σ:List Nat):D->D
 |.ptr o off=>match ln σ o with|some p=>.ptr p off|none=>.bad
 |.row o=>match ln σ o with|some p=>.row p|none=>.bad
 |.gy o n i off=>match ln σ o with|some p=>.gy p n i off|none=>.bad
 |.agg cs=>.agg (rl cs)
 |.aj cs=>.aj (rl cs)
 |.fn f n cs=>.fn f n (rl cs)
 |d=>d
 where rl:List D->List D
 |[]=>[]
 |d::ds=>d.bO σ::rl ds
def AO.bO (σ:List Nat):AO->AO
 |.cells t cs=>.cells t (D.bO.rl σ cs)
 |a=>a
structure View (σ:List Nat) (h h':List AO):Prop where
 len:σ.length=h'.length
 inj:∀(i j o:Nat),σ[i]?=some o->σ[j]?=some o->i=j
 obj:∀(i o:Nat) a,σ[i]?=some o->h'[i]?=some a->h[o]?=some (a.bO σ)
def Sv (m:Nat) (s s':S):Prop:=∃σ:List Nat,View σ s.h s'.h/\(∀i,i<m->σ[i]?=some i)/\∀j,lk s'.t j=.any\/lk s.t j=(lk s'.t j).bO σ
def T.ok [Wd] (P:Program):T->(Exit->S->Prop)->Prop
 |.leaf e s,Q=>Q e s
 |.ask p t,Q=>p/\t.ok P Q
 |.both a b,Q=>a.ok P Q/\b.ok P Q
 |.wrap k e c,Q=>(c (k.wrap e)).ok P Q
 |.nth xs i c,Q=>∃x,0<=i/\xs[i.toNat]?=some x/\(c x).ok P Q
 |.byte s i c,Q=>∃x,0<=i/\s[i.toNat]?=some x/\(c x).ok P Q
 |.D7 xs c,Q=>∃s,xs=s.map af/\(c s).ok P Q
 |.call f az h c,Q=>∃cZ,Ej P f az h (jT h az) cZ/\∀r h',cZ r h'->(c r h').ok P Q
 |.loop m s body c,Q=>∃(Inv:S->Prop) (μ:S->Nat),(∃s1,Sv m s s1/\Inv s1)/\∀s0,Inv s0->(body s0).ok P fun e s'=>match e with
   |.normal=>∃s1,Sv m s' s1/\Inv s1/\μ s1<μ s0
   |e=>(c e s').ok P Q
 |.val _,_=>False
 |.all k c,Q=>∀m,(c m).ok P Q
 |.die v,_=>Wd.kY [{v:=v,recovered:=false}]
 |.fail _,_=>False
theorem T.ace [Wd] {P:Program} {t:T}:∀{Q Q':Exit->S->Prop},(∀e s,Q e s->Q' e s)->t.ok P Q->t.ok P Q':=by
 induction t with
 |leaf e s=>exact fun h k=>h _ _ k
 |ask p t ih=>exact fun h k=>⟨k.1,ih h k.2⟩
 |both a b AQ ML=>exact fun h k=>⟨AQ h k.1,ML h k.2⟩
 |wrap k e c ih=>exact fun h k=>ih _ h k
 |nth xs i c ih=>exact fun h ⟨x,h0,h1,k⟩=>⟨x,h0,h1,ih _ h k⟩
 |byte s i c ih=>exact fun h ⟨x,h0,h1,k⟩=>⟨x,h0,h1,ih _ h k⟩
 |D7 xs c ih=>exact fun h ⟨x,h1,k⟩=>⟨x,h1,ih _ h k⟩
 |call f az h0 c ih=>exact fun h ⟨cZ,h1,k⟩=>⟨cZ,h1,fun r h' hp=>ih _ _ h (k r h' hp)⟩
 |loop m s body c ML Ez=>
  intro Q Q' h ⟨Inv,μ,h0,k⟩
  refine⟨Inv,μ,h0,fun s0 hs=>ML s0 (fun e s' he=>?_) (k s0 hs)⟩
  cases e with
  |normal=>exact he
  |exit id=>exact Ez _ _ h he
  |goto l=>exact Ez _ _ h he
  |ret=>exact Ez _ _ h he
  |panic ch=>exact Ez _ _ h he
  |outgrown=>exact Ez _ _ h he
 |val d=>exact fun _ k=>k
 |all k c ih=>exact fun h k m=>ih m h (k m)
 |die v=>exact fun _ k=>k
 |fail n=>exact fun _ k=>k
structure En where
 tb:TT
 n:Nat
 CC:Bool
 lo:Nat
def Hq:Value->D
 |.bool b=>.bool b
 |.int k n=>.int k n
 |.string s=>.str s.data.toList
 |.slice none 0 0=>.nils
 |.pointer none=>.ff
 |.nilFunc=>.ay
 |.map none=>.kL
 |_=>.any
def ev (s:S):Operand->D
 |.tmp j=>lk s.t j
 |.const v=>Hq v
 |.global _=>.any
 |.func f=>.fn f 0 []
def force (d:D) (k:D->T):T:=
 match d with
 |.bool b=>k (.bool b)
 |.int i n=>k (.int i n)
 |.str s=>k (.str s)
 |.list n xs=>k (.list n xs)
 |.own n xs=>k (.own n xs)
 |.nils=>k .nils
 |.ff=>k .ff
 |.ay=>k .ay
 |.kL=>k .kL
 |.ref cs=>k (.ref cs)
 |.ptr o off=>k (.ptr o off)
 |.row o=>k (.row o)
 |.gy o n i off=>k (.gy o n i off)
 |.agg cs=>k (.agg cs)
 |.aj cs=>k (.aj cs)
 |.fn f n fS=>k (.fn f n fS)
 |.jI t=>k (.jI t)
 |.gj b=>k (.gj b)
 |.any=>k .any
 |.bad=>k .bad
theorem force_eq (d:D) (k:D->T):force d k=k d:=by cases d<;>rfl
def yF:List AO->(List AO->T)->T
 |[],k=>k []
 |.cells t cs::r,k=>yF r fun r=>k (.cells t cs::r)
 |.row t n xs::r,k=>yF r fun r=>k (.row t n xs::r)
 |.gone::r,k=>yF r fun r=>k (.gone::r)
theorem Fx:∀(h:List AO) (k:List AO->T),yF h k=k h
 |[],k=>rfl
 |.cells t cs::r,k=>by rw[yF,Fx r]
 |.row t n xs::r,k=>by rw[yF,Fx r]
 |.gone::r,k=>by rw[yF,Fx r]
def Cf (s:S) (h:List AO) (k:S->T):T:=
 match s with
 |⟨t,_⟩=>yF h fun h=>k ⟨t,h⟩
theorem Q2 (s:S) (h:List AO) (k:S->T):Cf s h k=k {s with h:=h}:=by
 cases s;simp only[Cf,Fx]
def zZ:List D->(List D->T)->T
 |[],k=>k []
 |d::r,k=>force d fun d=>zZ r fun r=>k (d::r)
theorem C4:∀(l:List D) (k:List D->T),zZ l k=k l
 |[],k=>rfl
 |d::r,k=>by rw[zZ,force_eq,C4 r]
def xg:List AO->(List AO->T)->T
 |[],k=>k []
 |.cells t cs::r,k=>zZ cs fun cs=>xg r fun r=>k (.cells t cs::r)
 |.row t n xs::r,k=>xg r fun r=>k (.row t n xs::r)
 |.gone::r,k=>xg r fun r=>k (.gone::r)
theorem CU:∀(h:List AO) (k:List AO->T),xg h k=k h
 |[],k=>rfl
 |.cells t cs::r,k=>by rw[xg,C4,CU r]
 |.row t n xs::r,k=>by rw[xg,CU r]
 |.gone::r,k=>by rw[xg,CU r]
def K3 (s:S) (h:List AO) (k:S->T):T:=
 match s with
 |⟨t,_⟩=>xg h fun h=>k ⟨t,h⟩
theorem Z4 (s:S) (h:List AO) (k:S->T):K3 s h k=k {s with h:=h}:=by
 cases s;simp only[K3,CU]
def Gw:Nat->(Nat->T)->T
 |0,k=>k 0
 |n+1,k=>Gw n fun n=>k (n+1)
theorem OX:∀(n:Nat) (k:Nat->T),Gw n k=k n
 |0,k=>rfl
 |n+1,k=>by rw[Gw,OX n]
def yO (s:S) (a:AO) (mk:Nat->D) (k:D->S->T):T:=
 match s with
 |⟨t,h⟩=>Gw h.length fun n=>xg (h++[a]) fun h'=>k (mk n) ⟨t,h'⟩
theorem PV (s:S) (a:AO) (mk:Nat->D) (k:D->S->T):yO s a mk k=k (mk s.h.length) {s with h:=s.h++[a]}:=by
 cases s;simp only[yO,OX,CU]
def put (E:En) (d:Option Tmp) (v:D) (s:S) (k:S->T):T:=
 match d with
 |none=>k s
 |some j=>bif Nat.blt j E.n&&Nat.ble E.lo j then(force v fun v=>match s with|⟨t,h⟩=>k ⟨(j,v)::t,h⟩) else .fail 1
def LC (op:BinOp) (k:IntKind) (a b:Int) (c:D->T):T:=
 match op with
 |.add=>.wrap k (a+b) fun n=>c (.int k n)
 |.sub=>.wrap k (a-b) fun n=>c (.int k n)
 |.mul=>.wrap k (a*b) fun n=>c (.int k n)
 |.quo=>.ask (b≠0) (.wrap k (a.tdiv b) fun n=>c (.int k n))
 |.rem=>.ask (b≠0) (c (.int k (a.tmod b)))
 |.eql=>c (.bool (a==b))
 |.neq=>c (.bool (a !=b))
 |.lss=>c (.bool (decide (a<b)))
 |.leq=>c (.bool (decide (a<=b)))
 |.gtr=>c (.bool (decide (a>b)))
 |.geq=>c (.bool (decide (a>=b)))
 |.and=>c (.int k (bits .and k a b))
 |.or=>c (.int k (bits .or k a b))
 |.xor=>c (.int k (bits .xor k a b))
 |_=>.fail 2
def LD (op:BinOp) (a b:List UInt8) (c:D->T):T:=
 match op with
 |.eql=>c (.bool (decide (a=b)))
 |.neq=>c (.bool (!decide (a=b)))
 |.add=>.ask (((a.length+b.length:Nat):Int)<=9223372036854775807) (c (.str (a++b)))
 |.lss=>c (.bool (Op.bytesLess a b))
 |.geq=>c (.bool (!Op.bytesLess a b))
 |.gtr=>c (.bool (!(Op.bytesLess a b||decide (a=b))))
 |.leq=>c (.bool (Op.bytesLess a b||decide (a=b)))
 |_=>.fail 3
def mX:IntKind->Nat
 |.i8=>0|.i16=>1|.i32=>2|.i64=>3|.u8=>4|.u16=>5|.u32=>6|.u64=>7
def rP (op:BinOp) (z:Bool) (c:D->T):T:=
 match op with
 |.eql=>c (.bool z)
 |.neq=>c (.bool (!z))
 |_=>.fail 4
def SP:BinOp->Bool
 |.shl=>true
 |.shr=>true
 |_=>false
def MM (op:BinOp) (k:IntKind) (a b:Int) (c:D->T):T:=
 match op with
 |.shl=>.ask (0<=b) (.wrap k (a*2^min b.toNat k.bits) fun n=>c (.int k n))
 |.shr=>.ask (0<=b) (c (.int k (a.fdiv (2^min b.toNat k.bits))))
 |_=>.fail 5
def D8 (tb:TT) (op:BinOp) (xt:TypeId) (x y:D) (c:D->T):T:=
 match x,y with
 |.int k a,.int k' b=>bif SP op then MM op k a b c else bif Nat.beq (mX k) (mX k') then LC op k a b c else .fail 5
 |.str a,.str b=>LD op a b c
 |.bool a,.bool b=>match tb.look xt with
  |some ⟨_,_,_,.bool⟩=>rP op (a==b) c
  |_=>.fail 6
 |.ptr _ _,.ff=>match tb.look xt with
  |some ⟨_,_,_,.ptr⟩=>rP op false c
  |_=>.fail 6
 |.ff,.ff=>match tb.look xt with
  |some ⟨_,_,_,.ptr⟩=>rP op true c
  |_=>.fail 6
 |.list _ xs,.nils=>match tb.look xt with
  |some ⟨_,_,_,.slice _⟩=>bT xs.isEmpty (.both (rP op true c) (rP op false c)) (rP op false c)
  |_=>.fail 6
 |.nils,.nils=>match tb.look xt with
  |some ⟨_,_,_,.slice _⟩=>rP op true c
  |_=>.fail 6
 |_,_=>.fail 6
def uH (tb:TT) (t:TypeId) (cs:List D) (off:Nat):Option D:=
 match tb.look t with
 |none=>none
 |some i=>match i.kind with
  |.struct _=>match AP i.size (yN off cs) with
   |some r=>some (.agg r)
   |none=>none
  |_=>ld cs off
def H7 (tb:TT) (ih:TypeId->D->D->(Bool->T)->T) (xs ys:List D):List (Nat×TypeId)->Bool->(Bool->T)->T
 |[],acc,k=>k acc
 |(o,t)::r,acc,k=>match uH tb t xs o,uH tb t ys o with
  |some x,some y=>ih t x y fun z=>H7 tb ih xs ys r (acc&&z) k
  |_,_=>.fail 7
def CD (tb:TT):Nat->TypeId->D->D->(Bool->T)->T
 |0,_,_,_,_=>.fail 7
 |n+1,t,x,y,k=>match tb.look t with
  |some ⟨_,_,_,kd⟩=>match kd,x,y with
   |.int _,.int k1 a,.int k2 b=>bif Nat.beq (mX k1) (mX k2) then k (a==b) else .fail 7
   |.str,.str a,.str b=>k (decide (a=b))
   |.bool,.bool a,.bool b=>k (a==b)
   |.struct fs,.agg xs,.agg ys=>H7 tb (CD tb n) xs ys fs true k
   |_,_,_=>.fail 7
  |none=>.fail 7
def LF:D->Bool
 |.agg _=>true
 |_=>false
def lf:List (Nat×TypeId)->Nat->Option (Nat×TypeId)
 |[],_=>none
 |x::_,0=>some x
 |_::l,n+1=>lf l n
def BN (tb:TT) (s:TypeId) (f:Nat):Option (Nat×TypeId):=
 match tb.look s with
 |some ⟨_,_,_,.struct fs⟩=>match lf fs f with
  |some (o,t)=>match tb.look t with
   |some i=>bif Nat.beq i.size 0 then none else some (o,t)
   |none=>none
  |none=>none
 |_=>none
def kI:D->Option (List D)
 |.agg cs=>some cs
 |.any=>none
 |.jI _=>none
 |.gj _=>none
 |.aj _=>none
 |.bad=>none
 |.bool b=>some [.bool b]
 |.int k n=>some [.int k n]
 |.str s=>some [.str s]
 |.list n xs=>some [.list n xs]
 |.own n xs=>some [.own n xs]
 |.nils=>some [.nils]
 |.ff=>some [.ff]
 |.ay=>some [.ay]
 |.kL=>some [.kL]
 |.ref cs=>some [.ref cs]
 |.ptr o off=>some [.ptr o off]
 |.row o=>some [.row o]
 |.gy o n i off=>some [.gy o n i off]
 |.fn f n cs=>some [.fn f n cs]
def B1 (tb:TT) (fs:List (Nat×TypeId)) (s:S):List D->List (Nat×Operand)->Option (List D)
 |cs,[]=>some cs
 |cs,(i,x)::r=>match lf fs i with
  |none=>none
  |some (o,t)=>match tb.look t,kI (ev s x) with
   |some j,some ds=>bif Nat.beq ds.length j.size&&Nat.blt 0 j.size then match rM cs o ds with
    |some fU=>B1 tb fs s fU r
    |none=>none
    else none
   |_,_=>none
def idx:D->Option Int
 |.int _ n=>some n
 |_=>none
def LG (h:List AO):D->Option Nat
 |.list _ xs=>some xs.length
 |.own _ xs=>some xs.length
 |.nils=>some 0
 |.row o=>match lh h o with
  |.row _ _ xs=>some xs.length
  |_=>none
 |_=>none
def EA (s:S):Option Operand->Option Int
 |none=>some 0
 |some x=>idx (ev s x)
def H8 (s:S) (l:Nat):Option Operand->Option Int
 |none=>some l
 |some x=>idx (ev s x)
def B2 (E:En) (op:Op) (s:S) (k:D->T):T:=
 match op with
 |.move x=>k (ev s x)
 |.assign x=>k (ev s x)
 |.pick c a b=>match ev s c with
  |.bool b0=>match ev s a,ev s b with
   |.bool x,.bool y=>k (.bool (cond b0 x y))
   |x,y=>bT b0 (k x) (k y)
  |_=>.fail 10
 |.nilCheck x=>match ev s x with
  |.ptr o f=>k (.ptr o f)
  |.ref cs=>k (.ref cs)
  |.fn f n c=>k (.fn f n c)
  |.gy o n i f=>k (.gy o n i f)
  |_=>.fail 11
 |.binOp op xt x (.const .nilIface) _=>match ev s x,E.tb.look xt with
  |.gj b,some ⟨_,_,_,.iface⟩=>rP op b k
  |_,_=>.fail 27
 |.binOp op xt x y _=>bif LF (ev s x) then CD E.tb 6 xt (ev s x) (ev s y) fun z=>rP op z k else D8 E.tb op xt (ev s x) (ev s y) k
 |.unOp .not _ x=>match ev s x with
  |.bool b=>k (.bool (!b))
  |_=>.fail 12
 |.unOp .neg _ x=>match ev s x with
  |.int i n=>.wrap i (0-n) fun m=>k (.int i m)
  |_=>.fail 12
 |.convert src dst x=>match E.tb.look src,E.tb.look dst,ev s x with
  |some _,some ⟨_,_,_,.int i⟩,.int _ n=>.wrap i n fun m=>k (.int i m)
  |some ⟨_,_,_,.str⟩,some ⟨_,_,_,.str⟩,.str b=>k (.str b)
  |_,_,_=>.fail 13
 |.fieldAddr t x f=>match BN E.tb t f,ev s x with
  |some (o,_),.ptr p off=>k (.ptr p (off+o))
  |some (o,_),.ref cs=>k (.ref (yN o cs))
  |some (o,_),.gy p n i off=>k (.gy p n i (off+o))
  |_,_=>.fail 14
 |.field t x f=>match BN E.tb t f,ev s x with
  |some (o,u),.agg cs=>match uH E.tb u cs o with
   |some d=>k d
   |none=>.fail 15
  |_,_=>.fail 15
 |.build t parts=>match E.tb.look t with
  |some ⟨_,_,z,.struct fs⟩=>match B1 E.tb fs s z parts.toList with
   |some cs=>k (.agg cs)
   |none=>.fail 16
  |_=>.fail 16
 |.indexAddr t x i=>match E.tb.look t with
  |some ⟨_,_,_,.slice e⟩=>match ev s x,idx (ev s i),E.tb.look e with
   |.list n xs,some j,some y=>bif Nat.beq n y.size then .nth xs j fun c=>k (.ref c) else .fail 17
   |.own n xs,some j,some y=>bif Nat.beq n y.size then .nth xs j fun c=>k (.ref c) else .fail 17
   |.row o,some j,some y=>match lh s.h o with
    |.row _ n xs=>bif Nat.beq n y.size then .ask (0<=j/\j<xs.length) (k (.gy o n j.toNat 0)) else .fail 17
    |_=>.fail 17
   |_,_,_=>.fail 17
  |_=>.fail 17
 |.index t x i=>match E.tb.look t with
  |some ⟨_,_,_,.str⟩=>match ev s x,idx (ev s i) with
   |.str b,some j=>.byte b j fun c=>k (.int .u8 (c.toNat:Int))
   |_,_=>.fail 18
  |_=>.fail 18
 |.slice t x lo hi none=>match E.tb.look t,ev s x with
  |some ⟨_,_,_,.str⟩,.str b=>match EA s lo,H8 s b.length hi with
   |some l,some h=>.ask (0<=l/\l<=h/\h<=b.length) (k (.str ((b.drop l.toNat).take (h.toNat-l.toNat))))
   |_,_=>.fail 19
  |some ⟨_,_,_,.slice e⟩,.list n xs=>match EA s lo,H8 s xs.length hi,E.tb.look e with
   |some l,some h,some y=>bif Nat.beq n y.size then .ask (0<=l/\l<=h/\h<=xs.length) (k (.list n ((xs.drop l.toNat).take (h.toNat-l.toNat)))) else .fail 19
   |_,_,_=>.fail 19
  |_,_=>.fail 19
 |.makeInterface t x=>match ev s x,E.tb.look t with
  |.agg [],some ⟨_,_,_,.struct _⟩=>k (.jI t)
  |_,_=>.fail 26
 |.extract x i=>match ev s x with
  |.aj ds=>match ld ds i with
   |some d=>k d
   |none=>.fail 20
  |_=>.fail 20
 |.makeFunc (.func f) first fS=>match first.toList with
  |[]=>zZ (fS.toList.map (ev s)) fun cs=>k (.fn f 0 cs)
  |[x]=>zZ (ev s x::fS.toList.map (ev s)) fun cs=>k (.fn f 1 cs)
  |_=>.fail 21
 |.call ⟨.builtin .len,args,ts⟩=>match args.toList,ts.toList with
  |[x],[t]=>match E.tb.look t with
   |some ⟨_,_,_,.str⟩=>match ev s x with
    |.str b=>k (.int .i64 (b.length:Int))
    |_=>.fail 22
   |some ⟨_,_,_,.slice _⟩=>match LG s.h (ev s x) with
    |some n=>k (.int .i64 (n:Int))
    |none=>.fail 22
   |_=>.fail 22
  |_,_=>.fail 22
 |.call ⟨.builtin .max,args,_⟩=>match args.toList with
  |[x,y]=>match ev s x,ev s y with
   |.int i a,.int i' b=>bif Nat.beq (mX i) (mX i') then k (.int i (if a<b then b else a)) else .fail 23
   |_,_=>.fail 23
  |_=>.fail 23
 |.call ⟨.builtin .min,args,_⟩=>match args.toList with
  |[x,y]=>match ev s x,ev s y with
   |.int i a,.int i' b=>bif Nat.beq (mX i) (mX i') then k (.int i (if b<a then b else a)) else .fail 24
   |_,_=>.fail 24
  |_=>.fail 24
 |_=>.fail 25
def B3 (E:En) (op:Op) (s:S) (k:D->T):T:=
 match op with
 |.load t a=>match ev s a with
  |.ptr o off=>match lh s.h o with
   |.cells _ cs=>match uH E.tb t cs off with
    |some d=>k d
    |none=>.fail 30
   |_=>.fail 30
  |.ref cs=>match uH E.tb t cs 0 with
   |some d=>k d
   |none=>.fail 31
  |.gy o n i off=>match lh s.h o with
   |.row _ m xs=>bif Nat.beq n m then .nth xs (i:Int) fun x=>match uH E.tb t x off with
    |some d=>k d
    |none=>.fail 30
    else .fail 30
   |_=>.fail 30
  |_=>.fail 32
 |.convert src dst x=>match E.tb.look src,E.tb.look dst,ev s x with
  |some ⟨_,_,_,.slice e⟩,some ⟨_,_,_,.str⟩,.list 1 xs=>match E.tb.look e with
   |some ⟨_,_,_,.int .u8⟩=>.D7 xs fun b=>.ask (b.length<=140737488355328) (k (.str b))
   |_=>.fail 33
  |some ⟨_,_,_,.slice e⟩,some ⟨_,_,_,.str⟩,.row o=>match E.tb.look e,lh s.h o with
   |some ⟨_,_,_,.int .u8⟩,.row _ 1 xs=>.D7 xs fun b=>.ask (b.length<=140737488355328) (k (.str b))
   |_,_=>.fail 33
  |_,_,_=>.fail 33
 |_=>.fail 34
def AR (E:En) (op:Op) (s:S):Bool:=
 match op with
 |.load _ _=>true
 |.convert src dst _=>match E.tb.look src,E.tb.look dst with
  |some ⟨_,_,_,.slice _⟩,some ⟨_,_,_,.str⟩=>true
  |_,_=>false
 |_=>false
def AS (E:En) (op:Op) (s:S):Bool:=
 match op with
 |.alloc _|.box _ _|.buildSlice _ _ _|.store _ _ _|.makeSlice _ _ _|.panic _=>true
 |.call ⟨.builtin .append,_,_⟩=>true
 |.call ⟨.value _,_,_⟩=>true
 |.convert src dst _=>match E.tb.look src,E.tb.look dst with
  |some ⟨_,_,_,.str⟩,some ⟨_,_,_,.slice _⟩=>true
  |_,_=>false
 |_=>false
def ga:D->Bool
 |.ptr _ _=>false
 |.row _=>false
 |.gy _ _ _ _=>false
 |.any=>false
 |.jI _=>false
 |.gj _=>false
 |.bad=>false
 |.agg cs=>pl cs
 |.aj cs=>pl cs
 |.fn _ _ cs=>pl cs
 |_=>true
 where pl:List D->Bool
 |[]=>true
 |d::ds=>ga d&&pl ds
def BO (n:Nat):Nat->List D->Option (List (List D))
 |0,[]=>some []
 |0,_::_=>none
 |l+1,cs=>match AP n cs with
  |some r=>match BO n l (yN n cs) with
   |some rs=>some (r::rs)
   |none=>none
  |none=>none
def D9 (z:List D):Nat->List D
 |0=>[]
 |n+1=>z++D9 z n
def DS (n:Nat) (s:S):List D->List (Nat×Operand)->Option (List D)
 |cs,[]=>some cs
 |cs,(i,x)::r=>match kI (ev s x) with
  |some ds=>bif Nat.beq ds.length n then match rM cs (i*n) ds with
   |some fU=>DS n s fU r
   |none=>none
   else none
  |none=>none
def K4 (h:List AO) (n:Nat):D->Option (List (List D))
 |.list m ys=>bif Nat.beq m n then some ys else none
 |.nils=>some []
 |.row o=>match lh h o with
  |.row _ m ys=>bif Nat.beq m n then some ys else none
  |_=>none
 |_=>none
def xw:Nat->List D->List D->List D
 |0,fS,args=>args++fS
 |n+1,c::fS,args=>c::xw n fS args
 |_+1,[],args=>args
theorem PW:∀(n:Nat) (fS args:List D),xw n fS args=fS.take n++(args++fS.drop n)
 |0,fS,args=>by simp[xw]
 |n+1,c::fS,args=>by simp[xw,PW n fS args]
 |n+1,[],args=>by simp[xw]
def He (tb:TT) (t t':TypeId):Bool:=Nat.beq t t'||(match tb.look t,tb.look t' with
 |some ⟨_,_,_,.slice e⟩,some ⟨_,_,_,.slice e'⟩=>Nat.beq e e'
 |_,_=>false)
def K5 (E:En) (op:Op) (ty:TypeId) (s:S) (k:D->S->T):T:=
 match op with
 |.alloc e=>match E.tb.look e with
  |some ⟨_,_,z,_⟩=>yO s (.cells e z) (.ptr · 0) k
  |none=>.fail 40
 |.box e x=>match kI (ev s x) with
  |some cs=>yO s (.cells e cs) (.ptr · 0) k
  |none=>.fail 41
 |.store t a x=>match ev s a,E.tb.look t,kI (ev s x) with
  |.ptr o off,some i,some ds=>match lh s.h o with
   |.cells e cs=>bif Nat.beq ds.length i.size then match rM cs off ds with
    |some fU=>Cf s (sh s.h o (.cells e fU)) (k (.aj []))
    |none=>.fail 42
    else .fail 42
   |_=>.fail 42
  |.gy o n j off,some i,some ds=>match lh s.h o with
   |.row e m xs=>bif Nat.beq n m&&(Nat.beq ds.length i.size&&(Nat.blt 0 i.size&&ga.pl ds)) then .nth xs (j:Int) fun x=>match rM x off ds with
     |some x'=>Cf s (sh s.h o (.row e m (xs.set j x'))) (k (.aj []))
     |none=>.fail 42
    else .fail 42
   |_=>.fail 42
  |_,_,_=>.fail 42
 |.buildSlice t len parts=>match E.tb.look t with
  |some ⟨_,_,_,.slice e⟩=>match E.tb.look e with
   |some i=>bif Nat.blt 0 i.size&&Nat.ble (len*i.size) 16777216 then match DS i.size s (D9 i.zero len) parts.toList with
    |some cs=>bif ga.pl cs then match BO i.size len cs with
     |some xs=>bif E.CC then k (.list i.size xs) s else yO s (.row e i.size xs) .row k
     |none=>.fail 46
     else .fail 46
    |none=>.fail 46
    else .fail 46
   |none=>.fail 46
  |_=>.fail 46
 |.convert src dst x=>match E.tb.look src,E.tb.look dst,ev s x with
  |some ⟨_,_,_,.str⟩,some ⟨_,_,_,.slice e⟩,.str b=>match E.tb.look e with
   |some ⟨_,_,_,.int .u8⟩=>.ask (b.length<=140737488355328) (bif E.CC then k (.list 1 (b.map af)) s else yO s (.row e 1 (b.map af)) .row k)
   |_=>.fail 47
  |_,_,_=>.fail 47
 |.call ⟨.builtin .append,args,ts⟩=>match args.toList,ts.toList with
  |[x,y],[t,t']=>bif He E.tb t t' then match E.tb.look t with
   |some ⟨_,_,_,.slice e⟩=>match E.tb.look e with
    |some i=>bif Nat.blt 0 i.size then match K4 s.h i.size (ev s y) with
     |some ys=>match ev s x with
      |.nils=>.ask (ys.length<=maxLen/\ys.length*i.bytes<=140737488355328) (bif E.CC&&!Nat.beq t t' then yO s .gone (fun _=>.list i.size ys) k else yO s (.row e i.size ys) .row k)
      |.row o=>match lh s.h o with
       |.row e' n' xs=>bif Nat.beq e e'&&Nat.beq i.size n' then .ask (xs.length+ys.length<=maxLen/\(xs.length+ys.length)*i.bytes<=140737488355328) (Cf s (sh s.h o .gone++[.row e i.size (xs++ys)]) (k (.row s.h.length))) else .fail 43
       |_=>.fail 43
      |_=>.fail 43
     |none=>.fail 43
     else .fail 43
    |none=>.fail 43
   |_=>.fail 43
   else match E.tb.look t,E.tb.look t',ev s x,ev s y with
   |some ⟨_,_,_,.slice e⟩,some ⟨_,_,_,.str⟩,.row o,.str b=>match E.tb.look e,lh s.h o with
    |some ⟨sz,jJ,_,.int .u8⟩,.row e' n' xs=>bif (Nat.beq e e'&&Nat.beq 1 n')&&Nat.beq sz 1 then .ask (xs.length+b.length<=maxLen/\(xs.length+b.length)*jJ<=140737488355328) (Cf s (sh s.h o .gone++[.row e 1 (xs++b.map af)]) (k (.row s.h.length))) else .fail 43
    |_,_=>.fail 43
   |_,_,_,_=>.fail 43
  |_,_=>.fail 43
 |.call ⟨.value f,args,_⟩=>match ev s f with
  |.fn g n fS=>zZ (xw n fS (args.toList.map (ev s))) fun az=>.call g az s.h fun r h'=>K3 s h' (k r)
  |_=>.fail 44
 |.panic x=>match ev s x with
  |.jI t=>.die (.iface t (.agg #[]))
  |_=>.fail 48
 |_=>.fail 45
def nj (op:Op) (s:S):List Nat:=
 match op with
 |.store _ a _=>match ev s a with
  |.ptr o _=>[o]
  |.gy o _ _ _=>[o]
  |_=>[]
 |.call ⟨.builtin .append,args,_⟩=>match args.toList with
  |x::_=>match ev s x with
   |.row o=>[o]
   |_=>[]
  |_=>[]
 |.call ⟨.value f,args,_⟩=>match ev s f with
  |.fn _ n fS=>jT s.h (xw n fS (args.toList.map (ev s)))
  |_=>[]
 |_=>[]
def yP (E:En) (op:Op) (ty:TypeId) (s:S) (k:D->S->T):T:=
 bif AS E op s then K5 E op ty s k else bif AR E op s then B3 E op s (fun d=>k d s) else B2 E op s (fun d=>k d s)
section
set_option linter.unusedSectionVars false
variable [Old]
section
variable {I:Nat->Prop} {g:bH} {w:World} {v:Value}
theorem Vr.rm {b:Bool} (h:Vr I g w v (.bool b)):v=.bool b:=by cases h with|rd h=>cases h;rfl
theorem Vr.nI {k:IntKind} {n:Int} (h:Vr I g w v (.int k n)):v=.int k n:=by cases h with|rd h=>cases h;rfl
theorem Vr.nJ {s:List UInt8} (h:Vr I g w v (.str s)):v=.string (aA s):=by cases h with|rd h=>cases h;rfl
theorem Vr.vN (h:Vr I g w v .nils):v=.slice none 0 0:=by cases h with|rd h=>cases h;rfl
theorem Vr.Dd (h:Vr I g w v .ff):v=.pointer none:=by cases h with|rd h=>cases h;rfl
theorem Vr.vO {n:Nat} {xs:List (List D)} (h:Vr I g w v (.list n xs)):Dr I w v (.list n xs):=by cases h with|rd h=>exact h
theorem Vr.Q3 {n:Nat} {xs:List (List D)} (h:Vr I g w v (.own n xs)):Dr I w v (.own n xs):=by cases h with|rd h=>exact h
theorem Vr.forget {n:Nat} {xs:List (List D)} (h:Vr I g w v (.own n xs)):Vr I g w v (.list n xs):=.rd h.Q3.forget
theorem Vr.F8 {cs:List D} (h:Vr I g w v (.ref cs)):Dr I w v (.ref cs):=by cases h with|rd h=>exact h
theorem Vr.xd {o off:Nat} (h:Vr I g w v (.ptr o off)):∃b bo,g[o]?=some (bo,.pointer (some ⟨b,0,none⟩))/\v=.pointer (some ⟨b,off,none⟩):=by
 cases h with
 |rd h=>cases h
 |ptr _ _ b bo h=>exact⟨b,bo,h,rfl⟩
theorem Vr.w9 {o:Nat} (h:Vr I g w v (.row o)):∃bo a l c,g[o]?=some (bo,.slice a l c)/\v=.slice a l c:=by
 cases h with
 |rd h=>cases h
 |row _ bo a l c h=>exact⟨bo,a,l,c,h,rfl⟩
theorem Vr.De {o n i off:Nat} (h:Vr I g w v (.gy o n i off)):∃bo b base l c,g[o]?=some (bo,.slice (some ⟨b,base,none⟩) l c)/\v=.pointer (some ⟨b,base+i*n+off,none⟩):=by
 cases h with
 |rd h=>cases h
 |gy _ _ _ _ b base l c bo h=>exact⟨bo,b,base,l,c,h,rfl⟩
theorem Vr.yy {ds:List D} (h:Vr I g w v (.agg ds)):∃vs:List Value,v=.agg vs.toArray/\cJ I g w vs ds/\∀v∈vs,v.oneCell'=true:=by
 cases h with
 |rd h=>
  cases h with
  |agg vs _ hl h1 h=>exact⟨vs,rfl,⟨hl,fun i v d a b=>.rd (h i v d a b)⟩,h1⟩
 |agg vs _ hl h1 h=>exact⟨vs,rfl,⟨hl,h⟩,h1⟩
theorem Vr.F7 {ds:List D} (h:Vr I g w v (.aj ds)):∃vs:List Value,v=.tuple vs.toArray/\cJ I g w vs ds:=by
 cases h with
 |rd h=>
  cases h with
  |aj vs _ hl h=>exact⟨vs,rfl,⟨hl,fun i v d a b=>.rd (h i v d a b)⟩⟩
 |aj vs _ hl h=>exact⟨vs,rfl,⟨hl,h⟩⟩
theorem Vr.Gj {f:FuncId} {n:Nat} {ds:List D} (h:Vr I g w v (.fn f n ds)):∃vs:List Value,v=.func (.func f) (vs.take n).toArray (vs.drop n).toArray/\cJ I g w vs ds:=by
 cases h with
 |rd h=>
  cases h with
  |fn _ _ vs _ hl h=>exact⟨vs,rfl,⟨hl,fun i v d a b=>.rd (h i v d a b)⟩⟩
 |fn _ _ vs _ hl h=>exact⟨vs,rfl,⟨hl,h⟩⟩
theorem Vr.acf {t:TypeId} (h:Vr I g w v (.jI t)):v=.iface t (.agg #[]):=by
 generalize hq:D.jI t=q at h
 cases h with
 |jI t'=>injection hq with hq;rw[hq]
 |rd h=>
  subst hq
  generalize hq:D.jI t=q at h
  cases h<;>cases hq
 |_=>cases hq
theorem Vr.Ke {b:Bool} (h:Vr I g w v (.gj b)):(b=true/\v=.nilIface)\/(b=false/\∃t x,v=.iface t x):=by
 generalize hq:D.gj b=q at h
 cases h with
 |oQ=>injection hq with hq;exact .inl ⟨hq,rfl⟩
 |gj t x=>injection hq with hq;exact .inr ⟨hq,t,x,rfl⟩
 |rd h=>
  subst hq
  generalize hq:D.gj b=q at h
  cases h<;>cases hq
 |_=>cases hq
theorem Vr.eU {vs:List Value} {ds:List D} (h:cJ I g w vs ds) (h1:∀v∈vs,v.oneCell'=true):Vr I g w (.agg vs.toArray) (.agg ds):=.agg vs ds h.1 h1 h.2
theorem Vr.oO {vs:List Value} {ds:List D} (h:cJ I g w vs ds):Vr I g w (.tuple vs.toArray) (.aj ds):=.aj vs ds h.1 h.2
theorem Vr.undef:Vr I g w Go.undef (.aj []):=.rd (.aj [] [] rfl (fun i v d h=>by simp at h))
theorem Vr.Ao (k:IntKind) (n:Int):Vr I g w (.int k n) (.int k n):=.rd (.int k n)
theorem Vr.GQ (b:Bool):Vr I g w (.bool b) (.bool b):=.rd (.bool b)
theorem Vr.Hf (s:List UInt8):Vr I g w (.string (aA s)) (.str s):=.rd (.str s)
end
theorem X7 (s:ByteArray):aA s.data.toList=s:=by cases s;rfl
theorem adB {I:Nat->Prop} {g:bH} {w:World} (v:Value):Vr I g w v (Hq v):=by
 unfold Hq
 split
 ·exact .rd (.bool _)
 ·exact .rd (.int _ _)
 ·rename_i s
  have:Vr I g w (.string (aA s.data.toList)) (.str s.data.toList):=.rd (.str _)
  rwa [X7] at this
 ·exact .rd .nils
 ·exact .rd .ff
 ·exact .rd .ay
 ·exact .rd .kL
 ·exact .any _
theorem aeE {I:Nat->Prop} {g:bH} {w:World} {s:S} {a:Act} (h:∀j,Vr I g w (a.tmps.getD j undef) (lk s.t j)) (x:Operand):Vr I g w (a.eval x) (ev s x):=by
 cases x with
 |tmp t=>exact h t
 |const v=>exact adB v
 |global gl=>exact .any _
 |func f=>exact .rd (.fn f 0 [] [] rfl (fun i v d h=>by simp at h))
theorem F9 {k k':IntKind} (h:Nat.beq (mX k) (mX k')=true):k=k':=by cases k<;>cases k'<;>first|rfl|(simp[mX] at h)
section
variable {P:Program} {Q:Exit->S->Prop}
def Pv [Wd] (P:Program) (m:Sem Value) (Q:Exit->S->Prop) (c:D->T) (R:Value->D->Prop):Prop:=∃v d,(∀w,m.run P w=.ok v w)/\R v d/\(c d).ok P Q
def Same (v:Value) (d:D):Prop:=∀(I:Nat->Prop) (g:bH) (w:World),Vr I g w v d
theorem adC [Wd] {op:BinOp} {k k':IntKind} {a b:Int} {c:D->T} (xt:TypeId) (h:(MM op k a b c).ok P Q):Pv P (binOp op xt (.int k a) (.int k' b)) Q c Same:=by
 unfold MM at h
 split at h
 ·obtain⟨h0,h⟩:=h
  exact⟨_,_,fun w=>by simp[binOp,Op.shift,show ¬b<0 by omega],fun _ _ _=>.rd (.int _ _),h⟩
 ·obtain⟨h0,h⟩:=h
  exact⟨_,_,fun w=>by simp[binOp,Op.shift,show ¬b<0 by omega],fun _ _ _=>.rd (.int _ _),h⟩
 ·exact h.elim
theorem acg [Wd] {op:BinOp} {k:IntKind} {a b:Int} {c:D->T} (xt:TypeId) (h:(LC op k a b c).ok P Q):Pv P (binOp op xt (.int k a) (.int k b)) Q c Same:=by
 cases op<;>simp only[LC,T.ok] at h
 case add=>exact⟨_,_,fun w=>by simp[binOp,Op.intArith],fun _ _ _=>.rd (.int _ _),h⟩
 case sub=>exact⟨_,_,fun w=>by simp[binOp,Op.intArith],fun _ _ _=>.rd (.int _ _),h⟩
 case mul=>exact⟨_,_,fun w=>by simp[binOp,Op.intArith],fun _ _ _=>.rd (.int _ _),h⟩
 case quo=>exact⟨_,_,fun w=>by simp[binOp,Op.intDiv,h.1],fun _ _ _=>.rd (.int _ _),h.2⟩
 case rem=>exact⟨_,_,fun w=>by simp[binOp,Op.intDiv,h.1],fun _ _ _=>.rd (.int _ _),h.2⟩
 case and=>exact⟨_,_,fun w=>by simp[binOp,intBits_and],fun _ _ _=>.rd (.int _ _),h⟩
 case or=>exact⟨_,_,fun w=>by simp[binOp,intBits_or],fun _ _ _=>.rd (.int _ _),h⟩
 case xor=>exact⟨_,_,fun w=>by simp[binOp,intBits_xor],fun _ _ _=>.rd (.int _ _),h⟩
 case eql=>exact⟨_,_,fun w=>by simp[binOp,Op.intCmp],fun _ _ _=>.rd (.bool _),h⟩
 case neq=>exact⟨_,_,fun w=>by simp[binOp,Op.intCmp],fun _ _ _=>.rd (.bool _),h⟩
 case lss=>exact⟨_,_,fun w=>by simp[binOp,Op.intCmp],fun _ _ _=>.rd (.bool _),h⟩
 case leq=>exact⟨_,_,fun w=>by simp[binOp,Op.intCmp],fun _ _ _=>.rd (.bool _),h⟩
 case gtr=>exact⟨_,_,fun w=>by simp[binOp,Op.intCmp],fun _ _ _=>.rd (.bool _),h⟩
 case geq=>exact⟨_,_,fun w=>by simp[binOp,Op.intCmp],fun _ _ _=>.rd (.bool _),h⟩
theorem Jg (a b:List UInt8):((aA a).toList==(aA b).toList)=decide (a=b):=by
 rw[A8,A8,Bool.eq_iff_iff];simp
theorem SQ (a b:List UInt8):(a==b)=decide (a=b):=by rw[Bool.eq_iff_iff];simp
theorem V0 (a b:List UInt8):aA a++aA b=aA (a++b):=by
 apply ByteArray.ext
 simp[aA]
theorem oI (a:List UInt8):(aA a).size=a.length:=by simp[aA,ByteArray.size]
theorem ach [Wd] {op:BinOp} {a b:List UInt8} {c:D->T} (xt:TypeId) (h:(LD op a b c).ok P Q):Pv P (binOp op xt (.string (aA a)) (.string (aA b))) Q c Same:=by
 cases op<;>simp only[LD,T.ok] at h
 case add=>
  refine⟨_,_,fun w=>?_,fun _ _ _=>.rd (.str _),h.2⟩
  have h0:¬((((aA a).size+(aA b).size:Nat):Int)>IntKind.i64.max):=by
   rw[oI,oI]
   have:=h.1
   simp only[IntKind.max,IntKind.signed,IntKind.bits]
   simp
   omega
  simp only[binOp,Op.stringOp,if_neg h0]
  rw[V0];rfl
 case eql=>exact⟨_,_,fun w=>by simp only[binOp,Op.stringOp,Jg];rfl,fun _ _ _=>.rd (.bool _),h⟩
 case neq=>exact⟨_,_,fun w=>by simp only[binOp,Op.stringOp,Jg];rfl,fun _ _ _=>.rd (.bool _),h⟩
 case lss=>exact⟨_,_,fun w=>by simp only[binOp,Op.stringOp,A8];rfl,fun _ _ _=>.rd (.bool _),h⟩
 case leq=>exact⟨_,_,fun w=>by simp only[binOp,Op.stringOp,A8,SQ];rfl,fun _ _ _=>.rd (.bool _),h⟩
 case gtr=>exact⟨_,_,fun w=>by simp only[binOp,Op.stringOp,A8,SQ];rfl,fun _ _ _=>.rd (.bool _),h⟩
 case geq=>exact⟨_,_,fun w=>by simp only[binOp,Op.stringOp,A8];rfl,fun _ _ _=>.rd (.bool _),h⟩
theorem yz [Wd] {op:BinOp} {z:Bool} {c:D->T} {xt:TypeId} {x y:Value} (hx:∀w,(Op.equal xt x y).run P w=.ok z w) (h1:∀k n,x≠.int k n) (h2:∀s,x≠.string s) (h3:∀k n,x≠.float k n) (h4:∀k n m,x≠.complex k n m) (h:(rP op z c).ok P Q):
 Pv P (binOp op xt x y) Q c Same:=by
 cases op<;>simp only[rP,T.ok] at h
 case eql=>
  refine⟨_,_,fun w=>?_,fun _ _ _=>.rd (.bool z),h⟩
  have:binOp .eql xt x y=(do pure (.bool (<-Op.equal xt x y))):=by
   cases x<;>first|exact absurd rfl (h1 _ _)|exact absurd rfl (h2 _)|exact absurd rfl (h3 _ _)|exact absurd rfl (h4 _ _ _)|rfl
  rw[this,Sem.run_bind,hx];rfl
 case neq=>
  refine⟨_,_,fun w=>?_,fun _ _ _=>.rd (.bool (!z)),h⟩
  have:binOp .neq xt x y=(do pure (.bool (!(<-Op.equal xt x y)))):=by
   cases x<;>first|exact absurd rfl (h1 _ _)|exact absurd rfl (h2 _)|exact absurd rfl (h3 _ _)|exact absurd rfl (h4 _ _ _)|rfl
  rw[this,Sem.run_bind,hx];rfl
theorem OY {tb:TT} (aM:tb.ok P) {t:TypeId} {a b:Nat} {z:List D} (h:tb.look t=some ⟨a,b,z,.bool⟩):P.underlying t=some .bool:=by
 have:=(aM t _ h).kind
 simp only[uQ] at this
 split at this
 ·assumption
 ·cases this
theorem vP {tb:TT} (aM:tb.ok P) {t:TypeId} {a b:Nat} {z:List D} (h:tb.look t=some ⟨a,b,z,.str⟩):P.underlying t=some .string:=by
 have:=(aM t _ h).kind
 simp only[uQ] at this
 split at this
 ·assumption
 ·cases this
theorem PX {tb:TT} (aM:tb.ok P) {t:TypeId} {a b:Nat} {z:List D} (h:tb.look t=some ⟨a,b,z,.ptr⟩):∃e,P.underlying t=some (.pointer e):=by
 have:=(aM t _ h).kind
 simp only[uQ] at this
 split at this
 ·exact⟨_,by assumption⟩
 ·cases this
theorem Df {tb:TT} (aM:tb.ok P) {t:TypeId} {a b:Nat} {z:List D} {k:IntKind} (h:tb.look t=some ⟨a,b,z,.int k⟩):P.underlying t=some (.int k):=by
 have:=(aM t _ h).kind
 simp only[uQ] at this
 split at this
 ·rename_i k' e
  have:k=k':=by simpa using this
  subst this;exact e
 ·cases this
theorem nF {tb:TT} (aM:tb.ok P) {t e:TypeId} {a b:Nat} {z:List D} (h:tb.look t=some ⟨a,b,z,.slice e⟩):P.underlying t=some (.slice e):=by
 have:=(aM t _ h).kind
 simp only[uQ] at this
 split at this
 ·rename_i k' q
  have:e=k':=by simpa using this
  subst this;exact q
 ·cases this
theorem EZ {tb:TT} (aM:tb.ok P) {t:TypeId} {a b:Nat} {z:List D} {fs:List (Nat×TypeId)} (h:tb.look t=some ⟨a,b,z,.struct fs⟩):∃gs:Array Field,P.underlying t=some (.struct gs)/\(fs=gs.toList.map fun f=>(f.offset,f.type))/\∀f∈gs.toList,∃i,P.info? f.type=some i:=by
 have:=(aM t _ h).kind
 simp only[uQ] at this
 split at this
 ·rename_i gs q
  rw[Bool.and_eq_true] at this
  refine⟨gs,q,by simpa using this.1,fun f hf=>?_⟩
  have h2:=List.all_eq_true.1 this.2 f hf
  exact Option.isSome_iff_exists.1 h2
 ·cases this
theorem OZ {tb:TT} (aM:tb.ok P) {t:TypeId} {i:qY} (h:tb.look t=some i):∃d,P.underlying t=some d:=by
 have:=(aM t _ h).kind
 unfold uQ at this
 cases hu:P.underlying t with
 |some d=>exact⟨d,rfl⟩
 |none=>rw[hu] at this;cases hk:i.kind<;>simp[hk] at this
theorem run_equal_bool {t:TypeId} (h:P.underlying t=some .bool) (a b:Bool) (w:World):(Op.equal t (.bool a) (.bool b)).run P w=.ok (a==b) w:=by
 unfold Op.equal
 rw[show Op.maxDepth=9999+1 from rfl,Op.equalIn,Sem.run_bind,run_underlying h]
 rfl
theorem UX {t e:TypeId} (h:P.underlying t=some (.pointer e)) (a:Addr) (w:World):(Op.equal t (.pointer (some a)) (.pointer none)).run P w=.ok false w:=by
 unfold Op.equal
 rw[show Op.maxDepth=9999+1 from rfl,Op.equalIn,Sem.run_bind,run_underlying h]
 rfl
theorem UN {t e:TypeId} (h:P.underlying t=some (.pointer e)) (w:World):(Op.equal t (.pointer none) (.pointer none)).run P w=.ok true w:=by
 unfold Op.equal
 rw[show Op.maxDepth=9999+1 from rfl,Op.equalIn,Sem.run_bind,run_underlying h]
 rfl
theorem WT {tb:TT} (aM:tb.ok P) {t:TypeId} {a b:Nat} {z:List D} (h:tb.look t=some ⟨a,b,z,.iface⟩):∃ms,P.underlying t=some (.interface ms):=by
 have:=(aM t _ h).kind
 simp only[uQ] at this
 split at this
 ·exact⟨_,by assumption⟩
 ·cases this
theorem Uz {t:TypeId} {ms} (h:P.underlying t=some (.interface ms)) (u:TypeId) (x:Value) (w:World):(Op.equal t (.iface u x) .nilIface).run P w=.ok false w:=by
 unfold Op.equal
 rw[show Op.maxDepth=9999+1 from rfl,Op.equalIn,Sem.run_bind,run_underlying h]
 rfl
theorem UA {t:TypeId} {ms} (h:P.underlying t=some (.interface ms)) (w:World):(Op.equal t .nilIface .nilIface).run P w=.ok true w:=by
 unfold Op.equal
 rw[show Op.maxDepth=9999+1 from rfl,Op.equalIn,Sem.run_bind,run_underlying h]
 rfl
theorem ET {t e:TypeId} (h:P.underlying t=some (.slice e)) (a:Option Addr) (l c:Nat) (w:World):(Op.equal t (.slice a l c) (.slice none 0 0)).run P w=.ok a.isNone w:=by
 unfold Op.equal
 rw[show Op.maxDepth=9999+1 from rfl,Op.equalIn,Sem.run_bind,run_underlying h]
 cases a<;>rfl
theorem aci [Wd] {tb:TT} (aM:tb.ok P) {op:BinOp} {xt:TypeId} {x y:D} {u v:Value} {I:Nat->Prop} {g:bH} {w:World} (hx:Vr I g w u x) (hy:Vr I g w v y) {c:D->T} (h:(D8 tb op xt x y c).ok P Q):Pv P (binOp op xt u v) Q c Same:=by
 unfold D8 at h
 split at h
 ·cases hx.nI;cases hy.nI
  rename_i k a k' b
  cases hs:SP op with
  |true=>
   rw[hs] at h
   exact adC xt h
  |false=>
  rw[hs] at h
  cases hk:Nat.beq (mX k) (mX k') with
  |false=>rw[hk] at h;exact h.elim
  |true=>
   rw[hk] at h
   cases F9 hk
   exact acg xt h
 ·cases hx.nJ;cases hy.nJ
  exact ach xt h
 ·cases hx.rm;cases hy.rm
  split at h
  ·rename_i e
   exact yz (run_equal_bool (OY aM e) _ _) (by simp) (by simp) (by simp) (by simp) h
  ·exact h.elim
 ·obtain⟨b,bo,_,rfl⟩:=hx.xd
  cases hy.Dd
  split at h
  ·rename_i e
   obtain⟨e',q⟩:=PX aM e
   exact yz (UX q _) (by simp) (by simp) (by simp) (by simp) h
  ·exact h.elim
 ·cases hx.Dd
  cases hy.Dd
  split at h
  ·rename_i e
   obtain⟨e',q⟩:=PX aM e
   exact yz (UN q) (by simp) (by simp) (by simp) (by simp) h
  ·exact h.elim
 ·rename_i n xs
  cases hy.vN
  split at h
  ·rename_i e
   have q:=nF aM e
   have h0:=hx.vO
   cases h0 with
   |list A cap _ l _ U dH hl hm fI hlen hA h1 hU=>
    cases A with
    |none=>
     have hxs:xs=[]:=List.eq_nil_of_length_eq_zero (by rw[<-dH];exact(fI rfl).1)
     subst hxs
     exact yz (ET q none l cap) (by simp) (by simp) (by simp) (by simp) (show _/\_ from h).1
    |some a=>
     cases hb:xs.isEmpty<;>rw[hb] at h
     case true=>exact yz (ET q (some a) l cap) (by simp) (by simp) (by simp) (by simp) (show _/\_ from h).2
     case false=>exact yz (ET q (some a) l cap) (by simp) (by simp) (by simp) (by simp) h
  ·exact h.elim
 ·cases hx.vN
  cases hy.vN
  split at h
  ·rename_i e
   exact yz (ET (nF aM e) none 0 0) (by simp) (by simp) (by simp) (by simp) h
  ·exact h.elim
 ·exact h.elim
end
end
end Go.Proofs.YtafomdobfmmleaaGreatDoor
