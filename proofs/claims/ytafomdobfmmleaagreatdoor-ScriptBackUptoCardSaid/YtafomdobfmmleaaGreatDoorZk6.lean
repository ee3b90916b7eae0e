/- Lemmas and contracts, part 6. -/
import Derived.Test.YtafomdobfmmleaaGreatDoorZk5
import Derived.Laws.CopyRow
/- Lemmas and contracts. -/
namespace Go.Proofs.YtafomdobfmmleaaGreatDoor
open Go.RowKit
set_option linter.unusedSectionVars false
variable [Old]
set_option linter.unusedVariables false
theorem C7:∀(l:List D) (n:Nat),ld l n=l[n]?
 |[],_=>by simp[ld]
 |d::_,0=>by simp[ld]
 |_::l,n+1=>by simp[ld,C7 l n]
theorem Gj:∀(l:List (Nat×TypeId)) (n:Nat),lf l n=l[n]?
 |[],_=>by simp[lf]
 |d::_,0=>by simp[lf]
 |_::l,n+1=>by simp[lf,Gj l n]
theorem vv:∀(n:Nat) (l:List D),uP n l=l.drop n
 |0,l=>by simp[uP]
 |_+1,[]=>by simp[uP]
 |n+1,_::l=>by simp[uP,vv n l]
theorem C8:∀(n:Nat) (l r:List D),wM n l=some r->r=l.take n/\n<=l.length
 |0,l,r,h=>by simp[wM] at h;subst h;simp
 |_+1,[],r,h=>by simp[wM] at h
 |n+1,d::l,r,h=>by
  simp only[wM] at h
  split at h
  ·rename_i r' e
   injection h with h
   subst h
   obtain⟨rfl,h2⟩:=C8 n l r' e
   exact⟨by simp,by simp;omega⟩
  ·cases h
def iL:List D->Nat->List D->List D
 |l,_,[]=>l
 |l,o,d::ds=>iL (l.set o d) (o+1) ds
def mR:List Value->Nat->List Value->List Value
 |l,_,[]=>l
 |l,o,d::ds=>mR (l.set o d) (o+1) ds
theorem BU (a:D):∀(ds l:List D) (o:Nat),iL (a::l) (o+1) ds=a::iL l o ds
 |[],l,o=>rfl
 |d::ds,l,o=>by simp only[iL,List.set_cons_succ,BU a ds]
theorem xx:∀(l:List D) (o:Nat) (ds r:List D),oI l o ds=some r->r=iL l o ds/\(ds=[]\/o+ds.length<=l.length)
 |l,0,[],r,h=>by
  have:some l=some r:=by cases l<;>simpa[oI] using h
  injection this with this
  exact⟨by rw[<-this];rfl,.inl rfl⟩
 |[],0,d::ds,r,h=>by simp[oI] at h
 |a::l,0,d::ds,r,h=>by
  simp only[oI] at h
  split at h
  ·rename_i r' e
   injection h with h
   subst h
   obtain⟨rfl,h2⟩:=xx l 0 ds r' e
   refine⟨by simp[iL,BU],.inr ?_⟩
   rcases h2 with rfl|h2
   ·simp
   ·simp;omega
  ·cases h
 |[],n+1,[],r,h=>by simp[oI] at h;subst h;exact⟨rfl,.inl rfl⟩
 |[],n+1,d::ds,r,h=>by simp[oI] at h
 |a::l,n+1,ds,r,h=>by
  simp only[oI] at h
  split at h
  ·rename_i r' e
   injection h with h
   subst h
   obtain⟨rfl,h2⟩:=xx l n ds r' e
   refine⟨by rw[BU],?_⟩
   rcases h2 with rfl|h2
   ·exact .inl rfl
   ·exact .inr (by simp;omega)
  ·cases h
theorem B7:∀(us l:List Value) (o:Nat) (v:Value),v∈mR l o us->v∈l\/v∈us
 |[],l,o,v,h=>.inl h
 |u::us,l,o,v,h=>by
  rw[mR] at h
  rcases B7 us _ _ v h with h|h
  ·rcases List.mem_or_eq_of_mem_set h with h|h
   ·exact .inl h
   ·exact .inr (by simp[h])
  ·exact .inr (by simp[h])
theorem KN:∀(us l:List Value) (o:Nat),o+us.length<=l.length->mR l o us=l.take o++us++l.drop (o+us.length)
 |[],l,o,h=>by simp[mR]
 |u::us,l,o,h=>by
  have h':o+us.length+1<=l.length:=by simp at h;omega
  rw[mR,KN us _ _ (by simp;omega)]
  have e:=list_seg_step l o u us (by omega)
  simpa[Nat.add_comm,Nat.add_left_comm,Nat.add_assoc] using e
theorem JA:∀(x r ds:List D) (o:Nat),iL (x++r) (x.length+o) ds=x++iL r o ds
 |[],r,ds,o=>by simp
 |a::x,r,ds,o=>by
  have e:(a::x).length+o=(x.length+o)+1:=by simp;omega
  rw[List.cons_append,e,BU,JA x r ds o];rfl
theorem J2 (r:List D):∀(ds x:List D) (o:Nat),o+ds.length<=x.length->iL (x++r) o ds=iL x o ds++r
 |[],x,o,h=>rfl
 |d::ds,x,o,h=>by
  have h':o+ds.length+1<=x.length:=by simp at h;omega
  rw[iL,iL,List.set_append_left _ _ (by omega),J2 r ds (x.set o d) (o+1) (by simp;omega)]
theorem Ly {n:Nat}:∀(xs:List (List D)),(∀x∈xs,x.length=n)->∀(j off:Nat) (x0 ds:List D),xs[j]?=some x0->off+ds.length<=n->(xs.set j (iL x0 off ds)).flatten=iL xs.flatten (j*n+off) ds
 |[],_,j,off,x0,ds,h,_=>by simp at h
 |x::xs,hl,0,off,x0,ds,h,ho=>by
  have hx:x=x0:=by simpa using h
  subst hx
  rw[List.set_cons_zero,List.flatten_cons,List.flatten_cons,Nat.zero_mul,Nat.zero_add,J2 _ _ _ _ (by rw[hl x (by simp)];exact ho)]
 |x::xs,hl,j+1,off,x0,ds,h,ho=>by
  have hx:x.length=n:=hl x (by simp)
  rw[List.set_cons_succ,List.flatten_cons,List.flatten_cons,Ly xs (fun y hy=>hl y (by simp[hy])) j off x0 ds (by simpa using h) ho]
  have e:(j+1)*n+off=x.length+(j*n+off):=by rw[hx,Nat.add_mul];omega
  rw[e,JA]
theorem Lz {n:Nat}:∀(xs:List (List D)),(∀x∈xs,x.length=n)->∀(j:Nat) (x0:List D),xs[j]?=some x0->(xs.flatten.drop (j*n)).take n=x0
 |[],_,j,x0,h=>by simp at h
 |x::xs,hl,0,x0,h=>by
  have hx:x=x0:=by simpa using h
  subst hx
  rw[Nat.zero_mul,List.drop_zero,List.flatten_cons,<-hl x (by simp),List.take_left]
 |x::xs,hl,j+1,x0,h=>by
  have hx:x.length=n:=hl x (by simp)
  have e:(j+1)*n=x.length+j*n:=by rw[hx,Nat.add_mul];omega
  rw[List.flatten_cons,e,List.drop_append,List.drop_of_length_le (Nat.le_add_right _ _),List.nil_append,Nat.add_sub_cancel_left]
  exact Lz xs (fun y hy=>hl y (by simp[hy])) j x0 (by simpa using h)
theorem KO:∀(us l:List D) (o:Nat),(iL l o us).length=l.length
 |[],l,o=>rfl
 |u::us,l,o=>by rw[iL,KO us];simp
theorem cC.set {I:Nat->Prop} {w:World} {vs:List Value} {ds:List D} (h:cC I w vs ds) {v:Value} {d:D} (k:Dr I w v d) (i:Nat):cC I w (vs.set i v) (ds.set i d):=by
 refine⟨by simp[h.1],fun j u e h1 h2=>?_⟩
 rw[List.getElem?_set] at h1 h2
 split at h1
 ·rename_i qU
  subst qU
  rw[if_pos rfl] at h2
  split at h1
  ·rename_i hlt
   rw[if_pos (by rw[<-h.1];exact hlt)] at h2
   injection h1 with h1;injection h2 with h2
   subst h1 h2
   exact k
  ·cases h1
 ·rename_i qU
  rw[if_neg qU] at h2
  exact h.2 j u e h1 h2
theorem cC.nG {I:Nat->Prop} {w:World}:∀{us:List Value} {es:List D} {vs:List Value} {ds:List D} (o:Nat),cC I w vs ds->cC I w us es->cC I w (mR vs o us) (iL ds o es)
 |[],[],vs,ds,o,h,k=>h
 |[],e::es,vs,ds,o,h,k=>by have:=k.1;simp at this
 |u::us,[],vs,ds,o,h,k=>by have:=k.1;simp at this
 |u::us,e::es,vs,ds,o,h,k=>by
  rw[mR,iL]
  exact cC.nG (o+1) (h.set (k.2 0 u e rfl rfl) o) ⟨by have:=k.1;simpa using this,fun i v d h1 h2=>k.2 (i+1) v d (by simpa using h1) (by simpa using h2)⟩
theorem bR.nG {I:Nat->Prop} {g:aX} {w:World}:∀{us:List Value} {es:List D} {vs:List Value} {ds:List D} (o:Nat),bR I g w vs ds->bR I g w us es->bR I g w (mR vs o us) (iL ds o es)
 |[],[],vs,ds,o,h,k=>h
 |[],e::es,vs,ds,o,h,k=>by have:=k.1;simp at this
 |u::us,[],vs,ds,o,h,k=>by have:=k.1;simp at this
 |u::us,e::es,vs,ds,o,h,k=>by
  obtain⟨v',rY,e1,h1,h2⟩:=k.sN
  injection e1 with e1 e2
  subst e1 e2
  exact bR.nG (o+1) (h.set h1 o) h2
theorem KP:∀(us:List Value) (k off:Nat) (arr:Array Value),((us.zipIdx k).foldl (fun (cs:Array Value) (x:Value×Nat)=>cs.setIfInBounds (off+x.2) x.1) arr).toList=mR arr.toList (off+k) us
 |[],k,off,arr=>rfl
 |u::us,k,off,arr=>by
  simp only[List.zipIdx_cons,List.foldl_cons,mR]
  rw[KP us (k+1) off]
  simp[Nat.add_assoc]
theorem BV (us:Array Value) (off:Nat) (arr:Array Value):(us.zipIdx.foldl (fun (cs:Array Value) (x:Value×Nat)=>cs.setIfInBounds (off+x.2) x.1) arr).toList=mR arr.toList off us.toList:=by
 rw[<-Array.foldl_toList,Array.toList_zipIdx]
 exact KP us.toList 0 off arr
section
variable {P:Program} {I:Nat->Prop} {g:aX} {w:World}
theorem zL {v:Value} {d:D} {ds:List D} (h:Vr I g w v d) (hc:iU d=some ds):bR I g w v.cells.toList ds/\∀u∈v.cells.toList,u.oneCell'=true:=by
 cases d with
 |agg cs=>
  simp only[iU] at hc
  injection hc with hc
  subst hc
  obtain⟨vs,rfl,h1,h2⟩:=h.ot
  exact⟨h1,h2⟩
 |any=>simp[iU] at hc
 |ia t=>simp[iU] at hc
 |eZ b=>simp[iU] at hc
 |bad=>simp[iU] at hc
 |aD ds=>simp[iU] at hc
 |bool b=>
  cases h.oq;simp only[iU] at hc;injection hc with hc;subst hc
  exact⟨.cons h .nil,by simp[Value.cells,Value.oneCell']⟩
 |int k n=>
  cases h.lX;simp only[iU] at hc;injection hc with hc;subst hc
  exact⟨.cons h .nil,by simp[Value.cells,Value.oneCell']⟩
 |str s=>
  cases h.kB;simp only[iU] at hc;injection hc with hc;subst hc
  exact⟨.cons h .nil,by simp[Value.cells,Value.oneCell']⟩
 |list n xs=>
  have h0:=h.rq
  cases h0
  simp only[iU] at hc;injection hc with hc;subst hc
  exact⟨.cons h .nil,by simp[Value.cells,Value.oneCell']⟩
 |own n xs=>
  have h0:=h.MA
  cases h0
  simp only[iU] at hc;injection hc with hc;subst hc
  exact⟨.cons h .nil,by simp[Value.cells,Value.oneCell']⟩
 |nils=>
  cases h.rm;simp only[iU] at hc;injection hc with hc;subst hc
  exact⟨.cons h .nil,by simp[Value.cells,Value.oneCell']⟩
 |dF=>
  cases h.zU;simp only[iU] at hc;injection hc with hc;subst hc
  exact⟨.cons h .nil,by simp[Value.cells,Value.oneCell']⟩
 |aB=>
  have:v=.nilFunc:=by cases h with|rd h=>cases h;rfl
  subst this
  simp only[iU] at hc;injection hc with hc;subst hc
  exact⟨.cons h .nil,by simp[Value.cells,Value.oneCell']⟩
 |iW=>
  have:v=.map none:=by cases h with|rd h=>cases h;rfl
  subst this
  simp only[iU] at hc;injection hc with hc;subst hc
  exact⟨.cons h .nil,by simp[Value.cells,Value.oneCell']⟩
 |ref cs=>
  have h0:=h.CL
  cases h0
  simp only[iU] at hc;injection hc with hc;subst hc
  exact⟨.cons h .nil,by simp[Value.cells,Value.oneCell']⟩
 |ptr o off=>
  obtain⟨b,bo,_,rfl⟩:=h.sG
  simp only[iU] at hc;injection hc with hc;subst hc
  exact⟨.cons h .nil,by simp[Value.cells,Value.oneCell']⟩
 |row o=>
  obtain⟨bo,a,l,c,_,rfl⟩:=h.sF
  simp only[iU] at hc;injection hc with hc;subst hc
  exact⟨.cons h .nil,by simp[Value.cells,Value.oneCell']⟩
 |fq o n i off=>
  obtain⟨bo,b,base,l,c,_,rfl⟩:=h.zV
  simp only[iU] at hc;injection hc with hc;subst hc
  exact⟨.cons h .nil,by simp[Value.cells,Value.oneCell']⟩
 |fn f n eI=>
  obtain⟨vs,rfl,_⟩:=h.CW
  simp only[iU] at hc;injection hc with hc;subst hc
  exact⟨.cons h .nil,by simp[Value.cells,Value.oneCell']⟩
theorem E4 {t:TypeId} {d:TypeDesc} (hu:P.underlying t=some d) (w:World):(isAgg t).run P w=.ok d.isRow w:=by
 unfold isAgg
 rw[Sem.run_bind,run_underlying hu w]
 cases d<;>rfl
theorem su {t:TypeId} {inf:TypeInfo} (hi:P.info? t=some inf) (w:World):(sizeOf t).run P w=.ok inf.size w:=by simp[sizeOf,typeInfo,hi]
theorem LA {tb:TT} (aM:tb.ok P) {t:TypeId} {i:og} (h:tb.look t=some i):∃d,P.underlying t=some d/\d.isRow=i.kind.isRow:=by
 have hk:=(aM t _ h).kind
 obtain⟨d,hu⟩:=KM aM h
 refine⟨d,hu,?_⟩
 unfold qJ at hk
 rw[hu] at hk
 obtain⟨sz,ig,z,kd⟩:=i
 cases kd<;>cases d<;>first|rfl|(simp at hk;done)
theorem Fp {tb:TT} (aM:tb.ok P) {t:TypeId} {ds:List D} {off:Nat} {d:D} {vs:List Value} (h:qy tb t ds off=some d) (hv:bR I g w vs ds) (h1:∀v∈vs,v.oneCell'=true):
 ∃v,(∀w',(part t vs.toArray off).run P w'=.ok v w')/\Vr I g w v d:=by
 unfold qy at h
 split at h
 ·cases h
 ·rename_i i hi
  obtain⟨td,hu,hr⟩:=LA aM hi
  obtain⟨inf,z,gM,cT,_⟩:=(aM t i hi).info
  cases hk:i.kind with
  |struct fs=>
   rw[hk] at h hr
   simp only at h
   split at h
   ·rename_i r wB
    injection h with h
    subst h
    rw[vv] at wB
    obtain⟨rfl,hle⟩:=C8 _ _ _ wB
    refine⟨.agg ((vs.drop off).take i.size).toArray,fun w'=>?_,.bA ((hv.drop off).take i.size) (fun v h=>h1 v (List.mem_of_mem_drop (List.mem_of_mem_take h)))⟩
    unfold part
    rw[Sem.run_bind,E4 hu,hr]
    simp only[Result.andThen_ok,TK.isRow,if_true,Sem.run_bind,su gM,Sem.run_pure,cT]
    congr 2
    apply Array.toList_inj.1
    simp[List.extract_eq_take_drop]
   ·cases h
  |_=>
   rw[hk] at h hr
   simp only[C7] at h
   have hlt:off<vs.length:=by rw[hv.1];exact(List.getElem?_eq_some_iff.1 h).1
   refine⟨vs[off],fun w'=>?_,hv.2 off _ d (List.getElem?_eq_getElem hlt) h⟩
   unfold part
   rw[Sem.run_bind,E4 hu,hr]
   simp[TK.isRow,hlt]
theorem UF {v:Value} {d:D} (h:Vr I g w v d):gh d=true->Dr I w v d:=by
 have lM:∀(ds:List D),gh.pl ds=true->∀d∈ds,gh d=true:=by
  intro ds
  induction ds with
  |nil=>intro _ d hd;simp at hd
  |cons e ds ih=>
   intro h d hd
   simp only[gh.pl,Bool.and_eq_true] at h
   rcases List.mem_cons.1 hd with rfl|hd
   ·exact h.1
   ·exact ih h.2 d hd
 induction h with
 |rd h=>exact fun _=>h
 |any v=>intro h;cases h
 |ia t=>intro h;cases h
 |mu=>intro h;cases h
 |eZ=>intro h;cases h
 |ptr=>intro h;cases h
 |row=>intro h;cases h
 |fq=>intro h;cases h
 |agg vs ds hl h1 h ih=>
  intro hp
  exact .agg vs ds hl h1 (fun i v d a b=>ih i v d a b (lM ds hp d (List.mem_of_getElem? b)))
 |aD vs ds hl h ih=>
  intro hp
  exact .aD vs ds hl (fun i v d a b=>ih i v d a b (lM ds hp d (List.mem_of_getElem? b)))
 |fn f n vs ds hl h ih=>
  intro hp
  exact .fn f n vs ds hl (fun i v d a b=>ih i v d a b (lM ds hp d (List.mem_of_getElem? b)))
theorem lS {vs:List Value} {ds:List D} (h:bR I g w vs ds) (hp:gh.pl ds=true):cC I w vs ds:=by
 have lM:∀(ds:List D),gh.pl ds=true->∀d∈ds,gh d=true:=by
  intro ds
  induction ds with
  |nil=>intro _ d hd;simp at hd
  |cons e ds ih=>
   intro h d hd
   simp only[gh.pl,Bool.and_eq_true] at h
   rcases List.mem_cons.1 hd with rfl|hd
   ·exact h.1
   ·exact ih h.2 d hd
 exact⟨h.1,fun i v d a b=>UF (h.2 i v d a b) (lM ds hp d (List.mem_of_getElem? b))⟩
end
end Go.Proofs.YtafomdobfmmleaaGreatDoor
