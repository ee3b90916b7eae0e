/- Lemmas and contracts, part 4. -/
import Derived.Test.YtafomdobfmmleaaGreatDoorZp3
import Derived.Lib.AppendStr
import Derived.Lib.ConvBytes
namespace Go.Proofs.YtafomdobfmmleaaGreatDoor
set_option linter.unusedVariables false
open Go.RowKit
section
def fT (w:World) (e:TypeId) (sz:Nat) (v:Value) (n:Nat) (xs:List Value):Prop:=
 xs.length=n*sz/\((v=.slice none 0 0/\n=0)\/∃g cap cur fz,v=.slice (some ⟨g,0,none⟩) n cap/\w.heap[g]?=some (.cells cur e fz)/\(fz=(0,0)\/cur.size<=fz.1)/\n<=cap/\cap<=maxLen/\cur.size=cap*sz/\cur.toList.take (n*sz)=xs)
theorem fT.of {w:World} {base:Nat} {e:TypeId} {sz:Nat} {v:Value} {n:Nat} {xs:List Value} (h:w.ownsRow base e sz v n xs):fT w e sz v n xs:=by
 refine⟨h.1,?_⟩
 rcases h.2 with h|⟨g,cap,cur,hv,hb,hg,r⟩
 ·exact .inl h
 ·exact .inr ⟨g,cap,cur,(0,0),hv,hg,.inl rfl,r⟩
section
variable {w w':World} {e:TypeId} {sz:Nat} {v:Value} {n:Nat} {xs:List Value}
theorem fT.nil (w:World) (e:TypeId) (sz:Nat):fT w e sz (.slice none 0 0) 0 []:=⟨by simp,.inl ⟨rfl,rfl⟩⟩
theorem fT.slice (h:fT w e sz v n xs):∃a c,v=.slice a n c:=by
 rcases h.2 with⟨rfl,rfl⟩|⟨g,cap,cur,fz,rfl,_⟩
 ·exact⟨_,_,rfl⟩
 ·exact⟨_,_,rfl⟩
theorem DU {w:World} {g:Nat} {o:Obj} (h:w.heap[g]?=some o):g<w.heap.size:=(Array.getElem?_eq_some_iff.1 h).1
theorem fT.lt (h:fT w e sz v n xs) {g:Nat} (hg:v.ownBlock=some g):g<w.heap.size:=by
 rcases h.2 with⟨rfl,_⟩|⟨g',cap,cur,fz,rfl,hh,_⟩
 ·simp[Value.ownBlock] at hg
 ·have:g'=g:=by simpa[Value.ownBlock] using hg
  subst this
  exact DU hh
theorem fT.ext {own:Nat->Prop} (h:fT w e sz v n xs) (hb:Ext own w w') (hd:∀g,v.ownBlock=some g->¬own g):fT w' e sz v n xs:=by
 refine⟨h.1,?_⟩
 rcases h.2 with h|⟨g,cap,cur,fz,hv,hh,r⟩
 ·exact .inl h
 ·exact .inr ⟨g,cap,cur,fz,hv,(hb.block g (DU hh) (hd g (by rw[hv];rfl))).trans hh,r⟩
theorem fT.rd (h:fT w e sz v n xs):Rd w v n sz xs:=by
 refine⟨h.1,?_⟩
 have hl:=h.1
 rcases h.2 with⟨rfl,rfl⟩|⟨g,cap,cur,fz,rfl,hh,hf,hc,hm,hs,ht⟩
 ·exact⟨none,0,rfl,fun _=>⟨rfl,rfl⟩,Nat.le_refl _,fun ad h=>by cases h⟩
 ·refine⟨_,cap,rfl,fun e=>(by cases e),hc,fun ad kB=>?_⟩
  cases kB
  refine⟨fun _=>DU hh,fun j x hx=>?_⟩
  have hj:j<n*sz:=by
   rcases Nat.lt_or_ge j xs.length with h|h
   ·omega
   ·rw[List.getElem?_eq_none h] at hx;cases hx
  have ea:(⟨g,0,none⟩:Addr).add j=⟨g,j,none⟩:=by unfold Addr.add;split<;>simp_all
  rw[ea,cell_of_row w g j cur e fz hh,<-hx,<-ht]
  simp[hj]
theorem fT.bs {bs:List UInt8} (h:fT w e 1 v bs.length (fm bs)) (hl:bs.length<=aL):Bs w v bs:=by
 have hr:=h.rd
 obtain⟨h1,h2⟩:=h
 rcases h2 with⟨rfl,h0⟩|⟨g,cap,cur,fz,rfl,hh,hf,hc,hm,hs,ht⟩
 ·have:bs=[]:=List.eq_nil_of_length_eq_zero h0
  subst this;exact Bs.nil w
 ·obtain⟨_,A,G6,hv,hn,Ar,hA⟩:=hr
  injection hv with e1 e2 e3
  subst e1 e3
  refine⟨⟨_,cap,rfl,fun e=>(by cases e),hc,hm,fun ad kB=>?_⟩,hl⟩
  cases kB
  exact⟨fun _=>DU hh,fun j u hu=>(hA _ rfl).2 j u hu⟩
theorem fT.aal (h:fT w e sz v n xs) {b off l c:Nat} (hv:v=.slice (some ⟨b,off,none⟩) l c) {j:Nat} (hj:j<l*sz):w.frozen? ⟨b,off+j,none⟩=false:=by
 rcases h.2 with⟨rfl,_⟩|⟨g,cap,cur,fz,rfl,hh,hf,hc,hm,hs,ht⟩
 ·cases hv
 ·injection hv with e1 e2 e3
  injection e1 with e1
  injection e1 with e1 e4 _
  subst e1 e2 e4
  have hle:n*sz<=cap*sz:=Nat.mul_le_mul_right _ hc
  obtain⟨lo,hi⟩:=fz
  simp only[World.frozen?,hh,Bool.and_eq_false_iff,decide_eq_false_iff_not]
  rcases hf with hf|hf
  ·injection hf with h1 h2
   right
   omega
  ·left
   simp only at hf
   omega
theorem GF (P:Program) (g o:Nat) (t:TypeId) (fz:Nat×Nat):∀(vs:List Value) (i:Nat) (cur:Array Value) (w:World),w.heap[g]?=some (.cells cur t fz)->(fz=(0,0)\/cur.size<=fz.1)->o+i+vs.length<=cur.size->(∀v∈vs,v.oneCell'=true)->
 (storeCells ⟨g,o,none⟩ vs i).run P w=.ok () (w.setRow g (cur.toList.take (o+i)++vs++cur.toList.drop (o+i+vs.length)).toArray)
 |[],i,cur,w,hg,_,_,_=>by
  simp only[storeCells,List.append_nil,List.length_nil,Nat.add_zero,List.take_append_drop,Array.toArray_toList]
  rw[setRow_self w g cur t fz hg]
  rfl
 |v::rest,i,cur,w,hg,Hp,hl,h1=>by
  have hi:o+i<cur.size:=by simp at hl;omega
  have afO:(⟨g,o,none⟩:Addr).add i=⟨g,o+i,none⟩:=by unfold Addr.add;split<;>simp_all
  have DT:w.cell? ⟨g,o+i,none⟩=some cur[o+i]:=by simp[World.cell?,hg,hi]
  have afP:w.frozen? ⟨g,o+i,none⟩=false:=by
   obtain⟨lo,mH⟩:=fz
   simp only[World.frozen?,hg,Bool.and_eq_false_iff,decide_eq_false_iff_not]
   rcases Hp with hf|hf
   ·injection hf with h1 h2
    right
    omega
   ·left
    simp only at hf
    omega
  have vu:(store ((⟨g,o,none⟩:Addr).add i) v).run P w=.ok () (w.setRow g (cur.setIfInBounds (o+i) v)):=by
   rw[afO,run_store P w _ v _ (h1 v (by simp)),DT]
   simp[afP,setCell_eq_setRow w g (o+i) cur t fz v hg]
  have ih:=GF P g o t fz rest (i+1) (cur.setIfInBounds (o+i) v) (w.setRow g (cur.setIfInBounds (o+i) v)) (setRow_heap w g cur _ t _ hg) (by simpa using Hp) (by simp at hl ⊢;omega) (fun x hx=>h1 x (by simp[hx]))
  simp only[storeCells,Sem.run_bind,vu,Result.andThen_ok,ih,setRow_setRow]
  congr 3
  have e:=list_seg_step cur.toList (o+i) v rest (by simp at hl ⊢;omega)
  simpa[Array.toList_setIfInBounds,Nat.add_assoc] using e
end
theorem aam (l us:List Value) (q m:Nat) (h1:q+us.length<=m) (h2:m<=l.length):(l.take q++us++l.drop (q+us.length)).take m=(l.take m).take q++us++(l.take m).drop (q+us.length):=by
 have e1:(l.take m).take q=l.take q:=by rw[List.take_take,Nat.min_eq_left (by omega)]
 have e2:(l.take q++us).length=q+us.length:=by simp;omega
 rw[e1,List.take_append,e2,List.take_of_length_le (by rw[e2];exact h1),List.drop_take]
section
variable {P:Program}
theorem fT.put {w:World} {e:TypeId} {sz:Nat} {v:Value} {n:Nat} {xs:List Value} (h:fT w e sz v n xs) {q:Nat} {us:List Value} (hq:q+us.length<=xs.length) (cu:0<us.length) (h1:∀u∈us,u.oneCell'=true):
 ∃g cap,v=.slice (some ⟨g,0,none⟩) n cap/\∃w',(storeCells ⟨g,q,none⟩ us 0).run P w=.ok () w'/\fT w' e sz v n (xs.take q++us++xs.drop (q+us.length))/\Ext (fun x=>x=g) w w':=by
 have hl:=h.1
 rcases h.2 with⟨rfl,rfl⟩|⟨g,cap,cur,fz,rfl,hh,hf,hc,hm,hs,ht⟩
 ·omega
 ·have hle:n*sz<=cap*sz:=Nat.mul_le_mul_right _ hc
  have hr:=GF P g q e fz us 0 cur w hh hf (by omega) h1
  rw[Nat.add_zero] at hr
  refine⟨g,cap,rfl,_,hr,⟨by simp;omega,.inr ⟨g,cap,_,fz,rfl,setRow_heap w g cur _ e _ hh,?_,hc,hm,?_,?_⟩⟩,rfl,rfl,rfl,by simp,fun k _ hk=>setRow_other w g k _ hk⟩
  ·rcases hf with hf|hf
   ·exact .inl hf
   ·refine .inr (Nat.le_trans (Nat.le_of_eq ?_) hf)
    simp only[List.size_toArray,List.length_append,List.length_take,List.length_drop,Array.length_toList]
    omega
  ·rw[<-hs]
   simp only[List.size_toArray,List.length_append,List.length_take,List.length_drop,Array.length_toList]
   omega
  ·rw[<-ht]
   exact aam _ _ _ _ (by omega) (by rw[Array.length_toList];omega)
theorem Se {w:World} {e:TypeId} {sz g n m cap:Nat} {cur:Array Value} {fz:Nat×Nat} {xs news:List Value} (hlen:(xs++news).length=(n+m)*sz) (hh:w.heap[g]?=some (.cells cur e fz)) (hf:fz=(0,0)\/cur.size<=fz.1) (lF:n+m<=cap) (hm:cap<=maxLen) (hs:cur.size=cap*sz) (ht:cur.toList.take (n*sz)=xs) (hl:news.length=m*sz):
 fT (w.setRow g (cur.toList.take (n*sz)++news++cur.toList.drop (n*sz+news.length)).toArray) e sz (.slice (some ⟨g,0,none⟩) (n+m) cap) (n+m) (xs++news)/\
 w.grownBy (w.setRow g (cur.toList.take (n*sz)++news++cur.toList.drop (n*sz+news.length)).toArray) (Value.ownBlock (.slice (some ⟨g,0,none⟩) n cap)):=by
 have Hg:n*sz+news.length<=cur.size:=by rw[hl,hs,<-Nat.add_mul];exact Nat.mul_le_mul_right _ lF
 have eE:((cur.toList.take (n*sz)++news++cur.toList.drop (n*sz+news.length)).toArray).size=cur.size:=by
  simp only[List.size_toArray,List.length_append,List.length_take,List.length_drop,Array.length_toList]
  omega
 refine⟨⟨hlen,.inr ⟨g,cap,_,fz,rfl,setRow_heap w g cur _ e _ hh,?_,lF,hm,by rw[eE];exact hs,?_⟩⟩,⟨rfl,rfl,rfl,by simp,fun k _ hk=>setRow_other w g k _ (fun e=>hk (by simp[Value.ownBlock,e]))⟩⟩
 ·rw[eE];exact hf
 ·rw[ht,<-hlen]
  exact List.take_left
theorem KQ {w:World} {e:TypeId} {z:Value} {sz n m old:Nat} {xs news:List Value} (hz:z.cells.size=sz) (hx:xs.length=n*sz) (hl:news.length=m*sz) (nD:n+m<=maxLen) (row:Option Nat):
 fT (w.drew.alloc (.cells (xs.toArray++news.toArray++Builtin.zeroCells z.cells (grownCap w (n+m) old e-(n+m))) e)) e sz (.slice (some ⟨w.heap.size,0,none⟩) (n+m) (grownCap w (n+m) old e)) (n+m) (xs++news)/\
 w.grownBy (w.drew.alloc (.cells (xs.toArray++news.toArray++Builtin.zeroCells z.cells (grownCap w (n+m) old e-(n+m))) e)) row:=by
 have hlen:(xs++news).length=(n+m)*sz:=by rw[List.length_append,hx,hl,Nat.add_mul]
 have dm:=grownCap_ge w (n+m) old e
 have M7:grownCap w (n+m) old e<=maxLen:=grownCap_le_maxLen w (n+m) old e nD
 refine⟨⟨hlen,.inr ⟨w.heap.size,_,_,(0,0),rfl,heap_alloc_new w.drew _,.inl rfl,dm,M7,?_,?_⟩⟩,⟨rfl,rfl,rfl,by simp,fun k hk _=>heap_alloc_old w.drew _ hk⟩⟩
 ·simp only[Array.size_append,List.size_toArray,size_zeroCells,hz,hx,hl,<-Nat.add_mul]
  congr 1
  omega
 ·simp only[Array.toList_append,List.append_assoc]
  rw[<-List.append_assoc,<-hlen]
  exact List.take_left
theorem aab {w:World} {t ty e:TypeId} {z:Value} {sz bytes:Nat} (ht:P.underlying t=some (.slice e)) (xQ:(P.info? e).map (fun i=>(i.zero,i.size,i.bytes))=some (some z,sz,bytes)) (hz:z.cells.size=sz) (eE:0<sz)
 {n m:Nat} {v u:Value} {xs news:List Value} (eV:fT w e sz v n xs) (hu:Rd w u m sz news) (h1:∀x∈news,x.oneCell'=true) (nD:n+m<=maxLen) (lF:(n+m)*bytes<=140737488355328):
 ∃v' w',(Builtin.append_ #[t,t] ty #[v,u]).run P w=.ok v' w'/\fT w' e sz v' (n+m) (xs++news)/\w.grownBy w' v.ownBlock/\(v'.ownBlock=v.ownBlock\/v'.ownBlock=some w.heap.size):=by
 have hx:=eV.1
 rcases eV.2 with⟨rfl,rfl⟩|⟨g,cap,cur,fz,rfl,hh,hf,hc,hm,hs,Ey⟩
 ·obtain⟨v',w',a1,a2,a3,a4⟩:=I3 (P:=P) (w:=w) (t:=t) (ty:=ty) (base:=0) ht xQ hz eE (v:=.slice none 0 0) (n:=0) (xs:=xs) ⟨hx,.inl ⟨rfl,rfl⟩⟩ hu h1 nD lF (Nat.zero_le _)
  exact⟨v',w',a1,.of a2,a3,a4⟩
 ·obtain⟨i,hi,xL,kD,cw⟩:=info_parts xQ
  subst kD cw
  obtain⟨hl,A,G6,rfl,hn,Ar,hr⟩:=hu
  have RL:n+m<=9223372036854775807:=by simp only[maxLen] at nD;omega
  have hlen:(xs++news).length=(n+m)*i.size:=by rw[List.length_append,hx,hl,Nat.add_mul]
  cases A with
  |none=>
   obtain⟨rfl,rfl⟩:=hn rfl
   have Lo:news=[]:=List.eq_nil_of_length_eq_zero (by simpa using hl)
   subst Lo
   refine⟨_,w,?_,by simpa using eV,World.grownBy.refl w _,.inl rfl⟩
   simp[Builtin.append_,run_underlying ht,sizeOf,typeInfo,hi,Builtin.lenOf,Builtin.firstCells,hc,storeCells]
  |some ad=>
   by_cases AY:n+m<=cap
   ·obtain⟨k1,k2⟩:=Se hlen hh hf AY hm hs Ey hl
    refine⟨_,_,?_,k1,k2,.inl rfl⟩
    have Hg:n*i.size+news.length<=cur.size:=by rw[hl,hs,<-Nat.add_mul];exact Nat.mul_le_mul_right _ AY
    have CH:=run_firstCells_some (P:=P) w i.size m ad m G6 news hl (hr ad rfl).2
    have vu:=GF P g (n*i.size) e fz news 0 cur w hh hf (by simpa using Hg) h1
    simp only[Nat.add_zero] at vu
    simp[Builtin.append_,run_underlying ht,sizeOf,typeInfo,hi,Builtin.lenOf,AY,CH,Addr.add_lit,vu]
   ·obtain⟨k1,k2⟩:=KQ (w:=w) (e:=e) (old:=cap) hz hx hl nD (Value.ownBlock (.slice (some ⟨g,0,none⟩) n cap))
    have holds:∀j u,xs[j]?=some u->w.cell? ((⟨g,0,none⟩:Addr).add j)=some u:=by
     obtain⟨_,A,c,hv,_,_,hA⟩:=eV.rd
     injection hv with e1 e2 e3
     exact(hA _ e1.symm).2
    exact⟨_,_,run_append_grow (P:=P) w t ty e i z ht hi xL ⟨g,0,none⟩ n cap xs hx holds ad m G6 news hl (hr ad rfl).2 (by omega) (by omega) (growslice_fits (by omega) lF),k1,k2,.inr rfl⟩
theorem X9 {w:World} {t u ty e:TypeId} {z:Value} {bytes:Nat} (ht:P.underlying t=some (.slice e)) (hu:P.underlying u=some .string) (xQ:(P.info? e).map (fun i=>(i.zero,i.size,i.bytes))=some (some z,1,bytes)) (hz:z.cells.size=1)
 {n:Nat} {v:Value} {xs:List Value} {s:ByteArray} (eV:fT w e 1 v n xs) (nD:n+s.size<=maxLen) (lF:(n+s.size)*bytes<=140737488355328):
 ∃v' w',(Builtin.append_ #[t,u] ty #[v,.string s]).run P w=.ok v' w'/\fT w' e 1 v' (n+s.size) (xs++Lib.strCells s)/\w.grownBy w' v.ownBlock/\(v'.ownBlock=v.ownBlock\/v'.ownBlock=some w.heap.size):=by
 have hx:=eV.1
 rcases eV.2 with⟨rfl,rfl⟩|⟨g,cap,cur,fz,rfl,hh,hf,hc,hm,hs,Ey⟩
 ·have kZ:xs=[]:=List.eq_nil_of_length_eq_zero (by simpa using hx)
  subst kZ
  obtain⟨i,hi,xL,kD,cw⟩:=info_parts xQ
  subst cw
  have RL:s.size<=9223372036854775807:=by simp only[maxLen] at nD;omega
  by_cases hm:s.size=0
  ·have hn:Lib.strCells s=[]:=List.eq_nil_of_length_eq_zero (by rw[Lib.strCells_length];exact hm)
   refine⟨.slice none 0 0,w,?_,by rw[hm,hn];exact fT.nil w e 1,World.grownBy.refl w _,.inl rfl⟩
   have hf:=Lib.run_firstCells_string (P:=P) w 1 s
   rw[hm] at hf
   simp[Builtin.append_,run_underlying ht,run_underlying hu,sizeOf,typeInfo,hi,kD,Builtin.lenOf,hm,hf]
  ·have hr:=run_append_nil_string (P:=P) (ty:=ty) w t u e i z ht hu hi xL s (by omega) (by omega) (by simp only[Nat.zero_add] at lF;omega)
   have e1:(s.data.map fun b=>Value.int .u8 b.toNat)=(Lib.strCells s).toArray:=by
    apply Array.ext'
    simp[Lib.strCells]
   rw[e1] at hr
   obtain⟨k1,k2⟩:=KQ (w:=w) (e:=e) (old:=0) (n:=0) (m:=s.size) (xs:=[]) (news:=Lib.strCells s) hz (by simp) (by rw[Lib.strCells_length,Nat.mul_one]) nD (Value.ownBlock (.slice none 0 0))
   simp only[Nat.zero_add,List.nil_append,Array.empty_append] at k1 k2 ⊢
   exact⟨_,_,hr,k1,k2,.inr rfl⟩
 ·obtain⟨i,hi,xL,kD,cw⟩:=info_parts xQ
  subst cw
  have hl:(Lib.strCells s).length=s.size*1:=by rw[Lib.strCells_length,Nat.mul_one]
  have RL:n+s.size<=9223372036854775807:=by simp only[maxLen] at nD;omega
  have hlen:(xs++Lib.strCells s).length=(n+s.size)*1:=by rw[List.length_append,hx,hl,Nat.add_mul]
  by_cases AY:n+s.size<=cap
  ·obtain⟨k1,k2⟩:=Se hlen hh hf AY hm hs Ey hl
   refine⟨_,_,?_,k1,k2,.inl rfl⟩
   have Hg:n*1+(Lib.strCells s).length<=cur.size:=by rw[hl,hs,<-Nat.add_mul];exact Nat.mul_le_mul_right _ AY
   have CH:=Lib.run_firstCells_string (P:=P) w 1 s
   have vu:=GF P g (n*1) e fz (Lib.strCells s) 0 cur w hh hf (by simpa using Hg) (Lib.strCells_oneCell s)
   simp only[Nat.add_zero,Nat.mul_one] at vu ⊢
   simp[Builtin.append_,run_underlying ht,run_underlying hu,sizeOf,typeInfo,hi,kD,Builtin.lenOf,AY,CH,Addr.add_lit,vu]
  ·obtain⟨k1,k2⟩:=KQ (w:=w) (e:=e) (old:=cap) hz hx hl nD (Value.ownBlock (.slice (some ⟨g,0,none⟩) n cap))
   have holds:∀j u,xs[j]?=some u->w.cell? ((⟨g,0,none⟩:Addr).add j)=some u:=by
    obtain⟨_,A,c,hv,_,_,hA⟩:=eV.rd
    injection hv with e1 e2 e3
    exact(hA _ e1.symm).2
   exact⟨_,_,Lib.run_append_grow_string (P:=P) w t u ty e i z ht hu hi xL ⟨g,0,none⟩ n cap xs (by rw[kD];exact hx) holds s (by omega) (by omega) (growslice_fits (by omega) lF),k1,k2,.inr rfl⟩
theorem fT.conv (w:World) (e:TypeId) (s:ByteArray) (hs:s.size<=maxLen):fT (Lib.bytesWorld w e s) e 1 (.slice (some ⟨w.heap.size,0,none⟩) s.size (grownCap w s.size 0 e)) s.size (Lib.strCells s):=by
 have dm:=grownCap_ge w s.size 0 e
 have M7:grownCap w s.size 0 e<=maxLen:=grownCap_le_maxLen w s.size 0 e hs
 have eE:(Lib.bytesCells w e s).size=grownCap w s.size 0 e:=by
  have h0:s.data.size=s.size:=rfl
  simp only[Lib.bytesCells,Array.size_append,Array.size_map,Array.size_replicate,h0]
  omega
 refine⟨by rw[Lib.strCells_length,Nat.mul_one],.inr ⟨w.heap.size,_,_,_,rfl,Lib.bytesWorld_at_new w e s,.inr (Nat.le_refl _),dm,M7,by rw[eE,Nat.mul_one],?_⟩⟩
 have hl:=Lib.strCells_length s
 simp only[Lib.bytesCells,Array.toList_append,Array.toList_map,Nat.mul_one]
 rw[<-hl]
 exact List.take_left
end
end
end Go.Proofs.YtafomdobfmmleaaGreatDoor
