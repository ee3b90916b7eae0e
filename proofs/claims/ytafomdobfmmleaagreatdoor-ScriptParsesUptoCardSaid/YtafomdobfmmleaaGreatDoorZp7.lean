/- Lemmas and contracts, part 7. -/
import Derived.Test.YtafomdobfmmleaaGreatDoorZp6
import Derived.Laws.StructEq
import Derived.Lib.ConvBytes
namespace Go.Proofs.YtafomdobfmmleaaGreatDoor
set_option linter.unusedVariables false
open Go.RowKit
section
set_option linter.unusedSectionVars false
variable [Old]
section
variable {P:Program} {Q:Exit->S->Prop}
def Pg [Wd] (P:Program) (I:Nat->Prop) (g:bH) (w:World) (ρ:Operand->Value) (o:Oper) (Q:Exit->S->Prop) (k:D->T):Prop:=
 ∃v d,(∀w',(execOp ρ o).run P w'=.ok (.value v) w')/\Vr I g w v d/\(k d).ok P Q
theorem aeF {m:Sem Value} {v:Value} (h:∀w,m.run P w=.ok v w) (w:World):(do pure (.value (<-m)):Sem Next).run P w=.ok (.value v) w:=by
 rw[Sem.run_bind,h];rfl
theorem Pg.mk [Wd] {I:Nat->Prop} {g:bH} {w:World} {ρ:Operand->Value} {o:Oper} {k:D->T} {m:Sem Value} {v:Value} {d:D} (he:execOp ρ o=(do pure (.value (<-m)))) (h:∀w,m.run P w=.ok v w) (hr:Vr I g w v d) (hk:(k d).ok P Q):Pg P I g w ρ o Q k:=
 ⟨v,d,fun w'=>by rw[he];exact aeF h w',hr,hk⟩
theorem WU {op:BinOp} {t:TypeId} {x y:Operand} {u v:Value} (h1:u≠.nilIface) (h2:∀a,u≠.agg a) (w:World):(eqGuard op t x y u v).run P w=.ok () w:=by
 unfold eqGuard
 cases op<;>(cases u<;>first
  |exact absurd rfl h1
  |exact absurd rfl (h2 _)
  |rfl
  |(cases v<;>rfl))
theorem WV [Wd] {tb:TT} {op:BinOp} {xt:TypeId} {x y:D} {u:Value} {I:Nat->Prop} {g:bH} {w:World} (hx:Vr I g w u x) {c:D->T} (h:(D8 tb op xt x y c).ok P Q):u≠.nilIface/\∀a,u≠.agg a:=by
 unfold D8 at h
 split at h
 ·cases hx.nI;exact⟨by simp,by simp⟩
 ·cases hx.nJ;exact⟨by simp,by simp⟩
 ·cases hx.rm;exact⟨by simp,by simp⟩
 ·obtain⟨b,bo,_,rfl⟩:=hx.xd;exact⟨by simp,by simp⟩
 ·cases hx.Dd;exact⟨by simp,by simp⟩
 ·have h0:=hx.vO
  cases h0
  exact⟨by simp,by simp⟩
 ·cases hx.vN;exact⟨by simp,by simp⟩
 ·exact h.elim
theorem RE [Wd] {tb:TT} (aM:tb.ok P) {I:Nat->Prop} {g:bH} {w:World} {ih:TypeId->D->D->(Bool->T)->T} {d:Nat}
 (TC:∀{t:TypeId} {x y:D} {u v:Value} {k:Bool->T},Vr I g w u x->Vr I g w v y->(ih t x y k).ok P Q->∃z,(∀w',(Op.equalIn d t u v).run P w'=.ok z w')/\(k z).ok P Q)
 {xs ys:List D} {us vs:List Value} (hx:cJ I g w us xs) (h1:∀v∈us,v.oneCell'=true) (hy:cJ I g w vs ys) (h2:∀v∈vs,v.oneCell'=true):
 ∀(gs:List Field) (hn:(gs.all fun f=>!(f.name== "_"))=true) (acc:Bool) (k:Bool->T),(H7 tb ih xs ys (gs.map fun f=>(f.offset,f.type)) acc k).ok P Q->
  ∃z,(∀w',(Op.eqFields d us.toArray vs.toArray gs).run P w'=.ok z w')/\(k (acc&&z)).ok P Q
 |[],hn,acc,k,h=>⟨true,fun w'=>by simp[Op.eqFields],by rw[Bool.and_true];exact h⟩
 |f::gs,hn,acc,k,h=>by
  simp only[List.map_cons,H7] at h
  simp only[List.all_cons,Bool.and_eq_true] at hn
  have hf:f.name≠ "_":=by simpa using hn.1
  split at h
  ·rename_i x y e1 e2
   obtain⟨u,r1,r2⟩:=JJ aM e1 hx h1
   obtain⟨v,r3,r4⟩:=JJ aM e2 hy h2
   obtain⟨z,r5,h⟩:=TC r2 r4 h
   obtain⟨z2,r6,h⟩:=RE aM TC hx h1 hy h2 gs hn.2 (acc&&z) k h
   refine⟨z&&z2,fun w'=>?_,by rw[<-Bool.and_assoc];exact h⟩
   simp only[Op.eqFields,if_pos hf,Sem.run_bind,r1,r3,r5,Result.andThen_ok]
   cases z
   ·simp
   ·simp[r6]
  ·exact h.elim
theorem RF [Wd] {tb:TT} (aM:tb.ok P) {I:Nat->Prop} {g:bH} {w:World} (e:Nat):∀(n:Nat) {t:TypeId} {x y:D} {u v:Value} {k:Bool->T},Vr I g w u x->Vr I g w v y->(CD tb n t x y k).ok P Q->∃z,(∀w',(Op.equalIn (n+e) t u v).run P w'=.ok z w')/\(k z).ok P Q
 |0,t,x,y,u,v,k,hx,hy,h=>h.elim
 |n+1,t,x,y,u,v,k,hx,hy,h=>by
  rw[show n+1+e=(n+e)+1 from by omega]
  unfold CD at h
  split at h
  ·rename_i sz jJ z kd hl
   split at h
   ·cases hx.nI;cases hy.nI
    rename_i k1 a k2 b
    cases hk:Nat.beq (mX k1) (mX k2) with
    |false=>rw[hk] at h;exact h.elim
    |true=>
     rw[hk] at h
     cases F9 hk
     exact⟨_,fun w'=>run_equalIn_int w' _ t _ _ a b (Df aM hl),h⟩
   ·cases hx.nJ;cases hy.nJ
    exact⟨_,fun w'=>by rw[run_equalIn_string w' _ t _ _ (vP aM hl),Jg],h⟩
   ·cases hx.rm;cases hy.rm
    exact⟨_,fun w'=>run_equalIn_bool' w' _ t _ _ (OY aM hl),h⟩
   ·rename_i fs xs ys
    obtain⟨us,rfl,k1,k2⟩:=hx.yy
    obtain⟨vs,rfl,k3,k4⟩:=hy.yy
    obtain⟨gs,hu,rfl,_⟩:=EZ aM hl
    have he:=(aM t _ hl).eq rfl
    unfold GP at he
    rw[hu] at he
    simp only[Bool.and_eq_true,Bool.not_eq_true'] at he
    obtain⟨e1,e2,e3⟩:=he
    have H9:P.fieldsOf t=gs:=by unfold Program.fieldsOf;rw[hu]
    obtain⟨z,r,h⟩:=RE aM (fun p q r=>RF aM e n p q r) k1 k2 k3 k4 gs.toList (by simpa using e3) true k h
    refine⟨z,fun w'=>?_,by simpa using h⟩
    rw[run_equalIn_struct w' _ t _ _ (by rw[H9];exact hu) e1,H9]
    exact r w'
   ·exact h.elim
  ·exact h.elim
theorem adD [Wd] {tb:TT} (aM:tb.ok P) {I:Nat->Prop} {g:bH} {w:World} {op:BinOp} {t:TypeId} {x y:D} {u v:Value} {p q:Operand} {c:D->T} (ha:LF x=true) (hx:Vr I g w u x) (hy:Vr I g w v y) (h:(CD tb 6 t x y fun z=>rP op z c).ok P Q):
 ∃r d,(∀w',(do eqGuard op t p q u v;binOp op t u v:Sem Value).run P w'=.ok r w')/\Vr I g w r d/\(c d).ok P Q:=by
 have h0:=h
 obtain⟨z,r,h⟩:=RF aM 9994 6 hx hy h
 have hs:∃us vs:List Value,u=.agg us.toArray/\v=.agg vs.toArray/\P.eqGuardType P.depth t=false:=by
  cases x<;>try (cases ha;done)
  rename_i xs
  obtain⟨us,rfl,k1,k2⟩:=hx.yy
  unfold CD at h0
  split at h0
  ·rename_i sz jJ z kd hl
   cases kd<;>cases y<;>try exact h0.elim
   obtain⟨vs,rfl,k3,k4⟩:=hy.yy
   have he:=(aM t _ hl).eq rfl
   unfold GP at he
   simp only[Bool.and_eq_true,Bool.not_eq_true'] at he
   exact⟨us,vs,rfl,rfl,he.2.1⟩
  ·exact h0.elim
 obtain⟨us,vs,rfl,rfl,hg⟩:=hs
 cases op<;>simp only[rP,T.ok] at h
 case eql=>
  refine⟨_,_,fun w'=>?_,.GQ z,h⟩
  rw[Sem.run_bind,run_eqGuard_agg w' _ _ _ _ _ _ hg]
  simp only[Result.andThen_ok]
  rw[run_eql_struct,show(10000:Nat)=6+9994 from rfl,r];rfl
 case neq=>
  refine⟨_,_,fun w'=>?_,.GQ (!z),h⟩
  rw[Sem.run_bind,run_eqGuard_agg w' _ _ _ _ _ _ hg]
  simp only[Result.andThen_ok]
  rw[run_neq_struct,show(10000:Nat)=6+9994 from rfl,r];rfl
theorem O3 {tb:TT} (aM:tb.ok P) {t:TypeId} {f o:Nat} {u:TypeId} (h:BN tb t f=some (o,u)):∃(gs:Array Field) (fl:Field) (i:qY),P.underlying t=some (.struct gs)/\gs[f]?=some fl/\fl.offset=o/\fl.type=u/\tb.look u=some i/\∃inf,P.info? u=some inf/\inf.size≠0:=by
 unfold BN at h
 split at h
 ·rename_i sz jJ z fs hl
  obtain⟨gs,hu,rfl,_⟩:=EZ aM hl
  split at h
  ·rename_i o' t' hf
   split at h
   ·rename_i i hi
    cases hz:Nat.beq i.size 0 with
    |true=>rw[hz] at h;cases h
    |false=>
     rw[hz] at h
     injection h with h
     injection h with h1 h2
     subst h1 h2
     rw[KH,List.getElem?_map] at hf
     cases hg:gs.toList[f]? with
     |none=>rw[hg] at hf;cases hf
     |some fl=>
      rw[hg] at hf
      injection hf with hf
      injection hf with e1 e2
      obtain⟨inf,z',jo,eE,_⟩:=(aM _ i hi).info
      refine⟨gs,fl,i,hu,by rw[<-Array.getElem?_toList];exact hg,e1,e2,hi,inf,jo,fun e=>?_⟩
      rw[<-eE,e] at hz
      cases hz
   ·cases h
  ·cases h
 ·cases h
theorem Iy {tb:TT} (aM:tb.ok P) {t:TypeId} {f o:Nat} {u:TypeId} (h:BN tb t f=some (o,u)) (b off:Nat) (w:World):(Instr.fieldAt t (.pointer (some ⟨b,off,none⟩)) f).run P w=.ok (.pointer (some ⟨b,off+o,none⟩)) w:=by
 obtain⟨gs,fl,i,hu,hg,rfl,rfl,_,inf,jo,hz⟩:=O3 aM h
 unfold Instr.fieldAt
 rw[Sem.run_bind,run_underlying hu]
 simp only[Result.andThen_ok,hg,Instr.sureAddr,Sem.run_bind,Sem.run_pure,fieldPlace,wQ jo,if_neg hz,Addr.add_mid]
theorem X8 {tb:TT} (aM:tb.ok P) {t:TypeId} {f o:Nat} {u:TypeId} (h:BN tb t f=some (o,u)) {cs:Array Value} {v:Value} (w:World) (hp:∀w',(part u cs o).run P w'=.ok v w'):(Instr.field t (.agg cs) f).run P w=.ok v w:=by
 obtain⟨gs,fl,i,hu,hg,rfl,rfl,_⟩:=O3 aM h
 unfold Instr.field
 rw[Sem.run_bind,run_underlying hu]
 simp only[Result.andThen_ok,hg,asAgg,Sem.run_bind,Sem.run_pure]
 exact hp w
theorem Q4 {tb:TT} (aM:tb.ok P) {s:S} {a:Act} {I:Nat->Prop} {g:bH} {w:World} (cH:∀x,Vr I g w (a.eval x) (ev s x)) {fs:List (Nat×TypeId)} {pl:List (Nat×Nat)} (iK:pl.length=fs.length) (hp:∀(i:Nat) (o:Nat) (t:TypeId) (j:qY),fs[i]?=some (o,t)->tb.look t=some j->pl[i]?=some (o,j.size)):
 ∀(ps:List (Nat×Operand)) (cs fU:List D) (A:Array Value),cJ I g w A.toList cs->(∀v∈A.toList,v.oneCell'=true)->B1 tb fs s cs ps=some fU->
  ∃A',Instr.fill (pl.toArray[·]?) A (ps.map fun x=>(x.1,a.eval x.2))=some A'/\cJ I g w A'.toList fU/\∀v∈A'.toList,v.oneCell'=true
 |[],cs,fU,A,hv,h1,h=>by
  simp only[B1] at h
  injection h with h
  subst h
  exact⟨A,rfl,hv,h1⟩
 |(i,x)::r,cs,fU,A,hv,h1,h=>by
  simp only[B1] at h
  split at h
  ·cases h
  ·rename_i o t hf
   rw[KH] at hf
   split at h
   ·rename_i j ds hj um
    cases dH:Nat.beq ds.length j.size&&Nat.blt 0 j.size with
    |false=>rw[dH] at h;cases h
    |true=>
     rw[dH] at h
     rw[Bool.and_eq_true] at dH
     obtain⟨hl,pY⟩:=dH
     simp only[cond_true] at h
     split at h
     ·rename_i cs1 ho
      obtain⟨rfl,hle⟩:=Bw _ _ _ _ ho
      obtain⟨k1,k2⟩:=C5 (cH x) um
      have eE:(a.eval x).cells.size=j.size:=by
       have:=k1.1
       rw[Array.length_toList] at this
       rw[this];exact Nat.eq_of_beq_eq_true hl
      have hlen:(a.eval x).cells.size=ds.length:=by rw[eE];exact(Nat.eq_of_beq_eq_true hl).symm
      have hAs:A.size=cs.length:=by rw[<-Array.length_toList];exact hv.1
      obtain⟨A',e1,e2,e3⟩:=Q4 aM cH iK hp r _ fU ((a.eval x).cells.zipIdx.foldl (fun (c:Array Value) (y:Value×Nat)=>c.setIfInBounds (o+y.2) y.1) A) (by rw[E8];exact hv.qy o k1) (fun v hm=>by
       rw[E8] at hm
       rcases Fy _ _ _ _ hm with e|e
       ·exact h1 v e
       ·exact k2 v e) h
      refine⟨A',?_,e2,e3⟩
      simp only[List.map_cons,Instr.fill]
      rw[List.getElem?_toArray,hp i o t j hf hj]
      have oT:0<j.size:=Nat.lt_of_lt_of_le (Nat.lt_of_succ_le (Nat.le_of_ble_eq_true pY)) (Nat.le_refl _)
      have Ia:0<ds.length:=by omega
      have cu:ds≠[]:=List.ne_nil_of_length_pos Ia
      have c2:¬((decide ((a.eval x).cells.size≠j.size)||decide (o+(a.eval x).cells.size>A.size))=true):=by
       rcases hle with e|e
       ·exact absurd e cu
       ·simp only[Bool.or_eq_true,decide_eq_true_eq]
        omega
      show(if(decide ((a.eval x).cells.size≠j.size)||decide (o+(a.eval x).cells.size>A.size))=true then none else _)=_
      rw[if_neg c2]
      exact e1
     ·cases h
   ·cases h
theorem aeG {I:Nat->Prop} {g:bH} {w:World} {v:Value} {d:D} (h:zD v=some d):Vr I g w v d/\v.oneCell'=true:=by
 unfold zD at h
 split at h
 ·injection h with h;subst h;exact⟨.rd (.bool _),rfl⟩
 ·injection h with h;subst h;exact⟨.rd (.int _ _),rfl⟩
 ·rename_i s
  cases hs:s.size==0 with
  |false=>rw[hs] at h;cases h
  |true=>
   rw[hs] at h
   injection h with h
   subst h
   have:s=aA []:=by
    apply ByteArray.ext
    have h0:s.data.size=0:=by simpa using hs
    exact Array.eq_empty_of_size_eq_zero h0
   rw[this]
   exact⟨.rd (.str []),rfl⟩
 ·injection h with h;subst h;exact⟨.rd .nils,rfl⟩
 ·injection h with h;subst h;exact⟨.rd .ff,rfl⟩
 ·injection h with h;subst h;exact⟨.rd .ay,rfl⟩
 ·injection h with h;subst h;exact⟨.rd .kL,rfl⟩
 ·injection h with h;subst h;exact⟨.oQ,rfl⟩
 ·cases h
theorem Fz {I:Nat->Prop} {g:bH} {w:World}:∀(vs:List Value) (ds:List D),Gv vs ds->cJ I g w vs ds/\∀v∈vs,v.oneCell'=true
 |[],[],_=>⟨.nil,by simp⟩
 |v::vs,d::ds,h=>by
  obtain⟨h1,h2⟩:=Fz vs ds h.2
  obtain⟨k1,k2⟩:=aeG (I:=I) (g:=g) (w:=w) h.1
  exact⟨.cons k1 h1,fun u hu=>by rcases List.mem_cons.1 hu with rfl|e;exact k2;exact h2 u e⟩
 |[],_::_,h=>h.elim
 |_::_,[],h=>h.elim
theorem V3 {fs:List Field} (h:∀f∈fs,∃i,P.info? f.type=some i):∃pl:List (Nat×Nat),fs.mapM (fun f=>(P.info? f.type).map fun i=>(f.offset,i.size))=some pl/\pl.length=fs.length/\∀(i:Nat) (f:Field) (inf:TypeInfo),fs[i]?=some f->P.info? f.type=some inf->pl[i]?=some (f.offset,inf.size):=by
 induction fs with
 |nil=>exact⟨[],rfl,rfl,by simp⟩
 |cons f fs ih=>
  obtain⟨pl,h1,h2,h3⟩:=ih (fun x hx=>h x (by simp[hx]))
  obtain⟨inf,hi⟩:=h f (by simp)
  refine⟨(f.offset,inf.size)::pl,by simp[List.mapM_cons,hi,h1],by simp[h2],fun i x q hx hq=>?_⟩
  cases i with
  |zero=>
   simp at hx;subst hx
   rw[hi] at hq;injection hq with hq;subst hq
   rfl
  |succ i=>simp at hx ⊢;exact h3 i x q hx hq
theorem Z6 {tb:TT} (aM:tb.ok P) {s:S} {a:Act} {I:Nat->Prop} {g:bH} {w:World} (cH:∀x,Vr I g w (a.eval x) (ev s x)) {t:TypeId} {sz jJ:Nat} {z:List D} {fs:List (Nat×TypeId)} (hl:tb.look t=some ⟨sz,jJ,z,.struct fs⟩) {parts:Array (Nat×Operand)} {cs:List D} (h:B1 tb fs s z parts.toList=some cs):
 ∃A:Array Value,(∀w',(Instr.build t (parts.map fun (i,x)=>(i,a.eval x))).run P w'=.ok (.agg A) w')/\Vr I g w (.agg A) (.agg cs):=by
 obtain⟨gs,hu,H9,mS⟩:=EZ aM hl
 obtain⟨inf,zv,jo,eE,wE,hz,xW,xX,AT⟩:=(aM t _ hl).info
 obtain⟨pl,rT,iY,EB⟩:=V3 mS
 obtain⟨A0,rfl⟩:=AT.2 rfl
 obtain⟨k1,k2⟩:=Fz (I:=I) (g:=g) (w:=w) _ _ xW
 subst H9
 obtain⟨A,e1,e2,e3⟩:=Q4 aM cH (pl:=pl) (by rw[iY];simp) (fun i o u j h1 h2=>by
  rw[List.getElem?_map] at h1
  cases hg:gs.toList[i]? with
  |none=>rw[hg] at h1;cases h1
  |some f=>
   rw[hg] at h1
   injection h1 with h1
   injection h1 with e1 e2
   subst e1 e2
   obtain⟨afF,z2,aeH,afG,_⟩:=(aM _ j h2).info
   rw[<-afG]
   exact EB i f afF hg aeH) parts.toList z cs A0 k1 k2 h
 refine⟨A,fun w'=>run_build w' t _ A ?_,?_⟩
 ·unfold Program.built
  rw[jo,hu]
  simp only[hz,rT,Value.cells,Array.toList_map]
  exact e1
 ·have:=Vr.eU e2 e3
  simpa using this
end
end
section
set_option linter.unusedSectionVars false
variable [Old]
section
variable {P:Program} {Q:Exit->S->Prop}
theorem BP {I:Nat->Prop} {g:bH} {w:World} {v:Value} {d:D} {n:Int} (h:Vr I g w v d) (hi:idx d=some n):∃k,v=.int k n:=by
 cases d<;>simp only[idx] at hi<;>first|(cases hi;done)|(injection hi with hi;subst hi;exact⟨_,h.nI⟩)
theorem Gz:∀(h:List AO) (o:Nat),lh h o=.gone\/h[o]?=some (lh h o)
 |[],o=>.inl (by simp[lh])
 |a::l,0=>.inr (by simp[lh])
 |a::l,n+1=>by
  rcases Gz l n with e|e
  ·exact .inl (by simp[lh,e])
  ·exact .inr (by simp[lh,e])
theorem xp {h:List AO} {o:Nat} {e:TypeId} {n:Nat} {xs:List (List D)} (k:lh h o=.row e n xs):h[o]?=some (.row e n xs):=by
 rcases Gz h o with e'|e'
 ·rw[k] at e';cases e'
 ·rw[k] at e';exact e'
theorem FT {h:List AO} {o:Nat} {e:TypeId} {cs:List D} (k:lh h o=.cells e cs):h[o]?=some (.cells e cs):=by
 rcases Gz h o with e'|e'
 ·rw[k] at e';cases e'
 ·rw[k] at e';exact e'
theorem acj {I:Nat->Prop} {g:bH} {w:World} {h:List AO} (hd:Den I g w h) {v:Value} {d:D} {n:Nat} (hv:Vr I g w v d) (hl:LG h d=some n):∃a c,v=.slice a n c:=by
 cases d<;>simp only[LG] at hl<;>try (cases hl;done)
 case list m xs=>
  injection hl with hl
  subst hl
  have h0:=hv.vO
  cases h0 with
  |list A cap m l xs U dH _ _ _ _ _ _ _=>exact⟨_,_,by rw[dH]⟩
 case own m xs=>
  injection hl with hl
  subst hl
  have h0:=hv.forget.vO
  cases h0 with
  |list A cap m l xs U dH _ _ _ _ _ _ _=>exact⟨_,_,by rw[dH]⟩
 case nils=>injection hl with hl;subst hl;exact⟨_,_,hv.vN⟩
 case row o=>
  obtain⟨bo,a,l,c,hg,rfl⟩:=hv.w9
  cases hk:lh h o with
  |row e m xs=>
   rw[hk] at hl
   simp only at hl
   injection hl with hl
   subst hl
   obtain⟨a',c',vs,hp,_⟩:=hd.obj o _ _ (xp hk) hg
   injection hp with e1 e2 e3
   exact⟨a,c,by rw[e2]⟩
  |cells e cs=>rw[hk] at hl;simp at hl
  |gone=>rw[hk] at hl;simp at hl
theorem Ji {x:Value} {k:IntKind} {n:Int} (hx:x=.int k n) {y:Nat} (h0:0<=n) (h1:n<=y) (c:BoundsCode) (w:World):(Instr.sliceBound x y c).run P w=.ok n.toNat w:=by
 subst hx
 simp[Instr.sliceBound,asIntOf,h0,h1]
theorem RG {I:Nat->Prop} {g:bH} {w:World} {s:S} {a:Act} (cH:∀x,Vr I g w (a.eval x) (ev s x)) {lo hi:Option Operand} {l h:Int} {len cap:Nat} {b:Bool} (p9:EA s lo=some l) (wI:H8 s len hi=some h) (h0:0<=l) (h1:l<=h) (h2:h<=len) (hc:len<=cap) (w':World):
 (Instr.sliceBounds b len cap (lo.map a.eval) (hi.map a.eval) none).run P w'=.ok (l.toNat,h.toNat,cap) w':=by
 have hH:∀x,hi=some x->∃k,a.eval x=.int k h:=fun x e=>by subst e;exact BP (cH x) wI
 have hL:∀x,lo=some x->∃k,a.eval x=.int k l:=fun x e=>by subst e;exact BP (cH x) p9
 cases hi with
 |none=>
  simp only[H8] at wI
  injection wI with wI
  subst wI
  cases lo with
  |none=>
   simp only[EA] at p9
   injection p9 with p9
   subst p9
   simp[Instr.sliceBounds]
  |some x=>
   obtain⟨k,hk⟩:=hL x rfl
   have:=Ji (P:=P) hk (y:=len) h0 (by omega) .sliceB w'
   simp[Instr.sliceBounds,this]
 |some y=>
  obtain⟨k2,iH⟩:=hH y rfl
  have q:=fun c=>Ji (P:=P) iH (y:=cap) (by omega) (by omega) c w'
  cases lo with
  |none=>
   simp only[EA] at p9
   injection p9 with p9
   subst p9
   simp[Instr.sliceBounds,q]
  |some x=>
   obtain⟨k,hk⟩:=hL x rfl
   have:=Ji (P:=P) hk (y:=h.toNat) h0 (by omega) .sliceB w'
   simp[Instr.sliceBounds,q,this]
theorem Vm (s:List UInt8) (l h:Nat):(aA s).extract l h=aA ((s.drop l).take (h-l)):=by
 apply ByteArray.ext
 apply Array.toList_inj.1
 simp[aA,ByteArray.data_extract,List.extract_eq_take_drop]
theorem Dr.cut {I:Nat->Prop} {w:World} {A:Option Addr} {len cap n:Nat} {xs:List (List D)} (h:Dr I w (.slice A len cap) (.list n xs)) {l k:Nat} (h1:l<=k) (h2:k<=len):
 Dr I w (.slice (if cap=l then A else A.map (·.add (l*n))) (k-l) (cap-l)) (.list n ((xs.drop l).take (k-l))):=by
 cases h with
 |list A cap n len xs U dH hl hm fI hlen hA g1 hU=>
  have hg:∀(i:Nat) x,((xs.drop l).take (k-l))[i]?=some x->xs[l+i]?=some x:=by
   intro i x hx
   rw[List.getElem?_take] at hx
   split at hx
   ·rw[List.getElem?_drop] at hx;exact hx
   ·cases hx
  refine .list _ _ n _ _ (fun i j=>U (l+i) j) (by simp;omega) (by omega) (by omega) (fun e=>?_) (fun x hx=>hlen x (List.mem_of_mem_drop (List.mem_of_mem_take hx))) (fun hp=>?_) (fun i x j d hx=>g1 (l+i) x j d (hg i x hx)) (fun i x j d hx=>hU (l+i) x j d (hg i x hx))
  ·split at e
   ·have:=fI e;omega
   ·cases A with
    |none=>have:=fI rfl;omega
    |some ad=>cases e
  ·obtain⟨b,off,rfl,hb,hI,hc⟩:=hA (by omega)
   rw[if_neg (by omega)]
   refine⟨b,off+l*n,by simp only[Option.map_some,Addr.add_mid],hb,hI,fun i x j d hx hj=>?_⟩
   have:=hc (l+i) x j d (hg i x hx) hj
   rw[<-this]
   congr 2
   rw[Nat.add_mul]
   omega
theorem Z7 (k:IntKind) (a b:Int) (w:World):(Builtin.max2 (.int k a) (.int k b)).run P w=.ok (.int k (if a<b then b else a)) w:=by
 simp[Builtin.max2]
theorem Z8 (k:IntKind) (a b:Int) (w:World):(Builtin.min2 (.int k a) (.int k b)).run P w=.ok (.int k (if b<a then b else a)) w:=by
 simp[Builtin.min2]
set_option maxHeartbeats 20000000 in
theorem JK [Wd] {E:En} (aM:E.tb.ok P) {s:S} {a:Act} {I:Nat->Prop} {g:bH} {w:World} (cH:∀x,Vr I g w (a.eval x) (ev s x)) (hd:Den I g w s.h) {o:Oper} {k:D->T} (h:(B2 E o.op s k).ok P Q):Pg P I g w a.eval o Q k:=by
 obtain⟨dst,op,ty,pos,after,guard⟩:=o
 simp only at h
 unfold B2 at h
 split at h
 ·
  exact⟨_,_,fun w'=>rfl,cH _,h⟩
 ·exact⟨_,_,fun w'=>rfl,cH _,h⟩
 ·
  rename_i c x y
  split at h
  ·rename_i b0 hc
   have hb:=(cH c);rw[hc] at hb
   have hb:=hb.rm
   split at h
   ·rename_i u v hu hv
    have h1:=cH x;rw[hu] at h1
    have h2:=cH y;rw[hv] at h2
    refine⟨.bool (cond b0 u v),_,fun w'=>?_,.GQ _,h⟩
    cases b0<;>simp[execOp,asBool,hb,h1.rm,h2.rm]
   ·cases b0 with
    |true=>exact⟨_,_,fun w'=>by simp[execOp,asBool,hb],cH x,h⟩
    |false=>exact⟨_,_,fun w'=>by simp[execOp,asBool,hb],cH y,h⟩
  ·exact h.elim
 ·
  rename_i x
  split at h
  ·rename_i o f hx
   have hv:=cH x;rw[hx] at hv
   obtain⟨b,bo,_,e⟩:=hv.xd
   exact⟨_,_,fun w'=>by simp only[execOp,e];rfl,by rw[<-e];exact hv,h⟩
  ·rename_i cs hx
   have hv:=cH x;rw[hx] at hv
   have h0:=hv.F8
   cases e:a.eval x with
   |pointer p=>
    rw[e] at h0 hv
    cases h0
    exact⟨_,_,fun w'=>by simp only[execOp,e];rfl,hv,h⟩
   |_=>rw[e] at h0;cases h0
  ·rename_i f n c hx
   have hv:=cH x;rw[hx] at hv
   obtain⟨vs,e,_⟩:=hv.Gj
   exact⟨_,_,fun w'=>by simp only[execOp,e];rfl,by rw[<-e];exact hv,h⟩
  ·rename_i o n i f hx
   have hv:=cH x;rw[hx] at hv
   obtain⟨bo,b,base,l,c,_,e⟩:=hv.De
   exact⟨_,_,fun w'=>by simp only[execOp,e];rfl,by rw[<-e];exact hv,h⟩
  ·exact h.elim
 ·
  rename_i xY xt x yt
  split at h
  ·rename_i b sz jJ z hx hl
   have hv:=cH x;rw[hx] at hv
   obtain⟨ms,hu⟩:=WT aM hl
   have hq:∀w',(Op.equal xt (a.eval x) .nilIface).run P w'=.ok b w':=fun w'=>by
    rcases hv.Ke with⟨rfl,e⟩|⟨rfl,t,u,e⟩
    ·rw[e];exact UA hu w'
    ·rw[e];exact Uz hu t u w'
   have cu:(∀k n,a.eval x≠.int k n)/\(∀s,a.eval x≠.string s)/\(∀k n,a.eval x≠.float k n)/\∀k n m,a.eval x≠.complex k n m:=by
    rcases hv.Ke with⟨_,e⟩|⟨_,t,u,e⟩<;>rw[e]<;>simp
   obtain⟨v,d,r1,r2,r3⟩:=yz (P:=P) (xt:=xt) hq cu.1 cu.2.1 cu.2.2.1 cu.2.2.2 h
   refine Pg.mk (m:=do eqGuard xY xt x (.const .nilIface) (a.eval x) .nilIface;binOp xY xt (a.eval x) .nilIface) rfl (fun w'=>?_) (r2 I g w) r3
   have hg:(eqGuard xY xt x (.const .nilIface) (a.eval x) .nilIface).run P w'=.ok () w':=by
    unfold eqGuard
    rcases hv.Ke with⟨_,e⟩|⟨_,t,u,e⟩<;>rw[e]<;>cases xY<;>simp
   rw[Sem.run_bind,hg]
   exact r1 w'
  ·exact h.elim
 ·
  rename_i xY xt x y yt hny
  cases MN:LF (ev s x) with
  |true=>
   rw[MN] at h
   obtain⟨v,d,h1,h2,h3⟩:=adD (p:=x) (q:=y) aM MN (cH x) (cH y) h
   exact Pg.mk (m:=do eqGuard xY xt x y (a.eval x) (a.eval y);binOp xY xt (a.eval x) (a.eval y)) rfl h1 h2 h3
  |false=>
  rw[MN] at h
  obtain⟨v,d,h1,h2,h3⟩:=aci aM (cH x) (cH y) h
  obtain⟨p1,p2⟩:=WV (cH x) h
  refine Pg.mk (m:=do eqGuard xY xt x y (a.eval x) (a.eval y);binOp xY xt (a.eval x) (a.eval y)) rfl (fun w'=>?_) (h2 I g w) h3
  rw[Sem.run_bind,WU p1 p2]
  exact h1 w'
 ·
  rename_i t x
  split at h
  ·rename_i b hx
   have hv:=cH x;rw[hx] at hv
   have e:=hv.rm
   exact⟨_,_,fun w'=>by simp[execOp,Op.unary,e],.GQ _,h⟩
  ·exact h.elim
 ·rename_i t x
  split at h
  ·rename_i i n hx
   have hv:=cH x;rw[hx] at hv
   have e:=hv.nI
   exact⟨_,_,fun w'=>by simp only[execOp,Op.unary,e,Op.intArith];rfl,.Ao _ _,h⟩
  ·exact h.elim
 ·
  rename_i src Cg x
  split at h
  ·rename_i i0 sz jJ z i kd n hs xH hx
   have hv:=cH x;rw[hx] at hv
   have e:=hv.nI
   obtain⟨d0,hu⟩:=OZ aM hs
   have hk:=Df aM xH
   refine Pg.mk (m:=convert src Cg (a.eval x)) rfl (fun w'=>?_) (.Ao _ _) h
   rw[e]
   simp[convert,run_underlying hu,run_underlying hk,Conv.intToInt]
  ·rename_i b hs xH hx
   have hv:=cH x;rw[hx] at hv
   have e:=hv.nJ
   have hu:=vP aM hs
   have hk:=vP aM xH
   refine Pg.mk (m:=convert src Cg (a.eval x)) rfl (fun w'=>?_) (.Hf _) h
   rw[e]
   simp[convert,run_underlying hu,run_underlying hk]
  ·exact h.elim
 ·
  rename_i t x f
  split at h
  ·rename_i o u p off hf hx
   have hv:=cH x;rw[hx] at hv
   obtain⟨b,bo,hg,e⟩:=hv.xd
   refine Pg.mk (m:=Instr.fieldAt t (a.eval x) f) rfl (fun w'=>?_) (.ptr p (off+o) b bo hg) h
   rw[e]
   exact Iy aM hf b off w'
  ·rename_i o u cs hf hx
   have hv:=cH x;rw[hx] at hv
   have h0:=hv.F8
   cases e:a.eval x with
   |pointer pa=>
    rw[e] at h0
    cases h0 with
    |ref b off cs U hI hb hc g1 hU=>
     refine Pg.mk (m:=Instr.fieldAt t (a.eval x) f) rfl (v:=.pointer (some ⟨b,off+o,none⟩)) (fun w'=>by rw[e];exact Iy aM hf b off w') (.rd (.ref b (off+o) _ (fun j=>U (o+j)) hI hb (fun j d hj=>?_) (fun j d hj=>?_) (fun j d hj=>?_))) h
     ·rw[zH,List.getElem?_drop] at hj
      rw[Nat.add_assoc]
      exact hc _ d hj
     ·rw[zH,List.getElem?_drop] at hj
      exact g1 _ d hj
     ·rw[zH,List.getElem?_drop] at hj
      exact hU _ d hj
   |_=>rw[e] at h0;cases h0
  ·rename_i o u p n i off hf hx
   have hv:=cH x;rw[hx] at hv
   obtain⟨bo,b,base,l,c,hg,e⟩:=hv.De
   refine Pg.mk (m:=Instr.fieldAt t (a.eval x) f) rfl (fun w'=>?_) (.gy p n i (off+o) b base l c bo hg) h
   rw[e,<-Nat.add_assoc]
   exact Iy aM hf b _ w'
  ·exact h.elim
 ·
  rename_i t x f
  split at h
  ·rename_i o u cs hf hx
   have hv:=cH x;rw[hx] at hv
   obtain⟨vs,e,k1,k2⟩:=hv.yy
   split at h
   ·rename_i d hp
    obtain⟨v,r1,r2⟩:=JJ aM hp k1 k2
    refine Pg.mk (m:=Instr.field t (a.eval x) f) rfl (fun w'=>?_) r2 h
    rw[e]
    exact X8 aM hf w' r1
   ·exact h.elim
  ·exact h.elim
 ·
  rename_i t parts
  split at h
  ·rename_i sz jJ z fs hl
   split at h
   ·rename_i cs hf
    obtain⟨A,r1,r2⟩:=Z6 aM cH hl hf
    exact Pg.mk (m:=Instr.build t (parts.map fun (i,x)=>(i,a.eval x))) rfl r1 r2 h
   ·exact h.elim
  ·exact h.elim
 ·
  rename_i t x i
  split at h
  ·rename_i sz jJ z e hl
   split at h
   ·rename_i n xs j y hx hi hy
    have hv:=cH x;rw[hx] at hv
    have h0:=hv.vO
    obtain⟨kd,mH⟩:=BP (cH i) hi
    cases hn:Nat.beq n y.size with
    |false=>rw[hn] at h;exact h.elim
    |true=>
     rw[hn] at h
     obtain⟨c,qb,hc,hk⟩:=h
     have cm:=nF aM hl
     obtain⟨inf,zv,jo,eE,_⟩:=(aM e y hy).info
     have cu:inf.size=n:=by rw[eE];exact(Nat.eq_of_beq_eq_true hn).symm
     have hlt:j.toNat<xs.length:=(List.getElem?_eq_some_iff.1 hc).1
     cases ex:a.eval x with
     |slice A len cap=>
      rw[ex] at h0
      cases h0 with
      |list A cap n len xs U dH xM hm fI hlen hA g1 hU=>
       obtain⟨b,off,rfl,hb,hI,DT⟩:=hA (by omega)
       refine Pg.mk (m:=Instr.indexAt t (a.eval x) (a.eval i)) rfl (v:=.pointer (some ⟨b,off+j.toNat*n,none⟩)) (fun w'=>?_) (.rd (.ref b (off+j.toNat*n) c (fun q=>U j.toNat q) hI hb (fun q d hq=>DT _ _ _ _ hc hq) (fun q d hq=>g1 _ _ _ _ hc hq) (fun q d hq=>hU _ _ _ _ hc hq))) hk
       rw[ex,mH]
       have DH:0<=j/\j<(len:Int):=by omega
       simp only[Instr.indexAt,asIntOf,Sem.run_bind,Sem.run_pure,Result.andThen_ok,run_underlying cm,Sem.run_ite]
       rw[if_pos DH]
       simp only[wQ jo,Result.andThen_ok,cu,Addr.add_mid]
     |_=>rw[ex] at h0;cases h0
   ·rename_i n xs j y hx hi hy
    have hv:=cH x;rw[hx] at hv
    have h0:=hv.forget.vO
    obtain⟨kd,mH⟩:=BP (cH i) hi
    cases hn:Nat.beq n y.size with
    |false=>rw[hn] at h;exact h.elim
    |true=>
     rw[hn] at h
     obtain⟨c,qb,hc,hk⟩:=h
     have cm:=nF aM hl
     obtain⟨inf,zv,jo,eE,_⟩:=(aM e y hy).info
     have cu:inf.size=n:=by rw[eE];exact(Nat.eq_of_beq_eq_true hn).symm
     have hlt:j.toNat<xs.length:=(List.getElem?_eq_some_iff.1 hc).1
     cases ex:a.eval x with
     |slice A len cap=>
      rw[ex] at h0
      cases h0 with
      |list A cap n len xs U dH xM hm fI hlen hA g1 hU=>
       obtain⟨b,off,rfl,hb,hI,DT⟩:=hA (by omega)
       refine Pg.mk (m:=Instr.indexAt t (a.eval x) (a.eval i)) rfl (v:=.pointer (some ⟨b,off+j.toNat*n,none⟩)) (fun w'=>?_) (.rd (.ref b (off+j.toNat*n) c (fun q=>U j.toNat q) hI hb (fun q d hq=>DT _ _ _ _ hc hq) (fun q d hq=>g1 _ _ _ _ hc hq) (fun q d hq=>hU _ _ _ _ hc hq))) hk
       rw[ex,mH]
       have DH:0<=j/\j<(len:Int):=by omega
       simp only[Instr.indexAt,asIntOf,Sem.run_bind,Sem.run_pure,Result.andThen_ok,run_underlying cm,Sem.run_ite]
       rw[if_pos DH]
       simp only[wQ jo,Result.andThen_ok,cu,Addr.add_mid]
     |_=>rw[ex] at h0;cases h0
   ·rename_i o j y hx hi hy
    split at h
    ·rename_i e' n xs hh
     cases hn:Nat.beq n y.size with
     |false=>rw[hn] at h;exact h.elim
     |true=>
      rw[hn] at h
      obtain⟨⟨qb,hj1⟩,hk⟩:=h
      have hv:=cH x;rw[hx] at hv
      obtain⟨bo,ra,rl,rc,hg,ex⟩:=hv.w9
      obtain⟨a',c',vs,hp,eV,qd,kP,hlen,h1⟩:=hd.obj o _ _ (xp hh) hg
      obtain⟨kd,mH⟩:=BP (cH i) hi
      have cm:=nF aM hl
      obtain⟨inf,zv,jo,eE,_⟩:=(aM e y hy).info
      have cu:inf.size=n:=by rw[eE];exact(Nat.eq_of_beq_eq_true hn).symm
      injection hp with e1 e2 e3
      rcases eV.2 with⟨q1,q2⟩|⟨g',cap,cur,fz,q1,_⟩
      ·exact absurd q2 (by omega)
      ·injection q1 with q1 _ _
       subst q1
       refine Pg.mk (m:=Instr.indexAt t (a.eval x) (a.eval i)) rfl (v:=.pointer (some ⟨g',0+j.toNat*n+0,none⟩)) (fun w'=>?_) (.gy o n j.toNat 0 g' 0 rl rc bo hg) hk
       rw[ex,mH]
       have DH:0<=j/\j<(rl:Int):=by rw[e2];exact⟨qb,hj1⟩
       simp only[Instr.indexAt,asIntOf,Sem.run_bind,Sem.run_pure,Result.andThen_ok,run_underlying cm,Sem.run_ite]
       rw[if_pos DH]
       simp only[wQ jo,Result.andThen_ok,cu,Addr.add_mid]
       rfl
    ·exact h.elim
   ·exact h.elim
  ·exact h.elim
 ·
  rename_i t x i
  split at h
  ·rename_i sz jJ z hl
   split at h
   ·rename_i b j hx hi
    have hv:=cH x;rw[hx] at hv
    have e:=hv.nJ
    obtain⟨kd,mH⟩:=BP (cH i) hi
    obtain⟨c,qb,hc,hk⟩:=h
    have cm:=vP aM hl
    refine Pg.mk (m:=Instr.index t (a.eval x) (a.eval i)) rfl (fun w'=>?_) (.Ao _ _) hk
    rw[e,mH]
    simp only[Instr.index,asIntOf,Sem.run_bind,Sem.run_pure,Result.andThen_ok,run_underlying cm]
    rw[if_pos qb]
    have:(aA b)[j.toNat]?=some c:=by
     obtain⟨h1,h2⟩:=List.getElem?_eq_some_iff.1 hc
     have hs:j.toNat<(aA b).size:=by rw[oI];exact h1
     rw[getElem?_pos (aA b) j.toNat hs]
     exact congrArg some (show(aA b)[j.toNat]'hs=c from h2)
    rw[this]
    rfl
   ·exact h.elim
  ·exact h.elim
 ·
  rename_i t x lo hi
  split at h
  ·rename_i sz jJ z b hl hx
   split at h
   ·rename_i l k0 p9 wI
    have hv:=cH x;rw[hx] at hv
    have e:=hv.nJ
    have cm:=vP aM hl
    obtain⟨⟨c1,c2,c3⟩,hk⟩:=h
    refine Pg.mk (m:=Instr.sliceAt t (a.eval x) (lo.map a.eval) (hi.map a.eval) none) rfl (v:=.string (aA ((b.drop l.toNat).take (k0.toNat-l.toNat)))) (fun w'=>?_) (.Hf _) hk
    rw[e]
    have hr:=RG (P:=P) cH (b:=false) p9 wI c1 c2 c3 (Nat.le_refl _) w'
    simp only[Instr.sliceAt,Instr.slice,Sem.run_bind,run_underlying cm,Result.andThen_ok,oI,hr,Option.isSome_none,Bool.false_eq_true,if_false,Sem.run_pure,Vm]
   ·exact h.elim
  ·rename_i sz jJ z e n xs hl hx
   split at h
   ·rename_i l k0 y p9 wI hy
    cases hn:Nat.beq n y.size with
    |false=>rw[hn] at h;exact h.elim
    |true=>
     rw[hn] at h
     have hv:=cH x;rw[hx] at hv
     have h0:=hv.vO
     have cm:=nF aM hl
     obtain⟨⟨c1,c2,c3⟩,hk⟩:=h
     obtain⟨inf,zv,jo,eE,_⟩:=(aM e y hy).info
     have cu:inf.size=n:=by rw[eE];exact(Nat.eq_of_beq_eq_true hn).symm
     cases ex:a.eval x with
     |slice A len cap=>
      rw[ex] at h0
      have hlen:len=xs.length:=by cases h0;assumption
      have Ce:len<=cap:=by cases h0;assumption
      have hcut:=h0.cut (l:=l.toNat) (k:=k0.toNat) (by omega) (by omega)
      refine Pg.mk (m:=Instr.sliceAt t (a.eval x) (lo.map a.eval) (hi.map a.eval) none) rfl (fun w'=>?_) (.rd hcut) hk
      rw[ex]
      have hr:=RG (P:=P) cH (b:=true) p9 (by rw[<-hlen] at wI;exact wI) c1 c2 (by rw[hlen];exact c3) Ce w'
      simp only[Instr.sliceAt,Instr.slice,Sem.run_bind,run_underlying cm,Result.andThen_ok,hr,wQ jo,Sem.run_pure,cu]
     |_=>rw[ex] at h0;cases h0
   ·exact h.elim
  ·exact h.elim
 ·
  rename_i t x
  split at h
  ·rename_i sz jJ z fs hx hl
   have hv:=cH x;rw[hx] at hv
   obtain⟨vs,e,k1,_⟩:=hv.yy
   have kP:=k1.Dm
   subst kP
   obtain⟨gs,hu,_⟩:=EZ aM hl
   refine Pg.mk (m:=Instr.makeInterface t (a.eval x)) rfl (v:=.iface t (.agg #[])) (fun w'=>?_) (.jI t) h
   rw[e]
   simp[Instr.makeInterface,run_underlying hu]
  ·exact h.elim
 ·
  rename_i x i
  split at h
  ·rename_i ds hx
   split at h
   ·rename_i d hl
    have hv:=cH x;rw[hx] at hv
    obtain⟨vs,e,k1⟩:=hv.F7
    rw[Gx] at hl
    have hlt:i<vs.length:=by rw[k1.1];exact(List.getElem?_eq_some_iff.1 hl).1
    refine Pg.mk (m:=Instr.extract (a.eval x) i) rfl (fun w'=>?_) (k1.2 i _ d (List.getElem?_eq_getElem hlt) hl) h
    rw[e]
    simp[Instr.extract,hlt]
   ·exact h.elim
  ·exact h.elim
 ·
  rename_i f first fS
  have hm:∀(i:Nat) v d,(fS.toList.map a.eval)[i]?=some v->(fS.toList.map (ev s))[i]?=some d->Vr I g w v d:=fun i v d h1 h2=>by
   rw[List.getElem?_map] at h1 h2
   cases hq:fS.toList[i]? with
   |none=>rw[hq] at h1;cases h1
   |some x=>
    rw[hq] at h1 h2
    injection h1 with h1;injection h2 with h2
    subst h1 h2
    exact cH x
  split at h
  ·rename_i hf
   have h0:first=#[]:=Array.toList_inj.1 hf
   subst h0
   rw[C4] at h
   refine Pg.mk (m:=Instr.makeFunc (.func f) ((#[]:Array Operand).map a.eval) (fS.map a.eval)) rfl (v:=.func (.func f) ((fS.toList.map a.eval).take 0).toArray ((fS.toList.map a.eval).drop 0).toArray) (fun w'=>?_) (.fn f 0 _ _ (by simp) hm) h
   simp only[Instr.makeFunc,Array.map_empty,Sem.run_pure,List.take_zero,List.drop_zero]
   congr 2
   apply Array.toList_inj.1
   simp
  ·rename_i x hf
   have h0:first=#[x]:=Array.toList_inj.1 hf
   subst h0
   rw[C4] at h
   refine Pg.mk (m:=Instr.makeFunc (.func f) ((#[x]:Array Operand).map a.eval) (fS.map a.eval)) rfl (v:=.func (.func f) ((a.eval x::fS.toList.map a.eval).take 1).toArray ((a.eval x::fS.toList.map a.eval).drop 1).toArray) (fun w'=>?_) (.fn f 1 _ _ (by simp) (fun i v d h1 h2=>?_)) h
   ·simp only[Instr.makeFunc,Sem.run_pure,List.take_succ_cons,List.take_zero,List.drop_succ_cons,List.drop_zero]
    have e1:Array.map a.eval fS=(List.map a.eval fS.toList).toArray:=by
     apply Array.toList_inj.1
     simp
    have e2:Array.map a.eval #[x]=[a.eval x].toArray:=by simp
    rw[e1,e2]
   ·cases i with
    |zero=>simp at h1 h2;subst h1 h2;exact cH x
    |succ i=>exact hm i v d (by simpa using h1) (by simpa using h2)
  ·exact h.elim
 ·
  rename_i args ts
  split at h
  ·rename_i x t wo MO
   have ha:args=#[x]:=Array.toList_inj.1 wo
   have ht:ts=#[t]:=Array.toList_inj.1 MO
   subst ha ht
   split at h
   ·rename_i sz jJ z hl
    have cm:=vP aM hl
    split at h
    ·rename_i b hx
     have hv:=cH x;rw[hx] at hv
     refine⟨.int .i64 (b.length:Int),_,fun w'=>?_,.Ao _ _,h⟩
     simp[execOp,resolve,invoke,builtin,Builtin.len_,run_underlying cm,hv.nJ,oI,goInt]
    ·exact h.elim
   ·rename_i sz jJ z e0 hl
    have cm:=nF aM hl
    split at h
    ·rename_i n hn
     obtain⟨A,c,e⟩:=acj hd (cH x) hn
     refine⟨.int .i64 (n:Int),_,fun w'=>?_,.Ao _ _,h⟩
     simp[execOp,resolve,invoke,builtin,Builtin.len_,run_underlying cm,e,goInt]
    ·exact h.elim
   ·exact h.elim
  ·exact h.elim
 ·
  rename_i args ts
  split at h
  ·rename_i x y wo
   have ha:args=#[x,y]:=Array.toList_inj.1 wo
   subst ha
   split at h
   ·rename_i i n i' m hx hy
    cases hk:Nat.beq (mX i) (mX i') with
    |false=>rw[hk] at h;exact h.elim
    |true=>
     rw[hk] at h
     cases F9 hk
     have e1:=cH x;rw[hx] at e1
     have e2:=cH y;rw[hy] at e2
     refine⟨.int i (if n<m then m else n),_,fun w'=>?_,.Ao _ _,h⟩
     simp[execOp,resolve,invoke,builtin,Builtin.max_,e1.nI,e2.nI,Z7]
   ·exact h.elim
  ·exact h.elim
 ·rename_i args ts
  split at h
  ·rename_i x y wo
   have ha:args=#[x,y]:=Array.toList_inj.1 wo
   subst ha
   split at h
   ·rename_i i n i' m hx hy
    cases hk:Nat.beq (mX i) (mX i') with
    |false=>rw[hk] at h;exact h.elim
    |true=>
     rw[hk] at h
     cases F9 hk
     have e1:=cH x;rw[hx] at e1
     have e2:=cH y;rw[hy] at e2
     refine⟨.int i (if m<n then m else n),_,fun w'=>?_,.Ao _ _,h⟩
     simp[execOp,resolve,invoke,builtin,Builtin.min_,e1.nI,e2.nI,Z8]
   ·exact h.elim
  ·exact h.elim
 ·exact h.elim
end
end
section
set_option linter.unusedSectionVars false
variable [Old]
def xh (op:Op) (s:S):Option Nat:=
 match op with
 |.load _ a=>match ev s a with
  |.ptr o _=>some o
  |.gy o _ _ _=>some o
  |_=>none
 |.convert _ _ x=>match ev s x with
  |.row o=>some o
  |_=>none
 |_=>none
section
variable {P:Program} {Q:Exit->S->Prop}
theorem Dr.bs {I:Nat->Prop} {w:World} {v:Value} {s:List UInt8} (h:Dr I w v (.list 1 (s.map af))) (hb:s.length<=aL):Bs w v s:=by
 generalize hq:(D.list 1 (s.map af))=q at h
 cases h<;>try (cases hq;done)
 rename_i A cap n l xs U dH hl hm fI hlen hA g1 hU
 injection hq with h1 h2
 subst h1 h2
 rw[List.length_map] at dH
 subst dH
 refine⟨⟨A,cap,rfl,fun e=>?_,hl,hm,fun ad kB=>?_⟩,hb⟩
 ·obtain⟨e1,e2⟩:=fI e
  exact⟨List.eq_nil_of_length_eq_zero e1,e2⟩
 ·subst kB
  have key:∀(j:Nat) u,(fm s)[j]?=some u->ad.spot=none/\ad.block<w.heap.size/\w.cell? (ad.add j)=some u:=by
   intro j u hj
   have hlt:j<s.length:=by
    rcases Nat.lt_or_ge j s.length with h|h
    ·exact h
    ·rw[List.getElem?_eq_none (by rw[r8];exact h)] at hj;cases hj
   obtain⟨b,off,e,kC,hI,hc⟩:=hA (by omega)
   injection e with e
   subst e
   have hx:(s.map af)[j]?=some (af s[j]):=by simp[hlt]
   have hd:=hU j _ 0 (.int .u8 ((s[j]).toNat:Int)) hx rfl
   have fH:=hc j _ 0 (.int .u8 ((s[j]).toNat:Int)) hx rfl
   rw[vD s j hlt] at hj
   injection hj with hj
   subst hj
   refine⟨rfl,kC,?_⟩
   rw[Addr.add_mid]
   rw[Nat.mul_one,Nat.add_zero] at fH
   rw[fH]
   generalize hz:U j 0=z at hd
   cases hd
   rfl
  exact⟨fun cu=>(key 0 _ (by rw[vD s 0 (List.length_pos_iff.2 cu)])).2.1,fun j u hj=>(key j u hj).2.2⟩
theorem Bs.dr {I:Nat->Prop} {w:World} {v:Value} {s:List UInt8} (h:Bs w v s) (hI:∀g,v.ownBlock=some g->s≠[]->I g):Dr I w v (.list 1 (s.map af)):=by
 obtain⟨⟨A,cap,rfl,hn,hc,hm,hr⟩,hl⟩:=h
 refine .list A cap 1 _ _ (fun i _=>(fm s).getD i undef) (by simp) hc hm (fun e=>?_) (fun x hx=>?_) (fun h0=>?_) (fun i x j d hx hj=>?_) (fun i x j d hx hj=>?_)
 ·obtain⟨h1,h2⟩:=hn e
  exact⟨by rw[h1];rfl,h2⟩
 ·obtain⟨b,_,rfl⟩:=List.mem_map.1 hx
  rfl
 ·cases A with
  |none=>have:=(hn rfl).1;rw[this] at h0;simp at h0
  |some ad=>
   obtain⟨k1,k2⟩:=hr ad rfl
   have cu:s≠[]:=List.length_pos_iff.1 h0
   have c0:=k2 0 _ (vD s 0 h0)
   have hs:ad.spot=none:=by
    cases hq:ad.spot with
    |none=>rfl
    |some z=>
     have:ad.add 0=ad:=by simp[Addr.add]
     rw[this] at c0
     unfold World.cell? at c0
     rw[hq] at c0
     split at c0<;>simp at c0
   obtain⟨b,off,sp⟩:=ad
   simp only at hs
   subst hs
   refine⟨b,off,rfl,k1 cu,hI b rfl cu,fun i x j d hx hj=>?_⟩
   have hlt:i<s.length:=by have:=(List.getElem?_eq_some_iff.1 hx).1;simpa using this
   rw[List.getElem?_map,List.getElem?_eq_getElem hlt] at hx
   injection hx with hx
   subst hx
   have qb:j=0:=by
    cases j with
    |zero=>rfl
    |succ j=>simp[af] at hj
   subst qb
   have:=k2 i _ (vD s i hlt)
   rw[Addr.add_mid] at this
   rw[Nat.mul_one,Nat.add_zero,this]
   simp[List.getD,vD s i hlt]
 ·have hlt:i<s.length:=by have:=(List.getElem?_eq_some_iff.1 hx).1;simpa using this
  simp[List.getD,vD s i hlt,Value.oneCell']
 ·have hlt:i<s.length:=by have:=(List.getElem?_eq_some_iff.1 hx).1;simpa using this
  rw[List.getElem?_map,List.getElem?_eq_getElem hlt] at hx
  injection hx with hx
  subst hx
  have qb:j=0:=by
   cases j with
   |zero=>rfl
   |succ j=>simp[af] at hj
  subst qb
  simp[af] at hj
  subst hj
  simp only[List.getD,vD s i hlt,Option.getD_some]
  exact .int _ _
theorem Dr.agree {I:Nat->Prop} {w w':World} {v:Value} {d:D} (h:Dr I w v d) (hI:∀b,I b->w'.heap[b]?=w.heap[b]?):Dr I w' v d:=by
 have hlt:∀b,I b->b<w.heap.size->b<w'.heap.size:=by
  intro b hb hl
  have:=hI b hb
  rw[Array.getElem?_eq_getElem hl] at this
  exact(Array.getElem?_eq_some_iff.1 this).1
 induction h with
 |bool b=>exact .bool b
 |int k n=>exact .int k n
 |str s=>exact .str s
 |nils=>exact .nils
 |ff=>exact .ff
 |ay=>exact .ay
 |kL=>exact .kL
 |list A cap n l xs U dH hl hm fI hlen hA h1 hU ih=>
  refine .list A cap n l xs U dH hl hm fI hlen (fun h0=>?_) h1 ih
  obtain⟨b,off,rfl,hb,kQ,hc⟩:=hA h0
  exact⟨b,off,rfl,hlt b kQ hb,kQ,fun i x j d dh hj=>by rw[World.cell?_of_block (a:=⟨b,off+i*n+j,none⟩) (hI b kQ)];exact hc i x j d dh hj⟩
 |own A cap n l xs U dH hl hm fI hlen hA h1 hU ih=>
  refine .own A cap n l xs U dH hl hm fI hlen (fun h0=>?_) h1 ih
  obtain⟨b,off,rfl,hb,kQ,hN,hF,hc⟩:=hA h0
  exact⟨b,off,rfl,hlt b kQ hb,kQ,hN,fun j hj=>by rw[<-hF j hj];simp only[World.frozen?,hI b kQ],fun i x j d dh hj=>by rw[World.cell?_of_block (a:=⟨b,off+i*n+j,none⟩) (hI b kQ)];exact hc i x j d dh hj⟩
 |ref b off cs U kQ hb hc h1 hU ih=>exact .ref b off cs U kQ (hlt b kQ hb) (fun j d hj=>by rw[World.cell?_of_block (a:=⟨b,off+j,none⟩) (hI b kQ)];exact hc j d hj) h1 ih
 |agg vs ds hl h1 h ih=>exact .agg vs ds hl h1 ih
 |aj vs ds hl h ih=>exact .aj vs ds hl ih
 |fn f n vs ds hl h ih=>exact .fn f n vs ds hl ih
theorem FA {I:Nat->Prop} {g:bH} {w:World} {tb:TT} (aM:tb.ok P) {t:TypeId} {ds:List D} {off:Nat} {d:D} {vs:List Value} (h:uH tb t ds off=some d) (hv:cJ I g w vs ds) (h1:∀v∈vs,v.oneCell'=true) (b base:Nat):
 ∃v,Vr I g w v d/\∀w',(∀(j:Nat) u,vs[j]?=some u->w'.cell? ⟨b,base+j,none⟩=some u)->(Instr.loadAt t (.pointer (some ⟨b,base+off,none⟩))).run P w'=.ok v w':=by
 unfold uH at h
 split at h
 ·cases h
 ·rename_i i hi
  obtain⟨td,hu,hr⟩:=P0 aM hi
  obtain⟨inf,z,jo,eE,_⟩:=(aM t i hi).info
  cases hk:i.kind with
  |struct fs=>
   rw[hk] at h hr
   simp only at h
   split at h
   ·rename_i r As
    injection h with h
    subst h
    rw[zH] at As
    obtain⟨rfl,hle⟩:=Gy _ _ _ As
    have hlen:((vs.drop off).take i.size).length=i.size:=by
     rw[List.length_take,List.length_drop,hv.1]
     rw[List.length_drop] at hle
     omega
    refine⟨.agg ((vs.drop off).take i.size).toArray,.eU ((hv.drop off).take i.size) (fun v h=>h1 v (List.mem_of_mem_drop (List.mem_of_mem_take h))),fun w' hc=>?_⟩
    refine run_loadAt_mid w' b (base+off) t _ td (fun j v hj=>?_) hu (by rw[hr];rfl) (by rw[jo,hlen,<-eE];rfl)
    rw[List.getElem?_take] at hj
    split at hj
    ·rw[List.getElem?_drop] at hj
     rw[Nat.add_assoc]
     exact hc _ v hj
    ·cases hj
   ·cases h
  |_=>
   rw[hk] at h hr
   simp only[Gx] at h
   have hlt:off<vs.length:=by rw[hv.1];exact(List.getElem?_eq_some_iff.1 h).1
   refine⟨vs[off],hv.2 off _ d (List.getElem?_eq_getElem hlt) h,fun w' hc=>?_⟩
   have:=hc off _ (List.getElem?_eq_getElem hlt)
   simp only[Instr.loadAt,Instr.sureAddr,Sem.run_bind,Sem.run_pure,Result.andThen_ok,loadVar,Jh hu,hr]
   simp[TK.isRow,this]
theorem P1 {I:Nat->Prop} {w:World}:∀{b:List UInt8} {vs:List Value},dQ I w vs (b.map af).flatten->vs=fm b
 |[],vs,h=>List.eq_nil_of_length_eq_zero (by simpa using h.1)
 |x::b,[],h=>by have:=h.1;simp[af] at this
 |x::b,v::vs,h=>by
  have h0:=h.2 0 v (.int .u8 (x.toNat:Int)) rfl (by simp[af])
  cases h0
  have h2:dQ I w vs (b.map af).flatten:=⟨by have:=h.1;simpa[af] using this,fun i u d h1 h2=>h.2 (i+1) u d (by simpa using h1) (by simpa[af] using h2)⟩
  rw[P1 h2]
  rfl
theorem Dg [Wd] {E:En} (aM:E.tb.ok P) {s:S} {a:Act} {I:Nat->Prop} {g:bH} {w:World} (cH:∀x,Vr I g w (a.eval x) (ev s x)) (hd:Den I g w s.h) {o:Oper} {k:D->T} (h:(B3 E o.op s k).ok P Q):
 ∃v d,(∀w':World,(xh o.op s=none->∀b,I b->w'.heap[b]?=w.heap[b]?)->(∀n ao p b,xh o.op s=some n->s.h[n]?=some ao->g[n]?=some p->ao.owns p b->w'.heap[b]?=w.heap[b]?)->(execOp a.eval o).run P w'=.ok (.value v) w')/\Vr I g w v d/\(k d).ok P Q:=by
 obtain⟨dst,op,ty,pos,after,guard⟩:=o
 simp only at h
 unfold B3 at h
 split at h
 ·rename_i t x
  split at h
  ·rename_i o off hx
   have hv:=cH x;rw[hx] at hv
   obtain⟨b,bo,hg,e⟩:=hv.xd
   split at h
   ·rename_i ct cs hl
    have iL:=FT hl
    obtain⟨b',vs,hp,hb,k1,k2⟩:=hd.obj o _ _ iL hg
    injection hp with rT iY
    injection iY with iY
    injection iY with iY
    injection iY with iY _ _
    subst iY
    split at h
    ·rename_i d EC
     obtain⟨v,r1,r2⟩:=FA aM EC k1 k2 b 0
     refine⟨v,d,fun w' hI ho=>?_,r1,h⟩
     have hn:dR w' b ct vs.toArray:=(ho o _ _ b (by simp only[xh,hx]) iL hg (by show bo=some b;exact rT)).trans hb
     have:=r2 w' (fun j u hj=>by
      rw[Nat.zero_add,hn.cell]
      simpa using hj)
     rw[Nat.zero_add] at this
     simp only[execOp,e,Sem.run_bind,this]
     rfl
    ·exact h.elim
   ·exact h.elim
  ·rename_i cs hx
   have hv:=cH x;rw[hx] at hv
   have h0:=hv.F8
   split at h
   ·rename_i d EC
    cases e:a.eval x with
    |pointer pa=>
     rw[e] at h0
     cases h0 with
     |ref b off cs U hI hb hc g1 hU=>
      have kP:cJ I g w ((List.range cs.length).map U) cs:=by
       refine⟨by simp,fun i v d h1 h2=>?_⟩
       have hlt:i<cs.length:=(List.getElem?_eq_some_iff.1 h2).1
       rw[List.getElem?_map,List.getElem?_range hlt] at h1
       injection h1 with h1
       subst h1
       exact .rd (hU i d h2)
      obtain⟨v,r1,r2⟩:=FA aM EC kP (fun v hv=>by
       obtain⟨i,hi,rfl⟩:=List.mem_map.1 hv
       have hlt:i<cs.length:=by simpa using hi
       exact g1 i _ (List.getElem?_eq_getElem hlt)) b off
      refine⟨v,d,fun w' kQ ho=>?_,r1,h⟩
      have:=r2 w' (fun j u hj=>by
       rw[List.getElem?_map] at hj
       cases hr:(List.range cs.length)[j]? with
       |none=>rw[hr] at hj;cases hj
       |some j'=>
        rw[hr] at hj
        injection hj with hj
        have hlt:j<cs.length:=by
         have:=(List.getElem?_eq_some_iff.1 hr).1
         simpa using this
        rw[List.getElem?_range hlt] at hr
        injection hr with hr
        subst hr hj
        rw[World.cell?_of_block (a:=⟨b,off+j,none⟩) (kQ (by simp only[xh,hx]) b hI)]
        exact hc j _ (List.getElem?_eq_getElem hlt))
      rw[Nat.add_zero] at this
      simp only[execOp,e,Sem.run_bind,this]
      rfl
    |_=>rw[e] at h0;cases h0
   ·exact h.elim
  ·rename_i o n i off hx
   have hv:=cH x;rw[hx] at hv
   obtain⟨bo,b,base,l,c,hg,e⟩:=hv.De
   split at h
   ·rename_i ct m xs hh
    cases hn:Nat.beq n m with
    |false=>rw[hn] at h;exact h.elim
    |true=>
     rw[hn] at h
     cases Nat.eq_of_beq_eq_true hn
     obtain⟨x0,qb,hc,hk⟩:=h
     rw[Int.toNat_natCast] at hc
     dsimp only at hk
     split at hk
     ·rename_i d EC
      have zg:=xp hh
      obtain⟨a',c',vs,hp,eV,qd,kP,hlen,h1⟩:=hd.obj o _ _ zg hg
      have afH:=PZ xs hlen i x0 hc
      have uY:cJ I g w ((vs.drop (i*n)).take n) x0:=by
       have:=(kP.Ay (g:=g).drop (i*n)).take n
       rwa [afH] at this
      obtain⟨v,r1,r2⟩:=FA aM EC uY (fun v hv=>h1 v (List.mem_of_mem_drop (List.mem_of_mem_take hv))) b (base+i*n)
      refine⟨v,d,fun w' hI ho=>?_,r1,hk⟩
      have K6:fT w' ct n (.slice (some ⟨b,base,none⟩) l c) xs.length vs:=by
       refine⟨eV.1,?_⟩
       rcases eV.2 with q|⟨g',cap,cur,fz,q1,q2,q3⟩
       ·exact .inl q
       ·refine .inr ⟨g',cap,cur,fz,q1,(ho o _ _ g' (by simp only[xh,hx]) zg hg ?_).trans q2,q3⟩
        show bo=some g'
        rw[show bo=_ from qd,q1];rfl
      have:=r2 w' (fun j u hj=>by
       rw[List.getElem?_take] at hj
       split at hj
       ·rw[List.getElem?_drop] at hj
        obtain⟨_,A,cap,Ax,_,_,hA⟩:=K6.rd
        injection Ax with Ax _ _
        have:=(hA _ Ax.symm).2 (i*n+j) u hj
        rw[Addr.add_mid] at this
        rw[Nat.add_assoc]
        exact this
       ·cases hj)
      simp only[execOp,e,Sem.run_bind,this]
      rfl
     ·exact hk.elim
   ·exact h.elim
  ·exact h.elim
 ·rename_i src Cg x
  split at h
  ·rename_i sz jJ z e0 ED EE z' xs hs xH hx
   split at h
   ·rename_i AU AV z2 he
    obtain⟨b,rfl,mu,hk⟩:=h
    have hv:=cH x;rw[hx] at hv
    have h0:=hv.vO
    have k1:=nF aM hs
    have k2:=vP aM xH
    have k3:=Df aM he
    refine⟨.string (aA b),_,fun w' kQ ho=>?_,.Hf _,hk⟩
    have kC:Bs w' (a.eval x) b:=(h0.agree (kQ (by simp only[xh,hx]))).bs mu
    have:=kC.conv (P:=P) k1 k3 k2
    simp only[execOp,Sem.run_bind,this]
    rfl
   ·exact h.elim
  ·rename_i sz jJ z e0 ED EE z' o hs xH hx
   split at h
   ·rename_i AU AV z2 et xs he hh
    obtain⟨b,rfl,mu,hk⟩:=h
    have hv:=cH x;rw[hx] at hv
    obtain⟨bo,ra,rl,rc,hg,ex⟩:=hv.w9
    have iL:=xp hh
    obtain⟨a',c',vs,hp,eV,qd,kP,hlen,h1⟩:=hd.obj o _ _ iL hg
    have k1:=nF aM hs
    have k2:=vP aM xH
    have k3:=Df aM he
    rw[P1 kP,List.length_map] at eV
    have d0:Dr (fun g=>(Value.slice ra rl rc).ownBlock=some g) w (.slice ra rl rc) (.list 1 (b.map af)):=(fT.bs eV mu).dr (fun g hg _=>hg)
    refine⟨.string (aA b),_,fun w' kQ ho=>?_,.Hf _,hk⟩
    have kC:Bs w' (a.eval x) b:=by
     rw[ex]
     exact(d0.agree (fun g hg'=>ho o _ _ g (by simp only[xh,hx]) iL hg (by show bo=some g;exact qd.trans hg'))).bs mu
    have:=kC.conv (P:=P) k1 k3 k2
    simp only[execOp,Sem.run_bind,this]
    rfl
   ·exact h.elim
  ·exact h.elim
 ·exact h.elim
end
end
section
set_option linter.unusedSectionVars false
variable [Old]
theorem nT:∀(h:List AO) (o:Nat) (x:AO),sh h o x=h.set o x
 |[],o,x=>rfl
 |a::l,0,x=>rfl
 |a::l,n+1,x=>by simp[sh,nT l n x]
theorem Den.Al {I I':Nat->Prop} {g:bH} {w:World} {h:List AO} (hd:Den I g w h) (hI:∀b,I b->I' b) (h1:∀b,I' b->b<w.heap.size) (h2:∀b,I' b->¬dF g h b):Den I' g w h:=
 ⟨hd.len,h1,fun o ao p a b=>(hd.obj o ao p a b).mono hI (fun _ _ h=>h),fun o ao p b a1 a2 a3 hb=>h2 b hb ⟨o,ao,p,a1,a2,a3⟩,hd.sep⟩
theorem dF.push {g:bH} {h:List AO} {p:Option Nat×Value} {ao:AO} {b:Nat} (hl:g.length=h.length) (ho:dF (g++[p]) (h++[ao]) b):dF g h b\/ao.owns p b:=by
 obtain⟨o,a,q,h1,h2,h3⟩:=ho
 rcases lO h1 with⟨e1,k1⟩|⟨e1,k1⟩<;>rcases lO h2 with⟨e2,k2⟩|⟨e2,k2⟩
 ·exact .inl ⟨o,a,q,k1,k2,h3⟩
 ·omega
 ·omega
 ·subst k1 k2;exact .inr h3
theorem Af.push {I:Nat->Prop} {g:bH} {w w':World} {h:List AO} {M:List Nat} (hd:Den I g w h) (hb:B w w') {p:Option Nat×Value} {ao:AO} (hr:Ro I (g++[p]) w' p ao) (hn:∀b,ao.owns p b->w.heap.size<=b):Af I g w h M I (g++[p]) w' (h++[ao]) where
 den:=hd.push hb hr hn
 ext:=Ext.of_B hb
 i1 _ h:=h
 i2 _ h:=.inl h
 gx _ _ h:=sJ h
 fr o ho _:=List.getElem?_append_left ho
 al o a q b ho h1 h2 h3:=⟨a,by rw[<-h1,List.getElem?_append_left ho],h3⟩
 nw o a q b ho h1 h2 h3:=by
  rcases lO h1 with⟨e1,_⟩|⟨e1,k1⟩
  ·omega
  ·rcases lO h2 with⟨e2,_⟩|⟨e2,k2⟩
   ·have:=hd.len;omega
   ·subst k1 k2;exact .inr (hn b h3)
def gp (w:World):Option Nat×Value:=(some w.heap.size,.pointer (some ⟨w.heap.size,0,none⟩))
theorem Af.cells {I:Nat->Prop} {g:bH} {w w':World} {h:List AO} {M:List Nat} {e:TypeId} {vs:List Value} {cs:List D} (hd:Den I g w h) (hb:B w w') (hk:dR w' w.heap.size e vs.toArray) (hv:cJ I (g++[gp w]) w' vs cs) (h1:∀v∈vs,v.oneCell'=true):Af I g w h M I (g++[gp w]) w' (h++[.cells e cs]):=
 Af.push hd hb (p:=gp w) (ao:=.cells e cs) ⟨w.heap.size,vs,rfl,hk,hv,h1⟩ (fun b hb=>by
   have:some w.heap.size=some b:=hb
   injection this with this
   omega)
theorem Vr.RH {I I':Nat->Prop} {g:bH} {w w':World} {h:List AO} (hd:Den I g w h):Vr I' (g++[gp w]) w' (.pointer (some ⟨w.heap.size,0,none⟩)) (.ptr h.length 0):=
 .ptr _ 0 w.heap.size (some w.heap.size) (by rw[<-hd.len];exact Dc _ _)
theorem Vr.newRow {I I':Nat->Prop} {g:bH} {w w':World} {h:List AO} (hd:Den I g w h) {bo:Option Nat} {a:Option Addr} {l c:Nat}:Vr I' (g++[(bo,.slice a l c)]) w' (.slice a l c) (.row h.length):=
 .row _ bo _ _ _ (by rw[<-hd.len];exact Dc _ _)
theorem dR.setCells {t:TypeId} {b:Nat}:∀(us vs:List Value) (o:Nat) {w:World},dR w b t vs.toArray->dR (w.setCells b o us) b t (pU vs o us).toArray
 |[],vs,o,w,h=>h
 |u::us,vs,o,w,h=>by
  rw[World.setCells,pU]
  refine dR.setCells us _ (o+1) ?_
  have:=h.GX o u
  simpa using this
theorem Ext.setCells {b:Nat}:∀(us:List Value) (o:Nat) {w:World},Ext (fun x=>x=b) w (w.setCells b o us)
 |[],o,w=>Ext.refl _ _
 |u::us,o,w=>by
  rw[World.setCells]
  exact((Ext.refl (fun x=>x=b) w).set (p:=⟨b,o,none⟩) (fun _=>rfl) u).Gk (Ext.setCells us (o+1))
theorem Den.setObj {I:Nat->Prop} {g:bH} {w w':World} {h:List AO} (hd:Den I g w h) {o:Nat} {ao cA:AO} {p:Option Nat×Value} (ho:h[o]?=some ao) (hp:g[o]?=some p) (hx:Ext (fun b=>ao.owns p b) w w') (hs:∀b,cA.owns p b->ao.owns p b) (hr:Ro I g w' p cA):Den I g w' (h.set o cA):=by
 have hI:∀b,I b->¬ao.owns p b:=fun b hb xV=>hd.own o ao p b ho hp xV hb
 have key:∀{i:Nat} {a:AO},(h.set o cA)[i]?=some a->(i=o/\a=cA)\/(i≠o/\h[i]?=some a):=by
  intro i a hi
  rw[List.getElem?_set] at hi
  split at hi
  ·rename_i e
   split at hi
   ·injection hi with q;exact .inl ⟨e.symm,q.symm⟩
   ·cases hi
  ·rename_i e;exact .inr ⟨fun q=>e q.symm,hi⟩
 refine⟨by simp[hd.len],fun b hb=>Nat.lt_of_lt_of_le (hd.aG b hb) hx.size,fun i a q h1 h2=>?_,fun i a q b h1 h2 h3 hb=>?_,fun i i' a a' q q' b h1 fW h2 pe h3 lY=>?_⟩
 ·rcases key h1 with⟨rfl,rfl⟩|⟨e,k⟩
  ·rw[hp] at h2;injection h2 with h2;subst h2;exact hr
  ·exact(hd.obj i a q k h2).ext hx hI (fun b hb cw=>e (hd.sep i o a ao q p b k ho h2 hp hb cw))
 ·rcases key h1 with⟨rfl,rfl⟩|⟨e,k⟩
  ·rw[hp] at h2;injection h2 with h2;subst h2
   exact hI b hb (hs b h3)
  ·exact hd.own i a q b k h2 h3 hb
 ·rcases key h1 with⟨rfl,rfl⟩|⟨e,k⟩<;>rcases key fW with⟨rfl,rfl⟩|⟨e',k'⟩
  ·rfl
  ·rw[hp] at h2;injection h2 with h2;subst h2
   exact hd.sep _ i' ao a' p q' b ho k' hp pe (hs b h3) lY
  ·rw[hp] at pe;injection pe with pe;subst pe
   exact hd.sep i _ a ao q p b k ho h2 hp h3 (hs b lY)
  ·exact hd.sep i i' a a' q q' b k k' h2 pe h3 lY
theorem FU {α:Type} {n:Nat} (hn:0<n):∀(ys:List (List α)),(∀y∈ys,y.length=n)->∀(q:Nat) (x:α),ys.flatten[q]?=some x->∃y,ys[q/n]?=some y/\y[q%n]?=some x
 |[],_,q,x,h=>by simp at h
 |y::ys,hl,q,x,h=>by
  have hy:=hl y (by simp)
  rw[List.flatten_cons,List.getElem?_append] at h
  split at h
  ·rename_i hlt
   rw[hy] at hlt
   exact⟨y,by rw[Nat.div_eq_of_lt hlt];rfl,by rw[Nat.mod_eq_of_lt hlt];exact h⟩
  ·rename_i dm
   rw[hy] at dm h
   obtain⟨z,h1,h2⟩:=FU hn ys (fun y h=>hl y (by simp[h])) (q-n) x h
   have e:q=q-n+n:=by omega
   refine⟨z,?_,?_⟩
   ·rw[e,Nat.add_div_right _ hn]
    simpa using h1
   ·rw[e,Nat.add_mod_right];exact h2
theorem C6 {α:Type} {n:Nat}:∀(ys:List (List α)),(∀y∈ys,y.length=n)->ys.flatten.length=ys.length*n
 |[],_=>by simp
 |y::ys,hl=>by
  rw[List.flatten_cons,List.length_append,C6 ys (fun y h=>hl y (by simp[h])),hl y (by simp),List.length_cons,Nat.add_mul]
  omega
theorem Dr.rows {I:Nat->Prop} {w:World} {u:Value} {n:Nat} {ys:List (List D)} (hn:0<n) (h:Dr I w u (.list n ys)):∃news,Rd w u ys.length n news/\(∀x∈news,x.oneCell'=true)/\dQ I w news ys.flatten:=by
 cases h with
 |list A cap n l xs U dH hl hm fI hlen hA g1 hU=>
  have zf:=C6 ys hlen
  have hV:∀(q:Nat),q<ys.length*n->∃y x,ys[q/n]?=some y/\y[q%n]?=some x/\ys.flatten[q]?=some x:=by
   intro q hq
   have hx:=List.getElem?_eq_getElem (l:=ys.flatten) (i:=q) (by rw[zf];exact hq)
   obtain⟨y,h1,h2⟩:=FU hn ys hlen q _ hx
   exact⟨y,_,h1,h2,hx⟩
  refine⟨(List.range (ys.length*n)).map (fun q=>U (q/n) (q%n)),⟨by simp,A,cap,by rw[dH],fun e=>by rw[<-dH];exact fI e,by omega,fun ad kB=>⟨fun h0=>?_,fun j x hj=>?_⟩⟩,fun x hx=>?_,⟨by simp[zf],fun i v d h1 h2=>?_⟩⟩
  ·obtain⟨b,off,e,hb,_,_⟩:=hA (by omega)
   rw[kB] at e
   injection e with e
   subst e
   exact hb
  ·have hlt:j<ys.length*n:=by have:=(List.getElem?_eq_some_iff.1 hj).1;simpa using this
   rw[List.getElem?_map,List.getElem?_range hlt] at hj
   injection hj with hj
   subst hj
   have pY:0<ys.length:=by
    rcases Nat.eq_zero_or_pos ys.length with e|e
    ·rw[e] at hlt;simp at hlt
    ·exact e
   obtain⟨b,off,e,hb,_,hc⟩:=hA (by omega)
   rw[kB] at e
   injection e with e
   subst e
   obtain⟨y,x,h1,h2,_⟩:=hV j hlt
   have:=hc (j/n) y (j%n) x h1 h2
   rw[Addr.add_mid]
   rw[<-this]
   congr 2
   have:=Nat.div_add_mod j n
   rw[Nat.mul_comm] at this
   omega
  ·obtain⟨q,hq,rfl⟩:=List.mem_map.1 hx
   obtain⟨y,x,h1,h2,_⟩:=hV q (by simpa using hq)
   exact g1 _ _ _ _ h1 h2
  ·have hlt:i<ys.length*n:=by have:=(List.getElem?_eq_some_iff.1 h1).1;simpa using this
   rw[List.getElem?_map,List.getElem?_range hlt] at h1
   injection h1 with h1
   subst h1
   obtain⟨y,x,k1,k2,k3⟩:=hV i hlt
   rw[k3] at h2
   injection h2 with h2
   subst h2
   exact hU _ _ _ _ k1 k2
section
variable {P:Program} {Q:Exit->S->Prop}
theorem Nv {f:FuncId} (h:rj P f=true) (args:Array Value) (w:World):(callFunc f args).run P w=.ok (.enter f args) w:=by
 unfold rj at h
 split at h
 ·rename_i fn hf
  rw[Bool.and_eq_true] at h
  have h1:(fn.name== "runtime.NumGoroutine")=false:=by simpa using h.1
  have h2:fn.body.isNone=false:=by
   cases hb:fn.body with
   |none=>rw[hb] at h;simp at h
   |some c=>rfl
  unfold callFunc
  simp only[Sem.run_bind,run_program,Result.andThen_ok,hf,h1,h2]
  rfl
 ·cases h
def Ef [Wd] (P:Program) (I:Nat->Prop) (g:bH) (w:World) (ρ:Operand->Value) (o:Oper) (s:S) (Q:Exit->S->Prop) (k:D->S->T):Prop:=
 (∃v w' I' g' d s',((execOp ρ o).run P w=.ok (.value v) w'\/((execOp ρ o).run P w=.ok .skip w'/\v=undef))/\s'.t=s.t/\Af I g w s.h (nj o.op s) I' g' w' s'.h/\Vr I' g' w' v d/\(k d s').ok P Q)\/
 (∃f vs,(execOp ρ o).run P w=.ok (.enter f vs) w/\Calls P f vs w fun e w'=>(∃v I' g' d h',e=.returned v/\Af I g w s.h (nj o.op s) I' g' w' h'/\Vr I' g' w' v d/\(k d {s with h:=h'}).ok P Q)\/(∃ch,e=.panicked ch/\Wd.kY ch/\Ext (gM (nj o.op s) g s.h) w w'))\/
 (∃v,(execOp ρ o).run P w=.halt (.panic v) w/\Wd.kY [{v:=v,recovered:=false}])
theorem Of (t:TypeId) (v:Value) (w:World):(newVar t v).run P w=.ok ⟨w.heap.size,0,none⟩ (w.alloc (.cells v.cells t)):=by
 simp[newVar,newRow]
theorem P2 {t:TypeId} {inf:TypeInfo} {z:Value} (hi:P.info? t=some inf) (hz:inf.zero=some z) (w:World):(zeroValue t).run P w=.ok z w:=by
 simp[zeroValue,typeInfo,hi,hz]
theorem adE {w:World} {sz n:Nat} {e:TypeId} {v:Value} {xs:List Value} (h:fT w e sz v n xs):∃a c,v=.slice a n c:=h.slice
theorem aaa {I:Nat->Prop} {g:bH} {w:World} {h:List AO} (hd:Den I g w h) {u:Value} {d:D} {n:Nat} {ys:List (List D)} (hn:0<n) (hv:Vr I g w u d) (hr:K4 h n d=some ys):
 ∃news,Rd w u ys.length n news/\(∀x∈news,x.oneCell'=true)/\dQ I w news ys.flatten/\∀y∈ys,y.length=n:=by
 unfold K4 at hr
 split at hr
 ·rename_i m zs
  cases hm:Nat.beq m n with
  |false=>rw[hm] at hr;cases hr
  |true=>
   rw[hm] at hr
   injection hr with hr
   subst hr
   cases Nat.eq_of_beq_eq_true hm
   have hu:=hv.vO
   obtain⟨news,h1,h2,h3⟩:=Dr.rows hn hu
   refine⟨news,h1,h2,h3,?_⟩
   cases hu with
   |list A cap n l xs U dH hl hm fI hlen hA g1 hU=>exact hlen
 ·injection hr with hr
  subst hr
  rw[hv.vN]
  exact⟨[],⟨by simp,none,0,rfl,fun _=>⟨rfl,rfl⟩,Nat.le_refl _,fun ad h=>by cases h⟩,by simp,.nil,by simp⟩
 ·rename_i o
  split at hr
  ·rename_i t m zs hh
   cases hm:Nat.beq m n with
   |false=>rw[hm] at hr;cases hr
   |true=>
    rw[hm] at hr
    injection hr with hr
    subst hr
    cases Nat.eq_of_beq_eq_true hm
    obtain⟨bo,ra,rl,rc,hg,rfl⟩:=hv.w9
    obtain⟨a',c',vs,hp,eV,qd,kP,hlen,h1⟩:=hd.obj o _ _ (xp hh) hg
    exact⟨vs,eV.rd,h1,kP,hlen⟩
  ·cases hr
 ·cases hr
theorem Q5 {I:Nat->Prop} {g:bH} {w:World} {h:List AO} (hd:Den I g w h) {e:TypeId} {sz:Nat} {v:Value} {xs ys:List (List D)} {vs:List Value} {news:List Value} (g1:∀x∈news,x.oneCell'=true) (CE:dQ I w news ys.flatten) (ze:∀y∈ys,y.length=sz)
 (kP:dQ I w vs xs.flatten) (hlen:∀x∈xs,x.length=sz) (h1:∀x∈vs,x.oneCell'=true) (hO:∀b,v.ownBlock=some b->¬I b/\¬dF g h b)
 {v':Value} {w':World} (r2:fT w' e sz v' (xs.length+ys.length) (vs++news)) (r3:w.grownBy w' v.ownBlock) (r4:v'.ownBlock=v.ownBlock\/v'.ownBlock=some w.heap.size):
 Den I (g++[(v'.ownBlock,v')]) w' (h++[.row e sz (xs++ys)])/\(∃a l c,v'=.slice a l c):=by
 have hx:Ext (fun b=>some b=v.ownBlock) w w':=(Ext.refl _ w).grown r3 (fun b e _=>e.symm)
 have Ho:Den I g w' h:=hd.ext hx (fun b hb e=>(hO b e.symm).1 hb) (fun b hb e=>(hO b e.symm).2 hb)
 have kQ:∀b,I b->¬some b=v.ownBlock:=fun b hb e=>(hO b e.symm).1 hb
 obtain⟨a,c,Aw⟩:=adE r2
 refine⟨Ho.DQ ⟨a,c,vs++news,?_,?_,rfl,?_,?_,?_⟩ (fun b hb=>?_),⟨a,_,c,Aw⟩⟩
 ·rw[List.length_append];exact Aw
 ·rw[List.length_append];exact r2
 ·rw[List.flatten_append]
  exact(kP.append CE).ext hx kQ
 ·intro x hx
  rcases List.mem_append.1 hx with e|e
  ·exact hlen x e
  ·exact ze x e
 ·intro x hx
  rcases List.mem_append.1 hx with e|e
  ·exact h1 x e
  ·exact g1 x e
 ·have cw:v'.ownBlock=some b:=hb
  rcases r4 with e|e
  ·rw[e] at cw;exact hO b cw
  ·rw[e] at cw
   injection cw with cw
   subst cw
   exact⟨fun hI=>Nat.lt_irrefl _ (hd.aG _ hI),fun ho=>Nat.lt_irrefl _ (hd.lt ho)⟩
theorem Q6 {I:Nat->Prop} {g:bH} {w:World} {h:List AO} (hd:Den I g w h) {tb:TT} (aM:tb.ok P) {t e:TypeId} {i:qY} {sz jJ:Nat} {z:List D} (ht:tb.look t=some ⟨sz,jJ,z,.slice e⟩) (he:tb.look e=some i) {v u:Value} {xs ys:List (List D)} {vs:List Value} (pY:0<i.size) {news:List Value} (hr:Rd w u ys.length i.size news) (g1:∀x∈news,x.oneCell'=true) (CE:dQ I w news ys.flatten) (ze:∀y∈ys,y.length=i.size)
 (eV:fT w e i.size v xs.length vs) (kP:dQ I w vs xs.flatten) (hlen:∀x∈xs,x.length=i.size) (h1:∀x∈vs,x.oneCell'=true) (hO:∀b,v.ownBlock=some b->¬I b/\¬dF g h b) (nD:xs.length+ys.length<=maxLen) (lF:(xs.length+ys.length)*i.bytes<=140737488355328) (ty:TypeId):
 ∃v' w',(Builtin.append_ #[t,t] ty #[v,u]).run P w=.ok v' w'/\w.grownBy w' v.ownBlock/\Den I (g++[(v'.ownBlock,v')]) w' (h++[.row e i.size (xs++ys)])/\(∃a l c,v'=.slice a l c)/\(v'.ownBlock=v.ownBlock\/v'.ownBlock=some w.heap.size):=by
 have hk:=nF aM ht
 obtain⟨inf,zv,jo,eE,wE,hz,xW,xX,AT⟩:=(aM e i he).info
 obtain⟨v',w',r1,r2,r3,r4⟩:=aab (P:=P) (t:=t) (ty:=ty) hk (z:=zv) (sz:=i.size) (bytes:=i.bytes) (by rw[jo];simp[hz,eE,wE]) xX pY eV hr g1 nD lF
 obtain⟨k1,k2⟩:=Q5 hd g1 CE ze kP hlen h1 hO r2 r3 r4
 exact⟨v',w',r1,r3,k1,k2,r4⟩
theorem NC {t t' e e':TypeId} (ht:P.underlying t=some (.slice e)) (EF:P.underlying t'=some (.slice e')) (ty:TypeId) (v u:Value) (w:World):(Builtin.append_ #[t,t'] ty #[v,u]).run P w=(Builtin.append_ #[t,t] ty #[v,u]).run P w:=by
 have h1:#[t,t'][0]?=some t:=rfl
 have h2:#[t,t'][1]?=some t':=rfl
 have h3:#[t,t][0]?=some t:=rfl
 have h4:#[t,t][1]?=some t:=rfl
 have h5:#[v,u][0]?=some v:=rfl
 have h6:#[v,u][1]?=some u:=rfl
 unfold Builtin.append_
 simp only[h1,h2,h3,h4,h5,h6]
 simp only[Sem.run_bind,run_underlying ht,Result.andThen_ok]
 cases v with
 |slice base l c=>
  simp only[Sem.run_bind,Sem.run_pure,run_underlying ht,run_underlying EF,Result.andThen_ok]
 |_=>rfl
theorem acn {tb:TT} (aM:tb.ok P) {t t' e:TypeId} {sz jJ:Nat} {z:List D} (h:He tb t t'=true) (hl:tb.look t=some ⟨sz,jJ,z,.slice e⟩):∃e',P.underlying t'=some (.slice e'):=by
 unfold He at h
 rw[Bool.or_eq_true] at h
 rcases h with h|h
 ·cases Nat.eq_of_beq_eq_true h
  exact⟨e,nF aM hl⟩
 ·split at h
  ·rename_i h2
   exact⟨_,nF aM h2⟩
  ·cases h
theorem JL {I:Nat->Prop} {w:World}:∀b:List UInt8,dQ I w (fm b) (b.map af).flatten
 |[]=>.nil
 |x::b=>dQ.append (vs:=[Value.int .u8 (x.toNat:Int)]) (ds:=af x) ⟨rfl,fun i v d h1 h2=>by
   match i with
   |0=>cases h1;cases h2;exact .int .u8 _
   |i+1=>simp at h1⟩ (JL b)
theorem Ns (b:List UInt8):Lib.strCells (aA b)=fm b:=rfl
theorem aac {I:Nat->Prop} {g:bH} {w:World} {h:List AO} (hd:Den I g w h) {tb:TT} (aM:tb.ok P) {t t' e:TypeId} {sz jJ ED EE AU AV:Nat} {z z' z2:List D} (ht:tb.look t=some ⟨sz,jJ,z,.slice e⟩) (EF:tb.look t'=some ⟨ED,EE,z',.str⟩) (he:tb.look e=some ⟨AU,AV,z2,.int .u8⟩) (hs1:AU=1) {v:Value} {xs:List (List D)} {b:List UInt8} {vs:List Value}
 (eV:fT w e 1 v xs.length vs) (kP:dQ I w vs xs.flatten) (hlen:∀x∈xs,x.length=1) (h1:∀x∈vs,x.oneCell'=true) (hO:∀b,v.ownBlock=some b->¬I b/\¬dF g h b) (nD:xs.length+b.length<=maxLen) (lF:(xs.length+b.length)*AV<=140737488355328) (ty:TypeId):
 ∃v' w',(Builtin.append_ #[t,t'] ty #[v,.string (aA b)]).run P w=.ok v' w'/\w.grownBy w' v.ownBlock/\Den I (g++[(v'.ownBlock,v')]) w' (h++[.row e 1 (xs++b.map af)])/\(∃a l c,v'=.slice a l c)/\(v'.ownBlock=v.ownBlock\/v'.ownBlock=some w.heap.size):=by
 subst hs1
 have hk:=nF aM ht
 have dc:=vP aM EF
 obtain⟨inf,zv,jo,eE,wE,hz,xW,xX,AT⟩:=(aM e _ he).info
 obtain⟨v',w',r1,r2,r3,r4⟩:=X9 (P:=P) (t:=t) (u:=t') (ty:=ty) hk dc (z:=zv) (bytes:=AV) (by rw[jo];simp[hz,eE,wE]) xX (s:=aA b) eV (by rw[oI];exact nD) (by rw[oI];exact lF)
 rw[oI,Ns] at r2
 obtain⟨k1,k2⟩:=Q5 hd (xs:=xs) (ys:=b.map af) (wO b) (JL b) (by intro y hy;obtain⟨x,_,rfl⟩:=List.mem_map.1 hy;rfl) kP hlen h1 hO (by rw[List.length_map];exact r2) r3 r4
 exact⟨v',w',r1,r3,k1,k2,r4⟩
end
theorem Dr.KJ {I:Nat->Prop} {w:World} {t:TypeId} {n:Nat} {v:Value} {xs:List (List D)} {vs:List Value} (hr:fT w t n v xs.length vs) (hd:dQ I w vs xs.flatten) (hl:∀x∈xs,x.length=n) (h1:∀v∈vs,v.oneCell'=true) (hI:∀b,v.ownBlock=some b->I b):Dr I w v (.list n xs):=by
 have zf:=C6 xs hl
 have key:∀(i:Nat) x (j:Nat) d,xs[i]?=some x->x[j]?=some d->i*n+j<xs.length*n/\xs.flatten[i*n+j]?=some d:=by
  intro i x j d hx hj
  have hi:=(List.getElem?_eq_some_iff.1 hx).1
  have nC:=hl x (List.mem_of_getElem? hx)
  have HU:=(List.getElem?_eq_some_iff.1 hj).1
  have hlt:i*n+j<xs.length*n:=by
   have h2:(i+1)*n<=xs.length*n:=Nat.mul_le_mul_right n hi
   rw[Nat.add_mul,Nat.one_mul] at h2
   omega
  refine⟨hlt,?_⟩
  have h3:=List.getElem?_eq_getElem (l:=xs.flatten) (i:=i*n+j) (by rw[zf];exact hlt)
  obtain⟨y,e1,e2⟩:=FU (by omega) xs hl _ _ h3
  have d1:(i*n+j)/n=i:=by
   rw[Nat.mul_comm,Nat.mul_add_div (by omega),Nat.div_eq_of_lt (by omega)]
   rfl
  have d2:(i*n+j)%n=j:=by
   rw[Nat.mul_comm,Nat.mul_add_mod,Nat.mod_eq_of_lt (by omega)]
  rw[d1,hx] at e1
  injection e1 with e1
  subst e1
  rw[d2,hj] at e2
  rw[h3,<-e2]
 obtain⟨hlen,K0⟩:=hr
 have MP:∀(i:Nat) x (j:Nat) d,xs[i]?=some x->x[j]?=some d->∃u,vs[i*n+j]?=some u:=fun i x j d hx hj=>⟨_,List.getElem?_eq_getElem (by have:=(key i x j d hx hj).1;omega)⟩
 rcases K0 with⟨rfl,h0⟩|⟨g,cap,cur,fz,rfl,hh,hf,hc,hm,hs,ht⟩
 ·have AW:xs=[]:=List.eq_nil_of_length_eq_zero h0
  subst AW
  exact .list none 0 n 0 [] (fun _ _=>undef) rfl (Nat.le_refl _) (Nat.zero_le _) (fun _=>⟨rfl,rfl⟩) (by simp) (fun h=>by simp at h) (by simp) (by simp)
 ·refine .list _ cap n _ xs (fun i j=>vs.getD (i*n+j) undef) rfl hc hm (fun e=>by cases e) hl (fun h0=>⟨g,0,rfl,DU hh,hI g rfl,fun i x j d hx hj=>?_⟩) (fun i x j d hx hj=>?_) (fun i x j d hx hj=>?_)
  ·obtain⟨u,hu⟩:=MP i x j d hx hj
   have hk:=(key i x j d hx hj).1
   rw[Nat.zero_add,cell_of_row w g _ cur t fz hh]
   have:cur[i*n+j]?=vs[i*n+j]?:=by
    rw[<-ht,List.getElem?_take,if_pos hk,Array.getElem?_toList]
   rw[this,hu]
   simp[List.getD,hu]
  ·obtain⟨u,hu⟩:=MP i x j d hx hj
   simp only[List.getD,hu,Option.getD_some]
   exact h1 u (List.mem_of_getElem? hu)
  ·obtain⟨u,hu⟩:=MP i x j d hx hj
   simp only[List.getD,hu,Option.getD_some]
   exact hd.2 _ u d hu (key i x j d hx hj).2
theorem Dr.adF {I:Nat->Prop} {w:World} {v:Value} {n:Nat} {xs:List (List D)} (h:Dr I w v (.list n xs)) (hN:∀b,v.ownBlock=some b->¬Old.A b) (hF:∀b off l c,v=.slice (some ⟨b,off,none⟩) l c->∀j,j<l*n->w.frozen? ⟨b,off+j,none⟩=false):Dr I w v (.own n xs):=by
 cases h with
 |list A cap _ l _ U dH hl hm fI hlen hA h1 hU=>
  refine .own A cap n l xs U dH hl hm fI hlen (fun h0=>?_) h1 hU
  obtain⟨b,off,rfl,hb,hI,hc⟩:=hA h0
  exact⟨b,off,rfl,hb,hI,hN b rfl,hF b off l cap rfl,hc⟩
end
section
set_option linter.unusedSectionVars false
variable [Wd]
section
variable {P:Program} {Q:Exit->S->Prop}
theorem O4 (z:List D):∀n,D9 z n=(List.replicate n z).flatten
 |0=>rfl
 |n+1=>by simp[D9,List.replicate_succ,O4 z n]
theorem O5 {n:Nat}:∀(l:Nat) (cs:List D) (xs:List (List D)),BO n l cs=some xs->xs.flatten=cs/\xs.length=l/\∀x∈xs,x.length=n
 |0,[],xs,h=>by simp[BO] at h;subst h;simp
 |0,_::_,xs,h=>by simp[BO] at h
 |l+1,cs,xs,h=>by
  simp only[BO] at h
  split at h
  ·rename_i r hr
   split at h
   ·rename_i rs TE
    injection h with h
    subst h
    rw[zH] at TE
    obtain⟨rfl,hle⟩:=Gy _ _ _ hr
    obtain⟨h1,h2,h3⟩:=O5 l _ rs TE
    refine⟨by rw[List.flatten_cons,h1,List.take_append_drop],by simp[h2],fun x hx=>?_⟩
    rcases List.mem_cons.1 hx with rfl|e
    ·rw[List.length_take];omega
    ·exact h3 x e
   ·cases h
  ·cases h
theorem P3 {n:Nat} (hn:0<n) {s:S} {a:Act} {I:Nat->Prop} {g:bH} {w:World} (cH:∀x,Vr I g w (a.eval x) (ev s x)):
 ∀(ps:List (Nat×Operand)) (cs fU:List D) (A:Array Value),cJ I g w A.toList cs->(∀v∈A.toList,v.oneCell'=true)->DS n s cs ps=some fU->
  ∃A',Instr.fill (fun i=>some (i*n,n)) A (ps.map fun x=>(x.1,a.eval x.2))=some A'/\cJ I g w A'.toList fU/\∀v∈A'.toList,v.oneCell'=true
 |[],cs,fU,A,hv,h1,h=>by
  simp only[DS] at h
  injection h with h
  subst h
  exact⟨A,rfl,hv,h1⟩
 |(i,x)::r,cs,fU,A,hv,h1,h=>by
  simp only[DS] at h
  split at h
  ·rename_i ds um
   cases hl:Nat.beq ds.length n with
   |false=>rw[hl] at h;cases h
   |true=>
    rw[hl] at h
    simp only[cond_true] at h
    split at h
    ·rename_i cs1 ho
     obtain⟨rfl,hle⟩:=Bw _ _ _ _ ho
     obtain⟨k1,k2⟩:=C5 (cH x) um
     have hdn:ds.length=n:=Nat.eq_of_beq_eq_true hl
     have eE:(a.eval x).cells.size=n:=by
      have:=k1.1
      rw[Array.length_toList] at this
      omega
     have hAs:A.size=cs.length:=by rw[<-Array.length_toList];exact hv.1
     obtain⟨A',e1,e2,e3⟩:=P3 hn cH r _ fU ((a.eval x).cells.zipIdx.foldl (fun (c:Array Value) (y:Value×Nat)=>c.setIfInBounds (i*n+y.2) y.1) A) (by rw[E8];exact hv.qy (i*n) k1) (fun v hm=>by
      rw[E8] at hm
      rcases Fy _ _ _ _ hm with e|e
      ·exact h1 v e
      ·exact k2 v e) h
     refine⟨A',?_,e2,e3⟩
     simp only[List.map_cons,Instr.fill]
     have cu:ds≠[]:=List.ne_nil_of_length_pos (by omega)
     have c2:¬((decide ((a.eval x).cells.size≠n)||decide (i*n+(a.eval x).cells.size>A.size))=true):=by
      rcases hle with e|e
      ·exact absurd e cu
      ·simp only[Bool.or_eq_true,decide_eq_true_eq]
       omega
     show(if(decide ((a.eval x).cells.size≠n)||decide (i*n+(a.eval x).cells.size>A.size))=true then none else _)=_
     rw[if_neg c2]
     exact e1
    ·cases h
  ·cases h
theorem aad {I:Nat->Prop} {g:bH} {w:World} {z:Array Value} {ds:List D} (hv:cJ I g w z.toList ds) (h1:∀v∈z.toList,v.oneCell'=true) {n:Nat} (hn:0<n) (hz:z.size=n) (l:Nat):
 cJ I g w ((Array.range (l*n)).map (z[·%z.size]!)).toList (D9 ds l)/\∀v∈((Array.range (l*n)).map (z[·%z.size]!)).toList,v.oneCell'=true:=by
 have Ia:ds.length=n:=by rw[<-hv.1,Array.length_toList,hz]
 have zf:((List.replicate l ds).flatten).length=l*n:=by
  rw[C6 (n:=n) _ (fun y hy=>by rw[List.eq_of_mem_replicate hy];exact Ia)]
  simp
 have xG:∀i,z[i%z.size]! =z[i%n]'(by rw[hz];exact Nat.mod_lt _ hn):=by
  intro i
  subst hz
  exact getElem!_pos z (i%z.size) (Nat.mod_lt _ hn)
 rw[O4]
 refine⟨⟨by simp[zf],fun i v d k1 k2=>?_⟩,fun v Aw=>?_⟩
 ·have hlt:i<l*n:=by have:=(List.getElem?_eq_some_iff.1 k1).1;simpa using this
  obtain⟨y,e1,e2⟩:=FU hn _ (fun y hy=>by rw[List.eq_of_mem_replicate hy];exact Ia) i d k2
  have hy:y=ds:=List.eq_of_mem_replicate (List.mem_of_getElem? e1)
  subst hy
  have Ax:v=z[i%n]'(by rw[hz];exact Nat.mod_lt _ hn):=by
   rw[Array.getElem?_toList,Array.getElem?_map,Array.getElem?_range] at k1
   rw[if_pos hlt] at k1
   simp only[Option.map_some] at k1
   injection k1 with k1
   rw[<-k1,xG]
  refine hv.2 (i%n) v d ?_ e2
  rw[Ax,Array.getElem?_toList]
  exact Array.getElem?_eq_getElem _
 ·rw[Array.mem_toList_iff] at Aw
  obtain⟨i,_,rfl⟩:=Array.mem_map.1 Aw
  rw[xG]
  exact h1 _ (Array.mem_toList_iff.2 (Array.getElem_mem _))
set_option maxHeartbeats 20000000 in
theorem P4 {E:En} (aM:E.tb.ok P) {s:S} {a:Act} {I:Nat->Prop} {g:bH} {w:World} (hW:Wd.W I w) (cH:∀x,Vr I g w (a.eval x) (ev s x)) (hd:Den I g w s.h) {o:Oper} {k:D->S->T} (h:(K5 E o.op o.type s k).ok P Q):Ef P I g w a.eval o s Q k:=by
 obtain⟨dst,op,ty,pos,after,guard⟩:=o
 simp only at h
 unfold K5 at h
 simp only[Q2,Z4,PV,C4] at h
 split at h
 ·
  rename_i e
  split at h
  ·rename_i isz iby iz ikd hl
   obtain⟨inf,zv,jo,eE,wE,hz,xW,xX,AT⟩:=(aM e _ hl).info
   obtain⟨z1,z2⟩:=Fz (I:=I) (g:=g++[gp w]) (w:=w.alloc (.cells zv.cells e)) _ _ xW
   refine .inl ⟨.pointer (some ⟨w.heap.size,0,none⟩),w.alloc (.cells zv.cells e),I,g++[gp w],.ptr s.h.length 0,{s with h:=s.h++[.cells e iz]},.inl ?_,rfl,Af.cells hd (B.j9 _ _) (by simpa using dR.new w e zv.cells) z1 z2,Vr.RH hd,h⟩
   simp only[execOp,Instr.alloc,Sem.run_bind,P2 jo hz,Result.andThen_ok,Of,Sem.run_pure]
  ·exact h.elim
 ·
  rename_i e x
  split at h
  ·rename_i cs hc
   obtain⟨z1,z2⟩:=C5 (cH x) hc
   have z1':cJ I (g++[gp w]) (w.alloc (.cells (a.eval x).cells e)) (a.eval x).cells.toList cs:=(z1.ext (Ext.of_B (own:=fun _=>False) (B.j9 _ _)) (fun _ _=>id)).mono (fun _ h=>h) (fun _ _ h=>sJ h)
   refine .inl ⟨.pointer (some ⟨w.heap.size,0,none⟩),w.alloc (.cells (a.eval x).cells e),I,g++[gp w],.ptr s.h.length 0,{s with h:=s.h++[.cells e cs]},.inl ?_,rfl,Af.cells hd (B.j9 _ _) (by simpa using dR.new w e (a.eval x).cells) z1' z2,Vr.RH hd,h⟩
   simp only[execOp,Instr.box,Sem.run_bind,Result.andThen_ok,Of,Sem.run_pure]
  ·exact h.elim
 ·
  rename_i t x y
  split at h
  ·rename_i o off i ds hx hl um
   split at h
   ·rename_i ct cs hh
    cases hb:Nat.beq ds.length i.size with
    |false=>rw[hb] at h;exact h.elim
    |true=>
     rw[hb] at h
     simp only[cond_true] at h
     split at h
     ·rename_i fU ho
      obtain⟨rfl,hle⟩:=Bw _ _ _ _ ho
      obtain⟨k1,k2⟩:=C5 (cH y) um
      have hv:=cH x;rw[hx] at hv
      obtain⟨b,bo,hg,e⟩:=hv.xd
      have iL:=FT hh
      obtain⟨b',vs,hp,D2,g1,g2⟩:=hd.obj o _ _ iL hg
      injection hp with rT iY
      injection iY with iY
      injection iY with iY
      injection iY with iY _ _
      subst iY
      obtain⟨inf,zv,jo,eE,wE,hz,xW,xX,AT⟩:=(aM t i hl).info
      have LH:ds.length=i.size:=Nat.eq_of_beq_eq_true hb
      have uY:(a.eval y).cells.toList.length=ds.length:=k1.1
      have lF:∀j,j<(a.eval y).cells.toList.length->off+j<vs.length:=by
       intro j hj
       rcases hle with e|e
       ·rw[e] at uY;simp at uY;simp[uY] at hj
       ·have:=g1.1;omega
      have lJ:(storeVar t ⟨b,off,none⟩ (a.eval y)).run P w=.ok () (w.setCells b off (a.eval y).cells.toList):=by
       have:=run_storeCells_cells (P:=P) b off (a.eval y).cells.toList 0 w (fun j hj=>by rw[D2.cell];simp;exact lF j hj) (fun j hj=>D2.frozen _) k2
       rw[Nat.add_zero] at this
       unfold storeVar
       have hc:¬((a.eval y).cells.size≠inf.size):=by
        rw[Array.length_toList] at uY
        omega
       simp only[Sem.run_bind,wQ jo,Result.andThen_ok,if_neg hc]
       exact this
      have AX:Ext (fun q=>(AO.cells ct cs).owns (bo,.pointer (some ⟨b,0,none⟩)) q) w (w.setCells b off (a.eval y).cells.toList):=(Ext.setCells _ _).mono (fun q _ e=>by subst e;exact rT)
      have hI:∀q,I q->¬(AO.cells ct cs).owns (bo,.pointer (some ⟨b,0,none⟩)) q:=fun q hq xV=>hd.own o _ _ q iL hg xV hq
      refine .inl ⟨undef,w.setCells b off (a.eval y).cells.toList,I,g,.aj [],{s with h:=sh s.h o (.cells ct (kn cs off ds))},.inr ⟨?_,rfl⟩,rfl,⟨?_,?_,fun _ h=>h,fun _ h=>.inl h,fun _ _ h=>h,fun q hq hn=>?_,fun q cA p' b2 hq h1 h2 h3=>?_,fun q cA p' b2 hq h1 h2 h3=>?_⟩,.undef,h⟩
      ·simp only[execOp,Instr.storeAt,e,Instr.sureAddr,Sem.run_bind,Sem.run_pure,Result.andThen_ok,lJ]
      ·show Den I g _ (sh s.h o _)
       rw[nT]
       refine hd.setObj iL hg AX (fun q hq=>hq) ⟨b,pU vs off (a.eval y).cells.toList,by rw[rT],D2.setCells _ _ _,(g1.qy off k1).ext AX hI,fun v hv=>?_⟩
       rcases Fy _ _ _ _ hv with e|e
       ·exact g2 v e
       ·exact k2 v e
      ·refine AX.mono (fun q _ hq=>⟨o,_,_,?_,iL,hg,hq⟩)
       simp[nj,hx]
      ·have mw:q≠o:=by simpa[nj,hx] using hn
       show(sh s.h o _)[q]?=_
       rw[nT,List.getElem?_set_ne (Ne.symm mw)]
      ·have fW:(s.h.set o (.cells ct (kn cs off ds)))[q]?=some cA:=by rw[<-nT];exact h1
       rw[List.getElem?_set] at fW
       split at fW
       ·rename_i e
        subst e
        split at fW<;>first|(injection fW with e;subst e;exact⟨_,iL,h3⟩)
       ·exact⟨_,fW,h3⟩
      ·have fW:(s.h.set o (.cells ct (kn cs off ds)))[q]?=some cA:=by rw[<-nT];exact h1
       have:=(List.getElem?_eq_some_iff.1 fW).1
       simp at this
       omega
     ·exact h.elim
   ·exact h.elim
  ·rename_i o n j off i ds hx hl um
   split at h
   ·rename_i ct m xs hh
    cases hb:Nat.beq n m&&(Nat.beq ds.length i.size&&(Nat.blt 0 i.size&&ga.pl ds)) with
    |false=>rw[hb] at h;exact h.elim
    |true=>
     rw[hb] at h
     rw[Bool.and_eq_true,Bool.and_eq_true,Bool.and_eq_true] at hb
     obtain⟨uV,mT,eJ,rU⟩:=hb
     cases Nat.eq_of_beq_eq_true uV
     obtain⟨x0,qb,hc,h⟩:=h
     rw[Int.toNat_natCast] at hc
     dsimp only at h
     split at h
     ·rename_i x' ho
      obtain⟨rfl,hle⟩:=Bw _ _ _ _ ho
      obtain⟨k1,k2⟩:=C5 (cH y) um
      have hv:=cH x;rw[hx] at hv
      obtain⟨bo,b,base,l,c,hg,e⟩:=hv.De
      have zg:=xp hh
      obtain⟨a',c',vs,hp,eV,qd,kP,hlen,h1⟩:=hd.obj o _ _ zg hg
      obtain⟨inf,zv,jo,eE,wE,hz,xW,xX,AT⟩:=(aM t i hl).info
      have LH:ds.length=i.size:=Nat.eq_of_beq_eq_true mT
      have pY:0<i.size:=Nat.le_of_ble_eq_true eJ
      have uY:(a.eval y).cells.toList.length=ds.length:=k1.1
      have AW:x0.length=n:=hlen x0 (List.mem_of_getElem? hc)
      have afJ:off+ds.length<=n:=by
       rcases hle with q|q
       ·rw[q] at LH;simp at LH;omega
       ·omega
      have HU:j<xs.length:=(List.getElem?_eq_some_iff.1 hc).1
      have hjn:j*n+n<=xs.length*n:=by
       have:=Nat.mul_le_mul_right n (show j+1<=xs.length from HU)
       rwa [Nat.add_mul,Nat.one_mul] at this
      obtain⟨gb,cap,q1,w',q2,q3,q4⟩:=eV.put (P:=P) (q:=j*n+off) (us:=(a.eval y).cells.toList) (by rw[eV.1];omega) (by omega) k2
      injection q1 with q1 q5 q6
      injection q1 with q1
      injection q1 with q1 q7 _
      subst q1 q7
      have lJ:(storeVar t ⟨b,0+j*n+off,none⟩ (a.eval y)).run P w=.ok () w':=by
       unfold storeVar
       have ou:¬((a.eval y).cells.size≠inf.size):=by
        rw[Array.length_toList] at uY
        omega
       simp only[Sem.run_bind,wQ jo,Result.andThen_ok,if_neg ou,Nat.zero_add]
       exact q2
      have wB:bo=some b:=qd
      have AX:Ext (fun q=>(AO.row ct n xs).owns (bo,.slice (some ⟨b,0,none⟩) l c) q) w w':=q4.mono (fun q _ e=>by subst e;exact wB)
      have hI:∀q,I q->¬(AO.row ct n xs).owns (bo,.slice (some ⟨b,0,none⟩) l c) q:=fun q hq xV=>hd.own o _ _ q zg hg xV hq
      have K7:∀z∈xs.set j (kn x0 off ds),z.length=n:=fun z hz=>by
       rcases List.mem_or_eq_of_mem_set hz with q|q
       ·exact hlen z q
       ·rw[q,O1];exact AW
      refine .inl ⟨undef,w',I,g,.aj [],{s with h:=sh s.h o (.row ct n (xs.set j (kn x0 off ds)))},.inr ⟨?_,rfl⟩,rfl,⟨?_,?_,fun _ h=>h,fun _ h=>.inl h,fun _ _ h=>h,fun q hq hn=>?_,fun q cA p' b2 hq h1 h2 h3=>?_,fun q cA p' b2 hq h1 h2 h3=>?_⟩,.undef,h⟩
      ·simp only[execOp,Instr.storeAt,e,Instr.sureAddr,Sem.run_bind,Sem.run_pure,Result.andThen_ok,lJ]
      ·show Den I g _ (sh s.h o _)
       rw[nT]
       refine hd.setObj zg hg AX (fun q hq=>hq) ⟨a',c',_,by rw[List.length_set];exact hp,by rw[List.length_set];exact q3,qd,?_,K7,fun v hv=>?_⟩
       ·rw[PY xs hlen j off x0 ds hc afJ,<-O0 _ _ _ (by rw[eV.1,uY];omega)]
        exact(kP.qy (j*n+off) (ur k1 rU)).ext AX hI
       ·simp only[List.mem_append] at hv
        rcases hv with(q|q)|q
        ·exact h1 v (List.mem_of_mem_take q)
        ·exact k2 v q
        ·exact h1 v (List.mem_of_mem_drop q)
      ·refine AX.mono (fun q _ hq=>⟨o,_,_,?_,zg,hg,hq⟩)
       simp[nj,hx]
      ·have mw:q≠o:=by simpa[nj,hx] using hn
       show(sh s.h o _)[q]?=_
       rw[nT,List.getElem?_set_ne (Ne.symm mw)]
      ·have fW:(s.h.set o (.row ct n (xs.set j (kn x0 off ds))))[q]?=some cA:=by rw[<-nT];exact h1
       rw[List.getElem?_set] at fW
       split at fW
       ·rename_i e
        subst e
        split at fW<;>first|(injection fW with e;subst e;exact⟨_,zg,h3⟩)
       ·exact⟨_,fW,h3⟩
      ·have fW:(s.h.set o (.row ct n (xs.set j (kn x0 off ds))))[q]?=some cA:=by rw[<-nT];exact h1
       have:=(List.getElem?_eq_some_iff.1 fW).1
       simp at this
       omega
     ·exact h.elim
   ·exact h.elim
  ·exact h.elim
 ·
  rename_i t len parts
  split at h
  ·rename_i sz jJ z e hl
   split at h
   ·rename_i i hi
    cases hb:Nat.blt 0 i.size&&Nat.ble (len*i.size) 16777216 with
    |false=>rw[hb] at h;exact h.elim
    |true=>
     rw[hb] at h
     rw[Bool.and_eq_true] at hb
     simp only[cond_true] at h
     have pY:0<i.size:=Nat.le_of_ble_eq_true hb.1
     have Ce:len*i.size<=16777216:=Nat.le_of_ble_eq_true hb.2
     split at h
     ·rename_i cs hf
      cases MQ:ga.pl cs with
      |false=>rw[MQ] at h;exact h.elim
      |true=>
      rw[MQ] at h
      simp only[cond_true] at h
      split at h
      ·rename_i xs hx
       have hk:=nF aM hl
       obtain⟨inf,zv,jo,eE,wE,hz,xW,xX,AT⟩:=(aM e i hi).info
       obtain⟨z1,z2⟩:=Fz (I:=I) (g:=g) (w:=w) _ _ xW
       obtain⟨q1,q2⟩:=aad z1 z2 pY xX len
       obtain⟨A,r1,r2,r3⟩:=P3 pY cH _ _ _ _ q1 q2 hf
       obtain⟨c1,c2,c3⟩:=O5 _ _ _ hx
       have MR:A.size=len*i.size:=by
        have:=r2.1
        rw[Array.length_toList] at this
        rw[this,<-c1,C6 _ c3,c2]
       have Mp:len<=maxLen:=by
        unfold maxLen
        have:len*1<=len*i.size:=Nat.mul_le_mul_left _ pY
        omega
       have SR:(w.alloc (.cells A e)).ownsRow 0 e i.size (.slice (some ⟨w.heap.size,0,none⟩) len len) xs.length A.toList:=by
        rw[c2]
        refine⟨by rw[Array.length_toList,MR],.inr ⟨w.heap.size,len,A,rfl,Nat.zero_le _,dR.new w e A,Nat.le_refl _,Mp,MR,?_⟩⟩
        rw[List.take_of_length_le (by rw[Array.length_toList,MR];exact Nat.le_refl _)]
       have TF:dQ I (w.alloc (.cells A e)) A.toList xs.flatten:=by
        rw[c1]
        exact(ur r2 MQ).ext (Ext.of_B (own:=fun _=>False) (B.j9 _ _)) (fun _ _=>id)
       have lJ:(execOp a.eval ⟨dst,.buildSlice t len parts,ty,pos,after,guard⟩).run P w=.ok (.value (.slice (some ⟨w.heap.size,0,none⟩) len len)) (w.alloc (.cells A e)):=by
        have hnz:¬(len*i.size>2^24):=by omega
        have GR:Instr.fill (fun j=>some (j*i.size,i.size)) ((Array.range (len*i.size)).map ((if len*i.size=0 then(#[]:Array Value) else zv.cells)[·%(if len*i.size=0 then(#[]:Array Value) else zv.cells).size]!)) ((parts.map fun (j,x)=>(j,a.eval x)).toList)=some A:=by
         rw[Array.toList_map]
         by_cases h0:len*i.size=0
         ·rw[h0] at r1 ⊢
          have e0:((Array.range 0).map fun x=>(if(0:Nat)=0 then(#[]:Array Value) else zv.cells)[x%(if(0:Nat)=0 then(#[]:Array Value) else zv.cells).size]!)=(Array.range 0).map (zv.cells[·%zv.cells.size]!):=by simp
          rw[e0]
          exact r1
         ·simp only[if_neg h0]
          exact r1
        simp only[execOp,Instr.buildSlice,Sem.run_bind,run_underlying hk,Result.andThen_ok,wQ jo,eE,if_neg hnz]
        by_cases h0:len*i.size=0
        ·simp only[h0,if_true] at GR ⊢
         simp only[Sem.run_pure,Result.andThen_ok,Sem.run_bind,GR]
         simp[newRow]
        ·simp only[h0,if_false] at GR ⊢
         simp only[Sem.run_bind,P2 jo hz,Sem.run_pure,Result.andThen_ok,GR]
         simp[newRow]
       cases Ea:E.CC with
       |true=>
        rw[Ea] at h
        have Eb:¬dF g s.h w.heap.size:=fun ho=>Nat.lt_irrefl _ (hd.lt ho)
        have hB:=B.j9 w (.cells A e)
        have afK:(w.alloc (.cells A e)).heap.size=w.heap.size+1:=by simp
        refine .inl ⟨_,w.alloc (.cells A e),fun x=>I x\/x=w.heap.size,g,_,s,.inl lJ,rfl,⟨(hd.later hB).Al (fun _ h=>.inl h) (fun x hx=>?_) (fun x hx=>?_),Ext.of_B hB,fun _ h=>.inl h,fun x hx=>?_,fun _ _ h=>h,fun _ _ _=>rfl,fun q cA p' b2 hq h1 h2 h3=>⟨cA,h1,h3⟩,fun q cA p' b2 hq h1 h2 h3=>by have:=(List.getElem?_eq_some_iff.1 h1).1;omega⟩,.rd (Dr.KJ (fT.of SR) (TF.mono (fun _ h=>.inl h)) c3 r3 (fun b hb=>?_)),h⟩
        ·rw[afK]
         rcases hx with e|e
         ·have:=hd.aG x e;omega
         ·omega
        ·rcases hx with e|e
         ·intro ho
          obtain⟨o,ao,p,a1,a2,a3⟩:=ho
          exact hd.own o ao p x a1 a2 a3 e
         ·subst e;exact Eb
        ·rcases hx with e|e
         ·exact .inl e
         ·right;right;omega
        ·right
         simpa[Value.ownBlock] using hb.symm
       |false=>
        rw[Ea] at h
        refine .inl ⟨.slice (some ⟨w.heap.size,0,none⟩) len len,w.alloc (.cells A e),I,g++[(some w.heap.size,.slice (some ⟨w.heap.size,0,none⟩) len len)],.row s.h.length,{s with h:=s.h++[.row e i.size xs]},.inl lJ,rfl,Af.push hd (B.j9 _ _) (p:=(some w.heap.size,.slice (some ⟨w.heap.size,0,none⟩) len len)) (ao:=.row e i.size xs) ⟨some ⟨w.heap.size,0,none⟩,len,A.toList,by rw[c2],fT.of SR,rfl,TF,c3,r3⟩ (fun b hb=>by
         have:some w.heap.size=some b:=hb
         injection this with this
         omega),Vr.newRow hd,h⟩
      ·exact h.elim
     ·exact h.elim
   ·exact h.elim
  ·exact h.elim
 ·
  rename_i src Cg x
  split at h
  ·rename_i sz jJ z ED EE z' e b hs xH hx
   split at h
   ·rename_i AU AV z2 he
    obtain⟨mu,h⟩:=h
    have hv:=cH x;rw[hx] at hv
    have k1:=vP aM hs
    have k2:=nF aM xH
    have k3:=Df aM he
    have hB:B w (Lib.bytesWorld w e (aA b)):=⟨rfl,rfl,rfl,by rw[Lib.bytesWorld_size];omega,fun j hj=>Lib.bytesWorld_at_old w e (aA b) j hj⟩
    have aeI:b.length<=grownCap w (aA b).size 0 e:=by have:=grownCap_ge w (aA b).size 0 e;rw[oI] at this ⊢;exact this
    have aeJ:grownCap w (aA b).size 0 e<=maxLen:=grownCap_le_maxLen w _ 0 e (by rw[oI];unfold maxLen;omega)
    have kC:Bs (Lib.bytesWorld w e (aA b)) (.slice (some ⟨w.heap.size,0,none⟩) b.length (grownCap w (aA b).size 0 e)) b:=by
     refine⟨⟨some ⟨w.heap.size,0,none⟩,_,rfl,fun e=>(by cases e),aeI,aeJ,fun ad kB=>?_⟩,mu⟩
     cases kB
     refine⟨fun _=>by rw[Lib.bytesWorld_size];exact Nat.lt_succ_self _,fun j u hu=>?_⟩
     have hj:j<b.length:=by
      rcases Nat.lt_or_ge j b.length with h|h
      ·exact h
      ·rw[List.getElem?_eq_none (by rw[r8];exact h)] at hu;cases hu
     rw[vD b j hj] at hu
     injection hu with hu
     subst hu
     rw[Addr.add_mid,Nat.zero_add,Lib.bytesWorld_cell w e (aA b) j (by rw[oI];exact hj)]
     simp[aA,List.getD,hj]
    have Eb:¬dF g s.h w.heap.size:=fun ho=>Nat.lt_irrefl _ (hd.lt ho)
    cases Ea:E.CC with
    |true=>
      rw[Ea] at h
      refine .inl ⟨_,Lib.bytesWorld w e (aA b),fun x=>I x\/x=w.heap.size,g,_,s,.inl ?_,rfl,⟨(hd.later hB).Al (fun _ h=>.inl h) (fun x hx=>?_) (fun x hx=>?_),Ext.of_B hB,fun _ h=>.inl h,fun x hx=>?_,fun _ _ h=>h,fun _ _ _=>rfl,fun q cA p' b2 hq h1 h2 h3=>⟨cA,h1,h3⟩,fun q cA p' b2 hq h1 h2 h3=>by have:=(List.getElem?_eq_some_iff.1 h1).1;omega⟩,.rd (kC.dr (fun q hq _=>?_)),h⟩
      ·have:=Lib.run_convert_string_bytes (P:=P) w src Cg e (aA b) k1 k2 k3
       rw[oI] at this
       simp only[execOp,hv.nJ,Sem.run_bind,this,oI]
       rfl
      ·rw[Lib.bytesWorld_size]
       rcases hx with e|e
       ·have:=hd.aG x e;omega
       ·omega
      ·rcases hx with e|e
       ·intro ho
        obtain⟨o,ao,p,a1,a2,a3⟩:=ho
        exact hd.own o ao p x a1 a2 a3 e
       ·subst e;exact Eb
      ·rcases hx with e|e
       ·exact .inl e
       ·right;right;omega
      ·right
       simpa[Value.ownBlock] using hq.symm
    |false=>
      rw[Ea] at h
      simp only[cond_false] at h
      have hw:=fT.conv w e (aA b) (by rw[oI];unfold maxLen;omega)
      rw[oI,Ns] at hw
      have lJ:=Lib.run_convert_string_bytes (P:=P) w src Cg e (aA b) k1 k2 k3
      rw[oI] at lJ
      refine .inl ⟨.slice (some ⟨w.heap.size,0,none⟩) b.length (grownCap w b.length 0 e),Lib.bytesWorld w e (aA b),I,g++[(some w.heap.size,.slice (some ⟨w.heap.size,0,none⟩) b.length (grownCap w b.length 0 e))],.row s.h.length,{s with h:=s.h++[.row e 1 (b.map af)]},.inl ?_,rfl,Af.push hd hB (p:=(some w.heap.size,.slice (some ⟨w.heap.size,0,none⟩) b.length (grownCap w b.length 0 e))) (ao:=.row e 1 (b.map af)) ⟨some ⟨w.heap.size,0,none⟩,grownCap w b.length 0 e,fm b,by rw[List.length_map],by rw[List.length_map];exact hw,rfl,JL b,(by intro y hy;obtain⟨x,_,rfl⟩:=List.mem_map.1 hy;rfl),wO b⟩ (fun b' cw=>by
       have:some w.heap.size=some b':=cw
       injection this with this
       omega),?_,h⟩
      ·simp only[execOp,hv.nJ,Sem.run_bind,lJ]
       rfl
      ·exact Vr.newRow hd
   ·exact h.elim
  ·exact h.elim
 ·
  rename_i args ts
  split at h
  ·rename_i x y t t' wo MO
   have ha:args=#[x,y]:=Array.toList_inj.1 wo
   have ht:ts=#[t,t']:=Array.toList_inj.1 MO
   subst ha ht
   cases MS:He E.tb t t' with
   |false=>
    rw[MS] at h
    simp only[cond_false] at h
    split at h
    ·rename_i sz jJ z e ED EE z' o b hl EF hx hy
     split at h
     ·rename_i AU AV z2 e' n' xs he hh
      cases eJ:(Nat.beq e e'&&Nat.beq 1 n')&&Nat.beq AU 1 with
      |false=>rw[eJ] at h;exact h.elim
      |true=>
      rw[eJ] at h
      rw[Bool.and_eq_true,Bool.and_eq_true] at eJ
      simp only[cond_true] at h
      cases Nat.eq_of_beq_eq_true eJ.1.1
      cases Nat.eq_of_beq_eq_true eJ.1.2
      have TG:=cH y;rw[hy] at TG
      obtain⟨⟨c1,c2⟩,h⟩:=h
      have hv:=cH x;rw[hx] at hv
      obtain⟨bo,ra,rl,rc,hg,ex⟩:=hv.w9
      have iL:=xp hh
      obtain⟨a',c',vs,hp,eV,qd,kP,hlen,h1⟩:=hd.obj o _ _ iL hg
      have wB:bo=(Value.slice ra rl rc).ownBlock:=qd
      have MT:=hd.drop o
      have Az:∀bb,(Value.slice ra rl rc).ownBlock=some bb->¬I bb/\¬dF g (s.h.set o .gone) bb:=by
       intro bb hb
       have ho:(AO.row e 1 xs).owns (bo,.slice ra rl rc) bb:=by show bo=some bb;rw[wB];exact hb
       refine⟨fun hI=>hd.own o _ _ bb iL hg ho hI,fun hO=>?_⟩
       obtain⟨o2,qZ,p2,q1,q2,q3⟩:=hO
       rw[List.getElem?_set] at q1
       split at q1
       ·split at q1
        ·injection q1 with q1;subst q1;exact q3
        ·cases q1
       ·rename_i cu
        exact cu (hd.sep o o2 _ qZ _ p2 bb iL q1 hg q2 ho q3)
      obtain⟨v',w',r1,r2,r3,⟨qa,ql,qc,r4⟩,r5⟩:=aac MT aM hl EF he (Nat.eq_of_beq_eq_true eJ.2) eV kP hlen h1 Az c1 c2 ty
      have wq:nj (.call ⟨.builtin .append,#[x,y],#[t,t']⟩) s=[o]:=by simp[nj,hx]
      have hE:Ext (gM [o] g s.h) w w':=(Ext.refl _ w).grown r2 (fun bb hb _=>⟨o,_,_,by simp,iL,hg,by show bo=some bb;rw[wB];exact hb⟩)
      refine .inl ⟨v',w',I,g++[(v'.ownBlock,v')],.row s.h.length,{s with h:=sh s.h o .gone++[.row e 1 (xs++b.map af)]},.inl ?_,rfl,⟨by simp only[nT];exact r3,by simp only[wq];exact hE,fun _ h=>h,fun _ h=>.inl h,fun _ _ h=>sJ h,fun q hq hn=>?_,fun q cA p' bb hq h1 h2 h3=>?_,fun q cA p' bb hq h1 h2 h3=>?_⟩,?_,h⟩
      ·simp only[execOp,resolve,invoke,builtin,Sem.run_bind,Sem.run_pure,Result.andThen_ok,List.map_toArray,List.map_cons,List.map_nil,ex,TG.nJ,r1]
      ·simp only[wq,List.mem_singleton] at hn
       show(sh s.h o .gone++_)[q]?=_
       rw[nT,List.getElem?_append_left (by simpa using hq),List.getElem?_set_ne (Ne.symm hn)]
      ·replace h1:(sh s.h o .gone++[AO.row e 1 (xs++b.map af)])[q]?=some cA:=h1
       rw[nT,List.getElem?_append_left (by simpa using hq),List.getElem?_set] at h1
       split at h1
       ·split at h1
        ·injection h1 with h1;subst h1;exact h3.elim
        ·cases h1
       ·exact⟨cA,h1,h3⟩
      ·replace h1:(sh s.h o .gone++[AO.row e 1 (xs++b.map af)])[q]?=some cA:=h1
       rw[nT] at h1
       rcases lO h1 with⟨e1,_⟩|⟨e1,k1⟩
       ·simp at e1;omega
       ·rcases lO h2 with⟨e2,_⟩|⟨e2,k2⟩
        ·have:=hd.len;omega
        ·subst k1 k2
         have cw:v'.ownBlock=some bb:=h3
         rcases r5 with e5|e5
         ·rw[e5] at cw
          left
          simp only[wq]
          exact⟨o,_,_,by simp,iL,hg,by show bo=some bb;rw[wB];exact cw⟩
         ·rw[e5] at cw;injection cw with cw;right;omega
      ·rw[r4]
       exact .row _ (Value.slice qa ql qc).ownBlock _ _ _ (by rw[<-hd.len];exact Dc _ _)
     ·exact h.elim
    ·exact h.elim
   |true=>
    rw[MS] at h
    simp only[cond_true] at h
    split at h
    ·rename_i sz jJ z e hl
     obtain⟨e2,iH⟩:=acn aM MS hl
     split at h
     ·rename_i i hi
      cases hb:Nat.blt 0 i.size with
      |false=>rw[hb] at h;exact h.elim
      |true=>
       rw[hb] at h
       simp only[cond_true] at h
       have pY:0<i.size:=Nat.le_of_ble_eq_true hb
       split at h
       case h_2=>exact h.elim
       rename_i ys hy
       obtain⟨news,nE,g1,CE,ze⟩:=aaa hd pY (cH y) hy
       split at h
       ·rename_i hx
        obtain⟨⟨c1,c2⟩,h⟩:=h
        have hv:=cH x;rw[hx] at hv
        have ex:=hv.vN
        obtain⟨v',w',r1,r2,r3,⟨qa,ql,qc,r4⟩,r5⟩:=Q6 hd aM hl hi (xs:=[]) (vs:=[]) pY nE g1 CE ze (fT.nil w e i.size) .nil (by simp) (by simp) (fun b hb=>by simp[Value.ownBlock] at hb) (by simpa using c1) (by simpa using c2) ty
        replace r1:=(NC (nF aM hl) iH ty _ _ _).trans r1
        have hB:B w w':=(Ext.refl (fun _=>False) w).grown r2 (fun g hg=>by simp[Value.ownBlock] at hg) |>.Ld (fun _ _=>id)
        cases wF:(E.CC&&!Nat.beq t t') with
        |false=>
         rw[wF] at h
         simp only[cond_false] at h
         refine .inl ⟨v',w',I,g++[(v'.ownBlock,v')],.row s.h.length,{s with h:=s.h++[.row e i.size ys]},.inl ?_,rfl,⟨by simpa using r3,Ext.of_B hB,fun _ h=>h,fun _ h=>.inl h,fun _ _ h=>sJ h,fun q hq _=>List.getElem?_append_left hq,fun q cA p' b hq h1 h2 h3=>⟨cA,by rw[<-h1];exact(List.getElem?_append_left hq).symm,h3⟩,fun q cA p' b hq h1 h2 h3=>?_⟩,?_,h⟩
         ·simp only[execOp,resolve,invoke,builtin,Sem.run_bind,Sem.run_pure,Result.andThen_ok,List.map_toArray,List.map_cons,List.map_nil,ex,r1]
         ·rcases lO h1 with⟨e1,_⟩|⟨e1,k1⟩
          ·omega
          ·rcases lO h2 with⟨e2,_⟩|⟨e2,k2⟩
           ·have:=hd.len;omega
           ·subst k1 k2
            right
            have cw:v'.ownBlock=some b:=h3
            rcases r5 with e5|e5
            ·rw[e5] at cw;simp[Value.ownBlock] at cw
            ·rw[e5] at cw;injection cw with cw;omega
         ·rw[r4]
          exact .row _ (Value.slice qa ql qc).ownBlock _ _ _ (by rw[<-hd.len];exact Dc _ _)
        |true=>
         rw[wF] at h
         simp only[cond_true] at h
         have EG:Den I (g++[(v'.ownBlock,v')]) w' (s.h++[.row e i.size ys]):=by simpa using r3
         have ug:(s.h++[AO.row e i.size ys])[s.h.length]?=some (.row e i.size ys):=by simp
         have MU:(g++[(v'.ownBlock,v')])[s.h.length]?=some (v'.ownBlock,v'):=by rw[<-hd.len];simp
         have afL:(s.h++[AO.row e i.size ys]).set s.h.length .gone=s.h++[.gone]:=by simp
         obtain⟨a',c',xN,TH,K6,wB,afM,K7,fW⟩:=EG.obj _ _ _ ug MU
         have eE:∀b,v'.ownBlock=some b->b=w.heap.size:=fun b hb=>by
          rcases r5 with e5|e5
          ·rw[e5] at hb;simp[Value.ownBlock] at hb
          ·rw[e5] at hb;injection hb with hb;exact hb.symm
         have hlt:∀b,v'.ownBlock=some b->b<w'.heap.size:=fun b hb=>EG.lt ⟨_,_,_,ug,MU,hb⟩
         have oY:=EG.drop s.h.length
         rw[afL] at oY
         have fu:∀b,v'.ownBlock=some b->¬dF (g++[(v'.ownBlock,v')]) (s.h++[.gone]) b:=by
          rintro b hb ⟨o2,qZ,p2,q1,q2,q3⟩
          rcases lO q1 with⟨e1,k1⟩|⟨e1,k1⟩
          ·have:=EG.sep o2 s.h.length _ _ _ _ b (by rw[List.getElem?_append_left e1];exact k1) ug q2 MU q3 hb
           omega
          ·subst k1;exact q3
         refine .inl ⟨v',w',fun b=>I b\/v'.ownBlock=some b,g++[(v'.ownBlock,v')],.list i.size ys,{s with h:=s.h++[.gone]},.inl ?_,rfl,⟨oY.Al (fun _ h=>.inl h) (fun x hx=>?_) (fun x hx=>?_),Ext.of_B hB,fun _ h=>.inl h,fun x hx=>?_,fun _ _ h=>sJ h,fun q hq _=>List.getElem?_append_left hq,fun q cA p' b hq h1 h2 h3=>⟨cA,by rw[<-h1];exact(List.getElem?_append_left hq).symm,h3⟩,fun q cA p' b hq h1 h2 h3=>?_⟩,?_,h⟩
         ·simp only[execOp,resolve,invoke,builtin,Sem.run_bind,Sem.run_pure,Result.andThen_ok,List.map_toArray,List.map_cons,List.map_nil,ex,r1]
         ·exact hx.elim (EG.aG x) (hlt x)
         ·rcases hx with hx|hx
          ·rintro⟨o2,qZ,p2,q1,q2,q3⟩
           exact oY.own o2 qZ p2 x q1 q2 q3 hx
          ·exact fu x hx
         ·rcases hx with hx|hx
          ·exact .inl hx
          ·right;right;rw[eE x hx];exact Nat.le_refl _
         ·rcases lO h1 with⟨e1,_⟩|⟨e1,k1⟩
          ·omega
          ·subst k1;exact h3.elim
         ·exact .rd (Dr.KJ K6 (afM.mono (fun _ h=>.inl h)) K7 fW (fun b hb=>.inr hb))
       ·rename_i o hx
        split at h
        ·rename_i e' n' xs hh
         cases eJ:Nat.beq e e'&&Nat.beq i.size n' with
         |false=>rw[eJ] at h;exact h.elim
         |true=>
          rw[eJ] at h
          rw[Bool.and_eq_true] at eJ
          simp only[cond_true] at h
          cases Nat.eq_of_beq_eq_true eJ.1
          cases Nat.eq_of_beq_eq_true eJ.2
          obtain⟨⟨c1,c2⟩,h⟩:=h
          have hv:=cH x;rw[hx] at hv
          obtain⟨bo,ra,rl,rc,hg,ex⟩:=hv.w9
          have iL:=xp hh
          obtain⟨a',c',vs,hp,eV,qd,kP,hlen,h1⟩:=hd.obj o _ _ iL hg
          have wB:bo=(Value.slice ra rl rc).ownBlock:=qd
          have MT:=hd.drop o
          have Az:∀b,(Value.slice ra rl rc).ownBlock=some b->¬I b/\¬dF g (s.h.set o .gone) b:=by
           intro b hb
           have ho:(AO.row e i.size xs).owns (bo,.slice ra rl rc) b:=by show bo=some b;rw[wB];exact hb
           refine⟨fun hI=>hd.own o _ _ b iL hg ho hI,fun hO=>?_⟩
           obtain⟨o2,qZ,p2,q1,q2,q3⟩:=hO
           rw[List.getElem?_set] at q1
           split at q1
           ·split at q1
            ·injection q1 with q1;subst q1;exact q3
            ·cases q1
           ·rename_i cu
            exact cu (hd.sep o o2 _ qZ _ p2 b iL q1 hg q2 ho q3)
          obtain⟨v',w',r1,r2,r3,⟨qa,ql,qc,r4⟩,r5⟩:=Q6 MT aM hl hi pY nE g1 CE ze eV kP hlen h1 Az c1 c2 ty
          replace r1:=(NC (nF aM hl) iH ty _ _ _).trans r1
          have wq:nj (.call ⟨.builtin .append,#[x,y],#[t,t']⟩) s=[o]:=by simp[nj,hx]
          have hE:Ext (gM [o] g s.h) w w':=(Ext.refl _ w).grown r2 (fun b hb _=>⟨o,_,_,by simp,iL,hg,by show bo=some b;rw[wB];exact hb⟩)
          refine .inl ⟨v',w',I,g++[(v'.ownBlock,v')],.row s.h.length,{s with h:=sh s.h o .gone++[.row e i.size (xs++ys)]},.inl ?_,rfl,⟨by simp only[nT];exact r3,by simp only[wq];exact hE,fun _ h=>h,fun _ h=>.inl h,fun _ _ h=>sJ h,fun q hq hn=>?_,fun q cA p' b hq h1 h2 h3=>?_,fun q cA p' b hq h1 h2 h3=>?_⟩,?_,h⟩
          ·simp only[execOp,resolve,invoke,builtin,Sem.run_bind,Sem.run_pure,Result.andThen_ok,List.map_toArray,List.map_cons,List.map_nil,ex,r1]
          ·simp only[wq,List.mem_singleton] at hn
           show(sh s.h o .gone++_)[q]?=_
           rw[nT,List.getElem?_append_left (by simpa using hq),List.getElem?_set_ne (Ne.symm hn)]
          ·replace h1:(sh s.h o .gone++[AO.row e i.size (xs++ys)])[q]?=some cA:=h1
           rw[nT,List.getElem?_append_left (by simpa using hq),List.getElem?_set] at h1
           split at h1
           ·split at h1
            ·injection h1 with h1;subst h1;exact h3.elim
            ·cases h1
           ·exact⟨cA,h1,h3⟩
          ·replace h1:(sh s.h o .gone++[AO.row e i.size (xs++ys)])[q]?=some cA:=h1
           rw[nT] at h1
           rcases lO h1 with⟨e1,_⟩|⟨e1,k1⟩
           ·simp at e1;omega
           ·rcases lO h2 with⟨e2,_⟩|⟨e2,k2⟩
            ·have:=hd.len;omega
            ·subst k1 k2
             have cw:v'.ownBlock=some b:=h3
             rcases r5 with e5|e5
             ·rw[e5] at cw
              left
              simp only[wq]
              exact⟨o,_,_,by simp,iL,hg,by show bo=some b;rw[wB];exact cw⟩
             ·rw[e5] at cw;injection cw with cw;right;omega
          ·rw[r4]
           exact .row _ (Value.slice qa ql qc).ownBlock _ _ _ (by rw[<-hd.len];exact Dc _ _)
        ·exact h.elim
       ·exact h.elim
     ·exact h.elim
    ·exact h.elim
  ·exact h.elim
 ·
  rename_i f args ts
  split at h
  ·rename_i gf n fS hf
   obtain⟨cZ,hF,hk⟩:=h
   have hv:=cH f;rw[hf] at hv
   obtain⟨CF,ef,TI⟩:=hv.Gj
   have wo:cJ I g w (CF.take n++(args.toList.map a.eval++CF.drop n)) (xw n fS (args.toList.map (ev s))):=by
    rw[PW]
    refine cJ.append (TI.take n) (cJ.append ⟨by simp,fun i v d h1 h2=>?_⟩ (TI.drop n))
    rw[List.getElem?_map] at h1 h2
    cases hq:args.toList[i]? with
    |none=>rw[hq] at h1;cases h1
    |some x=>
     rw[hq] at h1 h2
     injection h1 with h1;injection h2 with h2
     subst h1 h2
     exact cH x
   have hc:=hF.2 w I g _ hW hd wo
   have wq:nj (.call ⟨.value f,args,ts⟩) s=jT s.h (xw n fS (args.toList.map (ev s))):=by simp[nj,hf]
   refine .inr (.inl ⟨gf,_,?_,hc.mono (fun e w' hR=>?_)⟩)
   ·have afN:((CF.take n).toArray++args.map a.eval)++(CF.drop n).toArray=(CF.take n++(args.toList.map a.eval++CF.drop n)).toArray:=by
     apply Array.toList_inj.1
     simp
    simp only[execOp,resolve,ef,Deferred.ofValue,Sem.run_bind,Sem.run_pure,Result.andThen_ok,invoke,afN,Nv hF.1]
   ·rcases hR with⟨v,I',g',r,h',rfl,hp,q1,q2⟩|⟨ch,rfl,hp,q1⟩
    ·exact .inl ⟨v,I',g',r,h',rfl,by simp only[wq];exact q1,q2,hk r h' hp⟩
    ·exact .inr ⟨ch,rfl,hp,by simp only[wq];exact q1⟩
  ·exact h.elim
 ·
  rename_i x
  split at h
  ·rename_i t hx
   have hv:=cH x;rw[hx] at hv
   have e:=hv.acf
   exact .inr (.inr ⟨_,by simp[execOp,Instr.panic,e,goPanic],h⟩)
  ·exact h.elim
 ·exact h.elim
end
end
section
set_option linter.unusedSectionVars false
variable [Wd]
structure Cx where
 w0:World
 I0:Nat->Prop
 g0:bH
 h0:List AO
 n:Nat
 lo:Nat
 t0:Array Value
structure Inv (C:Cx) (I:Nat->Prop) (g:bH) (s:S) (a:Act) (w:World):Prop where
 den:Den I g w s.h
 wd:Wd.W I w
 tmp:∀j,Vr I g w (a.tmps.getD j undef) (lk s.t j)
 sz:a.tmps.size=C.n
 vp:a.defers=[]
 kp:∀j,j<C.lo->a.tmps.getD j undef=C.t0.getD j undef
 ext:Ext (dF C.g0 C.h0) C.w0 w
 i1:∀b,C.I0 b->I b
 i2:∀b,I b->C.I0 b\/dF C.g0 C.h0 b\/C.w0.heap.size<=b
 ow:∀b,dF g s.h b->dF C.g0 C.h0 b\/C.w0.heap.size<=b
 gk:∀(o:Nat) p t cs,C.g0[o]?=some p->C.h0[o]?=some (.cells t cs)->g[o]?=some p
def Ch (C:Cx) (Qc:Exit->Act->World->Prop):Prop:=∀a w ch,Wd.kY ch->a.defers=[]->Ext (dF C.g0 C.h0) C.w0 w->Qc (.panic ch) a w
theorem Inv.SU {C:Cx} {I:Nat->Prop} {g:bH} {s:S} {a:Act} {w w':World} {M:List Nat} (h:Inv C I g s a w) (hx:Ext (gM M g s.h) w w'):Ext (dF C.g0 C.h0) C.w0 w':=
 h.ext.trans hx (fun x hx ho=>by
   rcases h.ow x ho.owned with e|e
   ·exact e
   ·omega)
def lV (C:Cx) (s:S) (a:Act) (w:World):Prop:=∃I g,Inv C I g s a w
section
variable {P:Program} {Q:Exit->S->Prop} {C:Cx} {I I':Nat->Prop} {g g':bH} {s s':S} {a:Act} {w w':World}
theorem Inv.ev (h:Inv C I g s a w) (x:Operand):Vr I g w (a.eval x) (ev s x):=aeE h.tmp x
theorem Inv.step {M:List Nat} (h:Inv C I g s a w) (ht:s'.t=s.t) (k:Af I g w s.h M I' g' w' s'.h):Inv C I' g' s' a w' where
 den:=k.den
 wd:=Wd.cl h.wd (fun b hb=>k.ext.block b (h.den.aG b hb) (fun ho=>by
  obtain⟨o,ao,p,_,h1,h2,h3⟩:=ho
  exact h.den.own o ao p b h1 h2 h3 hb)) k.i1
 tmp j:=by
  rw[ht]
  exact((h.tmp j).ext k.ext (fun b hb ho=>by
   obtain⟨o,ao,p,_,h1,h2,h3⟩:=ho
   exact h.den.own o ao p b h1 h2 h3 hb)).mono k.i1 k.gx
 sz:=h.sz
 vp:=h.vp
 kp:=h.kp
 ext:=h.ext.trans k.ext (fun x hx ho=>by
  rcases h.ow x ho.owned with e|e
  ·exact e
  ·omega)
 i1 b hb:=k.i1 b (h.i1 b hb)
 i2 b hb:=by
  have eE:=h.ext.size
  rcases k.i2 b hb with e|e|e
  ·exact h.i2 b e
  ·right;exact h.ow b e.owned
  ·right;right;omega
 ow b hb:=by
  have eE:=h.ext.size
  rcases k.ow h.den.len b hb with e|e
  ·exact h.ow b e
  ·right;omega
 gk o p t cs h1 h2:=k.gx o p (h.gk o p t cs h1 h2)
theorem aae (a:Act) (d:Option Tmp) (v:Value):(a.put d v).tmps.size=a.tmps.size:=by
 cases d<;>simp[Act.put]
theorem put_defers (a:Act) (d:Option Tmp) (v:Value):(a.put d v).defers=a.defers:=by
 cases d<;>rfl
theorem Inv.put {E:En} (hE:E.n=C.n/\E.lo=C.lo) (h:Inv C I g s a w) {v:Value} {d:D} (hv:Vr I g w v d) {dst:Option Tmp} {k:S->T} (hk:(put E dst d s k).ok P Q):∃s',s'.h=s.h/\Inv C I g s' (a.put dst v) w/\(k s').ok P Q:=by
 cases dst with
 |none=>exact⟨s,rfl,h,hk⟩
 |some j=>
  simp only[Go.Proofs.YtafomdobfmmleaaGreatDoor.put] at hk
  cases vq:Nat.blt j E.n&&Nat.ble E.lo j with
  |false=>rw[vq] at hk;exact hk.elim
  |true=>
   rw[vq] at hk
   rw[Bool.and_eq_true] at vq
   obtain⟨hj,p9⟩:=vq
   simp only[cond_true,force_eq] at hk
   replace hk:(k {s with t:=(j,d)::s.t}).ok P Q:=by cases s;exact hk
   have hlt:j<a.tmps.size:=by rw[h.sz,<-hE.1];exact Nat.le_of_ble_eq_true hj
   refine⟨{s with t:=(j,d)::s.t},rfl,⟨h.den,h.wd,fun i=>?_,by rw[aae];exact h.sz,by rw[put_defers];exact h.vp,(fun i hi=>by
    rw[<-h.kp i hi]
    have cu:j≠i:=by
     have:=Nat.le_of_ble_eq_true p9
     rw[hE.2] at this
     intro e
     subst e
     exact absurd hi (Nat.not_lt.2 this)
    simp only[Act.put]
    rw[Array.getD_eq_getD_getElem?,Array.getD_eq_getD_getElem?,Array.getElem?_setIfInBounds_ne cu]),h.ext,h.i1,h.i2,h.ow,h.gk⟩,hk⟩
   simp only[lk,Act.put]
   by_cases vo:i=j
   ·subst vo
    have:Nat.beq i i=true:=Nat.beq_refl i
    rw[this]
    simp[hlt]
    exact hv
   ·have:Nat.beq i j=false:=by
     cases hb:Nat.beq i j with
     |false=>rfl
     |true=>exact absurd (Nat.eq_of_beq_eq_true hb) vo
    rw[this]
    have e:(a.tmps.setIfInBounds j v).getD i undef=a.tmps.getD i undef:=by
     simp only[Array.getD_eq_getD_getElem?]
     rw[Array.getElem?_setIfInBounds_ne (Ne.symm vo)]
    rw[e]
    exact h.tmp i
theorem P5 {E:En} (aM:E.tb.ok P) (hE:E.n=C.n/\E.lo=C.lo) (h:Inv C I g s a w) {o:Oper} {k:S->T} (hk:(yP E o.op o.type s (fun d s'=>put E o.dst d s' k)).ok P Q) {K:Act->World->Prop} {Qc:Exit->Act->World->Prop} (hX:Ch C Qc) (hK:∀s' a' w',lV C s' a' w'->(k s').ok P Q->K a' w'):o.wp P a w K Qc:=by
 unfold yP at hk
 cases hw:AS E o.op s with
 |true=>
  rw[hw] at hk
  simp only[cond_true] at hk
  rcases P4 aM h.wd h.ev h.den (o:=o) hk with⟨v,w',I',g',d,s',hr,ht,ha,hv,dc⟩|⟨f,vs,hr,hc⟩|⟨v,hr,hp⟩
  ·have hi:=h.step ht ha
   obtain⟨s2,_,h2,iH⟩:=hi.put hE hv dc
   unfold Oper.wp
   rcases hr with hr|⟨hr,rfl⟩
   ·rw[hr];exact hK _ _ _ ⟨_,_,h2⟩ iH
   ·rw[hr];exact hK _ _ _ ⟨_,_,h2⟩ iH
  ·unfold Oper.wp
   rw[hr]
   refine hc.mono (fun e w' hR=>?_)
   rcases hR with⟨v,I',g',d,h',rfl,ha,hv,dc⟩|⟨ch,rfl,hp,hx⟩
   ·have hi:=h.step (s':={s with h:=h'}) rfl ha
    obtain⟨s2,_,h2,iH⟩:=hi.put hE hv dc
    exact hK _ _ _ ⟨_,_,h2⟩ iH
   ·exact hX a w' ch hp h.vp (h.SU hx)
  ·unfold Oper.wp
   rw[hr]
   exact hX a w _ hp h.vp h.ext
 |false=>
  rw[hw] at hk
  simp only[cond_false] at hk
  cases hl:AR E o.op s with
  |true=>
   rw[hl] at hk
   simp only[cond_true] at hk
   obtain⟨v,d,hr,hv,dc⟩:=Dg aM h.ev h.den (o:=o) hk
   obtain⟨s2,_,h2,iH⟩:=h.put hE hv dc
   unfold Oper.wp
   rw[hr w (fun _ _ _=>rfl) (fun _ _ _ _ _ _ _ _=>rfl)]
   exact hK _ _ _ ⟨_,_,h2⟩ iH
  |false=>
   rw[hl] at hk
   simp only[cond_false] at hk
   obtain⟨v,d,hr,hv,dc⟩:=JK aM h.ev h.den (o:=o) hk
   obtain⟨s2,_,h2,iH⟩:=h.put hE hv dc
   unfold Oper.wp
   rw[hr w]
   exact hK _ _ _ ⟨_,_,h2⟩ iH
def xZ:List Oper->Nat->Option Oper
 |[],_=>none
 |o::_,0=>some o
 |_::l,n+1=>xZ l n
theorem Ds:∀(l:List Oper) (n:Nat),xZ l n=l[n]?
 |[],_=>by simp[xZ]
 |d::_,0=>by simp[xZ]
 |_::l,n+1=>by simp[xZ,Ds l n]
def sX (ops:List Oper) (o:Oper) (s:S):Option Bool:=
 match o.guard with
 |none=>some true
 |some (j,want)=>match xZ ops j with
  |some ⟨some t,_,_,_,_,_⟩=>match lk s.t t with
   |.bool b=>some (b==want)
   |.aj _=>some false
   |_=>none
  |_=>none
theorem Jj (h:Inv C I g s a w) {ops:Array Oper} {o:Oper} {b:Bool} (hg:sX ops.toList o s=some b):Region.wanted o (yielded ops a.tmps)=b:=by
 unfold sX at hg
 unfold Region.wanted
 split at hg
 ·rename_i e
  injection hg with hg
  subst hg
  rw[e]
 ·rename_i j want e
  rw[e]
  simp only
  split at hg
  ·rename_i t _ _ _ _ _ hl
   rw[Ds,Array.getElem?_toList] at hl
   have hv:=h.tmp t
   split at hg
   ·rename_i b' hb
    injection hg with hg
    subst hg
    rw[hb] at hv
    have e2:=hv.rm
    have e3:a.tmps[t]?=some (.bool b'):=by
     cases hq:a.tmps[t]? with
     |none=>rw[Array.getD_eq_getD_getElem?,hq] at e2;cases e2
     |some u=>rw[Array.getD_eq_getD_getElem?,hq] at e2;simp at e2;rw[e2]
    simp[yielded,hl,e3]
   ·rename_i ds hb
    injection hg with hg
    subst hg
    rw[hb] at hv
    obtain⟨vs,e2,_⟩:=hv.F7
    cases hq:a.tmps[t]? with
    |none=>simp[yielded,hl,hq]
    |some u=>
     rw[Array.getD_eq_getD_getElem?,hq] at e2
     simp at e2
     subst e2
     simp[yielded,hl,hq]
   ·cases hg
  ·cases hg
def lit (ops:List Oper) (s:S) (j:Nat) (v:Bool):S:=
 match xZ ops j with
 |some ⟨some t,_,_,_,_,_⟩=>match lk s.t t with
  |.bool _=>(match s with|⟨l,h⟩=>⟨(t,.bool v)::l,h⟩)
  |_=>s
 |_=>s
theorem KK (h:Inv C I g s a w) {ops:Array Oper} {o:Oper} {j:Nat} {want b:Bool} (hg:o.guard=some (j,want)) (hb:sX ops.toList o s=some b):Inv C I g (lit ops.toList s j (if b then want else !want)) a w/\(lit ops.toList s j (if b then want else !want)).h=s.h:=by
 unfold sX at hb
 rw[hg] at hb
 simp only at hb
 unfold lit
 split at hb
 ·rename_i t _ _ _ _ _ hl
  simp only[]
  cases hq:lk s.t t with
  |bool b'=>
   rw[hq] at hb
   simp only at hb
   injection hb with hb
   have hv:b'=(if b then want else !want):=by
    subst hb
    cases b'<;>cases want<;>rfl
   have key:∀i,Vr I g w (a.tmps.getD i undef) (lk ((t,.bool (if b then want else !want))::s.t) i):=by
    intro i
    simp only[lk]
    cases hbi:Nat.beq i t with
    |true=>
     have e:=Nat.eq_of_beq_eq_true hbi
     have:=h.tmp t
     rw[hq,hv] at this
     rw[e]
     exact this
    |false=>exact h.tmp i
   cases s with
   |mk l hh=>exact⟨⟨h.den,h.wd,key,h.sz,h.vp,h.kp,h.ext,h.i1,h.i2,h.ow,h.gk⟩,rfl⟩
  |_=>exact⟨h,rfl⟩
 ·cases hb
def DV (E:En) (ops:List Oper) (o:Oper) (s:S) (k:S->T):T:=
 match o.guard with
 |none=>yP E o.op o.type s (fun d s'=>put E o.dst d s' k)
 |some (j,want)=>match sX ops o s with
  |some b=>bT b (yP E o.op o.type (lit ops s j want) (fun d s'=>put E o.dst d s' k)) (put E o.dst (.aj []) (lit ops s j (!want)) k)
  |none=>.fail 50
def Ai (E:En) (ops:List Oper):List Oper->S->(S->T)->T
 |[],s,k=>k s
 |o::r,s,k=>DV E ops o s (fun s'=>Ai E ops r s' k)
theorem FV {E:En} (aM:E.tb.ok P) (hE:E.n=C.n/\E.lo=C.lo) {ops:Array Oper} {Qc:Exit->Act->World->Prop} {k:S->T} (hX:Ch C Qc) (hK:∀s' a' w',lV C s' a' w'->(k s').ok P Q->Qc .normal a' w'):
 ∀(l:List Oper) (s:S) (a:Act) (w:World),lV C s a w->(Ai E ops.toList l s k).ok P Q->wpList P ops Qc l a w
 |[],s,a,w,h,hk=>hK _ _ _ h hk
 |o::r,s,a,w,⟨I,g,h⟩,hk=>by
  simp only[Ai,DV] at hk
  unfold wpList
  split at hk
  ·rename_i e
   have hw:Region.wanted o (yielded ops a.tmps)=true:=by unfold Region.wanted;rw[e]
   rw[if_pos hw]
   exact .inl (P5 aM hE h hk hX (fun s' a' w' h' dc=>FV aM hE hX hK r s' a' w' h' dc))
  ·rename_i j want e
   split at hk
   ·rename_i b hb
    have hw:=Jj h hb
    rw[hw]
    have hlt:=(KK h e hb).1
    cases b with
    |true=>
     rw[if_pos rfl]
     exact .inl (P5 aM hE hlt hk hX (fun s' a' w' h' dc=>FV aM hE hX hK r s' a' w' h' dc))
    |false=>
     rw[if_neg (by simp)]
     rw[LB] at hk
     obtain⟨s2,_,h2,iH⟩:=hlt.put hE .undef hk
     exact FV aM hE hX hK r _ _ _ ⟨_,_,h2⟩ iH
   ·exact hk.elim
end
end
section
set_option linter.unusedSectionVars false
variable [Wd]
section
variable {P:Program} {ops:Array Oper} {Q:Exit->Act->World->Prop} {S:Array Bool->World->Prop}
def lC (P:Program) (ops:Array Oper) (Q:Exit->Act->World->Prop) (S:Array Bool->World->Prop):Nat->Array Bool->Act->World->Prop
 |0,L,a,w=>Region.ready .any ops L=[]/\Q .normal a w
 |fuel+1,L,a,w=>(Region.ready .any ops L=[]->Q .normal a w)/\
  ∀i∈Region.ready .any ops L,Go.wpOp P ops Q i (fun a' w'=>S (L.setIfInBounds i true) w'/\lC P ops Q S fuel (L.setIfInBounds i true) a' w') a w
theorem Og:∀(fuel:Nat) (L:Array Bool) (a:Act) (w:World),lC P ops Q S fuel L a w->wpAny P .any ops Q fuel L a w
 |0,_,_,_,h=>h
 |fuel+1,_,_,_,h=>⟨h.1,fun i hi=>wpOp_mono (fun a' w' h'=>Og fuel _ a' w' h'.2) (h.2 i hi)⟩
def qz (ops:Array Oper) (L:Array Bool):Prop:=∀(j:Nat) (oj:Oper),ops[j]?=some oj->L.getD j true=true->∀e∈oj.after,Region.binds .any e=true->L.getD e.on false=true
theorem qz.start (ops:Array Oper):qz ops (Array.replicate ops.size false):=by
 intro j oj hj h
 have:=(Array.getElem?_eq_some_iff.1 hj).1
 simp[Array.getD,this] at h
theorem Kg {L:Array Bool} {i:Nat} (h:L.getD i false=true):L.getD i true=true:=by
 unfold Array.getD at*
 split at h
 ·rename_i hl;rw[dif_pos hl];exact h
 ·cases h
theorem qz.step {L:Array Bool} (h:qz ops L) {i:Nat} (hi:i∈Region.ready .any ops L):qz ops (L.setIfInBounds i true):=by
 intro j oj hj hd e he hb
 obtain⟨_,oi,Ib,mS⟩:=mem_ready.1 hi
 by_cases vr:i=j
 ·subst vr
  rw[hj] at Ib
  injection Ib with Ib
  subst Ib
  exact getD_set_true (mS e he hb)
 ·rw[getD_set_ne true vr] at hd
  exact getD_set_true (h j oj hj hd e he hb)
def DI (ops:List Oper):Nat->Nat->Nat->Bool
 |0,_,_=>false
 |n+1,j,i=>match xZ ops j with
  |none=>false
  |some o=>o.after.toList.any fun e=>Region.binds .any e&&(Nat.beq e.on i||DI ops n e.on i)
theorem Jk {L:Array Bool} (h:qz ops L):∀(n j i:Nat),DI ops.toList n j i=true->(∀o,ops[j]?=some o->∀e∈o.after,Region.binds .any e=true->L.getD e.on false=true)->L.getD i true=true
 |0,j,i,hw,_=>by simp[DI] at hw
 |n+1,j,i,hw,hj=>by
  simp only[DI] at hw
  split at hw
  ·cases hw
  ·rename_i o ho
   rw[Ds,Array.getElem?_toList] at ho
   obtain⟨e,he,hb⟩:=List.any_eq_true.1 hw
   rw[Bool.and_eq_true,Bool.or_eq_true] at hb
   have he':e∈o.after:=Array.mem_toList_iff.1 he
   have hd:=hj o ho e he' hb.1
   rcases hb.2 with q|q
   ·rw[<-Nat.eq_of_beq_eq_true q];exact Kg hd
   ·exact Jk h n e.on i q (fun o2 h2 e2 uT eJ=>h e.on o2 h2 (Kg hd) e2 uT eJ)
def KL (ops:List Oper) (mo:List Nat) (i:Nat):Bool:=mo.all fun j=>DI ops ops.length j i&&!(Nat.beq j i)
theorem ND {i:Nat} {oi:Oper} {v:Value} {mo:List Nat} {Y:World->Prop} (hi:ops[i]?=some oi) (uS:∀(j:Nat) (o:Oper) cs b,ops[j]?=some o->o.op≠.select cs b)
 (hQ:∀c a w,Q (.panic c) (a.put oi.dst v) w->Q (.panic c) a w) (MV:∀L w,(∀j∈mo,L.getD j true=false)->S L w->Y w) (CG:KL ops.toList mo i=true) (Ic:∀L w,S (L.setIfInBounds i true) w->S L w):
 ∀(fuel:Nat) (L:Array Bool) (a:Act) (w:World),qz ops L->(∀j∈mo,L.getD j true=false)->
  (∀j oj,ops[j]?=some oj->j≠i->L.getD j true=false->(∀e∈oj.after,Region.binds .any e=true->e.on≠i)->oi.apart ops oj=true)->
  i∈Region.ready .any ops L->YieldsIf P ops Y oi v a->Y w->S (L.setIfInBounds i true) w->
  lC P ops Q S fuel (L.setIfInBounds i true) (a.put oi.dst v) w->lC P ops Q S (fuel+1) L a w:=by
 have LQ:∀j∈mo,j≠i:=fun j hj e=>by
  have:=List.all_eq_true.1 CG j hj
  rw[e,Nat.beq_refl] at this
  simp at this
 have aaf:∀(L:Array Bool),qz ops L->i∈Region.ready .any ops L->∀j∈mo,j∉Region.ready .any ops L:=by
  intro L hc hr j hj hrj
  obtain⟨_,oj,EH,mS⟩:=mem_ready.1 hrj
  have hw:=List.all_eq_true.1 CG j hj
  rw[Bool.and_eq_true] at hw
  have:=Jk hc _ j i hw.1 (fun o ho e he hb=>by rw[EH] at ho;injection ho with ho;subst ho;exact mS e he hb)
  rw[(mem_ready.1 hr).1] at this
  cases this
 intro fuel
 induction fuel with
 |zero=>
  intro L a w fH Ap K8 hr hy hS MW H
  refine⟨fun h=>(by rw[h] at hr;cases hr),fun j hj=>?_⟩
  by_cases vr:j=i
  ·subst vr;exact hy.wpOp hi hS ⟨MW,H⟩
  ·have:=ready_mono hj vr
   rw[H.1] at this
   cases this
 |succ fuel ih=>
  intro L a w fH Ap K8 hr hy hS MW H
  refine⟨fun h=>(by rw[h] at hr;cases hr),fun j hj=>?_⟩
  by_cases vr:j=i
  ·subst vr;exact hy.wpOp hi hS ⟨MW,H⟩
  ·have h1:=H.2 j (ready_mono hj vr)
   obtain⟨SV,oj,EH,mS⟩:=mem_ready.1 hj
   have Eb:∀e∈oj.after,Region.binds .any e=true->e.on≠i:=fun e he hb heq=>by
    have h1:=Kg (mS e he hb)
    rw[heq,(mem_ready.1 hr).1] at h1
    cases h1
   have TJ:j∉mo:=fun hm=>aaf L fH hr j hm hj
   have aeK:∀m∈mo,(L.setIfInBounds j true).getD m true=false:=fun m hm=>by
    rw[getD_set_ne true (show j≠m from fun e=>TJ (by rw[e];exact hm))];exact Ap m hm
   have aeL:∀m∈mo,((L.setIfInBounds i true).setIfInBounds j true).getD m true=false:=fun m hm=>by
    rw[getD_set_ne true (show j≠m from fun e=>TJ (by rw[e];exact hm)),getD_set_ne true (show i≠m from fun e=>LQ m hm e.symm)];exact Ap m hm
   have h2:=wpOp_putIf EH (K8 j oj EH vr SV Eb) (fun cs b=>uS i oi cs b hi) (fun cs b=>uS j oj cs b EH) hQ hy h1
   have adG:∀k ok,ops[k]?=some ok->k≠i->(L.setIfInBounds j true).getD k true=false->
    (∀e∈ok.after,Region.binds .any e=true->e.on≠i)->oi.apart ops ok=true:=fun k ok hk Cn TL fu=>by
    refine K8 k ok hk Cn ?_ fu
    by_cases TM:j=k
    ·subst TM;exact SV
    ·rw[getD_set_ne true TM] at TL;exact TL
   refine wpOp_mono (fun a' w' h3=>?_) h2
   obtain⟨h3y,Ie,TN⟩:=h3
   have e0:(L.setIfInBounds i true).setIfInBounds j true=(L.setIfInBounds j true).setIfInBounds i true:=Array.setIfInBounds_comm _ _ (Ne.symm vr)
   have hYw:=MV _ _ aeL Ie
   rw[e0] at Ie TN
   exact⟨Ic _ _ Ie,ih (L.setIfInBounds j true) a' w' (fH.step hj) aeK adG (ready_mono hr (Ne.symm vr)) h3y hYw Ie TN⟩
end
def alone (op:Op):Bool:=
 match op with
 |.alloc _|.box _ _|.buildSlice _ _ _|.store _ _ _|.makeSlice _ _ _=>true
 |.call ⟨.builtin .append,_,_⟩=>true
 |.call ⟨.value _,_,_⟩=>true
 |_=>false
def DJ (hr:List AO) (md:List Nat) (ms:List Nat):Bool:=ms.all fun m=>md.elem m||Nat.ble hr.length m
def Kh:List Oper->Nat->List Nat
 |[],_=>[]
 |o::l,i=>bif alone o.op then i::Kh l (i+1) else Kh l (i+1)
def fK (ops:List Oper) (md:List Nat):List Nat:=
 match md.filter (Nat.ble 1000) with
 |[]=>Kh ops 0
 |l=>l.map (·-1000)
def ox (mo md:List Nat) (L0 L:Array Bool):List Nat:=bif mo.all (fun j=>L0.getD j true||!L.getD j true) then[] else md
def loadT (ops:List Oper) (hr:List AO) (md:List Nat) (gr:Bool) (i:Nat) (op:Op) (s:S) (t:T):T:=
 match xh op s with
 |some o=>bif Nat.blt o hr.length then(bif md.elem o then .ask (KL ops (fK ops md) i=true) t else t) else .fail 64
 |none=>t
inductive PT where
 |done
 |one (i:Nat) (al:Bool) (r:PT)
 |alt (i:Nat) (a r:PT)
def PT.rN:PT->List Nat
 |.one i true _=>[i]
 |.alt i _ r=>i::r.rN
 |_=>[]
def PT.depth:PT->Nat
 |.done=>0
 |.one _ _ r=>r.depth+1
 |.alt _ a r=>max (a.depth+1) r.depth
def PT.of:List (Nat×Bool)->PT
 |[]=>.done
 |(i,al)::r=>.one i al (PT.of r)
def oN (ops:Array Oper):PT->Array Bool->Bool->Bool
 |.done,L,ch=>!ch&&(Region.ready .any ops L).isEmpty
 |.one i false r,L,ch=>!ch&&((ops[i]?).isSome&&(Region.free .any ops L i&&(Region.ready .any ops L).contains i))&&oN ops r (L.setIfInBounds i true) false
 |.one i true r,L,ch=>(ops[i]?).isSome&&(ch||Region.ready .any ops L==[i])&&oN ops r (L.setIfInBounds i true) false
 |.alt i a r,L,ch=>(ops[i]?).isSome&&(ch||Region.ready .any ops L==i::r.rN)&&(oN ops a (L.setIfInBounds i true) false&&oN ops r L true)
def tO (E:En) (ops:List Oper) (hr:List AO) (md:List Nat) (i:Nat) (al gr:Bool) (k:Bool->S->T) (s:S):T:=
 match xZ ops i with
 |none=>.fail 60
 |some o=>match sX ops o s with
  |none=>.fail 61
  |some b=>
   let body:=fun s:S=>bif al then(bif DJ hr (bif (fK ops md).elem i then md else[]) (nj o.op s) then yP E o.op o.type s (fun d s'=>put E o.dst d s' (k true)) else .fail 62)
    else bif AS E o.op s then .fail 63
    else bif AR E o.op s then loadT ops hr md gr i o.op s (B3 E o.op s (fun d=>put E o.dst d s (k gr)))
    else B2 E o.op s (fun d=>put E o.dst d s (k gr))
   bif !al&&(fK ops md).elem i then .fail 63 else
   match o.guard with
   |none=>body s
   |some (j,want)=>bT b (body (lit ops s j want)) (put E o.dst (.aj []) (lit ops s j (!want)) (k gr))
def pV (E:En) (ops:List Oper) (hr:List AO) (md:List Nat):PT->Bool->S->(S->T)->T
 |.done,_,s,k=>k s
 |.one i al r,gr,s,k=>tO E ops hr md i al gr (fun g s'=>pV E ops hr md r g s' k) s
 |.alt i a r,gr,s,k=>.both (tO E ops hr md i true gr (fun g s'=>pV E ops hr md a g s' k) s) (pV E ops hr md r gr s k)
section
variable {P:Program} {Q:Exit->S->Prop} {C:Cx}
def Aq (md:List Nat) (n:Nat) (g:bH) (h:List AO) (b:Nat):Prop:=∃(o:Nat) (ao:AO) (p:Option Nat×Value),(o∈md\/n<=o)/\h[o]?=some ao/\g[o]?=some p/\ao.owns p b
def SB (mo md:List Nat) (n:Nat) (L0:Array Bool) (g:bH) (h:List AO) (w:World):Array Bool->World->Prop:=fun L w'=>Ext (Aq (ox mo md L0 L) n g h) w w'
theorem Ya {hr:List AO} {md ms:List Nat} (h:DJ hr md ms=true):∀m∈ms,m∈md\/hr.length<=m:=by
 intro m hm
 have:=List.all_eq_true.1 h m hm
 rw[Bool.or_eq_true] at this
 rcases this with e|e
 ·left;simpa using e
 ·right;exact Nat.le_of_ble_eq_true e
def qg (L1 L2:Array Bool):Prop:=∀j,L1.getD j true=true->L2.getD j true=true
theorem qg.refl (L:Array Bool):qg L L:=fun _ h=>h
theorem qg.set {L1 L2:Array Bool} (h:qg L1 L2) (i:Nat):qg L1 (L2.setIfInBounds i true):=fun j hj=>by
 by_cases e:i=j
 ·subst e
  unfold Array.getD
  split
  ·simp
  ·rfl
 ·rw[getD_set_ne true e];exact h j hj
theorem UY (L:Array Bool) (i:Nat):(L.setIfInBounds i true).getD i true=true:=by
 unfold Array.getD
 split
 ·simp
 ·rfl
theorem Iz {ops:Array Oper} {Qc:Exit->Act->World->Prop} {S S':Array Bool->World->Prop} {L1:Array Bool} (hS:∀L w,qg L1 L->S L w->S' L w):∀(fuel:Nat) (L:Array Bool) (a:Act) (w:World),qg L1 L->lC P ops Qc S fuel L a w->lC P ops Qc S' fuel L a w
 |0,_,_,_,_,h=>h
 |fuel+1,L,_,_,hl,h=>⟨h.1,fun i hi=>wpOp_mono (fun a' w' h'=>⟨hS _ _ (hl.set i) h'.1,Iz hS fuel _ a' w' (hl.set i) h'.2⟩) (h.2 i hi)⟩
theorem aag {mo md:List Nat} {L0 L:Array Bool} (h:∀j∈mo,L.getD j true=false):ox mo md L0 L=[]:=by
 unfold ox
 have:mo.all (fun j=>L0.getD j true||!L.getD j true)=true:=List.all_eq_true.2 fun j hj=>by rw[h j hj];simp
 rw[this];rfl
theorem aco {mo md:List Nat} {L0 L:Array Bool} {i:Nat} (hi:i∉mo):ox mo md L0 (L.setIfInBounds i true)=ox mo md L0 L:=by
 unfold ox
 congr 1
 have:∀j∈mo,(L0.getD j true||!(L.setIfInBounds i true).getD j true)=(L0.getD j true||!L.getD j true):=fun j hj=>by
  rw[getD_set_ne true (show i≠j from fun e=>hi (by rw[e];exact hj))]
 induction mo with
 |nil=>rfl
 |cons m mo ih=>
  rw[List.all_cons,List.all_cons,this m (by simp),ih (fun h=>hi (by simp[h])) (fun j hj=>this j (by simp[hj]))]
theorem aah {mo md:List Nat} {L0 L:Array Bool} {i:Nat} (hi:i∉mo):ox mo md (L0.setIfInBounds i true) L=ox mo md L0 L:=by
 unfold ox
 congr 1
 have:∀j∈mo,((L0.setIfInBounds i true).getD j true||!L.getD j true)=(L0.getD j true||!L.getD j true):=fun j hj=>by
  rw[getD_set_ne true (show i≠j from fun e=>hi (by rw[e];exact hj))]
 induction mo with
 |nil=>rfl
 |cons m mo ih=>
  rw[List.all_cons,List.all_cons,this m (by simp),ih (fun h=>hi (by simp[h])) (fun j hj=>this j (by simp[hj]))]
theorem KM (mo md:List Nat) (L0 L:Array Bool):ox mo md L0 L=[]\/(ox mo md L0 L=md/\∃j∈mo,L0.getD j true=false/\L.getD j true=true):=by
 unfold ox
 cases h:mo.all (fun j=>L0.getD j true||!L.getD j true) with
 |true=>exact .inl rfl
 |false=>
  obtain⟨j,hj,hq⟩:=List.all_eq_false.1 h
  simp only[Bool.or_eq_true,Bool.not_eq_true',not_or,Bool.not_eq_true,Bool.not_eq_false] at hq
  exact .inr ⟨rfl,j,hj,hq⟩
theorem KN {mo md:List Nat} {L0 L:Array Bool} {j:Nat} (hj:j∈mo) (h0:L0.getD j true=false) (h1:L.getD j true=true):ox mo md L0 L=md:=by
 unfold ox
 have:mo.all (fun j=>L0.getD j true||!L.getD j true)=false:=List.all_eq_false.2 ⟨j,hj,by rw[h0,h1];simp⟩
 rw[this];rfl
theorem acp {mo md:List Nat} {L0 L:Array Bool} {o:Nat} (h:o∈ox mo md L0 L):o∈md:=by
 rcases KM mo md L0 L with e|⟨e,_⟩
 ·rw[e] at h;simp at h
 ·rw[e] at h;exact h
theorem SB.back {mo md:List Nat} {n i:Nat} {L L2:Array Bool} {I I':Nat->Prop} {g g':bH} {h h':List AO} {w w' w2:World} {M:List Nat} (hd:Den I g w h) (hM:∀m∈M,(i∈mo/\m∈md)\/n<=m) (hi:L.getD i true=false) (k:Af I g w h M I' g' w' h') (hl:qg (L.setIfInBounds i true) L2) (hS:SB mo md n (L.setIfInBounds i true) g' h' w' L2 w2):SB mo md n L g h w L2 w2:=by
 have hi2:L2.getD i true=true:=hl i (UY L i)
 have TO:∀b,gM M g h b->Aq (ox mo md L L2) n g h b:=by
  rintro b ⟨o,ao,p,hm,h1,h2,h3⟩
  refine⟨o,ao,p,?_,h1,h2,h3⟩
  rcases hM o hm with⟨e1,e2⟩|e
  ·rw[KN e1 hi hi2];exact .inl e2
  ·exact .inr e
 refine(k.ext.mono (fun b _ hb=>TO b hb)).trans hS (fun x hx ho=>?_)
 obtain⟨o,cA,p,hm,h1,h2,h3⟩:=ho
 have Hr:o∈ox mo md L L2\/n<=o:=by
  rcases hm with hm|hm
  ·rcases KM mo md (L.setIfInBounds i true) L2 with e|⟨e,j,hj,e1,e2⟩
   ·rw[e] at hm;simp at hm
   ·rw[e] at hm
    have qb:L.getD j true=false:=by
     cases hq:L.getD j true with
     |false=>rfl
     |true=>rw[(qg.refl L).set i j hq] at e1;cases e1
    rw[KN hj qb e2]
    exact .inl hm
  ·exact .inr hm
 rcases Nat.lt_or_ge o h.length with hlt|dm
 ·obtain⟨ao,e1,e2⟩:=k.al o cA p x hlt h1 h2 h3
  have hg:g[o]?=some (g[o]'(by rw[hd.len];exact hlt)):=List.getElem?_eq_getElem _
  have:=k.gx o _ hg
  rw[h2] at this
  injection this with this
  exact⟨o,ao,p,Hr,e1,by rw[hg,this],e2⟩
 ·rcases k.nw o cA p x dm h1 h2 h3 with e|e
  ·exact TO x e
  ·omega
theorem SB.pass {mo md:List Nat} {n i:Nat} {L L2:Array Bool} {g:bH} {h:List AO} {w w2:World} (hi:L.getD i true=false) (hl:qg (L.setIfInBounds i true) L2) (hS:SB mo md n (L.setIfInBounds i true) g h w L2 w2):SB mo md n L g h w L2 w2:=by
 refine Ext.mono hS (fun x _ ho=>?_)
 obtain⟨o,cA,p,hm,h1,h2,h3⟩:=ho
 refine⟨o,cA,p,?_,h1,h2,h3⟩
 rcases hm with hm|hm
 ·rcases KM mo md (L.setIfInBounds i true) L2 with e|⟨e,j,hj,e1,e2⟩
  ·rw[e] at hm;simp at hm
  ·rw[e] at hm
   have qb:L.getD j true=false:=by
    cases hq:L.getD j true with
    |false=>rfl
    |true=>rw[(qg.refl L).set i j hq] at e1;cases e1
   rw[KN hj qb e2]
   exact .inl hm
 ·exact .inr hm
section
variable {E:En} {ops:Array Oper} {Qc:Exit->Act->World->Prop} {hr:List AO} {md:List Nat} {kk:Bool->S->T} {fuel i:Nat} {L:Array Bool} {gr:Bool} {s:S} {a:Act} {w:World} {I:Nat->Prop} {g:bH} {o:Oper}
theorem Oh (aM:E.tb.ok P) (hE:E.n=C.n/\E.lo=C.lo) (hX:Ch C Qc) (ho:ops[i]?=some o) (Ig:i∈Region.ready .any ops L) (h:Inv C I g s a w) (hk:(tO E ops.toList hr md i true gr kk s).ok P Q)
 (hc:∀ya s' a' w' I' g',Inv C I' g' s' a' w'->(kk ya s').ok P Q->lC P ops Qc (SB (fK ops.toList md) md hr.length (L.setIfInBounds i true) g' s'.h w') fuel (L.setIfInBounds i true) a' w'):
 Go.wpOp P ops Qc i (fun a' w'=>SB (fK ops.toList md) md hr.length L g s.h w (L.setIfInBounds i true) w'/\lC P ops Qc (SB (fK ops.toList md) md hr.length L g s.h w) fuel (L.setIfInBounds i true) a' w') a w:=by
 have y7:=(mem_ready.1 Ig).1
 have step:∀{g':bH} {h':List AO} {w':World} {a':Act},(∀L2 w2,qg (L.setIfInBounds i true) L2->SB (fK ops.toList md) md hr.length (L.setIfInBounds i true) g' h' w' L2 w2->SB (fK ops.toList md) md hr.length L g s.h w L2 w2)->lC P ops Qc (SB (fK ops.toList md) md hr.length (L.setIfInBounds i true) g' h' w') fuel (L.setIfInBounds i true) a' w'->
  SB (fK ops.toList md) md hr.length L g s.h w (L.setIfInBounds i true) w'/\lC P ops Qc (SB (fK ops.toList md) md hr.length L g s.h w) fuel (L.setIfInBounds i true) a' w':=
  fun hb hg=>⟨hb _ _ (qg.refl _) (Ext.refl _ _),Iz hb _ _ _ _ (qg.refl _) hg⟩
 simp only[tO] at hk
 rw[Ds,Array.getElem?_toList,ho] at hk
 simp only at hk
 cases hg:sX ops.toList o s with
 |none=>rw[hg] at hk;exact hk.elim
 |some b=>
  rw[hg] at hk
  simp only[Bool.not_true,Bool.false_and,cond_false] at hk
  have hw:=Jj h hg
  have main:∀s1:S,Inv C I g s1 a w->s1.h=s.h->b=true->(bif true then(bif DJ hr (bif (fK ops.toList md).elem i then md else[]) (nj o.op s1) then yP E o.op o.type s1 (fun d s'=>put E o.dst d s' (kk true)) else .fail 62)
   else bif AS E o.op s1 then .fail 63
   else bif AR E o.op s1 then loadT ops.toList hr md gr i o.op s1 (B3 E o.op s1 (fun d=>put E o.dst d s1 (kk gr)))
   else B2 E o.op s1 (fun d=>put E o.dst d s1 (kk gr))).ok P Q->Go.wpOp P ops Qc i (fun a' w'=>SB (fK ops.toList md) md hr.length L g s.h w (L.setIfInBounds i true) w'/\lC P ops Qc (SB (fK ops.toList md) md hr.length L g s.h w) fuel (L.setIfInBounds i true) a' w') a w:=by
   intro s1 h1 e1 hb hq
   subst hb
   simp only[cond_true] at hq
   cases hm:DJ hr (bif (fK ops.toList md).elem i then md else[]) (nj o.op s1) with
   |false=>rw[hm] at hq;exact hq.elim
   |true=>
    rw[hm] at hq
    simp only[cond_true] at hq
    have hM:∀m∈nj o.op s1,(i∈fK ops.toList md/\m∈md)\/hr.length<=m:=fun m Hr=>by
     rcases Ya hm m Hr with e|e
     ·cases he:(fK ops.toList md).elem i with
      |true=>rw[he] at e;exact .inl ⟨by simpa using he,e⟩
      |false=>rw[he] at e;simp at e
     ·exact .inr e
    unfold Go.wpOp
    simp only[ho,hw,if_true]
    refine .inl ?_
    unfold yP at hq
    cases hW:AS E o.op s1 with
    |true=>
     rw[hW] at hq
     simp only[cond_true] at hq
     rcases P4 aM h1.wd h1.ev h1.den (o:=o) hq with⟨v,w',I',g',d,s',kR,ht,ha,hv,dc⟩|⟨f,vs,kR,fH⟩|⟨v,kR,hp⟩
     ·obtain⟨s2,qU,h2,iH⟩:=(h1.step ht ha).put hE hv dc
      have nB:=step (g':=g') (h':=s2.h) (fun L2 w2 hl hS=>by rw[qU] at hS;rw[<-e1];exact SB.back h1.den hM y7 ha hl hS) (hc true s2 _ w' I' g' h2 iH)
      unfold Oper.wp
      rcases kR with kR|⟨kR,rfl⟩
      ·rw[kR];exact nB
      ·rw[kR];exact nB
     ·unfold Oper.wp
      rw[kR]
      refine fH.mono (fun e w' hR=>?_)
      rcases hR with⟨v,I',g',d,h',rfl,ha,hv,dc⟩|⟨ch,rfl,hp,hx⟩
      case inr=>exact hX a w' ch hp h1.vp (h1.SU hx)
      obtain⟨s2,qU,h2,iH⟩:=(h1.step (s':={s1 with h:=h'}) rfl ha).put hE hv dc
      exact step (g':=g') (h':=s2.h) (fun L2 w2 hl hS=>by rw[qU] at hS;rw[<-e1];exact SB.back h1.den hM y7 ha hl hS) (hc true s2 _ w' I' g' h2 iH)
     ·unfold Oper.wp
      rw[kR]
      exact hX a w _ hp h1.vp h1.ext
    |false=>
     rw[hW] at hq
     simp only[cond_false] at hq
     have rest:∀v d,(execOp a.eval o).run P w=.ok (.value v) w->Vr I g w v d->(put E o.dst d s1 (kk true)).ok P Q->o.wp P a w (fun a' w'=>SB (fK ops.toList md) md hr.length L g s.h w (L.setIfInBounds i true) w'/\lC P ops Qc (SB (fK ops.toList md) md hr.length L g s.h w) fuel (L.setIfInBounds i true) a' w') Qc:=by
      intro v d kR hv dc
      obtain⟨s2,qU,h2,iH⟩:=h1.put hE hv dc
      unfold Oper.wp
      rw[kR]
      exact step (g':=g) (h':=s2.h) (fun L2 w2 hl hS=>by rw[qU,e1] at hS;exact SB.pass y7 hl hS) (hc true s2 _ w I g h2 iH)
     cases hL:AR E o.op s1 with
     |true=>
      rw[hL] at hq
      simp only[cond_true] at hq
      obtain⟨v,d,kR,hv,dc⟩:=Dg aM h1.ev h1.den (o:=o) hq
      exact rest v d (kR w (fun _ _ _=>rfl) (fun _ _ _ _ _ _ _ _=>rfl)) hv dc
     |false=>
      rw[hL] at hq
      simp only[cond_false] at hq
      obtain⟨v,d,kR,hv,dc⟩:=JK aM h1.ev h1.den (o:=o) hq
      exact rest v d (kR w) hv dc
  split at hk
  ·rename_i e
   have hb:b=true:=by
    have:sX ops.toList o s=some true:=by unfold sX;rw[e]
    rw[hg] at this
    injection this
   exact main s h rfl hb hk
  ·rename_i j want e
   have hlt:=KK h e hg
   cases b with
   |true=>exact main _ hlt.1 hlt.2 rfl hk
   |false=>
    rw[LB] at hk
    obtain⟨s2,qU,h2,iH⟩:=hlt.1.put hE .undef hk
    have aeM:=hc gr s2 _ w I g h2 iH
    unfold Go.wpOp
    simp only[ho,hw]
    exact step (g':=g) (h':=s2.h) (fun L2 w2 hl hS=>by rw[qU,hlt.2] at hS;exact SB.pass y7 hl hS) aeM
theorem Yb (aM:E.tb.ok P) (hE:E.n=C.n/\E.lo=C.lo) (fH:qz ops L) (uS:Region.noSelect ops=true) (hP:∀c a w d v,Qc (.panic c) (a.put d v) w->Qc (.panic c) a w) (ho:ops[i]?=some o) (CH:Region.free .any ops L i=true) (MY:(Region.ready .any ops L).contains i=true)
 (h:Inv C I g s a w) (hk:(tO E ops.toList hr md i false gr kk s).ok P Q)
 (hc:∀ya s' a' w' I' g',Inv C I' g' s' a' w'->(kk ya s').ok P Q->lC P ops Qc (SB (fK ops.toList md) md hr.length (L.setIfInBounds i true) g' s'.h w') fuel (L.setIfInBounds i true) a' w'):
 lC P ops Qc (SB (fK ops.toList md) md hr.length L g s.h w) (fuel+1) L a w:=by
 simp only[tO] at hk
 rw[Ds,Array.getElem?_toList,ho] at hk
 simp only at hk
 cases hg:sX ops.toList o s with
 |none=>rw[hg] at hk;exact hk.elim
 |some b=>
  rw[hg] at hk
  simp only[Bool.not_false,Bool.true_and] at hk
  cases CG:(fK ops.toList md).elem i with
  |true=>rw[CG] at hk;exact hk.elim
  |false=>
  rw[CG] at hk
  simp only[cond_false] at hk
  have TP:i∉fK ops.toList md:=fun h=>by
   have:(fK ops.toList md).elem i=true:=by simpa using h
   rw[CG] at this;cases this
  have same:∀{s2:S} {a2:Act},s2.h=s.h->lC P ops Qc (SB (fK ops.toList md) md hr.length (L.setIfInBounds i true) g s2.h w) fuel (L.setIfInBounds i true) a2 w->lC P ops Qc (SB (fK ops.toList md) md hr.length L g s.h w) fuel (L.setIfInBounds i true) a2 w:=fun {s2 a2} e hq=>by
   rw[e] at hq
   refine Iz (L1:=L.setIfInBounds i true) (fun L2 w2 _ hS=>?_) _ _ _ _ (qg.refl _) hq
   unfold SB at hS ⊢
   rwa [aah TP] at hS
  have Ic:∀(L':Array Bool) (w':World),SB (fK ops.toList md) md hr.length L g s.h w (L'.setIfInBounds i true) w'->SB (fK ops.toList md) md hr.length L g s.h w L' w':=fun L' w' h=>by
   unfold SB at h ⊢
   rwa [aco TP] at h
  have SW:SB (fK ops.toList md) md hr.length L g s.h w (L.setIfInBounds i true) w:=Ext.refl _ _
  have zc:∀(L':Array Bool) (w':World),SB (fK ops.toList md) md hr.length L g s.h w L' w'->Ext (Aq md hr.length g s.h) w w':=fun L' w' h=>
   Ext.mono h (fun x _ ⟨o,ao,p,hm,h1,h2,h3⟩=>⟨o,ao,p,hm.imp acp id,h1,h2,h3⟩)
  have hw:=Jj h hg
  have main:∀s1:S,Inv C I g s1 a w->s1.h=s.h->b=true->(bif false then(bif DJ hr (bif (fK ops.toList md).elem i then md else[]) (nj o.op s1) then yP E o.op o.type s1 (fun d s'=>put E o.dst d s' (kk true)) else .fail 62)
   else bif AS E o.op s1 then .fail 63
   else bif AR E o.op s1 then loadT ops.toList hr md gr i o.op s1 (B3 E o.op s1 (fun d=>put E o.dst d s1 (kk gr)))
   else B2 E o.op s1 (fun d=>put E o.dst d s1 (kk gr))).ok P Q->lC P ops Qc (SB (fK ops.toList md) md hr.length L g s.h w) (fuel+1) L a w:=by
   intro s1 h1 e1 hb hq
   subst hb
   simp only[cond_false] at hq
   cases hW:AS E o.op s1 with
   |true=>rw[hW] at hq;exact hq.elim
   |false=>
    rw[hW] at hq
    simp only[cond_false] at hq
    have rest:∀(mo:List Nat) (Y:World->Prop) v d,KL ops.toList mo i=true->(∀j∈mo,L.getD j true=false)->(∀L' w',(∀j∈mo,L'.getD j true=false)->SB (fK ops.toList md) md hr.length L g s.h w L' w'->Y w')->Y w->(∀w',Y w'->(execOp a.eval o).run P w'=.ok (.value v) w')->Vr I g w v d->(put E o.dst d s1 (kk gr)).ok P Q->lC P ops Qc (SB (fK ops.toList md) md hr.length L g s.h w) (fuel+1) L a w:=by
     intro mo Y v d GC Ap MV hY kR hv dc
     obtain⟨s2,qU,h2,iH⟩:=h1.put hE hv dc
     exact ND (mo:=mo) (Y:=Y) ho (Region.noSelect_spec uS) (fun c a w=>hP c a w _ _) MV GC Ic fuel L a w fH Ap (Region.free_spec ho CH) (by simpa using MY) (.inl ⟨hw,kR⟩) hY SW (same (by rw[qU,e1]) (hc gr s2 _ w I g h2 iH))
    cases hL:AR E o.op s1 with
    |true=>
     rw[hL] at hq
     simp only[cond_true] at hq
     unfold loadT at hq
     split at hq
     ·rename_i n hn
      cases El:Nat.blt n hr.length with
      |false=>rw[El] at hq;exact hq.elim
      |true=>
      rw[El] at hq
      simp only[cond_true] at hq
      have jr:n<hr.length:=Nat.le_of_ble_eq_true El
      have key:∀(MZ:List Nat) (w':World),n∉MZ->Ext (Aq MZ hr.length g s.h) w w'->∀(n':Nat) ao p b,xh o.op s1=some n'->s1.h[n']?=some ao->g[n']?=some p->ao.owns p b->w'.heap[b]?=w.heap[b]?:=by
       intro MZ w' CI hx n' ao p b mw k1 h2 h3
       rw[hn] at mw
       injection mw with mw
       subst mw
       refine hx.block b (h1.den.lt ⟨n,ao,p,k1,h2,h3⟩) (fun ⟨o2,qZ,p2,hm,q1,q2,q3⟩=>?_)
       have:=h1.den.sep n o2 ao qZ p p2 b k1 (by rw[e1];exact q1) h2 q2 h3 q3
       subst this
       rcases hm with hm|hm
       ·exact CI hm
       ·omega
      cases CI:md.elem n with
      |true=>
       rw[CI] at hq
       simp only[cond_true] at hq
       obtain⟨GC,hq⟩:=hq
       have Ap:∀j∈fK ops.toList md,L.getD j true=false:=fun j hj=>by
        have TQ:=List.all_eq_true.1 GC j hj
        rw[Bool.and_eq_true] at TQ
        cases hd:L.getD j true with
        |false=>rfl
        |true=>
         have:=Jk fH _ j i TQ.1 (fun o' xV e he hb=>fH j o' xV hd e he hb)
         rw[(mem_ready.1 (show i∈Region.ready .any ops L by simpa using MY)).1] at this
         cases this
       obtain⟨v,d,kR,hv,dc⟩:=Dg aM h1.ev h1.den (o:=o) hq
       refine rest (fK ops.toList md) (fun w'=>Ext (Aq [] hr.length g s.h) w w') v d GC Ap (fun L' w' hp hx=>by unfold SB at hx;rwa [aag hp] at hx) (Ext.refl _ _) (fun w' hx=>kR w' (fun mw=>by rw[hn] at mw;cases mw) (key [] w' (by simp) hx)) hv dc
      |false=>
       rw[CI] at hq
       simp only[cond_false] at hq
       have xU:n∉md:=fun hm=>by
        have:md.elem n=true:=by simpa using hm
        rw[this] at CI
        cases CI
       obtain⟨v,d,kR,hv,dc⟩:=Dg aM h1.ev h1.den (o:=o) hq
       exact rest [] (fun w'=>Ext (Aq md hr.length g s.h) w w') v d rfl (fun j hj=>by simp at hj) (fun L' w' _ hx=>zc L' w' hx) (Ext.refl _ _) (fun w' hx=>kR w' (fun mw=>by rw[hn] at mw;cases mw) (key md w' xU hx)) hv dc
     ·rename_i hn
      obtain⟨v,d,kR,hv,dc⟩:=Dg aM h1.ev h1.den (o:=o) hq
      refine rest [] (fun w'=>Ext (Aq md hr.length g s.h) w w') v d rfl (fun j hj=>by simp at hj) (fun L' w' _ hx=>zc L' w' hx) (Ext.refl _ _) (fun w' hx=>kR w' (fun _ b hb=>?_) (fun n' ao p b mw k1 h2 h3=>by rw[hn] at mw;cases mw)) hv dc
      refine hx.block b (h1.den.aG b hb) (fun ⟨o2,qZ,p2,_,q1,q2,q3⟩=>?_)
      exact h1.den.own o2 qZ p2 b (by rw[e1];exact q1) q2 q3 hb
    |false=>
     rw[hL] at hq
     simp only[cond_false] at hq
     obtain⟨v,d,kR,hv,dc⟩:=JK aM h1.ev h1.den (o:=o) hq
     exact rest [] (fun _=>True) v d rfl (fun j hj=>by simp at hj) (fun _ _ _ _=>trivial) trivial (fun w' _=>kR w') hv dc
  split at hk
  ·rename_i e
   have hb:b=true:=by
    have:sX ops.toList o s=some true:=by unfold sX;rw[e]
    rw[hg] at this
    injection this
   exact main s h rfl hb hk
  ·rename_i j want e
   have hlt:=KK h e hg
   cases b with
   |true=>exact main _ hlt.1 hlt.2 rfl hk
   |false=>
    rw[LB] at hk
    obtain⟨s2,qU,h2,iH⟩:=hlt.1.put hE .undef hk
    exact ND (mo:=[]) (Y:=fun _=>True) ho (Region.noSelect_spec uS) (fun c a w=>hP c a w _ _) (fun _ _ _ _=>trivial) rfl Ic fuel L a w fH (fun j hj=>by simp at hj) (Region.free_spec ho CH) (by simpa using MY) (.inr ⟨hw,rfl⟩) trivial SW (same (by rw[qU,hlt.2]) (hc gr s2 _ w I g h2 iH))
end
theorem V5 {ops:Array Oper} {Qc:Exit->Act->World->Prop} {S:Array Bool->World->Prop} {L:Array Bool} {a:Act} {w:World} (hr:Region.ready .any ops L=[]) (h:Qc .normal a w):∀fuel,lC P ops Qc S fuel L a w
 |0=>⟨hr,h⟩
 |_+1=>⟨fun _=>h,by rw[hr];simp⟩
theorem WW {E:En} (aM:E.tb.ok P) (hE:E.n=C.n/\E.lo=C.lo) {ops:Array Oper} {Qc:Exit->Act->World->Prop} (hX:Ch C Qc) (uS:Region.noSelect ops=true) (hP:∀c a w d v,Qc (.panic c) (a.put d v) w->Qc (.panic c) a w) {k:S->T} (hK:∀s' a' w',lV C s' a' w'->(k s').ok P Q->Qc .normal a' w')
 {hr:List AO} {md:List Nat} (pl:PT):
 (∀(fuel:Nat) (L:Array Bool) (gr:Bool) (s:S) (a:Act) (w:World) (I:Nat->Prop) (g:bH),qz ops L->Inv C I g s a w->oN ops pl L false=true->pl.depth<=fuel->(pV E ops.toList hr md pl gr s k).ok P Q->lC P ops Qc (SB (fK ops.toList md) md hr.length L g s.h w) fuel L a w)/\
 (∀(fuel:Nat) (L:Array Bool) (gr:Bool) (s:S) (a:Act) (w:World) (I:Nat->Prop) (g:bH),qz ops L->(∀j∈pl.rN,j∈Region.ready .any ops L)->Inv C I g s a w->oN ops pl L true=true->pl.depth<=fuel+1->(pV E ops.toList hr md pl gr s k).ok P Q->∀j∈pl.rN,Go.wpOp P ops Qc j (fun a' w'=>SB (fK ops.toList md) md hr.length L g s.h w (L.setIfInBounds j true) w'/\lC P ops Qc (SB (fK ops.toList md) md hr.length L g s.h w) fuel (L.setIfInBounds j true) a' w') a w):=by
 induction pl with
 |done=>
  refine⟨fun fuel L gr s a w I g fH h hp hf hk=>?_,fun fuel L gr s a w I g fH nE h hp hf hk j hj=>by simp[PT.rN] at hj⟩
  have hr:Region.ready .any ops L=[]:=by
   simp only[oN,Bool.and_eq_true] at hp
   exact List.isEmpty_iff.1 hp.2
  exact V5 hr (hK _ _ _ ⟨I,g,h⟩ hk) fuel
 |one i al r ih=>
  have chain:∀(fuel:Nat) (L:Array Bool) (gr:Bool) (s:S) (a:Act) (w:World) (I:Nat->Prop) (g:bH),qz ops L->i∈Region.ready .any ops L->Inv C I g s a w->(∃ch,oN ops (.one i true r) L ch=true)->r.depth<=fuel->(pV E ops.toList hr md (.one i true r) gr s k).ok P Q->Go.wpOp P ops Qc i (fun a' w'=>SB (fK ops.toList md) md hr.length L g s.h w (L.setIfInBounds i true) w'/\lC P ops Qc (SB (fK ops.toList md) md hr.length L g s.h w) fuel (L.setIfInBounds i true) a' w') a w:=by
   intro fuel L gr s a w I g fH Ig h ⟨ch,hp⟩ hf hk
   simp only[oN,Bool.and_eq_true] at hp
   obtain⟨⟨oT,_⟩,iY⟩:=hp
   obtain⟨o,ho⟩:=Option.isSome_iff_exists.1 oT
   exact Oh aM hE hX ho Ig h hk (fun ya s' a' w' I' g' h' dc=>ih.1 fuel _ ya s' a' w' I' g' (fH.step Ig) h' iY hf dc)
  cases al with
  |true=>
   refine⟨fun fuel L gr s a w I g fH h hp hf hk=>?_,fun fuel L gr s a w I g fH nE h hp hf hk j hj=>?_⟩
   ·cases fuel with
    |zero=>simp[PT.depth] at hf
    |succ fuel=>
     have nE:Region.ready .any ops L=[i]:=by
      simp only[oN,Bool.and_eq_true,Bool.false_or,beq_iff_eq] at hp
      exact hp.1.2
     refine⟨fun h0=>(by rw[nE] at h0;cases h0),fun j hj=>?_⟩
     have vq:=hj
     rw[nE] at hj
     simp only[List.mem_singleton] at hj
     subst hj
     exact chain fuel L gr s a w I g fH vq h ⟨_,hp⟩ (by simp[PT.depth] at hf;exact hf) hk
   ·have vq:=nE j hj
    simp only[PT.rN,List.mem_singleton] at hj
    subst hj
    exact chain fuel L gr s a w I g fH vq h ⟨_,hp⟩ (by simp[PT.depth] at hf;exact hf) hk
  |false=>
   refine⟨fun fuel L gr s a w I g fH h hp hf hk=>?_,fun fuel L gr s a w I g fH nE h hp hf hk j hj=>by simp[PT.rN] at hj⟩
   cases fuel with
   |zero=>simp[PT.depth] at hf
   |succ fuel=>
    simp only[oN,Bool.and_eq_true] at hp
    obtain⟨⟨_,oT,rT,iY⟩,EB⟩:=hp
    obtain⟨o,ho⟩:=Option.isSome_iff_exists.1 oT
    exact Yb aM hE fH uS hP ho rT iY h hk (fun ya s' a' w' I' g' h' dc=>ih.1 fuel _ ya s' a' w' I' g' (fH.step (by simpa using iY)) h' EB (by simp[PT.depth] at hf;exact hf) dc)
 |alt i b r AQ EI=>
  have chain:∀(fuel:Nat) (L:Array Bool) (gr:Bool) (s:S) (a:Act) (w:World) (I:Nat->Prop) (g:bH),qz ops L->(∀j∈(PT.alt i b r).rN,j∈Region.ready .any ops L)->Inv C I g s a w->(∃ch,oN ops (.alt i b r) L ch=true)->(PT.alt i b r).depth<=fuel+1->(pV E ops.toList hr md (.alt i b r) gr s k).ok P Q->∀j∈(PT.alt i b r).rN,Go.wpOp P ops Qc j (fun a' w'=>SB (fK ops.toList md) md hr.length L g s.h w (L.setIfInBounds j true) w'/\lC P ops Qc (SB (fK ops.toList md) md hr.length L g s.h w) fuel (L.setIfInBounds j true) a' w') a w:=by
   intro fuel L gr s a w I g fH nE h ⟨ch,hp⟩ hf hk j hj
   simp only[oN,Bool.and_eq_true] at hp
   obtain⟨⟨oT,_⟩,iY,EB⟩:=hp
   simp only[PT.depth] at hf
   have vq:=nE j hj
   simp only[PT.rN,List.mem_cons] at hj
   rcases hj with rfl|hj
   ·obtain⟨o,ho⟩:=Option.isSome_iff_exists.1 oT
    exact Oh aM hE hX ho vq h hk.1 (fun ya s' a' w' I' g' h' dc=>AQ.1 fuel _ ya s' a' w' I' g' (fH.step vq) h' iY (by omega) dc)
   ·exact EI.2 fuel L gr s a w I g fH (fun j hj=>nE j (by simp[PT.rN,hj])) h EB (by omega) hk.2 j hj
  refine⟨fun fuel L gr s a w I g fH h hp hf hk=>?_,fun fuel L gr s a w I g fH nE h hp hf hk=>chain fuel L gr s a w I g fH nE h ⟨_,hp⟩ hf hk⟩
  cases fuel with
  |zero=>simp only[PT.depth] at hf;omega
  |succ fuel=>
   have nE:Region.ready .any ops L=(PT.alt i b r).rN:=by
    simp only[oN,Bool.and_eq_true,Bool.false_or,beq_iff_eq] at hp
    exact hp.1.2
   refine⟨fun h0=>(by rw[nE] at h0;simp[PT.rN] at h0),?_⟩
   rw[nE]
   exact chain fuel L gr s a w I g fH (fun j hj=>by rw[nE];exact hj) h ⟨_,hp⟩ hf hk
theorem aai {E:En} (aM:E.tb.ok P) (hE:E.n=C.n/\E.lo=C.lo) (Ec:P.follows .mixedOrders=true) {id:Nat} {ops:Array Oper} {Qc:Exit->Act->World->Prop} (hX:Ch C Qc) (uS:Region.noSelect ops=true) (hP:∀c a w d v,Qc (.panic c) (a.put d v) w->Qc (.panic c) a w) {k:S->T} (hK:∀s' a' w',lV C s' a' w'->(k s').ok P Q->Qc .normal a' w')
 {md:List Nat} (pl:PT) (s:S) (a:Act) (w:World) (I:Nat->Prop) (g:bH) (h:Inv C I g s a w.drew) (hp:oN ops pl (Array.replicate ops.size false) false=true) (hf:pl.depth<=ops.size) (hk:(pV E ops.toList s.h md pl false s k).ok P Q):
 (Code.region id ops true).wp P Qc a w:=
 wp_region_any Ec (Og _ _ _ _ ((WW aM hE hX uS hP hK pl).1 ops.size _ false s a w.drew I g (qz.start ops) h hp hf hk))
end
end
section
set_option linter.unusedSectionVars false
variable [Wd]
theorem vW:∀(l:List Nat) (n:Nat),ln l n=l[n]?
 |[],_=>by simp[ln]
 |d::_,0=>by simp[ln]
 |_::l,n+1=>by simp[ln,vW l n]
theorem KO (σ:List Nat):∀ds:List D,D.bO.rl σ ds=ds.map (D.bO σ)
 |[]=>rfl
 |d::ds=>by rw[D.bO.rl,KO σ ds];rfl
theorem vX (σ:List Nat) (ds:List D) (i:Nat):(D.bO.rl σ ds)[i]?=(ds[i]?).map (D.bO σ):=by rw[KO];simp
theorem yG (σ:List Nat) (ds:List D):(D.bO.rl σ ds).length=ds.length:=by rw[KO];simp
section
variable {I:Nat->Prop} {w:World} {σ:List Nat}
theorem Dr.adH {v:Value} {d:D} (h:Dr I w v d):d.bO σ=d:=by
 have key:∀(vs:List Value) (ds:List D),vs.length=ds.length->(∀(i:Nat) v d,vs[i]?=some v->ds[i]?=some d->d.bO σ=d)->D.bO.rl σ ds=ds:=by
  intro vs ds hl ih
  apply List.ext_getElem?
  intro i
  rw[vX]
  cases hd:ds[i]? with
  |none=>rfl
  |some d=>
   have hlt:i<vs.length:=by rw[hl];exact(List.getElem?_eq_some_iff.1 hd).1
   simp[ih i _ d (List.getElem?_eq_getElem hlt) hd]
 induction h with
 |agg vs ds hl h1 h ih=>simp only[D.bO];rw[key vs ds hl ih]
 |aj vs ds hl h ih=>simp only[D.bO];rw[key vs ds hl ih]
 |fn f n vs ds hl h ih=>simp only[D.bO];rw[key vs ds hl ih]
 |_=>rfl
theorem Dr.acq {v:Value} {d':D} (h:Dr I w v d'):∀d:D,d.bO σ=d'->d=d':=by
 have key:∀(vs:List Value) (ds cs:List D),vs.length=ds.length->(∀(i:Nat) v d,vs[i]?=some v->ds[i]?=some d->∀c:D,c.bO σ=d->c=d)->D.bO.rl σ cs=ds->cs=ds:=by
  intro vs ds cs hl ih e
  apply List.ext_getElem?
  intro i
  have hi:=congrArg (·[i]?) e
  simp only[vX] at hi
  cases hc:cs[i]? with
  |none=>rw[hc] at hi;rw[<-hi];rfl
  |some c=>
   rw[hc] at hi
   simp only[Option.map_some] at hi
   have hlt:i<vs.length:=by rw[hl];exact(List.getElem?_eq_some_iff.1 hi.symm).1
   have:=ih i _ _ (List.getElem?_eq_getElem hlt) hi.symm c rfl
   rw[<-hi,<-this]
 induction h with
 |agg vs ds hl h1 h ih=>
  intro d e
  cases d<;>simp only[D.bO] at e<;>first|(cases e;done)|(injection e with e;rw[key vs ds _ hl ih e])|(split at e<;>cases e)
 |aj vs ds hl h ih=>
  intro d e
  cases d<;>simp only[D.bO] at e<;>first|(cases e;done)|(injection e with e;rw[key vs ds _ hl ih e])|(split at e<;>cases e)
 |fn f n vs ds hl h ih=>
  intro d e
  cases d<;>simp only[D.bO] at e<;>first|(cases e;done)|(injection e with e1 e3 e2;rw[e1,e3,key vs ds _ hl ih e2])|(split at e<;>cases e)
 |_=>
  intro d e
  cases d<;>simp only[D.bO] at e<;>first|rfl|exact e|(cases e;done)|(split at e<;>cases e)
theorem Vr.down {g gs:bH} (hσ:∀(i o:Nat),σ[i]?=some o->gs[i]?=g[o]?) {v:Value} {d':D} (h:Vr I g w v d'):∀d:D,d.bO σ=d'->Vr I gs w v d:=by
 induction h with
 |rd h=>intro d e;rw[h.acq d e];exact .rd h
 |any v=>
  intro d e
  cases d<;>simp only[D.bO] at e<;>first|exact .any v|(cases e;done)|(split at e<;>cases e)
 |jI t=>
  intro d e
  cases d<;>simp only[D.bO] at e<;>first|(injection e with e;subst e;exact .jI _)|(cases e;done)|(split at e<;>cases e)
 |oQ=>
  intro d e
  cases d<;>simp only[D.bO] at e<;>first|(injection e with e;subst e;exact .oQ)|(cases e;done)|(split at e<;>cases e)
 |gj t x=>
  intro d e
  cases d<;>simp only[D.bO] at e<;>first|(injection e with e;subst e;exact .gj t x)|(cases e;done)|(split at e<;>cases e)
 |ptr o off b bo h=>
  intro d e
  cases d<;>simp only[D.bO] at e<;>first
   |(cases e;done)
   |(split at e<;>first
    |(cases e;done)
    |(rename_i p hp
      injection e with e1 e2
      subst e1 e2
      rw[vW] at hp
      exact .ptr _ _ b bo (by rw[hσ _ _ hp];exact h)))
 |row o bo a l c h=>
  intro d e
  cases d<;>simp only[D.bO] at e<;>first
   |(cases e;done)
   |(split at e<;>first
    |(cases e;done)
    |(rename_i p hp
      injection e with e1
      subst e1
      rw[vW] at hp
      exact .row _ bo a l c (by rw[hσ _ _ hp];exact h)))
 |gy o n i off b base l c bo h=>
  intro d e
  cases d<;>simp only[D.bO] at e<;>first
   |(cases e;done)
   |(split at e<;>first
    |(cases e;done)
    |(rename_i p hp
      injection e with e1 e2 e3 e4
      subst e1 e2 e3 e4
      rw[vW] at hp
      exact .gy _ _ _ _ b base l c bo (by rw[hσ _ _ hp];exact h)))
 |agg vs ds hl h1 h ih=>
  intro d e
  cases d<;>simp only[D.bO] at e<;>first
   |(cases e;done)
   |(split at e<;>cases e;done)
   |(injection e with e
     subst e
     refine .agg vs _ (by rw[hl,yG]) h1 (fun i v c hv hc=>ih i v _ hv (by rw[vX,hc];rfl) c rfl))
 |aj vs ds hl h ih=>
  intro d e
  cases d<;>simp only[D.bO] at e<;>first
   |(cases e;done)
   |(split at e<;>cases e;done)
   |(injection e with e
     subst e
     refine .aj vs _ (by rw[hl,yG]) (fun i v c hv hc=>ih i v _ hv (by rw[vX,hc];rfl) c rfl))
 |fn f n vs ds hl h ih=>
  intro d e
  cases d<;>simp only[D.bO] at e<;>first
   |(cases e;done)
   |(split at e<;>cases e;done)
   |(injection e with e1 e3 e
     subst e1 e3 e
     refine .fn _ _ vs _ (by rw[hl,yG]) (fun i v c hv hc=>ih i v _ hv (by rw[vX,hc];rfl) c rfl))
theorem Vr.up {g gs:bH} (hσ:∀(i:Nat) p,gs[i]?=some p->∃o,σ[i]?=some o/\g[o]?=some p) {v:Value} {d:D} (h:Vr I gs w v d):Vr I g w v (d.bO σ):=by
 induction h with
 |rd h=>rw[h.adH];exact .rd h
 |any v=>exact .any v
 |jI t=>exact .jI t
 |oQ=>exact .oQ
 |gj t x=>exact .gj t x
 |ptr o off b bo h=>
  obtain⟨p,h1,h2⟩:=hσ _ _ h
  simp only[D.bO,vW,h1]
  exact .ptr _ _ b bo h2
 |row o bo a l c h=>
  obtain⟨p,h1,h2⟩:=hσ _ _ h
  simp only[D.bO,vW,h1]
  exact .row _ bo a l c h2
 |gy o n i off b base l c bo h=>
  obtain⟨p,h1,h2⟩:=hσ _ _ h
  simp only[D.bO,vW,h1]
  exact .gy _ _ _ _ b base l c bo h2
 |agg vs ds hl h1 h ih=>
  refine .agg vs _ (by rw[yG];exact hl) h1 (fun i v d hv hd=>?_)
  rw[vX] at hd
  cases hq:ds[i]? with
  |none=>rw[hq] at hd;cases hd
  |some c=>rw[hq] at hd;injection hd with hd;subst hd;exact ih i v c hv hq
 |aj vs ds hl h ih=>
  refine .aj vs _ (by rw[yG];exact hl) (fun i v d hv hd=>?_)
  rw[vX] at hd
  cases hq:ds[i]? with
  |none=>rw[hq] at hd;cases hd
  |some c=>rw[hq] at hd;injection hd with hd;subst hd;exact ih i v c hv hq
 |fn f n vs ds hl h ih=>
  refine .fn f n vs _ (by rw[yG];exact hl) (fun i v d hv hd=>?_)
  rw[vX] at hd
  cases hq:ds[i]? with
  |none=>rw[hq] at hd;cases hd
  |some c=>rw[hq] at hd;injection hd with hd;subst hd;exact ih i v c hv hq
end
theorem AO.vQ (σ:List Nat) (p:Option Nat×Value) (a:AO) (b:Nat):(a.bO σ).owns p b<->a.owns p b:=by cases a<;>exact Iff.rfl
section
variable {I:Nat->Prop} {w:World} {σ:List Nat}
theorem cJ.down {g gs:bH} (hσ:∀(i o:Nat),σ[i]?=some o->gs[i]?=g[o]?) {vs:List Value} {ds:List D} (h:cJ I g w vs (D.bO.rl σ ds)):cJ I gs w vs ds:=
 ⟨by rw[h.1,yG],fun i v d h1 h2=>(h.2 i v (d.bO σ) h1 (by rw[vX,h2];rfl)).down hσ d rfl⟩
theorem cJ.up {g gs:bH} (hσ:∀(i:Nat) p,gs[i]?=some p->∃o,σ[i]?=some o/\g[o]?=some p) {vs:List Value} {ds:List D} (h:cJ I gs w vs ds):cJ I g w vs (D.bO.rl σ ds):=by
 refine⟨by rw[yG];exact h.1,fun i v d h1 h2=>?_⟩
 rw[vX] at h2
 cases hq:ds[i]? with
 |none=>rw[hq] at h2;cases h2
 |some c=>rw[hq] at h2;injection h2 with h2;subst h2;exact(h.2 i v c h1 hq).up hσ
theorem Ro.down {g gs:bH} (hσ:∀(i o:Nat),σ[i]?=some o->gs[i]?=g[o]?) {p:Option Nat×Value} {a:AO} (h:Ro I g w p (a.bO σ)):Ro I gs w p a:=by
 cases a with
 |cells t cs=>
  obtain⟨b,vs,rfl,hb,hv,h1⟩:=h
  exact⟨b,vs,rfl,hb,hv.down hσ,h1⟩
 |row t n xs=>exact h
 |gone=>trivial
theorem Ro.up {g gs:bH} (hσ:∀(i:Nat) p,gs[i]?=some p->∃o,σ[i]?=some o/\g[o]?=some p) {p:Option Nat×Value} {a:AO} (h:Ro I gs w p a):Ro I g w p (a.bO σ):=by
 cases a with
 |cells t cs=>
  obtain⟨b,vs,rfl,hb,hv,h1⟩:=h
  exact⟨b,vs,rfl,hb,hv.up hσ,h1⟩
 |row t n xs=>exact h
 |gone=>trivial
theorem View.lt {h h':List AO} (V:View σ h h') {i o:Nat} (hi:σ[i]?=some o):o<h.length:=by
 have hlt:i<h'.length:=by rw[<-V.len];exact(List.getElem?_eq_some_iff.1 hi).1
 exact(List.getElem?_eq_some_iff.1 (V.obj i o _ hi (List.getElem?_eq_getElem hlt))).1
def gv (σ:List Nat) (g:bH):bH:=σ.map fun o=>(g[o]?).getD (none,.nilFunc)
theorem DK {g:bH} {h h':List AO} (V:View σ h h') (hl:g.length=h.length):∀(i o:Nat),σ[i]?=some o->(gv σ g)[i]?=g[o]?:=by
 intro i o hi
 have hlt:=V.lt hi
 rw[gv,List.getElem?_map,hi,Option.map_some,List.getElem?_eq_getElem (by omega:o<g.length)]
 rfl
theorem DL {g:bH} {h h':List AO} (V:View σ h h') (hl:g.length=h.length) {i:Nat} {p:Option Nat×Value} (hp:(gv σ g)[i]?=some p):∃o,σ[i]?=some o/\g[o]?=some p:=by
 cases hi:σ[i]? with
 |none=>rw[gv,List.getElem?_map,hi] at hp;cases hp
 |some o=>exact⟨o,rfl,by rw[<-DK V hl i o hi];exact hp⟩
theorem Den.view {g:bH} {h h':List AO} (hd:Den I g w h) (V:View σ h h'):Den I (gv σ g) w h':=by
 have hσ:=DK V hd.len
 refine⟨by rw[<-V.len];simp[gv],hd.aG,fun i a p h1 h2=>?_,fun i a p b h1 h2 h3=>?_,fun i j a a' p p' b h1 fW h2 pe h3 lY=>?_⟩
 ·obtain⟨o,e1,e2⟩:=DL V hd.len h2
  exact(hd.obj o _ p (V.obj i o a e1 h1) e2).down hσ
 ·obtain⟨o,e1,e2⟩:=DL V hd.len h2
  exact hd.own o _ p b (V.obj i o a e1 h1) e2 ((AO.vQ σ p a b).2 h3)
 ·obtain⟨o,e1,e2⟩:=DL V hd.len h2
  obtain⟨o',y5,y6⟩:=DL V hd.len pe
  have:=hd.sep o o' _ _ p p' b (V.obj i o a e1 h1) (V.obj j o' a' y5 fW) e2 y6 ((AO.vQ σ p a b).2 h3) ((AO.vQ σ p' a' b).2 lY)
  subst this
  exact V.inj i j o e1 y5
theorem dF.view {g:bH} {h h':List AO} (V:View σ h h') (hl:g.length=h.length) {b:Nat} (hb:dF (gv σ g) h' b):gM σ g h b:=by
 obtain⟨i,a,p,h1,h2,h3⟩:=hb
 obtain⟨o,e1,e2⟩:=DL V hl h2
 exact⟨o,_,p,List.mem_of_getElem? e1,V.obj i o a e1 h1,e2,(AO.vQ σ p a b).2 h3⟩
end
end
section
set_option linter.unusedSectionVars false
variable [Wd]
structure tE where
 ord:List (Nat×Bool)
 md:List Nat
structure mD where
 t:PT
 md:List Nat
def tE.t (p:tE):mD:=⟨PT.of p.ord,p.md⟩
def lp:List (Nat×mD)->Nat->Option mD
 |[],_=>none
 |(i,p)::l,j=>bif Nat.beq j i then some p else lp l j
def K9:List Oper->Nat->Option Op
 |[],_=>none
 |o::l,t=>match o.dst with
  |some d=>bif Nat.beq d t then some o.op else K9 l t
  |none=>K9 l t
def rootOf (ops:List Oper) (s:S):Nat->Operand->D
 |0,_=>.any
 |n+1,x=>match x with
  |.tmp t=>match K9 ops t with
   |some (.fieldAddr _ y _)=>rootOf ops s n y
   |some (.nilCheck y)=>rootOf ops s n y
   |some (.move y)=>rootOf ops s n y
   |some _=>.any
   |none=>ev s x
  |_=>ev s x
def BF (ops:List Oper) (s:S):List Oper->List D
 |[]=>[]
 |o::l=>match o.op with
  |.store _ a _=>rootOf ops s 8 a::BF ops s l
  |.call ⟨.builtin .append,args,_⟩=>match args.toList with
   |x::_=>rootOf ops s 8 x::BF ops s l
   |[]=>BF ops s l
  |.call ⟨.value f,args,_⟩=>ev s f::args.toList.map (rootOf ops s 8)++BF ops s l
  |_=>BF ops s l
def natural:List Oper->Nat->List (Nat×Bool)
 |[],_=>[]
 |o::l,i=>(i,alone o.op)::natural l (i+1)
def yH (PL:List (Nat×mD)) (id:Nat) (ops:List Oper) (s:S):mD:=
 match lp PL id with
 |some p=>p
 |none=>⟨PT.of (natural ops 0),jT s.h (BF ops s ops)⟩
def DW (PL:List (Nat×mD)) (id:Nat):Bool:=match lp PL id with
 |some ⟨.done,_⟩=>true
 |_=>false
def GS (PL:List (Nat×mD)) (id:Nat) (ops:List Oper):PT:=match lp PL id with
 |some p=>p.t
 |none=>PT.of (natural ops 0)
theorem aaj (PL:List (Nat×mD)) (id:Nat) (ops:List Oper) (s:S):(yH PL id ops s).t=GS PL id ops:=by
 unfold yH GS
 cases lp PL id<;>rfl
def rQ (PL:List (Nat×mD)):Code->Bool
 |.region id ops true=>DW PL id||(oN ops (GS PL id ops.toList) (Array.replicate ops.size false) false&&(Region.noSelect ops&&Nat.ble (GS PL id ops.toList).depth ops.size))
 |.seq a b=>rQ PL a&&rQ PL b
 |.cond _ a b=>rQ PL a&&rQ PL b
 |.block _ c=>rQ PL c
 |.loop c=>rQ PL c
 |_=>true
def oP (E:En) (m:Nat) (PL:List (Nat×mD)):Code->S->(Exit->S->T)->T
 |.skip,s,K=>K .normal s
 |.region id ops false,s,K=>Ai E ops.toList ops.toList s (K .normal)
 |.region id ops true,s,K=>bif DW PL id then .fail 65 else pV E ops.toList s.h (yH PL id ops.toList s).md (yH PL id ops.toList s).t false s (K .normal)
 |.seq a b,s,K=>oP E m PL a s fun e s'=>match e with
  |.normal=>oP E m PL b s' K
  |e=>K e s'
 |.cond c a b,s,K=>match ev s c with
  |.bool v=>bT v (oP E m PL a s K) (oP E m PL b s K)
  |_=>.fail 70
 |.block id c,s,K=>oP E m PL c s fun e s'=>match e with
  |.exit wJ=>bif Nat.beq wJ id then K .normal s' else K (.exit wJ) s'
  |e=>K e s'
 |.loop c,s,K=>.loop m s (fun s'=>oP E m PL c s' .leaf) K
 |.exit id,s,K=>K (.exit id) s
 |.ret,s,K=>K .ret s
 |_,_,_=>.fail 71
theorem least {p:Nat->Prop} (h:∃n,p n):∃n,p n/\∀m,p m->n<=m:=by
 obtain⟨n,hn⟩:=h
 induction n using Nat.strongRecOn with
 |_ n ih=>
  by_cases hq:∃m,m<n/\p m
  ·obtain⟨m,h1,h2⟩:=hq
   exact ih m h1 h2
  ·exact⟨n,hn,fun m hm=>by
    rcases Nat.lt_or_ge m n with h|h
    ·exact absurd ⟨m,h,hm⟩ hq
    ·exact h⟩
section
variable {P:Program} {C:Cx}
theorem lV.view {m:Nat} (hm:C.h0.length=m) {s s':S} {a:Act} {w:World} (h:lV C s a w) (V:Sv m s s'):lV C s' a w:=by
 obtain⟨I,g,h⟩:=h
 obtain⟨σ,V,hp,ht⟩:=V
 have hσ:=DK V h.den.len
 refine⟨I,gv σ g,h.den.view V,h.wd,fun j=>?_,h.sz,h.vp,h.kp,h.ext,h.i1,h.i2,fun b hb=>h.ow b (dF.view V h.den.len hb).owned,fun o p t cs h1 h2=>?_⟩
 ·rcases ht j with e|e
  ·rw[e];exact .any _
  ·exact(h.tmp j).down hσ _ e.symm
 ·have hlt:o<m:=by rw[<-hm];exact(List.getElem?_eq_some_iff.1 h2).1
  rw[hσ o o (hp o hlt)]
  exact h.gk o p t cs h1 h2
theorem aak {E:En} (aM:E.tb.ok P) (hE:E.n=C.n/\E.lo=C.lo) {m:Nat} (hm:C.h0.length=m) (Ec:P.follows .mixedOrders=true) {PL:List (Nat×mD)}:∀(c:Code) {s:S} {a:Act} {w:World} {K:Exit->S->T} {Q:Exit->S->Prop} {Qc:Exit->Act->World->Prop},
 rQ PL c=true->Ch C Qc->(∀c a w d v,Qc (.panic c) (a.put d v) w->Qc (.panic c) a w)->(∀e s' a' w',lV C s' a' w'->(K e s').ok P Q->Qc e a' w')->lV C s a w->(oP E m PL c s K).ok P Q->c.wp P Qc a w:=by
 intro c
 induction c with
 |skip=>intro s a w K Q Qc _ hX hP hK h hk;exact wp_skip (hK _ _ _ _ h hk)
 |region id ops draw=>
  intro s a w K Q Qc iK hX hP hK h hk
  cases draw with
  |false=>
   exact wp_region_list (FV aM hE hX (fun s' a' w' h' dc=>hK _ _ _ _ h' dc) ops.toList s a w h hk)
  |true=>
   simp only[oP] at hk
   cases EJ:DW PL id<;>rw[EJ] at hk
   case true=>exact hk.elim
   simp only[rQ,EJ,Bool.false_or,Bool.and_eq_true] at iK
   obtain⟨hp,uS,hlen⟩:=iK
   rw[<-aaj PL id ops.toList s] at hp hlen
   replace hlen:=Nat.le_of_ble_eq_true hlen
   obtain⟨I,g,h⟩:=h
   have hB:B w w.drew:=(Below.refl _ _).drew
   have h':Inv C I g s a w.drew:=h.step (M:=[]) rfl ⟨h.den.later hB,Ext.of_B hB,fun _ h=>h,fun _ h=>.inl h,fun _ _ h=>h,fun _ _ _=>rfl,fun o ao p b _ h1 _ h3=>⟨ao,h1,h3⟩,fun o ao p b hq h1 _ _=>by have:=(List.getElem?_eq_some_iff.1 h1).1;omega⟩
   exact aai aM hE Ec hX uS hP (fun s' a' w' h' dc=>hK _ _ _ _ h' dc) _ s a w I g h' hp hlen hk
 |seq x y M0 M1=>
  intro s a w K Q Qc iK hX hP hK h hk
  have iK:=Bool.and_eq_true_iff.1 iK
  refine wp_seq (M0 (K:=fun e s'=>match e with
   |.normal=>oP E m PL y s' K
   |e=>K e s') (Q:=Q) iK.1 (fun a w ch h1 h2 h3=>hX a w ch h1 h2 h3) (fun c a w d v hq=>hP c a w d v hq) (fun e s' a' w' h' dc=>?_) h hk)
  cases e with
  |normal=>exact M1 iK.2 hX hP hK h' dc
  |_=>exact hK _ _ _ _ h' dc
 |cond c x y M0 M1=>
  intro s a w K Q Qc iK hX hP hK h hk
  have iK:=Bool.and_eq_true_iff.1 iK
  simp only[oP] at hk
  obtain⟨I,g,h⟩:=h
  split at hk
  ·rename_i v hc
   have hv:=h.ev c
   rw[hc] at hv
   exact wp_cond_split hv.rm (fun e=>M0 iK.1 hX hP hK ⟨I,g,h⟩ (by rw[e] at hk;exact hk)) (fun e=>M1 iK.2 hX hP hK ⟨I,g,h⟩ (by rw[e] at hk;exact hk))
  ·exact hk.elim
 |block id c ih=>
  intro s a w K Q Qc iK hX hP hK h hk
  refine wp_block (ih (K:=fun e s'=>match e with
   |.exit wJ=>bif Nat.beq wJ id then K .normal s' else K (.exit wJ) s'
   |e=>K e s') (Q:=Q) iK (fun a w ch h1 h2 h3=>hX a w ch h1 h2 h3) (fun c a w d v hq=>hP c a w d v hq) (fun e s' a' w' h' dc=>?_) h hk)
  cases e with
  |exit wJ=>
   simp only[Exit.inBlock]
   cases hb:Nat.beq wJ id with
   |true=>
    simp only[hb,cond_true] at dc
    rw[if_pos (Nat.eq_of_beq_eq_true hb)]
    exact hK _ _ _ _ h' dc
   |false=>
    simp only[hb,cond_false] at dc
    rw[if_neg (fun e=>by subst e;rw[Nat.beq_refl] at hb;cases hb)]
    exact hK _ _ _ _ h' dc
  |_=>exact hK _ _ _ _ h' dc
 |loop c ih=>
  intro s a w K Q Qc iK hX hP hK h hk
  simp only[oP,T.ok] at hk
  obtain⟨Iv,μ,⟨s1,V1,hI1⟩,hk⟩:=hk
  have hex:∀a w,(∃s,lV C s a w/\Iv s)->∃n,∃s,lV C s a w/\Iv s/\μ s=n:=fun a w ⟨s,h1,h2⟩=>⟨_,s,h1,h2,rfl⟩
  classical
  let μ':Act->World->Nat:=fun a w=>if hh:∃s,lV C s a w/\Iv s then Classical.choose (least (hex a w hh)) else 0
  have At:∀a w (hh:∃s,lV C s a w/\Iv s),μ' a w=Classical.choose (least (hex a w hh)):=fun a w hh=>by simp only[μ',dif_pos hh]
  have hle:∀a w s,lV C s a w->Iv s->μ' a w<=μ s:=fun a w s h1 h2=>by
   have hh:∃s,lV C s a w/\Iv s:=⟨s,h1,h2⟩
   rw[At a w hh]
   exact(Classical.choose_spec (least (hex a w hh))).2 _ ⟨s,h1,h2,rfl⟩
  have ug:∀a w,(∃s,lV C s a w/\Iv s)->∃s,lV C s a w/\Iv s/\μ s=μ' a w:=fun a w hh=>by
   rw[At a w hh]
   exact(Classical.choose_spec (least (hex a w hh))).1
  refine wp_loop (fun a w=>∃s,lV C s a w/\Iv s) μ' ⟨s1,h.view hm V1,hI1⟩ (fun a w hh=>?_)
  obtain⟨s0,h0,hI0,hμ⟩:=ug a w hh
  refine ih (K:=.leaf) iK (fun a w ch h1 h2 h3=>hX a w ch h1 h2 h3) (fun c a w d v hq=>hP c a w d v hq) (fun e s' a' w' h' dc=>?_) h0 (hk s0 hI0)
  cases e with
  |normal=>
   obtain⟨s2,V2,Eu,hlt⟩:=dc
   have h2:=h'.view hm V2
   exact⟨⟨s2,h2,Eu⟩,by have:=hle a' w' s2 h2 Eu;omega⟩
  |exit id=>exact hK _ _ _ _ h' dc
  |goto l=>exact hK _ _ _ _ h' dc
  |ret=>exact hK _ _ _ _ h' dc
  |panic ch=>exact hK _ _ _ _ h' dc
  |outgrown=>exact hK _ _ _ _ h' dc
 |exit id=>intro s a w K Q Qc _ hX hP hK h hk;exact wp_exit (hK _ _ _ _ h hk)
 |ret=>intro s a w K Q Qc _ hX hP hK h hk;exact wp_ret (hK _ _ _ _ h hk)
 |_=>intro s a w K Q Qc _ hX hP hK h hk;exact hk.elim
end
end
section
set_option linter.unusedSectionVars false
variable [Wd]
def D.dy:D->D
 |.own n xs=>.list n (ll xs)
 |.list n xs=>.list n (ll xs)
 |.ref cs=>.ref (cl cs)
 |.agg cs=>.agg (cl cs)
 |.aj cs=>.aj (cl cs)
 |.fn f n cs=>.fn f n (cl cs)
 |d=>d
 where
 cl:List D->List D
 |[]=>[]
 |d::ds=>d.dy::cl ds
 ll:List (List D)->List (List D)
 |[]=>[]
 |x::xs=>cl x::ll xs
theorem KP:∀ds:List D,D.dy.cl ds=ds.map D.dy
 |[]=>rfl
 |d::ds=>by rw[D.dy.cl,KP ds];rfl
theorem Gq:∀xs:List (List D),D.dy.ll xs=xs.map D.dy.cl
 |[]=>rfl
 |x::xs=>by rw[D.dy.ll,Gq xs];rfl
theorem rH {ds:List D} {i:Nat} {e:D} (h:(D.dy.cl ds)[i]?=some e):∃d,ds[i]?=some d/\e=d.dy:=by
 rw[KP,List.getElem?_map] at h
 cases hd:ds[i]? with
 |none=>rw[hd] at h;cases h
 |some d=>rw[hd] at h;injection h with h;exact⟨d,rfl,h.symm⟩
theorem yI {xs:List (List D)} {i:Nat} {y:List D} (h:(D.dy.ll xs)[i]?=some y):∃x,xs[i]?=some x/\y=D.dy.cl x:=by
 rw[Gq,List.getElem?_map] at h
 cases hd:xs[i]? with
 |none=>rw[hd] at h;cases h
 |some d=>rw[hd] at h;injection h with h;exact⟨d,rfl,h.symm⟩
theorem yJ (ds:List D):(D.dy.cl ds).length=ds.length:=by rw[KP,List.length_map]
theorem RI (xs:List (List D)):(D.dy.ll xs).length=xs.length:=by rw[Gq,List.length_map]
theorem Dr.dy {I:Nat->Prop} {w:World} {v:Value} {d:D} (h:Dr I w v d):Dr I w v d.dy:=by
 induction h with
 |bool b=>exact .bool b
 |int k n=>exact .int k n
 |str s=>exact .str s
 |nils=>exact .nils
 |ff=>exact .ff
 |ay=>exact .ay
 |kL=>exact .kL
 |list A cap n l xs U dH hl hm fI hlen hA h1 hU ih=>
  simp only[D.dy]
  refine .list A cap n l _ U (by rw[RI];exact dH) hl hm fI (fun y hy=>?_) (fun h0=>?_) (fun i y j e hy he=>?_) (fun i y j e hy he=>?_)
  ·obtain⟨i,hi⟩:=List.getElem?_of_mem hy
   obtain⟨x,hx,rfl⟩:=yI hi
   rw[yJ];exact hlen x (List.mem_of_getElem? hx)
  ·obtain⟨b,off,e1,hb,hI,hc⟩:=hA h0
   refine⟨b,off,e1,hb,hI,fun i y j e hy he=>?_⟩
   obtain⟨x,hx,rfl⟩:=yI hy
   obtain⟨d,hd,rfl⟩:=rH he
   exact hc i x j d hx hd
  ·obtain⟨x,hx,rfl⟩:=yI hy
   obtain⟨d,hd,rfl⟩:=rH he
   exact h1 i x j d hx hd
  ·obtain⟨x,hx,rfl⟩:=yI hy
   obtain⟨d,hd,rfl⟩:=rH he
   exact ih i x j d hx hd
 |own A cap n l xs U dH hl hm fI hlen hA h1 hU ih=>
  simp only[D.dy]
  refine .list A cap n l _ U (by rw[RI];exact dH) hl hm fI (fun y hy=>?_) (fun h0=>?_) (fun i y j e hy he=>?_) (fun i y j e hy he=>?_)
  ·obtain⟨i,hi⟩:=List.getElem?_of_mem hy
   obtain⟨x,hx,rfl⟩:=yI hi
   rw[yJ];exact hlen x (List.mem_of_getElem? hx)
  ·obtain⟨b,off,e1,hb,hI,_,_,hc⟩:=hA h0
   refine⟨b,off,e1,hb,hI,fun i y j e hy he=>?_⟩
   obtain⟨x,hx,rfl⟩:=yI hy
   obtain⟨d,hd,rfl⟩:=rH he
   exact hc i x j d hx hd
  ·obtain⟨x,hx,rfl⟩:=yI hy
   obtain⟨d,hd,rfl⟩:=rH he
   exact h1 i x j d hx hd
  ·obtain⟨x,hx,rfl⟩:=yI hy
   obtain⟨d,hd,rfl⟩:=rH he
   exact ih i x j d hx hd
 |ref b off cs U hI hb hc h1 hU ih=>
  simp only[D.dy]
  refine .ref b off _ U hI hb (fun j e he=>?_) (fun j e he=>?_) (fun j e he=>?_)<;>obtain⟨d,hd,rfl⟩:=rH he
  ·exact hc j d hd
  ·exact h1 j d hd
  ·exact ih j d hd
 |agg vs ds hl h1 h ih=>
  simp only[D.dy]
  refine .agg vs _ (by rw[yJ];exact hl) h1 (fun i v e hv he=>?_)
  obtain⟨d,hd,rfl⟩:=rH he
  exact ih i v d hv hd
 |aj vs ds hl h ih=>
  simp only[D.dy]
  refine .aj vs _ (by rw[yJ];exact hl) (fun i v e hv he=>?_)
  obtain⟨d,hd,rfl⟩:=rH he
  exact ih i v d hv hd
 |fn f n vs ds hl h ih=>
  simp only[D.dy]
  refine .fn f n vs _ (by rw[yJ];exact hl) (fun i v e hv he=>?_)
  obtain⟨d,hd,rfl⟩:=rH he
  exact ih i v d hv hd
theorem Vr.dy {I:Nat->Prop} {g:bH} {w:World} {v:Value} {d:D} (h:Vr I g w v d):Vr I g w v d.dy:=by
 induction h with
 |rd h=>exact .rd h.dy
 |any v=>exact .any v
 |jI t=>exact .jI t
 |oQ=>exact .oQ
 |gj t x=>exact .gj t x
 |ptr o off b bo h=>exact .ptr o off b bo h
 |row o bo a l c h=>exact .row o bo a l c h
 |gy o n i off b base l c bo h=>exact .gy o n i off b base l c bo h
 |agg vs ds hl h1 h ih=>
  simp only[D.dy]
  refine .agg vs _ (by rw[yJ];exact hl) h1 (fun i v e hv he=>?_)
  obtain⟨d,hd,rfl⟩:=rH he
  exact ih i v d hv hd
 |aj vs ds hl h ih=>
  simp only[D.dy]
  refine .aj vs _ (by rw[yJ];exact hl) (fun i v e hv he=>?_)
  obtain⟨d,hd,rfl⟩:=rH he
  exact ih i v d hv hd
 |fn f n vs ds hl h ih=>
  simp only[D.dy]
  refine .fn f n vs _ (by rw[yJ];exact hl) (fun i v e hv he=>?_)
  obtain⟨d,hd,rfl⟩:=rH he
  exact ih i v d hv hd
inductive Co:D->D->Prop
 |refl (d:D):Co d d
 |nil (n:Nat):Co .nils (.list n [])
 |rO (n:Nat):Co .nils (.own n [])
 |any (d:D):Co d .any
 |dy (d:D):Co d d.dy
 |agg (ds es:List D) (hl:ds.length=es.length) (h:∀(i:Nat) d e,ds[i]?=some d->es[i]?=some e->Co d e):Co (.agg ds) (.agg es)
 |aj (ds es:List D) (hl:ds.length=es.length) (h:∀(i:Nat) d e,ds[i]?=some d->es[i]?=some e->Co d e):Co (.aj ds) (.aj es)
 |list (n:Nat) (xs ys:List (List D)) (hl:xs.length=ys.length) (h:∀(i:Nat) x y,xs[i]?=some x->ys[i]?=some y->x.length=y.length/\∀(j:Nat) d e,x[j]?=some d->y[j]?=some e->e=d\/(d=.nils/\∃m,e=.list m [])):Co (.list n xs) (.list n ys)
theorem Dr.adI {I:Nat->Prop} {w:World} {v:Value} {d e:D} (h:Dr I w v d) (k:e=d\/(d=.nils/\∃m,e=.list m [])):Dr I w v e:=by
 rcases k with rfl|⟨rfl,m,rfl⟩
 ·exact h
 ·cases h
  exact .list none 0 m 0 [] (fun _ _=>undef) rfl (Nat.le_refl _) (Nat.zero_le _) (fun _=>⟨rfl,rfl⟩) (by simp) (fun h=>by simp at h) (by simp) (by simp)
theorem Co.ok {I:Nat->Prop} {g:bH} {w:World} {d e:D} (h:Co d e):∀{v:Value},Vr I g w v d->Vr I g w v e:=by
 induction h with
 |refl d=>exact fun h=>h
 |nil n=>
  intro v h
  cases h.vN
  exact .rd (.list none 0 n 0 [] (fun _ _=>undef) rfl (Nat.le_refl _) (Nat.zero_le _) (fun _=>⟨rfl,rfl⟩) (by simp) (fun h=>by simp at h) (by simp) (by simp))
 |rO n=>
  intro v h
  cases h.vN
  exact .rd (.own none 0 n 0 [] (fun _ _=>undef) rfl (Nat.le_refl _) (Nat.zero_le _) (fun _=>⟨rfl,rfl⟩) (by simp) (fun h=>by simp at h) (by simp) (by simp))
 |any d=>exact fun _=>.any _
 |dy d=>exact fun h=>h.dy
 |agg ds es hl h ih=>
  intro v hv
  obtain⟨vs,rfl,k1,k2⟩:=hv.yy
  refine .agg vs es (k1.1.trans hl) k2 (fun i v e h1 h2=>?_)
  have hlt:i<ds.length:=by rw[hl];exact(List.getElem?_eq_some_iff.1 h2).1
  exact ih i _ e (List.getElem?_eq_getElem hlt) h2 (k1.2 i v _ h1 (List.getElem?_eq_getElem hlt))
 |aj ds es hl h ih=>
  intro v hv
  obtain⟨vs,rfl,k1⟩:=hv.F7
  refine .aj vs es (k1.1.trans hl) (fun i v e h1 h2=>?_)
  have hlt:i<ds.length:=by rw[hl];exact(List.getElem?_eq_some_iff.1 h2).1
  exact ih i _ e (List.getElem?_eq_getElem hlt) h2 (k1.2 i v _ h1 (List.getElem?_eq_getElem hlt))
 |list n xs ys hl h=>
  intro v hv
  cases hv with
  |rd hv=>
   cases hv with
   |list A cap _ l _ U dH iL hm fI hlen hA h1 hU=>
    have at_:∀(i:Nat) y (j:Nat) e,ys[i]?=some y->y[j]?=some e->∃x d,xs[i]?=some x/\x[j]?=some d/\x.length=y.length/\(e=d\/(d=.nils/\∃m,e=.list m [])):=fun i y j e hy he=>by
     have hi:i<xs.length:=by rw[hl];exact(List.getElem?_eq_some_iff.1 hy).1
     obtain⟨k1,k2⟩:=h i _ y (List.getElem?_eq_getElem hi) hy
     have hj:j<(xs[i]).length:=by rw[k1];exact(List.getElem?_eq_some_iff.1 he).1
     exact⟨_,_,List.getElem?_eq_getElem hi,List.getElem?_eq_getElem hj,k1,k2 j _ e (List.getElem?_eq_getElem hj) he⟩
    refine .rd (.list A cap n l ys U (dH.trans hl) iL hm fI (fun y hy=>?_) (fun h0=>?_) (fun i y j e hy he=>?_) (fun i y j e hy he=>?_))
    ·obtain⟨i,hi⟩:=List.getElem?_of_mem hy
     have hx:i<xs.length:=by rw[hl];exact(List.getElem?_eq_some_iff.1 hi).1
     obtain⟨k1,_⟩:=h i _ y (List.getElem?_eq_getElem hx) hi
     rw[<-k1]
     exact hlen _ (List.getElem_mem hx)
    ·obtain⟨b,off,e1,e2,e3,e4⟩:=hA h0
     refine⟨b,off,e1,e2,e3,fun i y j e hy he=>?_⟩
     obtain⟨x,d,a1,a2,_,_⟩:=at_ i y j e hy he
     exact e4 i x j d a1 a2
    ·obtain⟨x,d,a1,a2,_,_⟩:=at_ i y j e hy he
     exact h1 i x j d a1 a2
    ·obtain⟨x,d,a1,a2,_,a3⟩:=at_ i y j e hy he
     exact(hU i x j d a1 a2).adI a3
def aa (ds es:List D):Prop:=ds.length=es.length/\∀(i:Nat) d e,ds[i]?=some d->es[i]?=some e->Co d e
theorem aa.nil:aa [] []:=⟨rfl,fun i d e h=>by simp at h⟩
theorem aa.cons {d e:D} {ds es:List D} (h:Co d e) (k:aa ds es):aa (d::ds) (e::es):=by
 refine⟨by simp[k.1],fun i a b h1 h2=>?_⟩
 cases i with
 |zero=>simp at h1 h2;subst h1 h2;exact h
 |succ i=>simp at h1 h2;exact k.2 i a b h1 h2
theorem aa.refl (ds:List D):aa ds ds:=⟨rfl,fun i d e h1 h2=>by rw[h1] at h2;injection h2 with h2;subst h2;exact .refl _⟩
theorem aa.eU {ds es:List D} (h:aa ds es):Co (.agg ds) (.agg es):=.agg ds es h.1 h.2
theorem aa.oO {ds es:List D} (h:aa ds es):Co (.aj ds) (.aj es):=.aj ds es h.1 h.2
theorem aa.ok {I:Nat->Prop} {g:bH} {w:World} {ds es:List D} (h:aa ds es) {vs:List Value} (k:cJ I g w vs ds):cJ I g w vs es:=by
 refine⟨k.1.trans h.1,fun i v e h1 h2=>?_⟩
 have hlt:i<ds.length:=by rw[h.1];exact(List.getElem?_eq_some_iff.1 h2).1
 exact(h.2 i _ e (List.getElem?_eq_getElem hlt) h2).ok (k.2 i v _ h1 (List.getElem?_eq_getElem hlt))
def D.dj (h:List AO) (fz:List Nat):D->D
 |.row o=>bif fz.elem o then(match lh h o with
  |.row _ n xs=>bif fz.elem (o+1000) then .own n xs else .list n xs
  |_=>.row o) else .row o
 |.agg cs=>.agg (fl cs)
 |.aj cs=>.aj (fl cs)
 |d=>d
 where fl:List D->List D
 |[]=>[]
 |d::ds=>d.dj h fz::fl ds
theorem rF (h:List AO) (fz:List Nat):∀ds:List D,D.dj.fl h fz ds=ds.map (D.dj h fz)
 |[]=>rfl
 |d::ds=>by rw[D.dj.fl,rF h fz ds];rfl
theorem Vr.dj {I I':Nat->Prop} {g:bH} {w:World} {h:List AO} {fz:List Nat} (hd:Den I g w h) (hA:∀b,Old.A b->I b) (hI:∀b,I b->I' b) (hf:∀b,gM fz g h b->I' b) {v:Value} {d:D} (hv:Vr I g w v d):Vr I' g w v (d.dj h fz):=by
 have aeN:∀{v:Value} {d:D},Dr I w v d->d.dj h fz=d:=by
  intro v d oY
  have key:∀(vs:List Value) (ds:List D),vs.length=ds.length->(∀(i:Nat) v d,vs[i]?=some v->ds[i]?=some d->d.dj h fz=d)->D.dj.fl h fz ds=ds:=by
   intro vs ds hl ih
   apply List.ext_getElem?
   intro i
   rw[rF,List.getElem?_map]
   cases hd:ds[i]? with
   |none=>rfl
   |some d=>
    have hlt:i<vs.length:=by rw[hl];exact(List.getElem?_eq_some_iff.1 hd).1
    simp[ih i _ d (List.getElem?_eq_getElem hlt) hd]
  induction oY with
  |agg vs ds hl h1 h ih=>simp only[D.dj];rw[key vs ds hl ih]
  |aj vs ds hl h ih=>simp only[D.dj];rw[key vs ds hl ih]
  |_=>rfl
 induction hv with
 |rd hq=>rw[aeN hq];exact .rd (hq.mono hI)
 |any v=>exact .any v
 |jI t=>exact .jI t
 |oQ=>exact .oQ
 |gj t x=>exact .gj t x
 |ptr o off b bo hq=>exact .ptr o off b bo hq
 |gy o n i off b base l c bo h=>exact .gy o n i off b base l c bo h
 |row o bo a l c hq=>
  simp only[D.dj]
  cases Ih:fz.elem o with
  |false=>exact .row o bo a l c hq
  |true=>
   simp only[cond_true]
   cases hl:lh h o with
   |row t n xs=>
    have iL:=xp hl
    obtain⟨a',c',vs,hp,hr,hb,hdv,hlen,h1⟩:=hd.obj o _ _ iL hq
    have TH:a=a'/\l=xs.length:=by injection hp with e1 e2 e3;exact⟨e1,e2⟩
    obtain⟨rfl,rfl⟩:=TH
    have oY:=Dr.KJ (I:=I') hr (hdv.mono hI) hlen h1 (fun b cw=>hf b ⟨o,_,_,by simpa using Ih,iL,hq,hb.trans cw⟩)
    simp only
    cases fz.elem (o+1000) with
    |false=>exact .rd oY
    |true=>exact .rd (oY.adF (fun b cw hn=>hd.own o _ _ b iL hq (hb.trans cw) (hA b hn)) (fun b off l c e j hj=>hr.aal e hj))
   |cells t cs=>exact .row o bo a l c hq
   |gone=>exact .row o bo a l c hq
 |agg vs ds hl h1 h ih=>
  refine .agg vs _ (by rw[rF];simpa using hl) h1 (fun i v e hv he=>?_)
  rw[rF,List.getElem?_map] at he
  cases hq:ds[i]? with
  |none=>rw[hq] at he;cases he
  |some c=>rw[hq] at he;injection he with he;subst he;exact ih i v c hv hq
 |aj vs ds hl h ih=>
  refine .aj vs _ (by rw[rF];simpa using hl) (fun i v e hv he=>?_)
  rw[rF,List.getElem?_map] at he
  cases hq:ds[i]? with
  |none=>rw[hq] at he;cases he
  |some c=>rw[hq] at he;injection he with he;subst he;exact ih i v c hv hq
 |fn f n vs ds hl h ih=>exact .fn f n vs ds hl (fun i v d h1 h2=>(h i v d h1 h2).mono hI (fun _ _ h=>h))
def AO.dj (h:List AO) (fz:List Nat):AO->AO
 |.cells t cs=>.cells t (D.dj.fl h fz cs)
 |a=>a
def uo (h:List AO) (fz:List Nat):Nat->List AO->List AO
 |_,[]=>[]
 |o,a::l=>(bif fz.elem o then .gone else a.dj h fz)::uo h fz (o+1) l
theorem Q7 (h:List AO) (fz:List Nat):∀(l:List AO) (k o:Nat),(uo h fz k l)[o]?=(l[o]?).map fun a=>if fz.elem (k+o) then AO.gone else a.dj h fz
 |[],k,o=>by simp[uo]
 |a::l,k,0=>by simp only[uo,Nat.add_zero];cases fz.elem k<;>rfl
 |a::l,k,o+1=>by simp[uo,Q7 h fz l (k+1) o,Nat.add_assoc,Nat.add_comm 1 o]
def S.dj (s:S) (fz:List Nat):S:=⟨s.t.map fun x=>(x.1,x.2.dj s.h fz),uo s.h fz 0 s.h⟩
theorem RJ (f:D->D) (hf:f .any=.any):∀(l:List (Nat×D)) (j:Nat),lk (l.map fun x=>(x.1,f x.2)) j=f (lk l j)
 |[],j=>by simp[lk,hf]
 |(i,d)::l,j=>by
  simp only[List.map_cons,lk,RJ f hf l j]
  cases Nat.beq j i<;>rfl
theorem lV.dj {C:Cx} {s:S} {a:Act} {w:World} (h:lV C s a w) (fz:List Nat):lV C (s.dj fz) a w:=by
 obtain⟨I,g,h⟩:=h
 have Ci:∀{o:Nat} {ao:AO},(s.dj fz).h[o]?=some ao->ao≠.gone->∃a0,s.h[o]?=some a0/\ao=a0.dj s.h fz/\fz.elem o=false:=by
  intro o ao h1 cu
  have fW:(uo s.h fz 0 s.h)[o]?=some ao:=h1
  rw[Q7] at fW
  cases hq:s.h[o]? with
  |none=>rw[hq] at fW;cases fW
  |some a0=>
   rw[hq] at fW
   simp only[Option.map_some,Nat.zero_add] at fW
   injection fW with fW
   cases Ih:fz.elem o with
   |true=>rw[Ih] at fW;exact absurd fW.symm cu
   |false=>rw[Ih] at fW;exact⟨a0,rfl,fW.symm,rfl⟩
 have eV:∀{p:Option Nat×Value} {a0:AO} {b:Nat},(a0.dj s.h fz).owns p b->a0.owns p b:=by
  intro p a0 b hb
  cases a0<;>exact hb
 have wK:∀{p:Option Nat×Value} {ao:AO} {b:Nat},ao.owns p b->ao≠.gone:=by
  intro p ao b hb e
  subst e
  exact hb
 have hI:∀b,I b->(I b\/gM fz g s.h b):=fun b hb=>.inl hb
 refine⟨fun b=>I b\/gM fz g s.h b,g,⟨?_,fun b hb=>?_,fun o ao p h1 h2=>?_,fun o ao p b h1 h2 h3 hb=>?_,fun o o' ao cA p p' b h1 fW h2 pe h3 lY=>?_⟩,Wd.cl h.wd (fun _ _=>rfl) (fun b hb=>.inl hb),fun j=>?_,h.sz,h.vp,h.kp,h.ext,fun b hb=>.inl (h.i1 b hb),fun b hb=>?_,fun b hb=>?_,h.gk⟩
 ·have:(uo s.h fz 0 s.h).length=s.h.length:=by
   have:∀(l:List AO) (k:Nat),(uo s.h fz k l).length=l.length:=by
    intro l
    induction l with
    |nil=>intro k;rfl
    |cons a l ih=>intro k;simp[uo,ih]
   exact this _ _
  exact h.den.len.trans this.symm
 ·rcases hb with e|e
  ·exact h.den.aG b e
  ·exact h.den.lt e.owned
 ·cases EK:ao with
  |gone=>trivial
  |cells t cs=>
   obtain⟨a0,e1,e2,e3⟩:=Ci h1 (by rw[EK];simp)
   rw[<-EK,e2]
   have hr:=h.den.obj o a0 p e1 h2
   cases a0 with
   |cells t0 Mr=>
    obtain⟨b,vs,rfl,hb,hv,g1⟩:=hr
    refine⟨b,vs,rfl,hb,⟨by rw[rF];simpa using hv.1,fun i v d q1 q2=>?_⟩,g1⟩
    rw[rF,List.getElem?_map] at q2
    cases hq:Mr[i]? with
    |none=>rw[hq] at q2;cases q2
    |some c=>rw[hq] at q2;injection q2 with q2;subst q2;exact(hv.2 i v c q1 hq).dj h.den (fun b hb=>Wd.aI h.wd b hb) (fun _ h=>.inl h) (fun _ h=>.inr h)
   |row t0 n xs=>exact hr.mono hI (fun _ _ h=>h)
   |gone=>trivial
  |row t n xs=>
   obtain⟨a0,e1,e2,e3⟩:=Ci h1 (by rw[EK];simp)
   rw[<-EK,e2]
   have hr:=h.den.obj o a0 p e1 h2
   cases a0 with
   |cells t0 Mr=>rw[EK] at e2;cases e2
   |row t0 n xs=>exact hr.mono hI (fun _ _ h=>h)
   |gone=>trivial
 ·obtain⟨a0,e1,e2,e3⟩:=Ci h1 (wK h3)
  rw[e2] at h3
  rcases hb with e|⟨o',cA,p',hm,q1,q2,q3⟩
  ·exact h.den.own o a0 p b e1 h2 (eV h3) e
  ·have:=h.den.sep o o' a0 cA p p' b e1 q1 h2 q2 (eV h3) q3
   subst this
   have:fz.elem o=true:=by simpa using hm
   rw[this] at e3
   cases e3
 ·obtain⟨a0,e1,e2,e3⟩:=Ci h1 (wK h3)
  obtain⟨CJ,y5,y6,L5⟩:=Ci fW (wK lY)
  rw[e2] at h3
  rw[y6] at lY
  exact h.den.sep o o' a0 CJ p p' b e1 y5 h2 pe (eV h3) (eV lY)
 ·show Vr _ g w _ (lk (s.t.map fun x=>(x.1,x.2.dj s.h fz)) j)
  rw[RJ (D.dj s.h fz) rfl]
  exact(h.tmp j).dj h.den (fun b hb=>Wd.aI h.wd b hb) (fun _ h=>.inl h) (fun _ h=>.inr h)
 ·rcases hb with e|e
  ·exact h.i2 b e
  ·right;exact h.ow b e.owned
 ·obtain⟨o,ao,p,h1,h2,h3⟩:=hb
  obtain⟨a0,e1,e2,e3⟩:=Ci h1 (wK h3)
  rw[e2] at h3
  exact h.ow b ⟨o,a0,p,e1,h2,eV h3⟩
end
section
set_option linter.unusedSectionVars false
variable [Wd]
def bC (P:Program) (f:FuncId) (az:List D) (h:List AO) (cZ:D->List AO->Prop):Prop:=
 rj P f=true/\∀(w:World) (I:Nat->Prop) (g:bH) (vs:List Value),Wd.W I w->Den I g w h->cJ I g w vs az->Calls P f vs.toArray w fun e w'=>(∃v I' g' r h',e=.returned v/\cZ r h'/\Den I' g' w' h'/\Vr I' g' w' v r/\Ext (dF g h) w w'/\
  (∀b,I b->I' b)/\(∀b,I' b->I b\/dF g h b\/w.heap.size<=b)/\(∀b,dF g' h' b->dF g h b\/w.heap.size<=b)/\
  (∀(o:Nat) p t cs,g[o]?=some p->h[o]?=some (.cells t cs)->g'[o]?=some p/\∃t' fU,h'[o]?=some (.cells t' fU)))\/
  (∃ch,e=.panicked ch/\Wd.kY ch/\Ext (dF g h) w w')
def xy:Nat->List D->List (Nat×D)
 |_,[]=>[]
 |i,d::ds=>(i,d)::xy (i+1) ds
theorem Q8:∀(ds:List D) (k j:Nat),lk (xy k ds) j=if k<=j then(ds[j-k]?).getD .any else .any
 |[],k,j=>by simp[xy,lk]
 |d::ds,k,j=>by
  simp only[xy,lk,Q8 ds (k+1) j]
  by_cases hj:j=k
  ·subst hj
   rw[Nat.beq_refl]
   simp
  ·have hb:Nat.beq j k=false:=by
    cases hb:Nat.beq j k with
    |false=>rfl
    |true=>exact absurd (Nat.eq_of_beq_eq_true hb) hj
   rw[hb]
   simp only[cond_false]
   by_cases hk:k<=j
   ·have:j-k=j-(k+1)+1:=by omega
    rw[if_pos (by omega),if_pos hk,this]
    simp
   ·rw[if_neg (by omega),if_neg hk]
def iD (tb:TT) (s:S):List ResultVar->Option (List D)
 |[]=>some []
 |.tmp t::r=>match iD tb s r with
  |some ds=>some (lk s.t t::ds)
  |none=>none
 |.cell a ty::r=>match lk s.t a with
  |.ptr o off=>match lh s.h o with
   |.cells _ cs=>match uH tb ty cs off,iD tb s r with
    |some d,some ds=>some (d::ds)
    |_,_=>none
   |_=>none
  |_=>none
def lI:List D->D
 |[d]=>d
 |ds=>.aj ds
def Lf (tb:TT) (rs:List ResultVar) (h:List AO) (cZ:D->List AO->Prop) (e:Exit) (s:S):Prop:=
 (e=.normal\/e=.ret)/\∃(fz:List Nat) (ds:List D),iD tb (s.dj fz) rs=some ds/\∃(σ:List Nat) (r r0:D) (h':List AO),View σ (s.dj fz).h h'/\Co (lI ds) r0/\r0=r.bO σ/\
   (∀(o:Nat) t cs,h[o]?=some (.cells t cs)->σ[o]?=some o/\∃t' fU,h'[o]?=some (.cells t' fU))/\cZ r h'
section
variable {P:Program}
def B4 (tmps:Array Value):ResultVar->Sem Value
 |.tmp t=>pure (tmps.getD t undef)
 |.cell a t=>do loadVar t (<-asAddr (tmps.getD a undef))
theorem WX (fn:Func) (tmps:Array Value):results fn tmps=(do let vs<-fn.results.mapM (B4 tmps);pure (if h:vs.size=1 then vs[0] else .tuple vs)):=by
 unfold results
 congr 1
theorem Ki {tb:TT} (aM:tb.ok P) {s:S} {I:Nat->Prop} {g:bH} {w:World} (hd:Den I g w s.h) {tmps:Array Value} (ht:∀j,Vr I g w (tmps.getD j undef) (lk s.t j)):
 ∀(rs:List ResultVar) (ds:List D),iD tb s rs=some ds->∃vs:List Value,(rs.mapM (B4 tmps)).run P w=.ok vs w/\cJ I g w vs ds
 |[],ds,h=>by
  simp only[iD] at h
  injection h with h
  subst h
  exact⟨[],rfl,.nil⟩
 |.tmp t::r,ds,h=>by
  simp only[iD] at h
  split at h
  ·rename_i M3 hr
   injection h with h
   subst h
   obtain⟨vs,h1,h2⟩:=Ki aM hd ht r M3 hr
   refine⟨tmps.getD t undef::vs,?_,.cons (ht t) h2⟩
   rw[List.mapM_cons,Sem.run_bind]
   have r5:(B4 tmps (.tmp t)).run P w=.ok (tmps.getD t undef) w:=rfl
   rw[r5]
   simp only[Result.andThen_ok,Sem.run_bind,h1,Sem.run_pure]
  ·cases h
 |.cell a ty::r,ds,h=>by
  simp only[iD] at h
  split at h
  ·rename_i o off ha
   split at h
   ·rename_i ct cs hl
    split at h
    ·rename_i d M3 hp hr
     injection h with h
     subst h
     obtain⟨vs,h1,h2⟩:=Ki aM hd ht r M3 hr
     have hv:=ht a
     rw[ha] at hv
     obtain⟨b,bo,hg,e⟩:=hv.xd
     have iL:=FT hl
     obtain⟨b',us,hpp,hb,k1,k2⟩:=hd.obj o _ _ iL hg
     injection hpp with rT iY
     injection iY with iY
     injection iY with iY
     injection iY with iY _ _
     subst iY
     obtain⟨v,r1,r2⟩:=FA aM hp k1 k2 b 0
     have r3:=r2 w (fun j u hj=>by rw[Nat.zero_add,hb.cell];simpa using hj)
     rw[Nat.zero_add] at r3
     refine⟨v::vs,?_,.cons r1 h2⟩
     rw[List.mapM_cons,Sem.run_bind]
     have r4:(loadVar ty ⟨b,off,none⟩).run P w=.ok v w:=by
      simpa[Instr.loadAt,Instr.sureAddr] using r3
     have r5:(B4 tmps (.cell a ty)).run P w=.ok v w:=by
      simp only[B4,e,asAddr,Sem.run_bind,Sem.run_pure,Result.andThen_ok,r4]
     rw[r5]
     simp only[Result.andThen_ok,Sem.run_bind,h1,Sem.run_pure]
    ·cases h
   ·cases h
  ·cases h
theorem WY {tb:TT} (aM:tb.ok P) {s:S} {I:Nat->Prop} {g:bH} {w:World} (hd:Den I g w s.h) {tmps:Array Value} (ht:∀j,Vr I g w (tmps.getD j undef) (lk s.t j)) {fn:Func} {ds:List D} (h:iD tb s fn.results.toList=some ds):
 ∃v,(results fn tmps).run P w=.ok v w/\Vr I g w v (lI ds):=by
 obtain⟨vs,h1,h2⟩:=Ki aM hd ht _ _ h
 have hm:(fn.results.mapM (B4 tmps)).run P w=.ok vs.toArray w:=by
  rw[Array.mapM_eq_mapM_toList,Sem.run_map,h1]
  rfl
 have hr:(results fn tmps).run P w=.ok (if h:vs.toArray.size=1 then vs.toArray[0] else .tuple vs.toArray) w:=by
  rw[WX,Sem.run_bind,hm]
  rfl
 refine⟨_,hr,?_⟩
 match ds,vs,h2 with
 |[],[],h2=>simpa[lI] using Vr.oO h2
 |[d],[v],h2=>
  obtain⟨v',xN,e,k1,_⟩:=h2.zW
  injection e with e1 e2
  subst e1
  simpa[lI] using k1
 |d::d'::ds,v::v'::vs,h2=>simpa[lI] using Vr.oO h2
 |[],v::vs,h2=>have:=h2.1;simp at this
 |[d],[],h2=>have:=h2.1;simp at this
 |[d],v::v'::vs,h2=>have:=h2.1;simp at this
 |d::d'::ds,[],h2=>have:=h2.1;simp at this
 |d::d'::ds,[v],h2=>have:=h2.1;simp at this
theorem bC.aaX {f:FuncId} {fn:Func} {c:Code} {E:En} {m:Nat} {PL:List (Nat×mD)} {az:List D} {h:List AO} {cZ:D->List AO->Prop} (hf:P.funcs[f]?=some fn) (hb:fn.body=some c) (hn:fn.ntmps=E.n) (aM:E.tb.ok P) (Ec:P.follows .mixedOrders=true) (xz:rj P f=true) (hm:h.length=m) (Av:az.length<=E.n) (iK:rQ PL c=true)
 (hx:(oP E m PL c ⟨xy 0 az,h⟩ .leaf).ok P (Lf E.tb fn.results.toList h cZ)):bC P f az h cZ:=by
 refine⟨xz,fun w I g vs hW hd hv=>?_⟩
 refine calls_of_wp hf hb ?_
 have eE:vs.length<=E.n:=by rw[hv.1];exact Av
 refine aak (C:=⟨w,I,g,h,E.n,E.lo,vs.toArray++Array.replicate (fn.ntmps-vs.toArray.size) undef⟩) aM ⟨rfl,rfl⟩ hm Ec c iK (fun a w ch h1 h2 h3=>⟨h2,.inr ⟨ch,rfl,h1,h3⟩⟩) (fun c a w d v hq=>?_) (fun e s' a' w' hi hl=>?_) ⟨I,g,⟨hd,hW,fun j=>?_,?_,rfl,fun _ _=>rfl,Ext.refl _ _,fun _ h=>h,fun _ h=>.inl h,fun _ h=>.inl h,fun o p t cs h1 h2=>h1⟩⟩ hx
 ·simp only[bodyPost] at hq ⊢
  rw[put_defers] at hq
  exact hq
 ·obtain⟨he,fz,ds,hr,σ,r,r0,h',V,iw,rfl,KI,La⟩:=hl
  obtain⟨I',g',mH⟩:=hi.dj fz
  obtain⟨v,lJ,hvr⟩:=WY aM mH.den mH.tmp hr
  have hσ:=DK V mH.den.len
  have hR:bodyPost P fn (fun e w'=>(∃v I' g' r h',e=.returned v/\cZ r h'/\Den I' g' w' h'/\Vr I' g' w' v r/\Ext (dF g h) w w'/\
   (∀b,I b->I' b)/\(∀b,I' b->I b\/dF g h b\/w.heap.size<=b)/\(∀b,dF g' h' b->dF g h b\/w.heap.size<=b)/\
   (∀(o:Nat) p t cs,g[o]?=some p->h[o]?=some (.cells t cs)->g'[o]?=some p/\∃t' fU,h'[o]?=some (.cells t' fU)))\/(∃ch,e=.panicked ch/\Wd.kY ch/\Ext (dF g h) w w')) .normal a' w':=by
   refine⟨mH.vp,v,lJ,.inl ⟨v,I',gv σ g',r,h',rfl,La,mH.den.view V,(iw.ok hvr).down hσ r rfl,mH.ext,mH.i1,mH.i2,fun b hb=>mH.ow b (dF.view V mH.den.len hb).owned,fun o p t cs h1 h2=>?_⟩⟩
   obtain⟨k1,k2⟩:=KI o t cs h2
   exact⟨by rw[hσ o o k1];exact mH.gk o p t cs h1 h2,k2⟩
  rcases he with rfl|rfl
  ·exact hR
  ·exact hR
 ·rw[Q8]
  simp only[Nat.zero_le,if_true,Nat.sub_zero]
  cases hq:az[j]? with
  |none=>exact .any _
  |some d=>
   have hlt:j<vs.length:=by rw[hv.1];exact(List.getElem?_eq_some_iff.1 hq).1
   have e:(vs.toArray++Array.replicate (fn.ntmps-vs.toArray.size) undef).getD j undef=vs[j]:=by
    rw[Array.getD_eq_getD_getElem?,Array.getElem?_append_left (by simpa using hlt)]
    simp[hlt]
   rw[e]
   exact hv.2 j _ d (List.getElem?_eq_getElem hlt) hq
 ·show(vs.toArray++Array.replicate (fn.ntmps-vs.toArray.size) undef).size=E.n
  simp
  omega
end
end
section
set_option linter.unusedSectionVars false
variable [Wd]
def qh:AO->Bool
 |.cells _ _=>true
 |_=>false
def pos:List Nat->Nat->Nat->Option Nat
 |[],_,_=>none
 |s::r,o,i=>bif Nat.beq s o then some i else pos r o (i+1)
def CK (n:Nat) (σ:List Nat) (h:List AO):Nat->List AO->List Nat
 |_,[]=>[]
 |j,_::r=>(bif qh (lh h j) then(match ln σ j with|some o=>o|none=>n+j) else n+j)::CK n σ h (j+1) r
def zh (σ σ':List Nat) (h h':List AO):Nat->List AO->List AO
 |_,[]=>[]
 |o,a::l=>(match pos σ o 0 with
  |none=>a
  |some i=>bif qh (lh h i) then(lh h' i).bO σ' else .gone)::zh σ σ' h h' (o+1) l
def zi (σ':List Nat) (h:List AO):Nat->List AO->List AO
 |_,[]=>[]
 |j,a::r=>(bif qh (lh h j) then .gone else a.bO σ')::zi σ' h (j+1) r
def mz (hb:List AO) (σ:List Nat) (h h':List AO):List Nat:=CK hb.length σ h 0 h'
def lK (hb:List AO) (σ:List Nat) (h h':List AO):List AO:=zh σ (mz hb σ h h') h h' 0 hb++zi (mz hb σ h h') h 0 h'
theorem P6:∀{σ:List Nat} {o i:Nat},pos σ o i=none->o∉σ
 |[],o,i,_=>by simp
 |s::r,o,i,h=>by
  simp only[pos] at h
  cases hb:Nat.beq s o with
  |true=>rw[hb] at h;cases h
  |false=>
   rw[hb] at h
   have:=P6 (σ:=r) h
   intro hm
   rcases List.mem_cons.1 hm with rfl|hm
   ·rw[Nat.beq_refl] at hb;cases hb
   ·exact this hm
theorem JM:∀{σ:List Nat} {o i k:Nat},pos σ o i=some k->i<=k/\σ[k-i]?=some o
 |[],o,i,k,h=>by simp[pos] at h
 |s::r,o,i,k,h=>by
  simp only[pos] at h
  cases hb:Nat.beq s o with
  |true=>
   rw[hb] at h
   injection h with h
   subst h
   exact⟨Nat.le_refl _,by simp[Nat.eq_of_beq_eq_true hb]⟩
  |false=>
   rw[hb] at h
   obtain⟨h1,h2⟩:=JM (σ:=r) h
   refine⟨by omega,?_⟩
   rw[show k-i=k-(i+1)+1 from by omega]
   simpa using h2
theorem Q9 (n:Nat) (σ:List Nat) (h:List AO):∀(l:List AO) (k j:Nat),(CK n σ h k l)[j]?=(l[j]?).map fun _=>(bif qh (lh h (k+j)) then(match ln σ (k+j) with|some o=>o|none=>n+(k+j)) else n+(k+j))
 |[],k,j=>by simp[CK]
 |a::l,k,0=>by simp[CK]
 |a::l,k,j+1=>by simp[CK,Q9 n σ h l (k+1) j,Nat.add_assoc,Nat.add_comm 1 j]
theorem Kj (σ σ':List Nat) (h h':List AO):∀(l:List AO) (k o:Nat),(zh σ σ' h h' k l)[o]?=(l[o]?).map fun a=>(match pos σ (k+o) 0 with
 |none=>a
 |some i=>bif qh (lh h i) then(lh h' i).bO σ' else .gone)
 |[],k,j=>by simp[zh]
 |a::l,k,0=>by simp[zh]
 |a::l,k,j+1=>by simp[zh,Kj σ σ' h h' l (k+1) j,Nat.add_assoc,Nat.add_comm 1 j]
theorem Ra (σ':List Nat) (h:List AO):∀(l:List AO) (k j:Nat),(zi σ' h k l)[j]?=(l[j]?).map fun a=>(bif qh (lh h (k+j)) then AO.gone else a.bO σ')
 |[],k,j=>by simp[zi]
 |a::l,k,0=>by simp[zi]
 |a::l,k,j+1=>by simp[zi,Ra σ' h l (k+1) j,Nat.add_assoc,Nat.add_comm 1 j]
theorem Ga (σ σ':List Nat) (h h':List AO):∀(l:List AO) (k:Nat),(zh σ σ' h h' k l).length=l.length
 |[],k=>rfl
 |a::l,k=>by simp[zh,Ga σ σ' h h' l (k+1)]
theorem Rb (σ':List Nat) (h:List AO):∀(l:List AO) (k:Nat),(zi σ' h k l).length=l.length
 |[],k=>rfl
 |a::l,k=>by simp[zi,Rb σ' h l (k+1)]
theorem GD {h:List AO} {j:Nat} (k:qh (lh h j)=true):∃t cs,h[j]?=some (.cells t cs):=by
 cases hq:lh h j with
 |cells t cs=>exact⟨t,cs,FT hq⟩
 |row t n xs=>rw[hq] at k;cases k
 |gone=>rw[hq] at k;cases k
section
variable {P:Program} {f:FuncId} {az:List D} {h:List AO} {cZ:D->List AO->Prop}
theorem bC.aL (hF:bC P f az h cZ) {hb:List AO} {σ:List Nat} (V:View σ hb h) {EL:List D} (hc:aa EL (D.bO.rl σ az)) {M:List Nat} (hM:∀o∈σ,o∈M):
 Ej P f EL hb M fun r h2=>∃r0 h0,cZ r0 h0/\r=r0.bO (mz hb σ h h0)/\h2=lK hb σ h h0:=by
 refine⟨hF.1,fun w I g vs hW hd hv=>?_⟩
 have hσ:=DK V hd.len
 have um:=hd.view V
 refine(hF.2 w I (gv σ g) vs hW um ((hc.ok hv).down hσ)).mono ?_
 rintro e w' (⟨v,I',mV,r0,h0,rfl,La,oV,rZ,hx,i1,i2,ow,ck⟩|⟨ch,rfl,hp,hx⟩)
 case inr=>
  refine .inr ⟨ch,rfl,hp,hx.mono (fun x _ ho=>?_)⟩
  obtain⟨o,ao,p,m1,m2,m3,m4⟩:=dF.view V hd.len ho
  exact⟨o,ao,p,hM o m1,m2,m3,m4⟩
 left
 have CL:g.length=hb.length:=hd.len
 have TR:mV.length=h0.length:=oV.len
 have M4:∀(j:Nat) p,mV[j]?=some p->∃o,(mz hb σ h h0)[j]?=some o/\(g++mV)[o]?=some p/\((qh (lh h j)=true/\σ[j]?=some o)\/(qh (lh h j)=false/\o=hb.length+j)):=by
  intro j p hp
  have hj:j<h0.length:=by rw[<-TR];exact(List.getElem?_eq_some_iff.1 hp).1
  have e:=Q9 hb.length σ h h0 0 j
  rw[List.getElem?_eq_getElem hj,Nat.zero_add] at e
  simp only[Option.map_some] at e
  cases hq:qh (lh h j) with
  |true=>
   obtain⟨t,cs,ou⟩:=GD hq
   have hlt:j<σ.length:=by rw[V.len];exact(List.getElem?_eq_some_iff.1 ou).1
   have hs:=List.getElem?_eq_getElem hlt
   refine⟨σ[j],?_,?_,.inl ⟨rfl,hs⟩⟩
   ·rw[mz,e,hq,vW,hs];rfl
   ·have e1:=hσ j _ hs
    have hg:g[σ[j]]?=some (g[σ[j]]'(by rw[CL];exact V.lt hs)):=List.getElem?_eq_getElem _
    rw[hg] at e1
    have:=(ck j _ t cs e1 ou).1
    rw[hp] at this
    injection this with this
    rw[List.getElem?_append_left (by rw[CL];exact V.lt hs),hg,this]
  |false=>
   refine⟨hb.length+j,?_,?_,.inr ⟨rfl,rfl⟩⟩
   ·rw[mz,e,hq];rfl
   ·rw[<-CL,List.getElem?_append_right (by omega)]
    simpa using hp
 have SX:∀(j:Nat) p,mV[j]?=some p->∃o,(mz hb σ h h0)[j]?=some o/\(g++mV)[o]?=some p:=fun j p hp=>let ⟨o,a,b,_⟩:=M4 j p hp;⟨o,a,b⟩
 have bA:∀(o:Nat) ao p,(lK hb σ h h0)[o]?=some ao->(g++mV)[o]?=some p->ao≠.gone->
  (o<hb.length/\o∉σ/\hb[o]?=some ao/\g[o]?=some p)\/(∃j a0,h0[j]?=some a0/\mV[j]?=some p/\ao=a0.bO (mz hb σ h h0)/\(mz hb σ h h0)[j]?=some o/\((qh (lh h j)=true/\σ[j]?=some o)\/(qh (lh h j)=false/\o=hb.length+j))):=by
  intro o ao p h1 h2 cu
  rw[lK,List.getElem?_append,Ga] at h1
  split at h1
  ·rename_i hlt
   rw[Kj,Nat.zero_add] at h1
   have hg:g[o]?=some p:=by rw[List.getElem?_append_left (by omega)] at h2;exact h2
   cases qd:hb[o]? with
   |none=>rw[qd] at h1;cases h1
   |some a=>
    rw[qd] at h1
    simp only[Option.map_some] at h1
    injection h1 with h1
    cases hp:pos σ o 0 with
    |none=>
     rw[hp] at h1
     simp only at h1
     subst h1
     exact .inl ⟨hlt,P6 hp,rfl,hg⟩
    |some i=>
     rw[hp] at h1
     simp only at h1
     obtain⟨_,hi⟩:=JM hp
     rw[Nat.sub_zero] at hi
     cases hq:qh (lh h i) with
     |false=>rw[hq] at h1;exact absurd h1.symm cu
     |true=>
      rw[hq] at h1
      simp only[cond_true] at h1
      obtain⟨t,cs,ou⟩:=GD hq
      have e1:(gv σ g)[i]?=some p:=by rw[hσ i o hi];exact hg
      obtain⟨e2,t',fU,e3⟩:=ck i p t cs e1 ou
      obtain⟨o2,k1,k2,k3⟩:=M4 i p e2
      have ho:o2=o:=by
       rcases k3 with⟨_,k⟩|⟨k,_⟩
       ·rw[hi] at k;injection k with k;exact k.symm
       ·rw[hq] at k;cases k
      subst ho
      have e4:lh h0 i=.cells t' fU:=by
       rcases Gz h0 i with e|e
       ·have ahX:=(List.getElem?_eq_some_iff.1 e3).1
        have:∀(l:List AO) (n:Nat) a,l[n]?=some a->lh l n=a:=by
         intro l
         induction l with
         |nil=>intro n a h;simp at h
         |cons b l ih=>
          intro n a h
          cases n with
          |zero=>simp at h;simp[lh,h]
          |succ n=>simp at h;simp[lh,ih n a h]
        exact this h0 i _ e3
       ·rw[e3] at e;injection e with e;exact e.symm
      exact .inr ⟨i,_,e3,e2,by rw[<-h1,e4],k1,k3⟩
  ·rename_i dm
   rw[Ra,Nat.zero_add] at h1
   have ahY:hb.length<=o:=by omega
   cases hh:h0[o-hb.length]? with
   |none=>rw[hh] at h1;cases h1
   |some a0=>
    rw[hh] at h1
    simp only[Option.map_some] at h1
    injection h1 with h1
    cases hq:qh (lh h (o-hb.length)) with
    |true=>rw[hq] at h1;exact absurd h1.symm cu
    |false=>
     rw[hq] at h1
     simp only[cond_false] at h1
     have hg:mV[o-hb.length]?=some p:=by
      rw[List.getElem?_append_right (by omega),CL] at h2;exact h2
     obtain⟨o2,k1,k2,k3⟩:=M4 _ p hg
     have ho:o2=o:=by
      rcases k3 with⟨k,_⟩|⟨_,k⟩
      ·rw[hq] at k;cases k
      ·omega
     subst ho
     exact .inr ⟨_,a0,hh,hg,h1.symm,k1,k3⟩
 have wK:∀{p:Option Nat×Value} {ao:AO} {b:Nat},ao.owns p b->ao≠.gone:=by
  intro p ao b hb e
  subst e
  exact hb
 have hold:∀(o:Nat) ao p b,o∉σ->hb[o]?=some ao->g[o]?=some p->ao.owns p b->¬dF (gv σ g) h b/\b<w.heap.size:=by
  intro o ao p b hn h1 h2 h3
  refine⟨fun hO=>?_,hd.lt ⟨o,ao,p,h1,h2,h3⟩⟩
  obtain⟨o2,qZ,p2,hm,q1,q2,q3⟩:=dF.view V hd.len hO
  have:=hd.sep o o2 ao qZ p p2 b h1 q1 h2 q2 h3 q3
  subst this
  exact hn hm
 have hIn:∀b,I b->¬dF (gv σ g) h b:=by
  rintro b cw ⟨o,ao,p,q1,q2,q3⟩
  exact um.own o ao p b q1 q2 q3 cw
 have M5:∀b,dF (gv σ g) h b->gM M g hb b:=by
  intro b hO
  obtain⟨o2,qZ,p2,hm,q1,q2,q3⟩:=dF.view V hd.len hO
  exact⟨o2,qZ,p2,hM o2 hm,q1,q2,q3⟩
 refine⟨v,I',g++mV,r0.bO (mz hb σ h h0),lK hb σ h h0,rfl,⟨r0,h0,La,rfl,rfl⟩,⟨⟨?_,oV.aG,fun o ao p h1 h2=>?_,fun o ao p b h1 h2 h3 hI=>?_,fun o o' ao cA p p' b h1 fW h2 pe h3 lY=>?_⟩,hx.mono (fun b _ hO=>M5 b hO),i1,fun b cw=>(i2 b cw).imp id (Or.imp (M5 b) id),fun o p hp=>by rw[List.getElem?_append_left (List.getElem?_eq_some_iff.1 hp).1];exact hp,fun o ho hn=>?_,fun o ao p b ho h1 h2 h3=>?_,fun o ao p b ho h1 h2 h3=>?_⟩,rZ.up SX⟩
 ·rw[lK,List.length_append,List.length_append,Ga,Rb,CL,TR]
 ·by_cases cu:ao=.gone
  ·subst cu;trivial
  ·rcases bA o ao p h1 h2 cu with⟨_,hn,q1,q2⟩|⟨j,a0,q1,q2,rfl,_,_⟩
   ·exact((hd.obj o ao p q1 q2).ext hx hIn (fun b cw=>(hold o ao p b hn q1 q2 cw).1)).mono i1 (fun o p hp=>by rw[List.getElem?_append_left (List.getElem?_eq_some_iff.1 hp).1];exact hp)
   ·exact(oV.obj j a0 p q1 q2).up SX
 ·rcases bA o ao p h1 h2 (wK h3) with⟨_,hn,q1,q2⟩|⟨j,a0,q1,q2,rfl,_,_⟩
  ·obtain⟨k1,k2⟩:=hold o ao p b hn q1 q2 h3
   rcases i2 b hI with e|e|e
   ·exact hd.own o ao p b q1 q2 h3 e
   ·exact k1 e
   ·omega
  ·exact oV.own j a0 p b q1 q2 ((AO.vQ _ p a0 b).1 h3) hI
 ·rcases bA o ao p h1 h2 (wK h3) with⟨_,hn,q1,q2⟩|⟨j,a0,q1,q2,rfl,q3,_⟩<;>rcases bA o' cA p' fW pe (wK lY) with⟨_,mw,EM,EN⟩|⟨j',CJ,EM,EN,rfl,TS,_⟩
  ·exact hd.sep o o' ao cA p p' b q1 EM q2 EN h3 lY
  ·obtain⟨k1,k2⟩:=hold o ao p b hn q1 q2 h3
   rcases ow b ⟨j',CJ,p',EM,EN,(AO.vQ _ p' CJ b).1 lY⟩ with e|e
   ·exact absurd e k1
   ·omega
  ·obtain⟨k1,k2⟩:=hold o' cA p' b mw EM EN lY
   rcases ow b ⟨j,a0,p,q1,q2,(AO.vQ _ p a0 b).1 h3⟩ with e|e
   ·exact absurd e k1
   ·omega
  ·have:=oV.sep j j' a0 CJ p p' b q1 EM q2 EN ((AO.vQ _ p a0 b).1 h3) ((AO.vQ _ p' CJ b).1 lY)
   subst this
   rw[q3] at TS
   injection TS
 ·have M6:o∉σ:=fun hm=>hn (hM o hm)
  rw[lK,List.getElem?_append_left (by rw[Ga];exact ho),Kj,Nat.zero_add]
  cases hp:pos σ o 0 with
  |none=>simp
  |some i=>
   obtain⟨_,hi⟩:=JM hp
   rw[Nat.sub_zero] at hi
   exact absurd (List.mem_of_getElem? hi) M6
 ·rcases bA o ao p h1 h2 (wK h3) with⟨_,hn,q1,q2⟩|⟨j,a0,q1,q2,rfl,q3,q4⟩
  ·exact⟨ao,q1,h3⟩
  ·rcases q4 with⟨k1,k2⟩|⟨_,k⟩
   ·obtain⟨t,cs,ou⟩:=GD k1
    have e1:=V.obj j o _ k2 ou
    have hg:(gv σ g)[j]?=g[o]?:=hσ j o k2
    have Mg:g[o]?=some (g[o]'(by rw[CL];exact ho)):=List.getElem?_eq_getElem _
    rw[Mg] at hg
    obtain⟨e2,t',fU,e3⟩:=ck j _ t cs hg ou
    rw[q2] at e2
    injection e2 with e2
    rw[q1] at e3
    injection e3 with e3
    subst e3
    refine⟨_,e1,?_⟩
    have h4:p.1=some b:=h3
    exact h4
   ·omega
 ·rcases bA o ao p h1 h2 (wK h3) with⟨hlt,_,_,_⟩|⟨j,a0,q1,q2,rfl,q3,q4⟩
  ·omega
  ·exact(ow b ⟨j,a0,p,q1,q2,(AO.vQ _ p a0 b).1 h3⟩).imp (M5 b) id
theorem bC.pure {R:D->Prop} (hF:bC P f az [] (fun r h'=>R r/\h'=[])) (hp:ga.pl az=true) {EL:List D} (hc:aa EL az) {hb:List AO} {M:List Nat}:Ej P f EL hb M fun r h2=>R r/\h2=hb:=by
 refine⟨hF.1,fun w I g vs hW hd hv=>?_⟩
 have oV:Den I [] w []:=⟨rfl,hd.aG,fun o ao p h1=>by simp at h1,fun o ao p b h1=>by simp at h1,fun o o' ao cA p p' b h1=>by simp at h1⟩
 refine(hF.2 w I [] vs hW oV (ur (hc.ok hv) hp).Ay).mono ?_
 have fu:∀b,¬dF [] [] b:=by rintro b ⟨o,ao,p,q1,_⟩;simp at q1
 rintro e w' (⟨v,I',mV,r0,h0,rfl,⟨hR,rfl⟩,mU,rZ,hx,i1,i2,ow,ck⟩|⟨ch,rfl,hp,hx⟩)
 case inr=>exact .inr ⟨ch,rfl,hp,hx.mono (fun x _ ho=>absurd ho (fu x))⟩
 left
 have hg:mV=[]:=List.eq_nil_of_length_eq_zero mU.len
 subst hg
 have kZ:Ext (fun _=>False) w w':=hx.mono (fun b _ hb=>fu b hb)
 refine⟨v,I',g,r0,hb,rfl,⟨hR,rfl⟩,⟨((hd.ext kZ (fun _ _=>id) (fun _ _=>id))).Al i1 mU.aG (fun b hI hO=>?_),kZ.mono (fun _ _ h=>h.elim),i1,fun b hI=>(i2 b hI).imp id (Or.imp (fun h=>absurd h (fu b)) id),fun _ _ h=>h,fun _ _ _=>rfl,fun o ao p b ho h1 _ h3=>⟨ao,h1,h3⟩,fun o ao p b ho h1 _ _=>by have:=(List.getElem?_eq_some_iff.1 h1).1;omega⟩,rZ.mono (fun _ h=>h) (fun o p h=>by simp at h)⟩
 have hlt:=hd.lt hO
 rcases i2 b hI with e|e|e
 ·obtain⟨o,ao,p,q1,q2,q3⟩:=hO
  exact hd.own o ao p b q1 q2 q3 e
 ·exact fu b e
 ·omega
end
end
end Go.Proofs.YtafomdobfmmleaaGreatDoor
