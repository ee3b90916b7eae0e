/- Lemmas and contracts, part 7. -/
import Derived.Test.YtafomdobfmmleaaGreatDoorZk6
import Derived.Laws.StructEq
import Derived.Lib.ConvBytes
/- Lemmas and contracts. -/
namespace Go.Proofs.YtafomdobfmmleaaGreatDoor
open Go.RowKit
set_option linter.unusedSectionVars false
variable [Old]
set_option linter.unusedVariables false
section
variable {P:Program} {Q:Exit->S->Prop}
def Pg [Wd] (P:Program) (I:Nat->Prop) (g:aX) (w:World) (ρ:Operand->Value) (o:Oper) (Q:Exit->S->Prop) (k:D->T):Prop:=
 ∃v d,(∀w',(execOp ρ o).run P w'=.ok (.value v) w')/\Vr I g w v d/\(k d).ok P Q
theorem Yl {m:Sem Value} {v:Value} (h:∀w,m.run P w=.ok v w) (w:World):(do pure (.value (<-m)):Sem Next).run P w=.ok (.value v) w:=by
 rw[Sem.run_bind,h];rfl
theorem Pg.mk [Wd] {I:Nat->Prop} {g:aX} {w:World} {ρ:Operand->Value} {o:Oper} {k:D->T} {m:Sem Value} {v:Value} {d:D} (he:execOp ρ o=(do pure (.value (<-m)))) (h:∀w,m.run P w=.ok v w) (hr:Vr I g w v d) (hk:(k d).ok P Q):Pg P I g w ρ o Q k:=
 ⟨v,d,fun w'=>by rw[he];exact Yl h w',hr,hk⟩
theorem R2 {op:BinOp} {t:TypeId} {x y:Operand} {u v:Value} (h1:u≠.nilIface) (h2:∀a,u≠.agg a) (w:World):(eqGuard op t x y u v).run P w=.ok () w:=by
 unfold eqGuard
 cases op<;>(cases u<;>first
  |exact absurd rfl h1
  |exact absurd rfl (h2 _)
  |rfl
  |(cases v<;>rfl))
theorem R3 [Wd] {tb:TT} {op:BinOp} {xt:TypeId} {x y:D} {u:Value} {I:Nat->Prop} {g:aX} {w:World} (hx:Vr I g w u x) {c:D->T} (h:(AY tb op xt x y c).ok P Q):u≠.nilIface/\∀a,u≠.agg a:=by
 unfold AY at h
 split at h
 ·cases hx.lX;exact⟨by simp,by simp⟩
 ·cases hx.kB;exact⟨by simp,by simp⟩
 ·cases hx.oq;exact⟨by simp,by simp⟩
 ·obtain⟨b,bo,_,rfl⟩:=hx.sG;exact⟨by simp,by simp⟩
 ·cases hx.zU;exact⟨by simp,by simp⟩
 ·have h0:=hx.rq
  cases h0
  exact⟨by simp,by simp⟩
 ·cases hx.rm;exact⟨by simp,by simp⟩
 ·exact h.elim
theorem M6 [Wd] {tb:TT} (aM:tb.ok P) {I:Nat->Prop} {g:aX} {w:World} {ih:TypeId->D->D->(Bool->T)->T} {d:Nat}
 (OP:∀{t:TypeId} {x y:D} {u v:Value} {k:Bool->T},Vr I g w u x->Vr I g w v y->(ih t x y k).ok P Q->∃z,(∀w',(Op.equalIn d t u v).run P w'=.ok z w')/\(k z).ok P Q)
 {xs ys:List D} {us vs:List Value} (hx:bR I g w us xs) (h1:∀v∈us,v.oneCell'=true) (hy:bR I g w vs ys) (h2:∀v∈vs,v.oneCell'=true):
 ∀(gs:List Field) (hn:(gs.all fun f=>!(f.name== "_"))=true) (acc:Bool) (k:Bool->T),(DZ tb ih xs ys (gs.map fun f=>(f.offset,f.type)) acc k).ok P Q->
  ∃z,(∀w',(Op.eqFields d us.toArray vs.toArray gs).run P w'=.ok z w')/\(k (acc&&z)).ok P Q
 |[],hn,acc,k,h=>⟨true,fun w'=>by simp[Op.eqFields],by rw[Bool.and_true];exact h⟩
 |f::gs,hn,acc,k,h=>by
  simp only[List.map_cons,DZ] at h
  simp only[List.all_cons,Bool.and_eq_true] at hn
  have hf:f.name≠ "_":=by simpa using hn.1
  split at h
  ·rename_i x y e1 e2
   obtain⟨u,r1,r2⟩:=Fp aM e1 hx h1
   obtain⟨v,r3,r4⟩:=Fp aM e2 hy h2
   obtain⟨z,r5,h⟩:=OP r2 r4 h
   obtain⟨z2,r6,h⟩:=M6 aM OP hx h1 hy h2 gs hn.2 (acc&&z) k h
   refine⟨z&&z2,fun w'=>?_,by rw[<-Bool.and_assoc];exact h⟩
   simp only[Op.eqFields,if_pos hf,Sem.run_bind,r1,r3,r5,Result.andThen_ok]
   cases z
   ·simp
   ·simp[r6]
  ·exact h.elim
theorem M7 [Wd] {tb:TT} (aM:tb.ok P) {I:Nat->Prop} {g:aX} {w:World} (e:Nat):∀(n:Nat) {t:TypeId} {x y:D} {u v:Value} {k:Bool->T},Vr I g w u x->Vr I g w v y->(zc tb n t x y k).ok P Q->∃z,(∀w',(Op.equalIn (n+e) t u v).run P w'=.ok z w')/\(k z).ok P Q
 |0,t,x,y,u,v,k,hx,hy,h=>h.elim
 |n+1,t,x,y,u,v,k,hx,hy,h=>by
  rw[show n+1+e=(n+e)+1 from by omega]
  unfold zc at h
  split at h
  ·rename_i sz ig z kd hl
   split at h
   ·cases hx.lX;cases hy.lX
    rename_i k1 a k2 b
    cases hk:Nat.beq (kM k1) (kM k2) with
    |false=>rw[hk] at h;exact h.elim
    |true=>
     rw[hk] at h
     cases CM hk
     exact⟨_,fun w'=>run_equalIn_int w' _ t _ _ a b (zW aM hl),h⟩
   ·cases hx.kB;cases hy.kB
    exact⟨_,fun w'=>by rw[run_equalIn_string w' _ t _ _ (ru aM hl),E3],h⟩
   ·cases hx.oq;cases hy.oq
    exact⟨_,fun w'=>run_equalIn_bool' w' _ t _ _ (KK aM hl),h⟩
   ·rename_i fs xs ys
    obtain⟨us,rfl,k1,k2⟩:=hx.ot
    obtain⟨vs,rfl,k3,k4⟩:=hy.ot
    obtain⟨gs,hu,rfl,_⟩:=BP aM hl
    have he:=(aM t _ hl).eq rfl
    unfold Dj at he
    rw[hu] at he
    simp only[Bool.and_eq_true,Bool.not_eq_true'] at he
    obtain⟨e1,e2,e3⟩:=he
    have D1:P.fieldsOf t=gs:=by unfold Program.fieldsOf;rw[hu]
    obtain⟨z,r,h⟩:=M6 aM (fun p q r=>M7 aM e n p q r) k1 k2 k3 k4 gs.toList (by simpa using e3) true k h
    refine⟨z,fun w'=>?_,by simpa using h⟩
    rw[run_equalIn_struct w' _ t _ _ (by rw[D1];exact hu) e1,D1]
    exact r w'
   ·exact h.elim
  ·exact h.elim
theorem Xt [Wd] {tb:TT} (aM:tb.ok P) {I:Nat->Prop} {g:aX} {w:World} {op:BinOp} {t:TypeId} {x y:D} {u v:Value} {p q:Operand} {c:D->T} (ha:Hh x=true) (hx:Vr I g w u x) (hy:Vr I g w v y) (h:(zc tb 6 t x y fun z=>oL op z c).ok P Q):
 ∃r d,(∀w',(do eqGuard op t p q u v;binOp op t u v:Sem Value).run P w'=.ok r w')/\Vr I g w r d/\(c d).ok P Q:=by
 have h0:=h
 obtain⟨z,r,h⟩:=M7 aM 9994 6 hx hy h
 have hs:∃us vs:List Value,u=.agg us.toArray/\v=.agg vs.toArray/\P.eqGuardType P.depth t=false:=by
  cases x<;>try (cases ha;done)
  rename_i xs
  obtain⟨us,rfl,k1,k2⟩:=hx.ot
  unfold zc at h0
  split at h0
  ·rename_i sz ig z kd hl
   cases kd<;>cases y<;>try exact h0.elim
   obtain⟨vs,rfl,k3,k4⟩:=hy.ot
   have he:=(aM t _ hl).eq rfl
   unfold Dj at he
   simp only[Bool.and_eq_true,Bool.not_eq_true'] at he
   exact⟨us,vs,rfl,rfl,he.2.1⟩
  ·exact h0.elim
 obtain⟨us,vs,rfl,rfl,hg⟩:=hs
 cases op<;>simp only[oL,T.ok] at h
 case eql=>
  refine⟨_,_,fun w'=>?_,.Dk z,h⟩
  rw[Sem.run_bind,run_eqGuard_agg w' _ _ _ _ _ _ hg]
  simp only[Result.andThen_ok]
  rw[run_eql_struct,show(10000:Nat)=6+9994 from rfl,r];rfl
 case neq=>
  refine⟨_,_,fun w'=>?_,.Dk (!z),h⟩
  rw[Sem.run_bind,run_eqGuard_agg w' _ _ _ _ _ _ hg]
  simp only[Result.andThen_ok]
  rw[run_neq_struct,show(10000:Nat)=6+9994 from rfl,r];rfl
theorem KQ {tb:TT} (aM:tb.ok P) {t:TypeId} {f o:Nat} {u:TypeId} (h:xY tb t f=some (o,u)):∃(gs:Array Field) (fl:Field) (i:og),P.underlying t=some (.struct gs)/\gs[f]?=some fl/\fl.offset=o/\fl.type=u/\tb.look u=some i/\∃inf,P.info? u=some inf/\inf.size≠0:=by
 unfold xY at h
 split at h
 ·rename_i sz ig z fs hl
  obtain⟨gs,hu,rfl,_⟩:=BP aM hl
  split at h
  ·rename_i o' t' hf
   split at h
   ·rename_i i hi
    cases hz:Nat.beq i.size 0 with
    |true=>rw[hz] at h;cases h
    |false=>
     rw[hz] at h
     injection h with h
     injection h with h1 h2
     subst h1 h2
     rw[Gj,List.getElem?_map] at hf
     cases hg:gs.toList[f]? with
     |none=>rw[hg] at hf;cases hf
     |some fl=>
      rw[hg] at hf
      injection hf with hf
      injection hf with e1 e2
      obtain⟨inf,z',gM,cT,_⟩:=(aM _ i hi).info
      refine⟨gs,fl,i,hu,by rw[<-Array.getElem?_toList];exact hg,e1,e2,hi,inf,gM,fun e=>?_⟩
      rw[<-cT,e] at hz
      cases hz
   ·cases h
  ·cases h
 ·cases h
theorem Eo {tb:TT} (aM:tb.ok P) {t:TypeId} {f o:Nat} {u:TypeId} (h:xY tb t f=some (o,u)) (b off:Nat) (w:World):(Instr.fieldAt t (.pointer (some ⟨b,off,none⟩)) f).run P w=.ok (.pointer (some ⟨b,off+o,none⟩)) w:=by
 obtain⟨gs,fl,i,hu,hg,rfl,rfl,_,inf,gM,hz⟩:=KQ aM h
 unfold Instr.fieldAt
 rw[Sem.run_bind,run_underlying hu]
 simp only[Result.andThen_ok,hg,Instr.sureAddr,Sem.run_bind,Sem.run_pure,fieldPlace,su gM,if_neg hz,Addr.add_mid]
theorem S6 {tb:TT} (aM:tb.ok P) {t:TypeId} {f o:Nat} {u:TypeId} (h:xY tb t f=some (o,u)) {cs:Array Value} {v:Value} (w:World) (hp:∀w',(part u cs o).run P w'=.ok v w'):(Instr.field t (.agg cs) f).run P w=.ok v w:=by
 obtain⟨gs,fl,i,hu,hg,rfl,rfl,_⟩:=KQ aM h
 unfold Instr.field
 rw[Sem.run_bind,run_underlying hu]
 simp only[Result.andThen_ok,hg,asAgg,Sem.run_bind,Sem.run_pure]
 exact hp w
theorem MC {tb:TT} (aM:tb.ok P) {s:S} {a:Act} {I:Nat->Prop} {g:aX} {w:World} (bM:∀x,Vr I g w (a.eval x) (ev s x)) {fs:List (Nat×TypeId)} {pl:List (Nat×Nat)} (lM:pl.length=fs.length) (hp:∀(i:Nat) (o:Nat) (t:TypeId) (j:og),fs[i]?=some (o,t)->tb.look t=some j->pl[i]?=some (o,j.size)):
 ∀(ps:List (Nat×Operand)) (cs fB:List D) (A:Array Value),bR I g w A.toList cs->(∀v∈A.toList,v.oneCell'=true)->yz tb fs s cs ps=some fB->
  ∃A',Instr.fill (pl.toArray[·]?) A (ps.map fun x=>(x.1,a.eval x.2))=some A'/\bR I g w A'.toList fB/\∀v∈A'.toList,v.oneCell'=true
 |[],cs,fB,A,hv,h1,h=>by
  simp only[yz] at h
  injection h with h
  subst h
  exact⟨A,rfl,hv,h1⟩
 |(i,x)::r,cs,fB,A,hv,h1,h=>by
  simp only[yz] at h
  split at h
  ·cases h
  ·rename_i o t hf
   rw[Gj] at hf
   split at h
   ·rename_i j ds hj qg
    cases cj:Nat.beq ds.length j.size&&Nat.blt 0 j.size with
    |false=>rw[cj] at h;cases h
    |true=>
     rw[cj] at h
     rw[Bool.and_eq_true] at cj
     obtain⟨hl,nU⟩:=cj
     simp only[cond_true] at h
     split at h
     ·rename_i cs1 ho
      obtain⟨rfl,hle⟩:=xx _ _ _ _ ho
      obtain⟨k1,k2⟩:=zL (bM x) qg
      have cT:(a.eval x).cells.size=j.size:=by
       have:=k1.1
       rw[Array.length_toList] at this
       rw[this];exact Nat.eq_of_beq_eq_true hl
      have hlen:(a.eval x).cells.size=ds.length:=by rw[cT];exact(Nat.eq_of_beq_eq_true hl).symm
      have hAs:A.size=cs.length:=by rw[<-Array.length_toList];exact hv.1
      obtain⟨A',e1,e2,e3⟩:=MC aM bM lM hp r _ fB ((a.eval x).cells.zipIdx.foldl (fun (c:Array Value) (y:Value×Nat)=>c.setIfInBounds (o+y.2) y.1) A) (by rw[BV];exact hv.nG o k1) (fun v hm=>by
       rw[BV] at hm
       rcases B7 _ _ _ _ hm with e|e
       ·exact h1 v e
       ·exact k2 v e) h
      refine⟨A',?_,e2,e3⟩
      simp only[List.map_cons,Instr.fill]
      rw[List.getElem?_toArray,hp i o t j hf hj]
      have uX:0<j.size:=Nat.lt_of_lt_of_le (Nat.lt_of_succ_le (Nat.le_of_ble_eq_true nU)) (Nat.le_refl _)
      have D2:0<ds.length:=by omega
      have bS:ds≠[]:=List.ne_nil_of_length_pos D2
      have c2:¬((decide ((a.eval x).cells.size≠j.size)||decide (o+(a.eval x).cells.size>A.size))=true):=by
       rcases hle with e|e
       ·exact absurd e bS
       ·simp only[Bool.or_eq_true,decide_eq_true_eq]
        omega
      show(if(decide ((a.eval x).cells.size≠j.size)||decide (o+(a.eval x).cells.size>A.size))=true then none else _)=_
      rw[if_neg c2]
      exact e1
     ·cases h
   ·cases h
theorem Ym {I:Nat->Prop} {g:aX} {w:World} {v:Value} {d:D} (h:zD v=some d):Vr I g w v d/\v.oneCell'=true:=by
 unfold zD at h
 split at h
 ·injection h with h;subst h;exact⟨.rd (.bool _),rfl⟩
 ·injection h with h;subst h;exact⟨.rd (.int _ _),rfl⟩
 ·rename_i s
  cases hs:s.size==0 with
  |false=>rw[hs] at h;cases h
  |true=>
   rw[hs] at h
   injection h with h
   subst h
   have:s=au []:=by
    apply ByteArray.ext
    have h0:s.data.size=0:=by simpa using hs
    exact Array.eq_empty_of_size_eq_zero h0
   rw[this]
   exact⟨.rd (.str []),rfl⟩
 ·injection h with h;subst h;exact⟨.rd .nils,rfl⟩
 ·injection h with h;subst h;exact⟨.rd .dF,rfl⟩
 ·injection h with h;subst h;exact⟨.rd .aB,rfl⟩
 ·injection h with h;subst h;exact⟨.rd .iW,rfl⟩
 ·injection h with h;subst h;exact⟨.mu,rfl⟩
 ·cases h
theorem B8 {I:Nat->Prop} {g:aX} {w:World}:∀(vs:List Value) (ds:List D),C5 vs ds->bR I g w vs ds/\∀v∈vs,v.oneCell'=true
 |[],[],_=>⟨.nil,by simp⟩
 |v::vs,d::ds,h=>by
  obtain⟨h1,h2⟩:=B8 vs ds h.2
  obtain⟨k1,k2⟩:=Ym (I:=I) (g:=g) (w:=w) h.1
  exact⟨.cons k1 h1,fun u hu=>by rcases List.mem_cons.1 hu with rfl|e;exact k2;exact h2 u e⟩
 |[],_::_,h=>h.elim
 |_::_,[],h=>h.elim
theorem Rj {fs:List Field} (h:∀f∈fs,∃i,P.info? f.type=some i):∃pl:List (Nat×Nat),fs.mapM (fun f=>(P.info? f.type).map fun i=>(f.offset,i.size))=some pl/\pl.length=fs.length/\∀(i:Nat) (f:Field) (inf:TypeInfo),fs[i]?=some f->P.info? f.type=some inf->pl[i]?=some (f.offset,inf.size):=by
 induction fs with
 |nil=>exact⟨[],rfl,rfl,by simp⟩
 |cons f fs ih=>
  obtain⟨pl,h1,h2,h3⟩:=ih (fun x hx=>h x (by simp[hx]))
  obtain⟨inf,hi⟩:=h f (by simp)
  refine⟨(f.offset,inf.size)::pl,by simp[List.mapM_cons,hi,h1],by simp[h2],fun i x q hx hq=>?_⟩
  cases i with
  |zero=>
   simp at hx;subst hx
   rw[hi] at hq;injection hq with hq;subst hq
   rfl
  |succ i=>simp at hx ⊢;exact h3 i x q hx hq
theorem UG {tb:TT} (aM:tb.ok P) {s:S} {a:Act} {I:Nat->Prop} {g:aX} {w:World} (bM:∀x,Vr I g w (a.eval x) (ev s x)) {t:TypeId} {sz ig:Nat} {z:List D} {fs:List (Nat×TypeId)} (hl:tb.look t=some ⟨sz,ig,z,.struct fs⟩) {parts:Array (Nat×Operand)} {cs:List D} (h:yz tb fs s z parts.toList=some cs):
 ∃A:Array Value,(∀w',(Instr.build t (parts.map fun (i,x)=>(i,a.eval x))).run P w'=.ok (.agg A) w')/\Vr I g w (.agg A) (.agg cs):=by
 obtain⟨gs,hu,D1,kH⟩:=BP aM hl
 obtain⟨inf,zv,gM,cT,rW,hz,tC,tD,wQ⟩:=(aM t _ hl).info
 obtain⟨pl,tE,gm,Bu⟩:=Rj kH
 obtain⟨A0,rfl⟩:=wQ.2 rfl
 obtain⟨k1,k2⟩:=B8 (I:=I) (g:=g) (w:=w) _ _ tC
 subst D1
 obtain⟨A,e1,e2,e3⟩:=MC aM bM (pl:=pl) (by rw[gm];simp) (fun i o u j h1 h2=>by
  rw[List.getElem?_map] at h1
  cases hg:gs.toList[i]? with
  |none=>rw[hg] at h1;cases h1
  |some f=>
   rw[hg] at h1
   injection h1 with h1
   injection h1 with e1 e2
   subst e1 e2
   obtain⟨Zp,z2,Yn,Zq,_⟩:=(aM _ j h2).info
   rw[<-Zq]
   exact Bu i f Zp hg Yn) parts.toList z cs A0 k1 k2 h
 refine⟨A,fun w'=>run_build w' t _ A ?_,?_⟩
 ·unfold Program.built
  rw[gM,hu]
  simp only[hz,tE,Value.cells,Array.toList_map]
  exact e1
 ·have:=Vr.bA e2 e3
  simpa using this
end
end Go.Proofs.YtafomdobfmmleaaGreatDoor

/- Lemmas and contracts. -/
namespace Go.Proofs.YtafomdobfmmleaaGreatDoor
open Go.RowKit
set_option linter.unusedSectionVars false
variable [Old]
set_option linter.unusedVariables false
section
variable {P:Program} {Q:Exit->S->Prop}
theorem ya {I:Nat->Prop} {g:aX} {w:World} {v:Value} {d:D} {n:Int} (h:Vr I g w v d) (hi:idx d=some n):∃k,v=.int k n:=by
 cases d<;>simp only[idx] at hi<;>first|(cases hi;done)|(injection hi with hi;subst hi;exact⟨_,h.lX⟩)
theorem C9:∀(h:List AO) (o:Nat),lh h o=.gone\/h[o]?=some (lh h o)
 |[],o=>.inl (by simp[lh])
 |a::l,0=>.inr (by simp[lh])
 |a::l,n+1=>by
  rcases C9 l n with e|e
  ·exact .inl (by simp[lh,e])
  ·exact .inr (by simp[lh,e])
theorem sR {h:List AO} {o:Nat} {e:TypeId} {n:Nat} {xs:List (List D)} (k:lh h o=.row e n xs):h[o]?=some (.row e n xs):=by
 rcases C9 h o with e'|e'
 ·rw[k] at e';cases e'
 ·rw[k] at e';exact e'
theorem Cs {h:List AO} {o:Nat} {e:TypeId} {cs:List D} (k:lh h o=.cells e cs):h[o]?=some (.cells e cs):=by
 rcases C9 h o with e'|e'
 ·rw[k] at e';cases e'
 ·rw[k] at e';exact e'
theorem Ww {I:Nat->Prop} {g:aX} {w:World} {h:List AO} (hd:Den I g w h) {v:Value} {d:D} {n:Nat} (hv:Vr I g w v d) (hl:Hi h d=some n):∃a c,v=.slice a n c:=by
 cases d<;>simp only[Hi] at hl<;>try (cases hl;done)
 case list m xs=>
  injection hl with hl
  subst hl
  have h0:=hv.rq
  cases h0 with
  |list A cap m l xs U cj _ _ _ _ _ _ _=>exact⟨_,_,by rw[cj]⟩
 case own m xs=>
  injection hl with hl
  subst hl
  have h0:=hv.forget.rq
  cases h0 with
  |list A cap m l xs U cj _ _ _ _ _ _ _=>exact⟨_,_,by rw[cj]⟩
 case nils=>injection hl with hl;subst hl;exact⟨_,_,hv.rm⟩
 case row o=>
  obtain⟨bo,a,l,c,hg,rfl⟩:=hv.sF
  cases hk:lh h o with
  |row e m xs=>
   rw[hk] at hl
   simp only at hl
   injection hl with hl
   subst hl
   obtain⟨a',c',vs,hp,_⟩:=hd.obj o _ _ (sR hk) hg
   injection hp with e1 e2 e3
   exact⟨a,c,by rw[e2]⟩
  |cells e cs=>rw[hk] at hl;simp at hl
  |gone=>rw[hk] at hl;simp at hl
theorem E5 {x:Value} {k:IntKind} {n:Int} (hx:x=.int k n) {y:Nat} (h0:0<=n) (h1:n<=y) (c:BoundsCode) (w:World):(Instr.sliceBound x y c).run P w=.ok n.toNat w:=by
 subst hx
 simp[Instr.sliceBound,asIntOf,h0,h1]
theorem M8 {I:Nat->Prop} {g:aX} {w:World} {s:S} {a:Act} (bM:∀x,Vr I g w (a.eval x) (ev s x)) {lo hi:Option Operand} {l h:Int} {len cap:Nat} {b:Bool} (nh:Bt s lo=some l) (r7:D0 s len hi=some h) (h0:0<=l) (h1:l<=h) (h2:h<=len) (hc:len<=cap) (w':World):
 (Instr.sliceBounds b len cap (lo.map a.eval) (hi.map a.eval) none).run P w'=.ok (l.toNat,h.toNat,cap) w':=by
 have hH:∀x,hi=some x->∃k,a.eval x=.int k h:=fun x e=>by subst e;exact ya (bM x) r7
 have hL:∀x,lo=some x->∃k,a.eval x=.int k l:=fun x e=>by subst e;exact ya (bM x) nh
 cases hi with
 |none=>
  simp only[D0] at r7
  injection r7 with r7
  subst r7
  cases lo with
  |none=>
   simp only[Bt] at nh
   injection nh with nh
   subst nh
   simp[Instr.sliceBounds]
  |some x=>
   obtain⟨k,hk⟩:=hL x rfl
   have:=E5 (P:=P) hk (y:=len) h0 (by omega) .sliceB w'
   simp[Instr.sliceBounds,this]
 |some y=>
  obtain⟨k2,fV⟩:=hH y rfl
  have q:=fun c=>E5 (P:=P) fV (y:=cap) (by omega) (by omega) c w'
  cases lo with
  |none=>
   simp only[Bt] at nh
   injection nh with nh
   subst nh
   simp[Instr.sliceBounds,q]
  |some x=>
   obtain⟨k,hk⟩:=hL x rfl
   have:=E5 (P:=P) hk (y:=h.toNat) h0 (by omega) .sliceB w'
   simp[Instr.sliceBounds,q,this]
theorem QF (s:List UInt8) (l h:Nat):(au s).extract l h=au ((s.drop l).take (h-l)):=by
 apply ByteArray.ext
 apply Array.toList_inj.1
 simp[au,ByteArray.data_extract,List.extract_eq_take_drop]
theorem Dr.cut {I:Nat->Prop} {w:World} {A:Option Addr} {len cap n:Nat} {xs:List (List D)} (h:Dr I w (.slice A len cap) (.list n xs)) {l k:Nat} (h1:l<=k) (h2:k<=len):
 Dr I w (.slice (if cap=l then A else A.map (·.add (l*n))) (k-l) (cap-l)) (.list n ((xs.drop l).take (k-l))):=by
 cases h with
 |list A cap n len xs U cj hl hm eu hlen hA g1 hU=>
  have hg:∀(i:Nat) x,((xs.drop l).take (k-l))[i]?=some x->xs[l+i]?=some x:=by
   intro i x hx
   rw[List.getElem?_take] at hx
   split at hx
   ·rw[List.getElem?_drop] at hx;exact hx
   ·cases hx
  refine .list _ _ n _ _ (fun i j=>U (l+i) j) (by simp;omega) (by omega) (by omega) (fun e=>?_) (fun x hx=>hlen x (List.mem_of_mem_drop (List.mem_of_mem_take hx))) (fun hp=>?_) (fun i x j d hx=>g1 (l+i) x j d (hg i x hx)) (fun i x j d hx=>hU (l+i) x j d (hg i x hx))
  ·split at e
   ·have:=eu e;omega
   ·cases A with
    |none=>have:=eu rfl;omega
    |some ad=>cases e
  ·obtain⟨b,off,rfl,hb,hI,hc⟩:=hA (by omega)
   rw[if_neg (by omega)]
   refine⟨b,off+l*n,by simp only[Option.map_some,Addr.add_mid],hb,hI,fun i x j d hx hj=>?_⟩
   have:=hc (l+i) x j d (hg i x hx) hj
   rw[<-this]
   congr 2
   rw[Nat.add_mul]
   omega
theorem UH (k:IntKind) (a b:Int) (w:World):(Builtin.max2 (.int k a) (.int k b)).run P w=.ok (.int k (if a<b then b else a)) w:=by
 simp[Builtin.max2]
theorem UI (k:IntKind) (a b:Int) (w:World):(Builtin.min2 (.int k a) (.int k b)).run P w=.ok (.int k (if b<a then b else a)) w:=by
 simp[Builtin.min2]
set_option maxHeartbeats 4000000 in
theorem Fq [Wd] {E:En} (aM:E.tb.ok P) {s:S} {a:Act} {I:Nat->Prop} {g:aX} {w:World} (bM:∀x,Vr I g w (a.eval x) (ev s x)) (hd:Den I g w s.h) {o:Oper} {k:D->T} (h:(yA E o.op s k).ok P Q):Pg P I g w a.eval o Q k:=by
 obtain⟨dst,op,ty,pos,after,guard⟩:=o
 simp only at h
 unfold yA at h
 split at h
 ·
  exact⟨_,_,fun w'=>rfl,bM _,h⟩
 ·exact⟨_,_,fun w'=>rfl,bM _,h⟩
 ·
  rename_i c x y
  split at h
  ·rename_i b0 hc
   have hb:=(bM c);rw[hc] at hb
   have hb:=hb.oq
   split at h
   ·rename_i u v hu hv
    have h1:=bM x;rw[hu] at h1
    have h2:=bM y;rw[hv] at h2
    refine⟨.bool (cond b0 u v),_,fun w'=>?_,.Dk _,h⟩
    cases b0<;>simp[execOp,asBool,hb,h1.oq,h2.oq]
   ·cases b0 with
    |true=>exact⟨_,_,fun w'=>by simp[execOp,asBool,hb],bM x,h.1 rfl⟩
    |false=>exact⟨_,_,fun w'=>by simp[execOp,asBool,hb],bM y,h.2 rfl⟩
  ·exact h.elim
 ·
  rename_i x
  split at h
  ·rename_i o f hx
   have hv:=bM x;rw[hx] at hv
   obtain⟨b,bo,_,e⟩:=hv.sG
   exact⟨_,_,fun w'=>by simp only[execOp,e];rfl,by rw[<-e];exact hv,h⟩
  ·rename_i cs hx
   have hv:=bM x;rw[hx] at hv
   have h0:=hv.CL
   cases e:a.eval x with
   |pointer p=>
    rw[e] at h0 hv
    cases h0
    exact⟨_,_,fun w'=>by simp only[execOp,e];rfl,hv,h⟩
   |_=>rw[e] at h0;cases h0
  ·rename_i f n c hx
   have hv:=bM x;rw[hx] at hv
   obtain⟨vs,e,_⟩:=hv.CW
   exact⟨_,_,fun w'=>by simp only[execOp,e];rfl,by rw[<-e];exact hv,h⟩
  ·rename_i o n i f hx
   have hv:=bM x;rw[hx] at hv
   obtain⟨bo,b,base,l,c,_,e⟩:=hv.zV
   exact⟨_,_,fun w'=>by simp only[execOp,e];rfl,by rw[<-e];exact hv,h⟩
  ·exact h.elim
 ·
  rename_i tF xt x yt
  split at h
  ·rename_i b sz ig z hx hl
   have hv:=bM x;rw[hx] at hv
   obtain⟨ms,hu⟩:=R1 aM hl
   have hq:∀w',(Op.equal xt (a.eval x) .nilIface).run P w'=.ok b w':=fun w'=>by
    rcases hv.FT with⟨rfl,e⟩|⟨rfl,t,u,e⟩
    ·rw[e];exact Pz hu w'
    ·rw[e];exact Py hu t u w'
   have bS:(∀k n,a.eval x≠.int k n)/\(∀s,a.eval x≠.string s)/\(∀k n,a.eval x≠.float k n)/\∀k n m,a.eval x≠.complex k n m:=by
    rcases hv.FT with⟨_,e⟩|⟨_,t,u,e⟩<;>rw[e]<;>simp
   obtain⟨v,d,r1,r2,r3⟩:=uq (P:=P) (xt:=xt) hq bS.1 bS.2.1 bS.2.2.1 bS.2.2.2 h
   refine Pg.mk (m:=do eqGuard tF xt x (.const .nilIface) (a.eval x) .nilIface;binOp tF xt (a.eval x) .nilIface) rfl (fun w'=>?_) (r2 I g w) r3
   have hg:(eqGuard tF xt x (.const .nilIface) (a.eval x) .nilIface).run P w'=.ok () w':=by
    unfold eqGuard
    rcases hv.FT with⟨_,e⟩|⟨_,t,u,e⟩<;>rw[e]<;>cases tF<;>simp
   rw[Sem.run_bind,hg]
   exact r1 w'
  ·exact h.elim
 ·
  rename_i tF xt x y yt hny
  cases IF:Hh (ev s x) with
  |true=>
   rw[IF] at h
   obtain⟨v,d,h1,h2,h3⟩:=Xt (p:=x) (q:=y) aM IF (bM x) (bM y) h
   exact Pg.mk (m:=do eqGuard tF xt x y (a.eval x) (a.eval y);binOp tF xt (a.eval x) (a.eval y)) rfl h1 h2 h3
  |false=>
  rw[IF] at h
  obtain⟨v,d,h1,h2,h3⟩:=Wv aM (bM x) (bM y) h
  obtain⟨p1,p2⟩:=R3 (bM x) h
  refine Pg.mk (m:=do eqGuard tF xt x y (a.eval x) (a.eval y);binOp tF xt (a.eval x) (a.eval y)) rfl (fun w'=>?_) (h2 I g w) h3
  rw[Sem.run_bind,R2 p1 p2]
  exact h1 w'
 ·
  rename_i t x
  split at h
  ·rename_i b hx
   have hv:=bM x;rw[hx] at hv
   have e:=hv.oq
   exact⟨_,_,fun w'=>by simp[execOp,Op.unary,e],.Dk _,h⟩
  ·exact h.elim
 ·rename_i t x
  split at h
  ·rename_i i n hx
   have hv:=bM x;rw[hx] at hv
   have e:=hv.lX
   exact⟨_,_,fun w'=>by simp only[execOp,Op.unary,e,Op.intArith];rfl,.wu _ _,h⟩
  ·exact h.elim
 ·
  rename_i src yP x
  split at h
  ·rename_i i0 sz ig z i kd n hs s9 hx
   have hv:=bM x;rw[hx] at hv
   have e:=hv.lX
   obtain⟨d0,hu⟩:=KM aM hs
   have hk:=zW aM s9
   refine Pg.mk (m:=convert src yP (a.eval x)) rfl (fun w'=>?_) (.wu _ _) h
   rw[e]
   simp[convert,run_underlying hu,run_underlying hk,Conv.intToInt]
  ·rename_i b hs s9 hx
   have hv:=bM x;rw[hx] at hv
   have e:=hv.kB
   have hu:=ru aM hs
   have hk:=ru aM s9
   refine Pg.mk (m:=convert src yP (a.eval x)) rfl (fun w'=>?_) (.DD _) h
   rw[e]
   simp[convert,run_underlying hu,run_underlying hk]
  ·exact h.elim
 ·
  rename_i t x f
  split at h
  ·rename_i o u p off hf hx
   have hv:=bM x;rw[hx] at hv
   obtain⟨b,bo,hg,e⟩:=hv.sG
   refine Pg.mk (m:=Instr.fieldAt t (a.eval x) f) rfl (fun w'=>?_) (.ptr p (off+o) b bo hg) h
   rw[e]
   exact Eo aM hf b off w'
  ·rename_i o u cs hf hx
   have hv:=bM x;rw[hx] at hv
   have h0:=hv.CL
   cases e:a.eval x with
   |pointer pa=>
    rw[e] at h0
    cases h0 with
    |ref b off cs U hI hb hc g1 hU=>
     refine Pg.mk (m:=Instr.fieldAt t (a.eval x) f) rfl (v:=.pointer (some ⟨b,off+o,none⟩)) (fun w'=>by rw[e];exact Eo aM hf b off w') (.rd (.ref b (off+o) _ (fun j=>U (o+j)) hI hb (fun j d hj=>?_) (fun j d hj=>?_) (fun j d hj=>?_))) h
     ·rw[vv,List.getElem?_drop] at hj
      rw[Nat.add_assoc]
      exact hc _ d hj
     ·rw[vv,List.getElem?_drop] at hj
      exact g1 _ d hj
     ·rw[vv,List.getElem?_drop] at hj
      exact hU _ d hj
   |_=>rw[e] at h0;cases h0
  ·rename_i o u p n i off hf hx
   have hv:=bM x;rw[hx] at hv
   obtain⟨bo,b,base,l,c,hg,e⟩:=hv.zV
   refine Pg.mk (m:=Instr.fieldAt t (a.eval x) f) rfl (fun w'=>?_) (.fq p n i (off+o) b base l c bo hg) h
   rw[e,<-Nat.add_assoc]
   exact Eo aM hf b _ w'
  ·exact h.elim
 ·
  rename_i t x f
  split at h
  ·rename_i o u cs hf hx
   have hv:=bM x;rw[hx] at hv
   obtain⟨vs,e,k1,k2⟩:=hv.ot
   split at h
   ·rename_i d hp
    obtain⟨v,r1,r2⟩:=Fp aM hp k1 k2
    refine Pg.mk (m:=Instr.field t (a.eval x) f) rfl (fun w'=>?_) r2 h
    rw[e]
    exact S6 aM hf w' r1
   ·exact h.elim
  ·exact h.elim
 ·
  rename_i t parts
  split at h
  ·rename_i sz ig z fs hl
   split at h
   ·rename_i cs hf
    obtain⟨A,r1,r2⟩:=UG aM bM hl hf
    exact Pg.mk (m:=Instr.build t (parts.map fun (i,x)=>(i,a.eval x))) rfl r1 r2 h
   ·exact h.elim
  ·exact h.elim
 ·
  rename_i t x i
  split at h
  ·rename_i sz ig z e hl
   split at h
   ·rename_i n xs j y hx hi hy
    have hv:=bM x;rw[hx] at hv
    have h0:=hv.rq
    obtain⟨kd,kr⟩:=ya (bM i) hi
    cases hn:Nat.beq n y.size with
    |false=>rw[hn] at h;exact h.elim
    |true=>
     rw[hn] at h
     obtain⟨c,ni,hc,hk⟩:=h
     have cS:=lq aM hl
     obtain⟨inf,zv,gM,cT,_⟩:=(aM e y hy).info
     have bS:inf.size=n:=by rw[cT];exact(Nat.eq_of_beq_eq_true hn).symm
     have hlt:j.toNat<xs.length:=(List.getElem?_eq_some_iff.1 hc).1
     cases ex:a.eval x with
     |slice A len cap=>
      rw[ex] at h0
      cases h0 with
      |list A cap n len xs U cj Bb hm eu hlen hA g1 hU=>
       obtain⟨b,off,rfl,hb,hI,AG⟩:=hA (by omega)
       refine Pg.mk (m:=Instr.indexAt t (a.eval x) (a.eval i)) rfl (v:=.pointer (some ⟨b,off+j.toNat*n,none⟩)) (fun w'=>?_) (.rd (.ref b (off+j.toNat*n) c (fun q=>U j.toNat q) hI hb (fun q d hq=>AG _ _ _ _ hc hq) (fun q d hq=>g1 _ _ _ _ hc hq) (fun q d hq=>hU _ _ _ _ hc hq))) hk
       rw[ex,kr]
       have Aq:0<=j/\j<(len:Int):=by omega
       simp only[Instr.indexAt,asIntOf,Sem.run_bind,Sem.run_pure,Result.andThen_ok,run_underlying cS,Sem.run_ite]
       rw[if_pos Aq]
       simp only[su gM,Result.andThen_ok,bS,Addr.add_mid]
     |_=>rw[ex] at h0;cases h0
   ·rename_i n xs j y hx hi hy
    have hv:=bM x;rw[hx] at hv
    have h0:=hv.forget.rq
    obtain⟨kd,kr⟩:=ya (bM i) hi
    cases hn:Nat.beq n y.size with
    |false=>rw[hn] at h;exact h.elim
    |true=>
     rw[hn] at h
     obtain⟨c,ni,hc,hk⟩:=h
     have cS:=lq aM hl
     obtain⟨inf,zv,gM,cT,_⟩:=(aM e y hy).info
     have bS:inf.size=n:=by rw[cT];exact(Nat.eq_of_beq_eq_true hn).symm
     have hlt:j.toNat<xs.length:=(List.getElem?_eq_some_iff.1 hc).1
     cases ex:a.eval x with
     |slice A len cap=>
      rw[ex] at h0
      cases h0 with
      |list A cap n len xs U cj Bb hm eu hlen hA g1 hU=>
       obtain⟨b,off,rfl,hb,hI,AG⟩:=hA (by omega)
       refine Pg.mk (m:=Instr.indexAt t (a.eval x) (a.eval i)) rfl (v:=.pointer (some ⟨b,off+j.toNat*n,none⟩)) (fun w'=>?_) (.rd (.ref b (off+j.toNat*n) c (fun q=>U j.toNat q) hI hb (fun q d hq=>AG _ _ _ _ hc hq) (fun q d hq=>g1 _ _ _ _ hc hq) (fun q d hq=>hU _ _ _ _ hc hq))) hk
       rw[ex,kr]
       have Aq:0<=j/\j<(len:Int):=by omega
       simp only[Instr.indexAt,asIntOf,Sem.run_bind,Sem.run_pure,Result.andThen_ok,run_underlying cS,Sem.run_ite]
       rw[if_pos Aq]
       simp only[su gM,Result.andThen_ok,bS,Addr.add_mid]
     |_=>rw[ex] at h0;cases h0
   ·rename_i o j y hx hi hy
    split at h
    ·rename_i e' n xs hh
     cases hn:Nat.beq n y.size with
     |false=>rw[hn] at h;exact h.elim
     |true=>
      rw[hn] at h
      obtain⟨⟨ni,hj1⟩,hk⟩:=h
      have hv:=bM x;rw[hx] at hv
      obtain⟨bo,ra,rl,rc,hg,ex⟩:=hv.sF
      obtain⟨a',c',vs,hp,dm,nj,jd,hlen,h1⟩:=hd.obj o _ _ (sR hh) hg
      obtain⟨kd,kr⟩:=ya (bM i) hi
      have cS:=lq aM hl
      obtain⟨inf,zv,gM,cT,_⟩:=(aM e y hy).info
      have bS:inf.size=n:=by rw[cT];exact(Nat.eq_of_beq_eq_true hn).symm
      injection hp with e1 e2 e3
      rcases dm.2 with⟨q1,q2⟩|⟨g',cap,cur,fz,q1,_⟩
      ·exact absurd q2 (by omega)
      ·injection q1 with q1 _ _
       subst q1
       refine Pg.mk (m:=Instr.indexAt t (a.eval x) (a.eval i)) rfl (v:=.pointer (some ⟨g',0+j.toNat*n+0,none⟩)) (fun w'=>?_) (.fq o n j.toNat 0 g' 0 rl rc bo hg) hk
       rw[ex,kr]
       have Aq:0<=j/\j<(rl:Int):=by rw[e2];exact⟨ni,hj1⟩
       simp only[Instr.indexAt,asIntOf,Sem.run_bind,Sem.run_pure,Result.andThen_ok,run_underlying cS,Sem.run_ite]
       rw[if_pos Aq]
       simp only[su gM,Result.andThen_ok,bS,Addr.add_mid]
       rfl
    ·exact h.elim
   ·exact h.elim
  ·exact h.elim
 ·
  rename_i t x i
  split at h
  ·rename_i sz ig z hl
   split at h
   ·rename_i b j hx hi
    have hv:=bM x;rw[hx] at hv
    have e:=hv.kB
    obtain⟨kd,kr⟩:=ya (bM i) hi
    obtain⟨c,ni,hc,hk⟩:=h
    have cS:=ru aM hl
    refine Pg.mk (m:=Instr.index t (a.eval x) (a.eval i)) rfl (fun w'=>?_) (.wu _ _) hk
    rw[e,kr]
    simp only[Instr.index,asIntOf,Sem.run_bind,Sem.run_pure,Result.andThen_ok,run_underlying cS]
    rw[if_pos ni]
    have:(au b)[j.toNat]?=some c:=by
     obtain⟨h1,h2⟩:=List.getElem?_eq_some_iff.1 hc
     have hs:j.toNat<(au b).size:=by rw[lY];exact h1
     rw[getElem?_pos (au b) j.toNat hs]
     exact congrArg some (show(au b)[j.toNat]'hs=c from h2)
    rw[this]
    rfl
   ·exact h.elim
  ·exact h.elim
 ·
  rename_i t x lo hi
  split at h
  ·rename_i sz ig z b hl hx
   split at h
   ·rename_i l k0 nh r7
    have hv:=bM x;rw[hx] at hv
    have e:=hv.kB
    have cS:=ru aM hl
    obtain⟨⟨c1,c2,c3⟩,hk⟩:=h
    refine Pg.mk (m:=Instr.sliceAt t (a.eval x) (lo.map a.eval) (hi.map a.eval) none) rfl (v:=.string (au ((b.drop l.toNat).take (k0.toNat-l.toNat)))) (fun w'=>?_) (.DD _) hk
    rw[e]
    have hr:=M8 (P:=P) bM (b:=false) nh r7 c1 c2 c3 (Nat.le_refl _) w'
    simp only[Instr.sliceAt,Instr.slice,Sem.run_bind,run_underlying cS,Result.andThen_ok,lY,hr,Option.isSome_none,Bool.false_eq_true,if_false,Sem.run_pure,QF]
   ·exact h.elim
  ·rename_i sz ig z e n xs hl hx
   split at h
   ·rename_i l k0 y nh r7 hy
    cases hn:Nat.beq n y.size with
    |false=>rw[hn] at h;exact h.elim
    |true=>
     rw[hn] at h
     have hv:=bM x;rw[hx] at hv
     have h0:=hv.rq
     have cS:=lq aM hl
     obtain⟨⟨c1,c2,c3⟩,hk⟩:=h
     obtain⟨inf,zv,gM,cT,_⟩:=(aM e y hy).info
     have bS:inf.size=n:=by rw[cT];exact(Nat.eq_of_beq_eq_true hn).symm
     cases ex:a.eval x with
     |slice A len cap=>
      rw[ex] at h0
      have hlen:len=xs.length:=by cases h0;assumption
      have yM:len<=cap:=by cases h0;assumption
      have hcut:=h0.cut (l:=l.toNat) (k:=k0.toNat) (by omega) (by omega)
      refine Pg.mk (m:=Instr.sliceAt t (a.eval x) (lo.map a.eval) (hi.map a.eval) none) rfl (fun w'=>?_) (.rd hcut) hk
      rw[ex]
      have hr:=M8 (P:=P) bM (b:=true) nh (by rw[<-hlen] at r7;exact r7) c1 c2 (by rw[hlen];exact c3) yM w'
      simp only[Instr.sliceAt,Instr.slice,Sem.run_bind,run_underlying cS,Result.andThen_ok,hr,su gM,Sem.run_pure,bS]
     |_=>rw[ex] at h0;cases h0
   ·exact h.elim
  ·exact h.elim
 ·
  rename_i t x
  split at h
  ·rename_i sz ig z fs hx hl
   have hv:=bM x;rw[hx] at hv
   obtain⟨vs,e,k1,_⟩:=hv.ot
   have jd:=k1.xF
   subst jd
   obtain⟨gs,hu,_⟩:=BP aM hl
   refine Pg.mk (m:=Instr.makeInterface t (a.eval x)) rfl (v:=.iface t (.agg #[])) (fun w'=>?_) (.ia t) h
   rw[e]
   simp[Instr.makeInterface,run_underlying hu]
  ·exact h.elim
 ·
  rename_i x i
  split at h
  ·rename_i ds hx
   split at h
   ·rename_i d hl
    have hv:=bM x;rw[hx] at hv
    obtain⟨vs,e,k1⟩:=hv.CH
    rw[C7] at hl
    have hlt:i<vs.length:=by rw[k1.1];exact(List.getElem?_eq_some_iff.1 hl).1
    refine Pg.mk (m:=Instr.extract (a.eval x) i) rfl (fun w'=>?_) (k1.2 i _ d (List.getElem?_eq_getElem hlt) hl) h
    rw[e]
    simp[Instr.extract,hlt]
   ·exact h.elim
  ·exact h.elim
 ·
  rename_i f first eI
  have hm:∀(i:Nat) v d,(eI.toList.map a.eval)[i]?=some v->(eI.toList.map (ev s))[i]?=some d->Vr I g w v d:=fun i v d h1 h2=>by
   rw[List.getElem?_map] at h1 h2
   cases hq:eI.toList[i]? with
   |none=>rw[hq] at h1;cases h1
   |some x=>
    rw[hq] at h1 h2
    injection h1 with h1;injection h2 with h2
    subst h1 h2
    exact bM x
  split at h
  ·rename_i hf
   have h0:first=#[]:=Array.toList_inj.1 hf
   subst h0
   rw[zK] at h
   refine Pg.mk (m:=Instr.makeFunc (.func f) ((#[]:Array Operand).map a.eval) (eI.map a.eval)) rfl (v:=.func (.func f) ((eI.toList.map a.eval).take 0).toArray ((eI.toList.map a.eval).drop 0).toArray) (fun w'=>?_) (.fn f 0 _ _ (by simp) hm) h
   simp only[Instr.makeFunc,Array.map_empty,Sem.run_pure,List.take_zero,List.drop_zero]
   congr 2
   apply Array.toList_inj.1
   simp
  ·rename_i x hf
   have h0:first=#[x]:=Array.toList_inj.1 hf
   subst h0
   rw[zK] at h
   refine Pg.mk (m:=Instr.makeFunc (.func f) ((#[x]:Array Operand).map a.eval) (eI.map a.eval)) rfl (v:=.func (.func f) ((a.eval x::eI.toList.map a.eval).take 1).toArray ((a.eval x::eI.toList.map a.eval).drop 1).toArray) (fun w'=>?_) (.fn f 1 _ _ (by simp) (fun i v d h1 h2=>?_)) h
   ·simp only[Instr.makeFunc,Sem.run_pure,List.take_succ_cons,List.take_zero,List.drop_succ_cons,List.drop_zero]
    have e1:Array.map a.eval eI=(List.map a.eval eI.toList).toArray:=by
     apply Array.toList_inj.1
     simp
    have e2:Array.map a.eval #[x]=[a.eval x].toArray:=by simp
    rw[e1,e2]
   ·cases i with
    |zero=>simp at h1 h2;subst h1 h2;exact bM x
    |succ i=>exact hm i v d (by simpa using h1) (by simpa using h2)
  ·exact h.elim
 ·
  rename_i args ts
  split at h
  ·rename_i x t rN IG
   have ha:args=#[x]:=Array.toList_inj.1 rN
   have ht:ts=#[t]:=Array.toList_inj.1 IG
   subst ha ht
   split at h
   ·rename_i sz ig z hl
    have cS:=ru aM hl
    split at h
    ·rename_i b hx
     have hv:=bM x;rw[hx] at hv
     refine⟨.int .i64 (b.length:Int),_,fun w'=>?_,.wu _ _,h⟩
     simp[execOp,resolve,invoke,builtin,Builtin.len_,run_underlying cS,hv.kB,lY,goInt]
    ·exact h.elim
   ·rename_i sz ig z e0 hl
    have cS:=lq aM hl
    split at h
    ·rename_i n hn
     obtain⟨A,c,e⟩:=Ww hd (bM x) hn
     refine⟨.int .i64 (n:Int),_,fun w'=>?_,.wu _ _,h⟩
     simp[execOp,resolve,invoke,builtin,Builtin.len_,run_underlying cS,e,goInt]
    ·exact h.elim
   ·exact h.elim
  ·exact h.elim
 ·
  rename_i args ts
  split at h
  ·rename_i x y rN
   have ha:args=#[x,y]:=Array.toList_inj.1 rN
   subst ha
   split at h
   ·rename_i i n i' m hx hy
    cases hk:Nat.beq (kM i) (kM i') with
    |false=>rw[hk] at h;exact h.elim
    |true=>
     rw[hk] at h
     cases CM hk
     have e1:=bM x;rw[hx] at e1
     have e2:=bM y;rw[hy] at e2
     refine⟨.int i (if n<m then m else n),_,fun w'=>?_,.wu _ _,h⟩
     simp[execOp,resolve,invoke,builtin,Builtin.max_,e1.lX,e2.lX,UH]
   ·exact h.elim
  ·exact h.elim
 ·rename_i args ts
  split at h
  ·rename_i x y rN
   have ha:args=#[x,y]:=Array.toList_inj.1 rN
   subst ha
   split at h
   ·rename_i i n i' m hx hy
    cases hk:Nat.beq (kM i) (kM i') with
    |false=>rw[hk] at h;exact h.elim
    |true=>
     rw[hk] at h
     cases CM hk
     have e1:=bM x;rw[hx] at e1
     have e2:=bM y;rw[hy] at e2
     refine⟨.int i (if m<n then m else n),_,fun w'=>?_,.wu _ _,h⟩
     simp[execOp,resolve,invoke,builtin,Builtin.min_,e1.lX,e2.lX,UI]
   ·exact h.elim
  ·exact h.elim
 ·exact h.elim
end
end Go.Proofs.YtafomdobfmmleaaGreatDoor

/- Lemmas and contracts. -/
namespace Go.Proofs.YtafomdobfmmleaaGreatDoor
open Go.RowKit
set_option linter.unusedSectionVars false
variable [Old]
set_option linter.unusedVariables false
def sJ (op:Op) (s:S):Option Nat:=
 match op with
 |.load _ a=>match ev s a with
  |.ptr o _=>some o
  |.fq o _ _ _=>some o
  |_=>none
 |.convert _ _ x=>match ev s x with
  |.row o=>some o
  |_=>none
 |_=>none
section
variable {P:Program} {Q:Exit->S->Prop}
theorem Dr.bs {I:Nat->Prop} {w:World} {v:Value} {s:List UInt8} (h:Dr I w v (.list 1 (s.map aE))) (hb:s.length<=bz):Bs w v s:=by
 generalize hq:(D.list 1 (s.map aE))=q at h
 cases h<;>try (cases hq;done)
 rename_i A cap n l xs U cj hl hm eu hlen hA g1 hU
 injection hq with h1 h2
 subst h1 h2
 rw[List.length_map] at cj
 subst cj
 refine⟨⟨A,cap,rfl,fun e=>?_,hl,hm,fun ad iP=>?_⟩,hb⟩
 ·obtain⟨e1,e2⟩:=eu e
  exact⟨List.eq_nil_of_length_eq_zero e1,e2⟩
 ·subst iP
  have key:∀(j:Nat) u,(dA s)[j]?=some u->ad.spot=none/\ad.block<w.heap.size/\w.cell? (ad.add j)=some u:=by
   intro j u hj
   have hlt:j<s.length:=by
    rcases Nat.lt_or_ge j s.length with h|h
    ·exact h
    ·rw[List.getElem?_eq_none (by rw[om];exact h)] at hj;cases hj
   obtain⟨b,off,e,qT,hI,hc⟩:=hA (by omega)
   injection e with e
   subst e
   have hx:(s.map aE)[j]?=some (aE s[j]):=by simp[hlt]
   have hd:=hU j _ 0 (.int .u8 ((s[j]).toNat:Int)) hx rfl
   have fy:=hc j _ 0 (.int .u8 ((s[j]).toNat:Int)) hx rfl
   rw[qi s j hlt] at hj
   injection hj with hj
   subst hj
   refine⟨rfl,qT,?_⟩
   rw[Addr.add_mid]
   rw[Nat.mul_one,Nat.add_zero] at fy
   rw[fy]
   generalize hz:U j 0=z at hd
   cases hd
   rfl
  exact⟨fun bS=>(key 0 _ (by rw[qi s 0 (List.length_pos_iff.2 bS)])).2.1,fun j u hj=>(key j u hj).2.2⟩
theorem Bs.dr {I:Nat->Prop} {w:World} {v:Value} {s:List UInt8} (h:Bs w v s) (hI:∀g,v.ownBlock=some g->s≠[]->I g):Dr I w v (.list 1 (s.map aE)):=by
 obtain⟨⟨A,cap,rfl,hn,hc,hm,hr⟩,hl⟩:=h
 refine .list A cap 1 _ _ (fun i _=>(dA s).getD i undef) (by simp) hc hm (fun e=>?_) (fun x hx=>?_) (fun h0=>?_) (fun i x j d hx hj=>?_) (fun i x j d hx hj=>?_)
 ·obtain⟨h1,h2⟩:=hn e
  exact⟨by rw[h1];rfl,h2⟩
 ·obtain⟨b,_,rfl⟩:=List.mem_map.1 hx
  rfl
 ·cases A with
  |none=>have:=(hn rfl).1;rw[this] at h0;simp at h0
  |some ad=>
   obtain⟨k1,k2⟩:=hr ad rfl
   have bS:s≠[]:=List.length_pos_iff.1 h0
   have c0:=k2 0 _ (qi s 0 h0)
   have hs:ad.spot=none:=by
    cases hq:ad.spot with
    |none=>rfl
    |some z=>
     have:ad.add 0=ad:=by simp[Addr.add]
     rw[this] at c0
     unfold World.cell? at c0
     rw[hq] at c0
     split at c0<;>simp at c0
   obtain⟨b,off,sp⟩:=ad
   simp only at hs
   subst hs
   refine⟨b,off,rfl,k1 bS,hI b rfl bS,fun i x j d hx hj=>?_⟩
   have hlt:i<s.length:=by have:=(List.getElem?_eq_some_iff.1 hx).1;simpa using this
   rw[List.getElem?_map,List.getElem?_eq_getElem hlt] at hx
   injection hx with hx
   subst hx
   have ni:j=0:=by
    cases j with
    |zero=>rfl
    |succ j=>simp[aE] at hj
   subst ni
   have:=k2 i _ (qi s i hlt)
   rw[Addr.add_mid] at this
   rw[Nat.mul_one,Nat.add_zero,this]
   simp[List.getD,qi s i hlt]
 ·have hlt:i<s.length:=by have:=(List.getElem?_eq_some_iff.1 hx).1;simpa using this
  simp[List.getD,qi s i hlt,Value.oneCell']
 ·have hlt:i<s.length:=by have:=(List.getElem?_eq_some_iff.1 hx).1;simpa using this
  rw[List.getElem?_map,List.getElem?_eq_getElem hlt] at hx
  injection hx with hx
  subst hx
  have ni:j=0:=by
   cases j with
   |zero=>rfl
   |succ j=>simp[aE] at hj
  subst ni
  simp[aE] at hj
  subst hj
  simp only[List.getD,qi s i hlt,Option.getD_some]
  exact .int _ _
theorem Dr.agree {I:Nat->Prop} {w w':World} {v:Value} {d:D} (h:Dr I w v d) (hI:∀b,I b->w'.heap[b]?=w.heap[b]?):Dr I w' v d:=by
 have hlt:∀b,I b->b<w.heap.size->b<w'.heap.size:=by
  intro b hb hl
  have:=hI b hb
  rw[Array.getElem?_eq_getElem hl] at this
  exact(Array.getElem?_eq_some_iff.1 this).1
 induction h with
 |bool b=>exact .bool b
 |int k n=>exact .int k n
 |str s=>exact .str s
 |nils=>exact .nils
 |dF=>exact .dF
 |aB=>exact .aB
 |iW=>exact .iW
 |list A cap n l xs U cj hl hm eu hlen hA h1 hU ih=>
  refine .list A cap n l xs U cj hl hm eu hlen (fun h0=>?_) h1 ih
  obtain⟨b,off,rfl,hb,je,hc⟩:=hA h0
  exact⟨b,off,rfl,hlt b je hb,je,fun i x j d wL hj=>by rw[World.cell?_of_block (a:=⟨b,off+i*n+j,none⟩) (hI b je)];exact hc i x j d wL hj⟩
 |own A cap n l xs U cj hl hm eu hlen hA h1 hU ih=>
  refine .own A cap n l xs U cj hl hm eu hlen (fun h0=>?_) h1 ih
  obtain⟨b,off,rfl,hb,je,hN,hF,hc⟩:=hA h0
  exact⟨b,off,rfl,hlt b je hb,je,hN,fun j hj=>by rw[<-hF j hj];simp only[World.frozen?,hI b je],fun i x j d wL hj=>by rw[World.cell?_of_block (a:=⟨b,off+i*n+j,none⟩) (hI b je)];exact hc i x j d wL hj⟩
 |ref b off cs U je hb hc h1 hU ih=>exact .ref b off cs U je (hlt b je hb) (fun j d hj=>by rw[World.cell?_of_block (a:=⟨b,off+j,none⟩) (hI b je)];exact hc j d hj) h1 ih
 |agg vs ds hl h1 h ih=>exact .agg vs ds hl h1 ih
 |aD vs ds hl h ih=>exact .aD vs ds hl ih
 |fn f n vs ds hl h ih=>exact .fn f n vs ds hl ih
theorem B9 {I:Nat->Prop} {g:aX} {w:World} {tb:TT} (aM:tb.ok P) {t:TypeId} {ds:List D} {off:Nat} {d:D} {vs:List Value} (h:qy tb t ds off=some d) (hv:bR I g w vs ds) (h1:∀v∈vs,v.oneCell'=true) (b base:Nat):
 ∃v,Vr I g w v d/\∀w',(∀(j:Nat) u,vs[j]?=some u->w'.cell? ⟨b,base+j,none⟩=some u)->(Instr.loadAt t (.pointer (some ⟨b,base+off,none⟩))).run P w'=.ok v w':=by
 unfold qy at h
 split at h
 ·cases h
 ·rename_i i hi
  obtain⟨td,hu,hr⟩:=LA aM hi
  obtain⟨inf,z,gM,cT,_⟩:=(aM t i hi).info
  cases hk:i.kind with
  |struct fs=>
   rw[hk] at h hr
   simp only at h
   split at h
   ·rename_i r wB
    injection h with h
    subst h
    rw[vv] at wB
    obtain⟨rfl,hle⟩:=C8 _ _ _ wB
    have hlen:((vs.drop off).take i.size).length=i.size:=by
     rw[List.length_take,List.length_drop,hv.1]
     rw[List.length_drop] at hle
     omega
    refine⟨.agg ((vs.drop off).take i.size).toArray,.bA ((hv.drop off).take i.size) (fun v h=>h1 v (List.mem_of_mem_drop (List.mem_of_mem_take h))),fun w' hc=>?_⟩
    refine run_loadAt_mid w' b (base+off) t _ td (fun j v hj=>?_) hu (by rw[hr];rfl) (by rw[gM,hlen,<-cT];rfl)
    rw[List.getElem?_take] at hj
    split at hj
    ·rw[List.getElem?_drop] at hj
     rw[Nat.add_assoc]
     exact hc _ v hj
    ·cases hj
   ·cases h
  |_=>
   rw[hk] at h hr
   simp only[C7] at h
   have hlt:off<vs.length:=by rw[hv.1];exact(List.getElem?_eq_some_iff.1 h).1
   refine⟨vs[off],hv.2 off _ d (List.getElem?_eq_getElem hlt) h,fun w' hc=>?_⟩
   have:=hc off _ (List.getElem?_eq_getElem hlt)
   simp only[Instr.loadAt,Instr.sureAddr,Sem.run_bind,Sem.run_pure,Result.andThen_ok,loadVar,E4 hu,hr]
   simp[TK.isRow,this]
theorem LB {I:Nat->Prop} {w:World}:∀{b:List UInt8} {vs:List Value},cC I w vs (b.map aE).flatten->vs=dA b
 |[],vs,h=>List.eq_nil_of_length_eq_zero (by simpa using h.1)
 |x::b,[],h=>by have:=h.1;simp[aE] at this
 |x::b,v::vs,h=>by
  have h0:=h.2 0 v (.int .u8 (x.toNat:Int)) rfl (by simp[aE])
  cases h0
  have h2:cC I w vs (b.map aE).flatten:=⟨by have:=h.1;simpa[aE] using this,fun i u d h1 h2=>h.2 (i+1) u d (by simpa using h1) (by simpa[aE] using h2)⟩
  rw[LB h2]
  rfl
theorem zX [Wd] {E:En} (aM:E.tb.ok P) {s:S} {a:Act} {I:Nat->Prop} {g:aX} {w:World} (bM:∀x,Vr I g w (a.eval x) (ev s x)) (hd:Den I g w s.h) {o:Oper} {k:D->T} (h:(yB E o.op s k).ok P Q):
 ∃v d,(∀w':World,(sJ o.op s=none->∀b,I b->w'.heap[b]?=w.heap[b]?)->(∀n ao p b,sJ o.op s=some n->s.h[n]?=some ao->g[n]?=some p->ao.owns p b->w'.heap[b]?=w.heap[b]?)->(execOp a.eval o).run P w'=.ok (.value v) w')/\Vr I g w v d/\(k d).ok P Q:=by
 obtain⟨dst,op,ty,pos,after,guard⟩:=o
 simp only at h
 unfold yB at h
 split at h
 ·rename_i t x
  split at h
  ·rename_i o off hx
   have hv:=bM x;rw[hx] at hv
   obtain⟨b,bo,hg,e⟩:=hv.sG
   split at h
   ·rename_i ct cs hl
    have fR:=Cs hl
    obtain⟨b',vs,hp,hb,k1,k2⟩:=hd.obj o _ _ fR hg
    injection hp with tE gm
    injection gm with gm
    injection gm with gm
    injection gm with gm _ _
    subst gm
    split at h
    ·rename_i d Bv
     obtain⟨v,r1,r2⟩:=B9 aM Bv k1 k2 b 0
     refine⟨v,d,fun w' hI ho=>?_,r1,h⟩
     have hn:cm w' b ct vs.toArray:=(ho o _ _ b (by simp only[sJ,hx]) fR hg (by show bo=some b;exact tE)).trans hb
     have:=r2 w' (fun j u hj=>by
      rw[Nat.zero_add,hn.cell]
      simpa using hj)
     rw[Nat.zero_add] at this
     simp only[execOp,e,Sem.run_bind,this]
     rfl
    ·exact h.elim
   ·exact h.elim
  ·rename_i cs hx
   have hv:=bM x;rw[hx] at hv
   have h0:=hv.CL
   split at h
   ·rename_i d Bv
    cases e:a.eval x with
    |pointer pa=>
     rw[e] at h0
     cases h0 with
     |ref b off cs U hI hb hc g1 hU=>
      have jd:bR I g w ((List.range cs.length).map U) cs:=by
       refine⟨by simp,fun i v d h1 h2=>?_⟩
       have hlt:i<cs.length:=(List.getElem?_eq_some_iff.1 h2).1
       rw[List.getElem?_map,List.getElem?_range hlt] at h1
       injection h1 with h1
       subst h1
       exact .rd (hU i d h2)
      obtain⟨v,r1,r2⟩:=B9 aM Bv jd (fun v hv=>by
       obtain⟨i,hi,rfl⟩:=List.mem_map.1 hv
       have hlt:i<cs.length:=by simpa using hi
       exact g1 i _ (List.getElem?_eq_getElem hlt)) b off
      refine⟨v,d,fun w' je ho=>?_,r1,h⟩
      have:=r2 w' (fun j u hj=>by
       rw[List.getElem?_map] at hj
       cases hr:(List.range cs.length)[j]? with
       |none=>rw[hr] at hj;cases hj
       |some j'=>
        rw[hr] at hj
        injection hj with hj
        have hlt:j<cs.length:=by
         have:=(List.getElem?_eq_some_iff.1 hr).1
         simpa using this
        rw[List.getElem?_range hlt] at hr
        injection hr with hr
        subst hr hj
        rw[World.cell?_of_block (a:=⟨b,off+j,none⟩) (je (by simp only[sJ,hx]) b hI)]
        exact hc j _ (List.getElem?_eq_getElem hlt))
      rw[Nat.add_zero] at this
      simp only[execOp,e,Sem.run_bind,this]
      rfl
    |_=>rw[e] at h0;cases h0
   ·exact h.elim
  ·rename_i o n i off hx
   have hv:=bM x;rw[hx] at hv
   obtain⟨bo,b,base,l,c,hg,e⟩:=hv.zV
   split at h
   ·rename_i ct m xs hh
    cases hn:Nat.beq n m with
    |false=>rw[hn] at h;exact h.elim
    |true=>
     rw[hn] at h
     cases Nat.eq_of_beq_eq_true hn
     obtain⟨x0,ni,hc,hk⟩:=h
     rw[Int.toNat_natCast] at hc
     dsimp only at hk
     split at hk
     ·rename_i d Bv
      have vc:=sR hh
      obtain⟨a',c',vs,hp,dm,nj,jd,hlen,h1⟩:=hd.obj o _ _ vc hg
      have Zr:=Lz xs hlen i x0 hc
      have qO:bR I g w ((vs.drop (i*n)).take n) x0:=by
       have:=(jd.wH (g:=g).drop (i*n)).take n
       rwa [Zr] at this
      obtain⟨v,r1,r2⟩:=B9 aM Bv qO (fun v hv=>h1 v (List.mem_of_mem_drop (List.mem_of_mem_take hv))) b (base+i*n)
      refine⟨v,d,fun w' hI ho=>?_,r1,hk⟩
      have GG:eT w' ct n (.slice (some ⟨b,base,none⟩) l c) xs.length vs:=by
       refine⟨dm.1,?_⟩
       rcases dm.2 with q|⟨g',cap,cur,fz,q1,q2,q3⟩
       ·exact .inl q
       ·refine .inr ⟨g',cap,cur,fz,q1,(ho o _ _ g' (by simp only[sJ,hx]) vc hg ?_).trans q2,q3⟩
        show bo=some g'
        rw[show bo=_ from nj,q1];rfl
      have:=r2 w' (fun j u hj=>by
       rw[List.getElem?_take] at hj
       split at hj
       ·rw[List.getElem?_drop] at hj
        obtain⟨_,A,cap,wG,_,_,hA⟩:=GG.rd
        injection wG with wG _ _
        have:=(hA _ wG.symm).2 (i*n+j) u hj
        rw[Addr.add_mid] at this
        rw[Nat.add_assoc]
        exact this
       ·cases hj)
      simp only[execOp,e,Sem.run_bind,this]
      rfl
     ·exact hk.elim
   ·exact h.elim
  ·exact h.elim
 ·rename_i src yP x
  split at h
  ·rename_i sz ig z e0 Bw Bx z' xs hs s9 hx
   split at h
   ·rename_i wR wS z2 he
    obtain⟨b,rfl,pW,hk⟩:=h
    have hv:=bM x;rw[hx] at hv
    have h0:=hv.rq
    have k1:=lq aM hs
    have k2:=ru aM s9
    have k3:=zW aM he
    refine⟨.string (au b),_,fun w' je ho=>?_,.DD _,hk⟩
    have qT:Bs w' (a.eval x) b:=(h0.agree (je (by simp only[sJ,hx]))).bs pW
    have:=qT.conv (P:=P) k1 k3 k2
    simp only[execOp,Sem.run_bind,this]
    rfl
   ·exact h.elim
  ·rename_i sz ig z e0 Bw Bx z' o hs s9 hx
   split at h
   ·rename_i wR wS z2 et xs he hh
    obtain⟨b,rfl,pW,hk⟩:=h
    have hv:=bM x;rw[hx] at hv
    obtain⟨bo,ra,rl,rc,hg,ex⟩:=hv.sF
    have fR:=sR hh
    obtain⟨a',c',vs,hp,dm,nj,jd,hlen,h1⟩:=hd.obj o _ _ fR hg
    have k1:=lq aM hs
    have k2:=ru aM s9
    have k3:=zW aM he
    rw[LB jd,List.length_map] at dm
    have d0:Dr (fun g=>(Value.slice ra rl rc).ownBlock=some g) w (.slice ra rl rc) (.list 1 (b.map aE)):=(eT.bs dm pW).dr (fun g hg _=>hg)
    refine⟨.string (au b),_,fun w' je ho=>?_,.DD _,hk⟩
    have qT:Bs w' (a.eval x) b:=by
     rw[ex]
     exact(d0.agree (fun g hg'=>ho o _ _ g (by simp only[sJ,hx]) fR hg (by show bo=some g;exact nj.trans hg'))).bs pW
    have:=qT.conv (P:=P) k1 k3 k2
    simp only[execOp,Sem.run_bind,this]
    rfl
   ·exact h.elim
  ·exact h.elim
 ·exact h.elim
end
end Go.Proofs.YtafomdobfmmleaaGreatDoor

/- Lemmas and contracts. -/
namespace Go.Proofs.YtafomdobfmmleaaGreatDoor
open Go.RowKit
set_option linter.unusedSectionVars false
variable [Old]
set_option linter.unusedVariables false
theorem lI:∀(h:List AO) (o:Nat) (x:AO),sh h o x=h.set o x
 |[],o,x=>rfl
 |a::l,0,x=>rfl
 |a::l,n+1,x=>by simp[sh,lI l n x]
theorem Den.wk {I I':Nat->Prop} {g:aX} {w:World} {h:List AO} (hd:Den I g w h) (hI:∀b,I b->I' b) (h1:∀b,I' b->b<w.heap.size) (h2:∀b,I' b->¬cK g h b):Den I' g w h:=
 ⟨hd.len,h1,fun o ao p a b=>(hd.obj o ao p a b).mono hI (fun _ _ h=>h),fun o ao p b a1 a2 a3 hb=>h2 b hb ⟨o,ao,p,a1,a2,a3⟩,hd.sep⟩
theorem cK.push {g:aX} {h:List AO} {p:Option Nat×Value} {ao:AO} {b:Nat} (hl:g.length=h.length) (ho:cK (g++[p]) (h++[ao]) b):cK g h b\/ao.owns p b:=by
 obtain⟨o,a,q,h1,h2,h3⟩:=ho
 rcases jK h1 with⟨e1,k1⟩|⟨e1,k1⟩<;>rcases jK h2 with⟨e2,k2⟩|⟨e2,k2⟩
 ·exact .inl ⟨o,a,q,k1,k2,h3⟩
 ·omega
 ·omega
 ·subst k1 k2;exact .inr h3
theorem Af.push {I:Nat->Prop} {g:aX} {w w':World} {h:List AO} {M:List Nat} (hd:Den I g w h) (hb:B w w') {p:Option Nat×Value} {ao:AO} (hr:Ro I (g++[p]) w' p ao) (hn:∀b,ao.owns p b->w.heap.size<=b):Af I g w h M I (g++[p]) w' (h++[ao]) where
 den:=hd.push hb hr hn
 ext:=Ext.of_B hb
 i1 _ h:=h
 i2 _ h:=.inl h
 gx _ _ h:=o9 h
 fr o ho _:=List.getElem?_append_left ho
 al o a q b ho h1 h2 h3:=⟨a,by rw[<-h1,List.getElem?_append_left ho],h3⟩
 nw o a q b ho h1 h2 h3:=by
  rcases jK h1 with⟨e1,_⟩|⟨e1,k1⟩
  ·omega
  ·rcases jK h2 with⟨e2,_⟩|⟨e2,k2⟩
   ·have:=hd.len;omega
   ·subst k1 k2;exact .inr (hn b h3)
def gp (w:World):Option Nat×Value:=(some w.heap.size,.pointer (some ⟨w.heap.size,0,none⟩))
theorem Af.cells {I:Nat->Prop} {g:aX} {w w':World} {h:List AO} {M:List Nat} {e:TypeId} {vs:List Value} {cs:List D} (hd:Den I g w h) (hb:B w w') (hk:cm w' w.heap.size e vs.toArray) (hv:bR I (g++[gp w]) w' vs cs) (h1:∀v∈vs,v.oneCell'=true):Af I g w h M I (g++[gp w]) w' (h++[.cells e cs]):=
 Af.push hd hb (p:=gp w) (ao:=.cells e cs) ⟨w.heap.size,vs,rfl,hk,hv,h1⟩ (fun b hb=>by
   have:some w.heap.size=some b:=hb
   injection this with this
   omega)
theorem Vr.M9 {I I':Nat->Prop} {g:aX} {w w':World} {h:List AO} (hd:Den I g w h):Vr I' (g++[gp w]) w' (.pointer (some ⟨w.heap.size,0,none⟩)) (.ptr h.length 0):=
 .ptr _ 0 w.heap.size (some w.heap.size) (by rw[<-hd.len];exact zT _ _)
theorem Vr.newRow {I I':Nat->Prop} {g:aX} {w w':World} {h:List AO} (hd:Den I g w h) {bo:Option Nat} {a:Option Addr} {l c:Nat}:Vr I' (g++[(bo,.slice a l c)]) w' (.slice a l c) (.row h.length):=
 .row _ bo _ _ _ (by rw[<-hd.len];exact zT _ _)
theorem cm.setCells {t:TypeId} {b:Nat}:∀(us vs:List Value) (o:Nat) {w:World},cm w b t vs.toArray->cm (w.setCells b o us) b t (mR vs o us).toArray
 |[],vs,o,w,h=>h
 |u::us,vs,o,w,h=>by
  rw[World.setCells,mR]
  refine cm.setCells us _ (o+1) ?_
  have:=h.Dp o u
  simpa using this
theorem Ext.setCells {b:Nat}:∀(us:List Value) (o:Nat) {w:World},Ext (fun x=>x=b) w (w.setCells b o us)
 |[],o,w=>Ext.refl _ _
 |u::us,o,w=>by
  rw[World.setCells]
  exact((Ext.refl (fun x=>x=b) w).set (p:=⟨b,o,none⟩) (fun _=>rfl) u).CX (Ext.setCells us (o+1))
theorem Den.setObj {I:Nat->Prop} {g:aX} {w w':World} {h:List AO} (hd:Den I g w h) {o:Nat} {ao bJ:AO} {p:Option Nat×Value} (ho:h[o]?=some ao) (hp:g[o]?=some p) (hx:Ext (fun b=>ao.owns p b) w w') (hs:∀b,bJ.owns p b->ao.owns p b) (hr:Ro I g w' p bJ):Den I g w' (h.set o bJ):=by
 have hI:∀b,I b->¬ao.owns p b:=fun b hb tw=>hd.own o ao p b ho hp tw hb
 have key:∀{i:Nat} {a:AO},(h.set o bJ)[i]?=some a->(i=o/\a=bJ)\/(i≠o/\h[i]?=some a):=by
  intro i a hi
  rw[List.getElem?_set] at hi
  split at hi
  ·rename_i e
   split at hi
   ·injection hi with q;exact .inl ⟨e.symm,q.symm⟩
   ·cases hi
  ·rename_i e;exact .inr ⟨fun q=>e q.symm,hi⟩
 refine⟨by simp[hd.len],fun b hb=>Nat.lt_of_lt_of_le (hd.ay b hb) hx.size,fun i a q h1 h2=>?_,fun i a q b h1 h2 h3 hb=>?_,fun i i' a a' q q' b h1 eD h2 mD h3 jS=>?_⟩
 ·rcases key h1 with⟨rfl,rfl⟩|⟨e,k⟩
  ·rw[hp] at h2;injection h2 with h2;subst h2;exact hr
  ·exact(hd.obj i a q k h2).ext hx hI (fun b hb bQ=>e (hd.sep i o a ao q p b k ho h2 hp hb bQ))
 ·rcases key h1 with⟨rfl,rfl⟩|⟨e,k⟩
  ·rw[hp] at h2;injection h2 with h2;subst h2
   exact hI b hb (hs b h3)
  ·exact hd.own i a q b k h2 h3 hb
 ·rcases key h1 with⟨rfl,rfl⟩|⟨e,k⟩<;>rcases key eD with⟨rfl,rfl⟩|⟨e',k'⟩
  ·rfl
  ·rw[hp] at h2;injection h2 with h2;subst h2
   exact hd.sep _ i' ao a' p q' b ho k' hp mD (hs b h3) jS
  ·rw[hp] at mD;injection mD with mD;subst mD
   exact hd.sep i _ a ao q p b k ho h2 hp h3 (hs b jS)
  ·exact hd.sep i i' a a' q q' b k k' h2 mD h3 jS
theorem Ct {α:Type} {n:Nat} (hn:0<n):∀(ys:List (List α)),(∀y∈ys,y.length=n)->∀(q:Nat) (x:α),ys.flatten[q]?=some x->∃y,ys[q/n]?=some y/\y[q%n]?=some x
 |[],_,q,x,h=>by simp at h
 |y::ys,hl,q,x,h=>by
  have hy:=hl y (by simp)
  rw[List.flatten_cons,List.getElem?_append] at h
  split at h
  ·rename_i hlt
   rw[hy] at hlt
   exact⟨y,by rw[Nat.div_eq_of_lt hlt];rfl,by rw[Nat.mod_eq_of_lt hlt];exact h⟩
  ·rename_i dn
   rw[hy] at dn h
   obtain⟨z,h1,h2⟩:=Ct hn ys (fun y h=>hl y (by simp[h])) (q-n) x h
   have e:q=q-n+n:=by omega
   refine⟨z,?_,?_⟩
   ·rw[e,Nat.add_div_right _ hn]
    simpa using h1
   ·rw[e,Nat.add_mod_right];exact h2
theorem zM {α:Type} {n:Nat}:∀(ys:List (List α)),(∀y∈ys,y.length=n)->ys.flatten.length=ys.length*n
 |[],_=>by simp
 |y::ys,hl=>by
  rw[List.flatten_cons,List.length_append,zM ys (fun y h=>hl y (by simp[h])),hl y (by simp),List.length_cons,Nat.add_mul]
  omega
theorem Dr.rows {I:Nat->Prop} {w:World} {u:Value} {n:Nat} {ys:List (List D)} (hn:0<n) (h:Dr I w u (.list n ys)):∃news,Rd w u ys.length n news/\(∀x∈news,x.oneCell'=true)/\cC I w news ys.flatten:=by
 cases h with
 |list A cap n l xs U cj hl hm eu hlen hA g1 hU=>
  have u9:=zM ys hlen
  have hV:∀(q:Nat),q<ys.length*n->∃y x,ys[q/n]?=some y/\y[q%n]?=some x/\ys.flatten[q]?=some x:=by
   intro q hq
   have hx:=List.getElem?_eq_getElem (l:=ys.flatten) (i:=q) (by rw[u9];exact hq)
   obtain⟨y,h1,h2⟩:=Ct hn ys hlen q _ hx
   exact⟨y,_,h1,h2,hx⟩
  refine⟨(List.range (ys.length*n)).map (fun q=>U (q/n) (q%n)),⟨by simp,A,cap,by rw[cj],fun e=>by rw[<-cj];exact eu e,by omega,fun ad iP=>⟨fun h0=>?_,fun j x hj=>?_⟩⟩,fun x hx=>?_,⟨by simp[u9],fun i v d h1 h2=>?_⟩⟩
  ·obtain⟨b,off,e,hb,_,_⟩:=hA (by omega)
   rw[iP] at e
   injection e with e
   subst e
   exact hb
  ·have hlt:j<ys.length*n:=by have:=(List.getElem?_eq_some_iff.1 hj).1;simpa using this
   rw[List.getElem?_map,List.getElem?_range hlt] at hj
   injection hj with hj
   subst hj
   have nU:0<ys.length:=by
    rcases Nat.eq_zero_or_pos ys.length with e|e
    ·rw[e] at hlt;simp at hlt
    ·exact e
   obtain⟨b,off,e,hb,_,hc⟩:=hA (by omega)
   rw[iP] at e
   injection e with e
   subst e
   obtain⟨y,x,h1,h2,_⟩:=hV j hlt
   have:=hc (j/n) y (j%n) x h1 h2
   rw[Addr.add_mid]
   rw[<-this]
   congr 2
   have:=Nat.div_add_mod j n
   rw[Nat.mul_comm] at this
   omega
  ·obtain⟨q,hq,rfl⟩:=List.mem_map.1 hx
   obtain⟨y,x,h1,h2,_⟩:=hV q (by simpa using hq)
   exact g1 _ _ _ _ h1 h2
  ·have hlt:i<ys.length*n:=by have:=(List.getElem?_eq_some_iff.1 h1).1;simpa using this
   rw[List.getElem?_map,List.getElem?_range hlt] at h1
   injection h1 with h1
   subst h1
   obtain⟨y,x,k1,k2,k3⟩:=hV i hlt
   rw[k3] at h2
   injection h2 with h2
   subst h2
   exact hU _ _ _ _ k1 k2
section
variable {P:Program} {Q:Exit->S->Prop}
theorem Jk {f:FuncId} (h:nC P f=true) (args:Array Value) (w:World):(callFunc f args).run P w=.ok (.enter f args) w:=by
 unfold nC at h
 split at h
 ·rename_i fn hf
  rw[Bool.and_eq_true] at h
  have h1:(fn.name== "runtime.NumGoroutine")=false:=by simpa using h.1
  have h2:fn.body.isNone=false:=by
   cases hb:fn.body with
   |none=>rw[hb] at h;simp at h
   |some c=>rfl
  unfold callFunc
  simp only[Sem.run_bind,run_program,Result.andThen_ok,hf,h1,h2]
  rfl
 ·cases h
def Ef [Wd] (P:Program) (I:Nat->Prop) (g:aX) (w:World) (ρ:Operand->Value) (o:Oper) (s:S) (Q:Exit->S->Prop) (k:D->S->T):Prop:=
 (∃v w' I' g' d s',((execOp ρ o).run P w=.ok (.value v) w'\/((execOp ρ o).run P w=.ok .skip w'/\v=undef))/\s'.t=s.t/\Af I g w s.h (kQ o.op s) I' g' w' s'.h/\Vr I' g' w' v d/\(k d s').ok P Q)\/
 (∃f vs,(execOp ρ o).run P w=.ok (.enter f vs) w/\Calls P f vs w fun e w'=>(∃v I' g' d h',e=.returned v/\Af I g w s.h (kQ o.op s) I' g' w' h'/\Vr I' g' w' v d/\(k d {s with h:=h'}).ok P Q)\/(∃ch,e=.panicked ch/\Wd.jq ch/\Ext (fI (kQ o.op s) g s.h) w w'))\/
 (∃v,(execOp ρ o).run P w=.halt (.panic v) w/\Wd.jq [{v:=v,recovered:=false}])
theorem J3 (t:TypeId) (v:Value) (w:World):(newVar t v).run P w=.ok ⟨w.heap.size,0,none⟩ (w.alloc (.cells v.cells t)):=by
 simp[newVar,newRow]
theorem LC {t:TypeId} {inf:TypeInfo} {z:Value} (hi:P.info? t=some inf) (hz:inf.zero=some z) (w:World):(zeroValue t).run P w=.ok z w:=by
 simp[zeroValue,typeInfo,hi,hz]
theorem Xu {w:World} {sz n:Nat} {e:TypeId} {v:Value} {xs:List Value} (h:eT w e sz v n xs):∃a c,v=.slice a n c:=h.slice
theorem UK {I:Nat->Prop} {g:aX} {w:World} {h:List AO} (hd:Den I g w h) {u:Value} {d:D} {n:Nat} {ys:List (List D)} (hn:0<n) (hv:Vr I g w u d) (hr:GD h n d=some ys):
 ∃news,Rd w u ys.length n news/\(∀x∈news,x.oneCell'=true)/\cC I w news ys.flatten/\∀y∈ys,y.length=n:=by
 unfold GD at hr
 split at hr
 ·rename_i m zs
  cases hm:Nat.beq m n with
  |false=>rw[hm] at hr;cases hr
  |true=>
   rw[hm] at hr
   injection hr with hr
   subst hr
   cases Nat.eq_of_beq_eq_true hm
   have hu:=hv.rq
   obtain⟨news,h1,h2,h3⟩:=Dr.rows hn hu
   refine⟨news,h1,h2,h3,?_⟩
   cases hu with
   |list A cap n l xs U cj hl hm eu hlen hA g1 hU=>exact hlen
 ·injection hr with hr
  subst hr
  rw[hv.rm]
  exact⟨[],⟨by simp,none,0,rfl,fun _=>⟨rfl,rfl⟩,Nat.le_refl _,fun ad h=>by cases h⟩,by simp,.nil,by simp⟩
 ·rename_i o
  split at hr
  ·rename_i t m zs hh
   cases hm:Nat.beq m n with
   |false=>rw[hm] at hr;cases hr
   |true=>
    rw[hm] at hr
    injection hr with hr
    subst hr
    cases Nat.eq_of_beq_eq_true hm
    obtain⟨bo,ra,rl,rc,hg,rfl⟩:=hv.sF
    obtain⟨a',c',vs,hp,dm,nj,jd,hlen,h1⟩:=hd.obj o _ _ (sR hh) hg
    exact⟨vs,dm.rd,h1,jd,hlen⟩
  ·cases hr
 ·cases hr
theorem MD {I:Nat->Prop} {g:aX} {w:World} {h:List AO} (hd:Den I g w h) {e:TypeId} {sz:Nat} {v:Value} {xs ys:List (List D)} {vs:List Value} {news:List Value} (g1:∀x∈news,x.oneCell'=true) (ze:cC I w news ys.flatten) (u7:∀y∈ys,y.length=sz)
 (jd:cC I w vs xs.flatten) (hlen:∀x∈xs,x.length=sz) (h1:∀x∈vs,x.oneCell'=true) (hO:∀b,v.ownBlock=some b->¬I b/\¬cK g h b)
 {v':Value} {w':World} (r2:eT w' e sz v' (xs.length+ys.length) (vs++news)) (r3:w.grownBy w' v.ownBlock) (r4:v'.ownBlock=v.ownBlock\/v'.ownBlock=some w.heap.size):
 Den I (g++[(v'.ownBlock,v')]) w' (h++[.row e sz (xs++ys)])/\(∃a l c,v'=.slice a l c):=by
 have hx:Ext (fun b=>some b=v.ownBlock) w w':=(Ext.refl _ w).grown r3 (fun b e _=>e.symm)
 have DH:Den I g w' h:=hd.ext hx (fun b hb e=>(hO b e.symm).1 hb) (fun b hb e=>(hO b e.symm).2 hb)
 have je:∀b,I b->¬some b=v.ownBlock:=fun b hb e=>(hO b e.symm).1 hb
 obtain⟨a,c,wF⟩:=Xu r2
 refine⟨DH.AB ⟨a,c,vs++news,?_,?_,rfl,?_,?_,?_⟩ (fun b hb=>?_),⟨a,_,c,wF⟩⟩
 ·rw[List.length_append];exact wF
 ·rw[List.length_append];exact r2
 ·rw[List.flatten_append]
  exact(jd.append ze).ext hx je
 ·intro x hx
  rcases List.mem_append.1 hx with e|e
  ·exact hlen x e
  ·exact u7 x e
 ·intro x hx
  rcases List.mem_append.1 hx with e|e
  ·exact h1 x e
  ·exact g1 x e
 ·have bQ:v'.ownBlock=some b:=hb
  rcases r4 with e|e
  ·rw[e] at bQ;exact hO b bQ
  ·rw[e] at bQ
   injection bQ with bQ
   subst bQ
   exact⟨fun hI=>Nat.lt_irrefl _ (hd.ay _ hI),fun ho=>Nat.lt_irrefl _ (hd.lt ho)⟩
theorem ME {I:Nat->Prop} {g:aX} {w:World} {h:List AO} (hd:Den I g w h) {tb:TT} (aM:tb.ok P) {t e:TypeId} {i:og} {sz ig:Nat} {z:List D} (ht:tb.look t=some ⟨sz,ig,z,.slice e⟩) (he:tb.look e=some i) {v u:Value} {xs ys:List (List D)} {vs:List Value} (nU:0<i.size) {news:List Value} (hr:Rd w u ys.length i.size news) (g1:∀x∈news,x.oneCell'=true) (ze:cC I w news ys.flatten) (u7:∀y∈ys,y.length=i.size)
 (dm:eT w e i.size v xs.length vs) (jd:cC I w vs xs.flatten) (hlen:∀x∈xs,x.length=i.size) (h1:∀x∈vs,x.oneCell'=true) (hO:∀b,v.ownBlock=some b->¬I b/\¬cK g h b) (kY:xs.length+ys.length<=maxLen) (jD:(xs.length+ys.length)*i.bytes<=140737488355328) (ty:TypeId):
 ∃v' w',(Builtin.append_ #[t,t] ty #[v,u]).run P w=.ok v' w'/\w.grownBy w' v.ownBlock/\Den I (g++[(v'.ownBlock,v')]) w' (h++[.row e i.size (xs++ys)])/\(∃a l c,v'=.slice a l c)/\(v'.ownBlock=v.ownBlock\/v'.ownBlock=some w.heap.size):=by
 have hk:=lq aM ht
 obtain⟨inf,zv,gM,cT,rW,hz,tC,tD,wQ⟩:=(aM e i he).info
 obtain⟨v',w',r1,r2,r3,r4⟩:=UL (P:=P) (t:=t) (ty:=ty) hk (z:=zv) (sz:=i.size) (bytes:=i.bytes) (by rw[gM];simp[hz,cT,rW]) tD nU dm hr g1 kY jD
 obtain⟨k1,k2⟩:=MD hd g1 ze u7 jd hlen h1 hO r2 r3 r4
 exact⟨v',w',r1,r3,k1,k2,r4⟩
theorem Jr {t t' e e':TypeId} (ht:P.underlying t=some (.slice e)) (By:P.underlying t'=some (.slice e')) (ty:TypeId) (v u:Value) (w:World):(Builtin.append_ #[t,t'] ty #[v,u]).run P w=(Builtin.append_ #[t,t] ty #[v,u]).run P w:=by
 have h1:#[t,t'][0]?=some t:=rfl
 have h2:#[t,t'][1]?=some t':=rfl
 have h3:#[t,t][0]?=some t:=rfl
 have h4:#[t,t][1]?=some t:=rfl
 have h5:#[v,u][0]?=some v:=rfl
 have h6:#[v,u][1]?=some u:=rfl
 unfold Builtin.append_
 simp only[h1,h2,h3,h4,h5,h6]
 simp only[Sem.run_bind,run_underlying ht,Result.andThen_ok]
 cases v with
 |slice base l c=>
  simp only[Sem.run_bind,Sem.run_pure,run_underlying ht,run_underlying By,Result.andThen_ok]
 |_=>rfl
theorem WA {tb:TT} (aM:tb.ok P) {t t' e:TypeId} {sz ig:Nat} {z:List D} (h:DC tb t t'=true) (hl:tb.look t=some ⟨sz,ig,z,.slice e⟩):∃e',P.underlying t'=some (.slice e'):=by
 unfold DC at h
 rw[Bool.or_eq_true] at h
 rcases h with h|h
 ·cases Nat.eq_of_beq_eq_true h
  exact⟨e,lq aM hl⟩
 ·split at h
  ·rename_i h2
   exact⟨_,lq aM h2⟩
  ·cases h
theorem Ft {I:Nat->Prop} {w:World}:∀b:List UInt8,cC I w (dA b) (b.map aE).flatten
 |[]=>.nil
 |x::b=>cC.append (vs:=[Value.int .u8 (x.toNat:Int)]) (ds:=aE x) ⟨rfl,fun i v d h1 h2=>by
   match i with
   |0=>cases h1;cases h2;exact .int .u8 _
   |i+1=>simp at h1⟩ (Ft b)
theorem Jh (b:List UInt8):Lib.strCells (au b)=dA b:=rfl
theorem UM {I:Nat->Prop} {g:aX} {w:World} {h:List AO} (hd:Den I g w h) {tb:TT} (aM:tb.ok P) {t t' e:TypeId} {sz ig Bw Bx wR wS:Nat} {z z' z2:List D} (ht:tb.look t=some ⟨sz,ig,z,.slice e⟩) (By:tb.look t'=some ⟨Bw,Bx,z',.str⟩) (he:tb.look e=some ⟨wR,wS,z2,.int .u8⟩) (IA:wR=1) {v:Value} {xs:List (List D)} {b:List UInt8} {vs:List Value}
 (dm:eT w e 1 v xs.length vs) (jd:cC I w vs xs.flatten) (hlen:∀x∈xs,x.length=1) (h1:∀x∈vs,x.oneCell'=true) (hO:∀b,v.ownBlock=some b->¬I b/\¬cK g h b) (kY:xs.length+b.length<=maxLen) (jD:(xs.length+b.length)*wS<=140737488355328) (ty:TypeId):
 ∃v' w',(Builtin.append_ #[t,t'] ty #[v,.string (au b)]).run P w=.ok v' w'/\w.grownBy w' v.ownBlock/\Den I (g++[(v'.ownBlock,v')]) w' (h++[.row e 1 (xs++b.map aE)])/\(∃a l c,v'=.slice a l c)/\(v'.ownBlock=v.ownBlock\/v'.ownBlock=some w.heap.size):=by
 subst IA
 have hk:=lq aM ht
 have cB:=ru aM By
 obtain⟨inf,zv,gM,cT,rW,hz,tC,tD,wQ⟩:=(aM e _ he).info
 obtain⟨v',w',r1,r2,r3,r4⟩:=S7 (P:=P) (t:=t) (u:=t') (ty:=ty) hk cB (z:=zv) (bytes:=wS) (by rw[gM];simp[hz,cT,rW]) tD (s:=au b) dm (by rw[lY];exact kY) (by rw[lY];exact jD)
 rw[lY,Jh] at r2
 obtain⟨k1,k2⟩:=MD hd (xs:=xs) (ys:=b.map aE) (zq b) (Ft b) (by intro y hy;obtain⟨x,_,rfl⟩:=List.mem_map.1 hy;rfl) jd hlen h1 hO (by rw[List.length_map];exact r2) r3 r4
 exact⟨v',w',r1,r3,k1,k2,r4⟩
end
theorem Dr.Gl {I:Nat->Prop} {w:World} {t:TypeId} {n:Nat} {v:Value} {xs:List (List D)} {vs:List Value} (hr:eT w t n v xs.length vs) (hd:cC I w vs xs.flatten) (hl:∀x∈xs,x.length=n) (h1:∀v∈vs,v.oneCell'=true) (hI:∀b,v.ownBlock=some b->I b):Dr I w v (.list n xs):=by
 have u9:=zM xs hl
 have key:∀(i:Nat) x (j:Nat) d,xs[i]?=some x->x[j]?=some d->i*n+j<xs.length*n/\xs.flatten[i*n+j]?=some d:=by
  intro i x j d hx hj
  have hi:=(List.getElem?_eq_some_iff.1 hx).1
  have qM:=hl x (List.mem_of_getElem? hx)
  have Bk:=(List.getElem?_eq_some_iff.1 hj).1
  have hlt:i*n+j<xs.length*n:=by
   have h2:(i+1)*n<=xs.length*n:=Nat.mul_le_mul_right n hi
   rw[Nat.add_mul,Nat.one_mul] at h2
   omega
  refine⟨hlt,?_⟩
  have h3:=List.getElem?_eq_getElem (l:=xs.flatten) (i:=i*n+j) (by rw[u9];exact hlt)
  obtain⟨y,e1,e2⟩:=Ct (by omega) xs hl _ _ h3
  have d1:(i*n+j)/n=i:=by
   rw[Nat.mul_comm,Nat.mul_add_div (by omega),Nat.div_eq_of_lt (by omega)]
   rfl
  have d2:(i*n+j)%n=j:=by
   rw[Nat.mul_comm,Nat.mul_add_mod,Nat.mod_eq_of_lt (by omega)]
  rw[d1,hx] at e1
  injection e1 with e1
  subst e1
  rw[d2,hj] at e2
  rw[h3,<-e2]
 obtain⟨hlen,Gy⟩:=hr
 have II:∀(i:Nat) x (j:Nat) d,xs[i]?=some x->x[j]?=some d->∃u,vs[i*n+j]?=some u:=fun i x j d hx hj=>⟨_,List.getElem?_eq_getElem (by have:=(key i x j d hx hj).1;omega)⟩
 rcases Gy with⟨rfl,h0⟩|⟨g,cap,cur,fz,rfl,hh,hf,hc,hm,hs,ht⟩
 ·have IJ:xs=[]:=List.eq_nil_of_length_eq_zero h0
  subst IJ
  exact .list none 0 n 0 [] (fun _ _=>undef) rfl (Nat.le_refl _) (Nat.zero_le _) (fun _=>⟨rfl,rfl⟩) (by simp) (fun h=>by simp at h) (by simp) (by simp)
 ·refine .list _ cap n _ xs (fun i j=>vs.getD (i*n+j) undef) rfl hc hm (fun e=>by cases e) hl (fun h0=>⟨g,0,rfl,AH hh,hI g rfl,fun i x j d hx hj=>?_⟩) (fun i x j d hx hj=>?_) (fun i x j d hx hj=>?_)
  ·obtain⟨u,hu⟩:=II i x j d hx hj
   have hk:=(key i x j d hx hj).1
   rw[Nat.zero_add,cell_of_row w g _ cur t fz hh]
   have:cur[i*n+j]?=vs[i*n+j]?:=by
    rw[<-ht,List.getElem?_take,if_pos hk,Array.getElem?_toList]
   rw[this,hu]
   simp[List.getD,hu]
  ·obtain⟨u,hu⟩:=II i x j d hx hj
   simp only[List.getD,hu,Option.getD_some]
   exact h1 u (List.mem_of_getElem? hu)
  ·obtain⟨u,hu⟩:=II i x j d hx hj
   simp only[List.getD,hu,Option.getD_some]
   exact hd.2 _ u d hu (key i x j d hx hj).2
theorem Dr.Xv {I:Nat->Prop} {w:World} {v:Value} {n:Nat} {xs:List (List D)} (h:Dr I w v (.list n xs)) (hN:∀b,v.ownBlock=some b->¬Old.A b) (hF:∀b off l c,v=.slice (some ⟨b,off,none⟩) l c->∀j,j<l*n->w.frozen? ⟨b,off+j,none⟩=false):Dr I w v (.own n xs):=by
 cases h with
 |list A cap _ l _ U cj hl hm eu hlen hA h1 hU=>
  refine .own A cap n l xs U cj hl hm eu hlen (fun h0=>?_) h1 hU
  obtain⟨b,off,rfl,hb,hI,hc⟩:=hA h0
  exact⟨b,off,rfl,hb,hI,hN b rfl,hF b off l cap rfl,hc⟩
end Go.Proofs.YtafomdobfmmleaaGreatDoor

/- Lemmas and contracts. -/
namespace Go.Proofs.YtafomdobfmmleaaGreatDoor
open Go.RowKit
set_option linter.unusedSectionVars false
variable [Wd]
set_option linter.unusedVariables false
section
variable {P:Program} {Q:Exit->S->Prop}
theorem KR (z:List D):∀n,AZ z n=(List.replicate n z).flatten
 |0=>rfl
 |n+1=>by simp[AZ,List.replicate_succ,KR z n]
theorem KS {n:Nat}:∀(l:Nat) (cs:List D) (xs:List (List D)),xZ n l cs=some xs->xs.flatten=cs/\xs.length=l/\∀x∈xs,x.length=n
 |0,[],xs,h=>by simp[xZ] at h;subst h;simp
 |0,_::_,xs,h=>by simp[xZ] at h
 |l+1,cs,xs,h=>by
  simp only[xZ] at h
  split at h
  ·rename_i r hr
   split at h
   ·rename_i rs OR
    injection h with h
    subst h
    rw[vv] at OR
    obtain⟨rfl,hle⟩:=C8 _ _ _ hr
    obtain⟨h1,h2,h3⟩:=KS l _ rs OR
    refine⟨by rw[List.flatten_cons,h1,List.take_append_drop],by simp[h2],fun x hx=>?_⟩
    rcases List.mem_cons.1 hx with rfl|e
    ·rw[List.length_take];omega
    ·exact h3 x e
   ·cases h
  ·cases h
theorem LD {n:Nat} (hn:0<n) {s:S} {a:Act} {I:Nat->Prop} {g:aX} {w:World} (bM:∀x,Vr I g w (a.eval x) (ev s x)):
 ∀(ps:List (Nat×Operand)) (cs fB:List D) (A:Array Value),bR I g w A.toList cs->(∀v∈A.toList,v.oneCell'=true)->AF n s cs ps=some fB->
  ∃A',Instr.fill (fun i=>some (i*n,n)) A (ps.map fun x=>(x.1,a.eval x.2))=some A'/\bR I g w A'.toList fB/\∀v∈A'.toList,v.oneCell'=true
 |[],cs,fB,A,hv,h1,h=>by
  simp only[AF] at h
  injection h with h
  subst h
  exact⟨A,rfl,hv,h1⟩
 |(i,x)::r,cs,fB,A,hv,h1,h=>by
  simp only[AF] at h
  split at h
  ·rename_i ds qg
   cases hl:Nat.beq ds.length n with
   |false=>rw[hl] at h;cases h
   |true=>
    rw[hl] at h
    simp only[cond_true] at h
    split at h
    ·rename_i cs1 ho
     obtain⟨rfl,hle⟩:=xx _ _ _ _ ho
     obtain⟨k1,k2⟩:=zL (bM x) qg
     have hdn:ds.length=n:=Nat.eq_of_beq_eq_true hl
     have cT:(a.eval x).cells.size=n:=by
      have:=k1.1
      rw[Array.length_toList] at this
      omega
     have hAs:A.size=cs.length:=by rw[<-Array.length_toList];exact hv.1
     obtain⟨A',e1,e2,e3⟩:=LD hn bM r _ fB ((a.eval x).cells.zipIdx.foldl (fun (c:Array Value) (y:Value×Nat)=>c.setIfInBounds (i*n+y.2) y.1) A) (by rw[BV];exact hv.nG (i*n) k1) (fun v hm=>by
      rw[BV] at hm
      rcases B7 _ _ _ _ hm with e|e
      ·exact h1 v e
      ·exact k2 v e) h
     refine⟨A',?_,e2,e3⟩
     simp only[List.map_cons,Instr.fill]
     have bS:ds≠[]:=List.ne_nil_of_length_pos (by omega)
     have c2:¬((decide ((a.eval x).cells.size≠n)||decide (i*n+(a.eval x).cells.size>A.size))=true):=by
      rcases hle with e|e
      ·exact absurd e bS
      ·simp only[Bool.or_eq_true,decide_eq_true_eq]
       omega
     show(if(decide ((a.eval x).cells.size≠n)||decide (i*n+(a.eval x).cells.size>A.size))=true then none else _)=_
     rw[if_neg c2]
     exact e1
    ·cases h
  ·cases h
theorem UN {I:Nat->Prop} {g:aX} {w:World} {z:Array Value} {ds:List D} (hv:bR I g w z.toList ds) (h1:∀v∈z.toList,v.oneCell'=true) {n:Nat} (hn:0<n) (hz:z.size=n) (l:Nat):
 bR I g w ((Array.range (l*n)).map (z[·%z.size]!)).toList (AZ ds l)/\∀v∈((Array.range (l*n)).map (z[·%z.size]!)).toList,v.oneCell'=true:=by
 have D2:ds.length=n:=by rw[<-hv.1,Array.length_toList,hz]
 have u9:((List.replicate l ds).flatten).length=l*n:=by
  rw[zM (n:=n) _ (fun y hy=>by rw[List.eq_of_mem_replicate hy];exact D2)]
  simp
 have s8:∀i,z[i%z.size]! =z[i%n]'(by rw[hz];exact Nat.mod_lt _ hn):=by
  intro i
  subst hz
  exact getElem!_pos z (i%z.size) (Nat.mod_lt _ hn)
 rw[KR]
 refine⟨⟨by simp[u9],fun i v d k1 k2=>?_⟩,fun v wF=>?_⟩
 ·have hlt:i<l*n:=by have:=(List.getElem?_eq_some_iff.1 k1).1;simpa using this
  obtain⟨y,e1,e2⟩:=Ct hn _ (fun y hy=>by rw[List.eq_of_mem_replicate hy];exact D2) i d k2
  have hy:y=ds:=List.eq_of_mem_replicate (List.mem_of_getElem? e1)
  subst hy
  have wG:v=z[i%n]'(by rw[hz];exact Nat.mod_lt _ hn):=by
   rw[Array.getElem?_toList,Array.getElem?_map,Array.getElem?_range] at k1
   rw[if_pos hlt] at k1
   simp only[Option.map_some] at k1
   injection k1 with k1
   rw[<-k1,s8]
  refine hv.2 (i%n) v d ?_ e2
  rw[wG,Array.getElem?_toList]
  exact Array.getElem?_eq_getElem _
 ·rw[Array.mem_toList_iff] at wF
  obtain⟨i,_,rfl⟩:=Array.mem_map.1 wF
  rw[s8]
  exact h1 _ (Array.mem_toList_iff.2 (Array.getElem_mem _))
set_option maxHeartbeats 4000000 in
theorem LF {E:En} (aM:E.tb.ok P) {s:S} {a:Act} {I:Nat->Prop} {g:aX} {w:World} (hW:Wd.W I w) (bM:∀x,Vr I g w (a.eval x) (ev s x)) (hd:Den I g w s.h) {o:Oper} {k:D->S->T} (h:(GF E o.op o.type s k).ok P Q):Ef P I g w a.eval o s Q k:=by
 obtain⟨dst,op,ty,pos,after,guard⟩:=o
 simp only at h
 unfold GF at h
 simp only[Mz,UE,Lv,zK] at h
 split at h
 ·
  rename_i e
  split at h
  ·rename_i isz iby iz ikd hl
   obtain⟨inf,zv,gM,cT,rW,hz,tC,tD,wQ⟩:=(aM e _ hl).info
   obtain⟨z1,z2⟩:=B8 (I:=I) (g:=g++[gp w]) (w:=w.alloc (.cells zv.cells e)) _ _ tC
   refine .inl ⟨.pointer (some ⟨w.heap.size,0,none⟩),w.alloc (.cells zv.cells e),I,g++[gp w],.ptr s.h.length 0,{s with h:=s.h++[.cells e iz]},.inl ?_,rfl,Af.cells hd (B.jV _ _) (by simpa using cm.new w e zv.cells) z1 z2,Vr.M9 hd,h⟩
   simp only[execOp,Instr.alloc,Sem.run_bind,LC gM hz,Result.andThen_ok,J3,Sem.run_pure]
  ·exact h.elim
 ·
  rename_i e x
  split at h
  ·rename_i cs hc
   obtain⟨z1,z2⟩:=zL (bM x) hc
   have z1':bR I (g++[gp w]) (w.alloc (.cells (a.eval x).cells e)) (a.eval x).cells.toList cs:=(z1.ext (Ext.of_B (own:=fun _=>False) (B.jV _ _)) (fun _ _=>id)).mono (fun _ h=>h) (fun _ _ h=>o9 h)
   refine .inl ⟨.pointer (some ⟨w.heap.size,0,none⟩),w.alloc (.cells (a.eval x).cells e),I,g++[gp w],.ptr s.h.length 0,{s with h:=s.h++[.cells e cs]},.inl ?_,rfl,Af.cells hd (B.jV _ _) (by simpa using cm.new w e (a.eval x).cells) z1' z2,Vr.M9 hd,h⟩
   simp only[execOp,Instr.box,Sem.run_bind,Result.andThen_ok,J3,Sem.run_pure]
  ·exact h.elim
 ·
  rename_i t x y
  split at h
  ·rename_i o off i ds hx hl qg
   split at h
   ·rename_i ct cs hh
    cases hb:Nat.beq ds.length i.size with
    |false=>rw[hb] at h;exact h.elim
    |true=>
     rw[hb] at h
     simp only[cond_true] at h
     split at h
     ·rename_i fB ho
      obtain⟨rfl,hle⟩:=xx _ _ _ _ ho
      obtain⟨k1,k2⟩:=zL (bM y) qg
      have hv:=bM x;rw[hx] at hv
      obtain⟨b,bo,hg,e⟩:=hv.sG
      have fR:=Cs hh
      obtain⟨b',vs,hp,AQ,g1,g2⟩:=hd.obj o _ _ fR hg
      injection hp with tE gm
      injection gm with gm
      injection gm with gm
      injection gm with gm _ _
      subst gm
      obtain⟨inf,zv,gM,cT,rW,hz,tC,tD,wQ⟩:=(aM t i hl).info
      have Hj:ds.length=i.size:=Nat.eq_of_beq_eq_true hb
      have qO:(a.eval y).cells.toList.length=ds.length:=k1.1
      have jD:∀j,j<(a.eval y).cells.toList.length->off+j<vs.length:=by
       intro j hj
       rcases hle with e|e
       ·rw[e] at qO;simp at qO;simp[qO] at hj
       ·have:=g1.1;omega
      have iA:(storeVar t ⟨b,off,none⟩ (a.eval y)).run P w=.ok () (w.setCells b off (a.eval y).cells.toList):=by
       have:=run_storeCells_cells (P:=P) b off (a.eval y).cells.toList 0 w (fun j hj=>by rw[AQ.cell];simp;exact jD j hj) (fun j hj=>AQ.frozen _) k2
       rw[Nat.add_zero] at this
       unfold storeVar
       have hc:¬((a.eval y).cells.size≠inf.size):=by
        rw[Array.length_toList] at qO
        omega
       simp only[Sem.run_bind,su gM,Result.andThen_ok,if_neg hc]
       exact this
      have wT:Ext (fun q=>(AO.cells ct cs).owns (bo,.pointer (some ⟨b,0,none⟩)) q) w (w.setCells b off (a.eval y).cells.toList):=(Ext.setCells _ _).mono (fun q _ e=>by subst e;exact tE)
      have hI:∀q,I q->¬(AO.cells ct cs).owns (bo,.pointer (some ⟨b,0,none⟩)) q:=fun q hq tw=>hd.own o _ _ q fR hg tw hq
      refine .inl ⟨undef,w.setCells b off (a.eval y).cells.toList,I,g,.aD [],{s with h:=sh s.h o (.cells ct (iL cs off ds))},.inr ⟨?_,rfl⟩,rfl,⟨?_,?_,fun _ h=>h,fun _ h=>.inl h,fun _ _ h=>h,fun q hq hn=>?_,fun q bJ p' b2 hq h1 h2 h3=>?_,fun q bJ p' b2 hq h1 h2 h3=>?_⟩,.undef,h⟩
      ·simp only[execOp,Instr.storeAt,e,Instr.sureAddr,Sem.run_bind,Sem.run_pure,Result.andThen_ok,iA]
      ·show Den I g _ (sh s.h o _)
       rw[lI]
       refine hd.setObj fR hg wT (fun q hq=>hq) ⟨b,mR vs off (a.eval y).cells.toList,by rw[tE],AQ.setCells _ _ _,(g1.nG off k1).ext wT hI,fun v hv=>?_⟩
       rcases B7 _ _ _ _ hv with e|e
       ·exact g2 v e
       ·exact k2 v e
      ·refine wT.mono (fun q _ hq=>⟨o,_,_,?_,fR,hg,hq⟩)
       simp[kQ,hx]
      ·have j0:q≠o:=by simpa[kQ,hx] using hn
       show(sh s.h o _)[q]?=_
       rw[lI,List.getElem?_set_ne (Ne.symm j0)]
      ·have eD:(s.h.set o (.cells ct (iL cs off ds)))[q]?=some bJ:=by rw[<-lI];exact h1
       rw[List.getElem?_set] at eD
       split at eD
       ·rename_i e
        subst e
        split at eD<;>first|(cases eD;done)|(injection eD with e;subst e;exact⟨_,fR,h3⟩)
       ·exact⟨_,eD,h3⟩
      ·have eD:(s.h.set o (.cells ct (iL cs off ds)))[q]?=some bJ:=by rw[<-lI];exact h1
       have:=(List.getElem?_eq_some_iff.1 eD).1
       simp at this
       omega
     ·exact h.elim
   ·exact h.elim
  ·rename_i o n j off i ds hx hl qg
   split at h
   ·rename_i ct m xs hh
    cases hb:Nat.beq n m&&(Nat.beq ds.length i.size&&(Nat.blt 0 i.size&&gh.pl ds)) with
    |false=>rw[hb] at h;exact h.elim
    |true=>
     rw[hb] at h
     rw[Bool.and_eq_true,Bool.and_eq_true,Bool.and_eq_true] at hb
     obtain⟨wC,mX,fO,hb3⟩:=hb
     cases Nat.eq_of_beq_eq_true wC
     obtain⟨x0,ni,hc,h⟩:=h
     rw[Int.toNat_natCast] at hc
     dsimp only at h
     split at h
     ·rename_i x' ho
      obtain⟨rfl,hle⟩:=xx _ _ _ _ ho
      obtain⟨k1,k2⟩:=zL (bM y) qg
      have hv:=bM x;rw[hx] at hv
      obtain⟨bo,b,base,l,c,hg,e⟩:=hv.zV
      have vc:=sR hh
      obtain⟨a',c',vs,hp,dm,nj,jd,hlen,h1⟩:=hd.obj o _ _ vc hg
      obtain⟨inf,zv,gM,cT,rW,hz,tC,tD,wQ⟩:=(aM t i hl).info
      have Hj:ds.length=i.size:=Nat.eq_of_beq_eq_true mX
      have nU:0<i.size:=Nat.le_of_ble_eq_true fO
      have qO:(a.eval y).cells.toList.length=ds.length:=k1.1
      have IJ:x0.length=n:=hlen x0 (List.mem_of_getElem? hc)
      have Zt:off+ds.length<=n:=by
       rcases hle with q|q
       ·rw[q] at Hj;simp at Hj;omega
       ·omega
      have Bk:j<xs.length:=(List.getElem?_eq_some_iff.1 hc).1
      have hjn:j*n+n<=xs.length*n:=by
       have:=Nat.mul_le_mul_right n (show j+1<=xs.length from Bk)
       rwa [Nat.add_mul,Nat.one_mul] at this
      obtain⟨gb,cap,q1,w',q2,q3,q4⟩:=dm.put (P:=P) (q:=j*n+off) (us:=(a.eval y).cells.toList) (by rw[dm.1];omega) (by omega) k2
      injection q1 with q1 q5 q6
      injection q1 with q1
      injection q1 with q1 q7 _
      subst q1 q7
      have iA:(storeVar t ⟨b,0+j*n+off,none⟩ (a.eval y)).run P w=.ok () w':=by
       unfold storeVar
       have lO:¬((a.eval y).cells.size≠inf.size):=by
        rw[Array.length_toList] at qO
        omega
       simp only[Sem.run_bind,su gM,Result.andThen_ok,if_neg lO,Nat.zero_add]
       exact q2
      have rT:bo=some b:=nj
      have wT:Ext (fun q=>(AO.row ct n xs).owns (bo,.slice (some ⟨b,0,none⟩) l c) q) w w':=q4.mono (fun q _ e=>by subst e;exact rT)
      have hI:∀q,I q->¬(AO.row ct n xs).owns (bo,.slice (some ⟨b,0,none⟩) l c) q:=fun q hq tw=>hd.own o _ _ q vc hg tw hq
      have GH:∀z∈xs.set j (iL x0 off ds),z.length=n:=fun z hz=>by
       rcases List.mem_or_eq_of_mem_set hz with q|q
       ·exact hlen z q
       ·rw[q,KO];exact IJ
      refine .inl ⟨undef,w',I,g,.aD [],{s with h:=sh s.h o (.row ct n (xs.set j (iL x0 off ds)))},.inr ⟨?_,rfl⟩,rfl,⟨?_,?_,fun _ h=>h,fun _ h=>.inl h,fun _ _ h=>h,fun q hq hn=>?_,fun q bJ p' b2 hq h1 h2 h3=>?_,fun q bJ p' b2 hq h1 h2 h3=>?_⟩,.undef,h⟩
      ·simp only[execOp,Instr.storeAt,e,Instr.sureAddr,Sem.run_bind,Sem.run_pure,Result.andThen_ok,iA]
      ·show Den I g _ (sh s.h o _)
       rw[lI]
       refine hd.setObj vc hg wT (fun q hq=>hq) ⟨a',c',_,by rw[List.length_set];exact hp,by rw[List.length_set];exact q3,nj,?_,GH,fun v hv=>?_⟩
       ·rw[Ly xs hlen j off x0 ds hc Zt,<-KN _ _ _ (by rw[dm.1,qO];omega)]
        exact(jd.nG (j*n+off) (lS k1 hb3)).ext wT hI
       ·simp only[List.mem_append] at hv
        rcases hv with(q|q)|q
        ·exact h1 v (List.mem_of_mem_take q)
        ·exact k2 v q
        ·exact h1 v (List.mem_of_mem_drop q)
      ·refine wT.mono (fun q _ hq=>⟨o,_,_,?_,vc,hg,hq⟩)
       simp[kQ,hx]
      ·have j0:q≠o:=by simpa[kQ,hx] using hn
       show(sh s.h o _)[q]?=_
       rw[lI,List.getElem?_set_ne (Ne.symm j0)]
      ·have eD:(s.h.set o (.row ct n (xs.set j (iL x0 off ds))))[q]?=some bJ:=by rw[<-lI];exact h1
       rw[List.getElem?_set] at eD
       split at eD
       ·rename_i e
        subst e
        split at eD<;>first|(cases eD;done)|(injection eD with e;subst e;exact⟨_,vc,h3⟩)
       ·exact⟨_,eD,h3⟩
      ·have eD:(s.h.set o (.row ct n (xs.set j (iL x0 off ds))))[q]?=some bJ:=by rw[<-lI];exact h1
       have:=(List.getElem?_eq_some_iff.1 eD).1
       simp at this
       omega
     ·exact h.elim
   ·exact h.elim
  ·exact h.elim
 ·
  rename_i t len parts
  split at h
  ·rename_i sz ig z e hl
   split at h
   ·rename_i i hi
    cases hb:Nat.blt 0 i.size&&Nat.ble (len*i.size) 16777216 with
    |false=>rw[hb] at h;exact h.elim
    |true=>
     rw[hb] at h
     rw[Bool.and_eq_true] at hb
     simp only[cond_true] at h
     have nU:0<i.size:=Nat.le_of_ble_eq_true hb.1
     have yM:len*i.size<=16777216:=Nat.le_of_ble_eq_true hb.2
     split at h
     ·rename_i cs hf
      cases IK:gh.pl cs with
      |false=>rw[IK] at h;exact h.elim
      |true=>
      rw[IK] at h
      simp only[cond_true] at h
      split at h
      ·rename_i xs hx
       have hk:=lq aM hl
       obtain⟨inf,zv,gM,cT,rW,hz,tC,tD,wQ⟩:=(aM e i hi).info
       obtain⟨z1,z2⟩:=B8 (I:=I) (g:=g) (w:=w) _ _ tC
       obtain⟨q1,q2⟩:=UN z1 z2 nU tD len
       obtain⟨A,r1,r2,r3⟩:=LD nU bM _ _ _ _ q1 q2 hf
       obtain⟨c1,c2,c3⟩:=KS _ _ _ hx
       have IL:A.size=len*i.size:=by
        have:=r2.1
        rw[Array.length_toList] at this
        rw[this,<-c1,zM _ c3,c2]
       have H7:len<=maxLen:=by
        unfold maxLen
        have:len*1<=len*i.size:=Nat.mul_le_mul_left _ nU
        omega
       have N7:(w.alloc (.cells A e)).ownsRow 0 e i.size (.slice (some ⟨w.heap.size,0,none⟩) len len) xs.length A.toList:=by
        rw[c2]
        refine⟨by rw[Array.length_toList,IL],.inr ⟨w.heap.size,len,A,rfl,Nat.zero_le _,cm.new w e A,Nat.le_refl _,H7,IL,?_⟩⟩
        rw[List.take_of_length_le (by rw[Array.length_toList,IL];exact Nat.le_refl _)]
       have OS:cC I (w.alloc (.cells A e)) A.toList xs.flatten:=by
        rw[c1]
        exact(lS r2 IK).ext (Ext.of_B (own:=fun _=>False) (B.jV _ _)) (fun _ _=>id)
       have iA:(execOp a.eval ⟨dst,.buildSlice t len parts,ty,pos,after,guard⟩).run P w=.ok (.value (.slice (some ⟨w.heap.size,0,none⟩) len len)) (w.alloc (.cells A e)):=by
        have hnz:¬(len*i.size>2^24):=by omega
        have Dl:Instr.fill (fun j=>some (j*i.size,i.size)) ((Array.range (len*i.size)).map ((if len*i.size=0 then(#[]:Array Value) else zv.cells)[·%(if len*i.size=0 then(#[]:Array Value) else zv.cells).size]!)) ((parts.map fun (j,x)=>(j,a.eval x)).toList)=some A:=by
         rw[Array.toList_map]
         by_cases h0:len*i.size=0
         ·rw[h0] at r1 ⊢
          have e0:((Array.range 0).map fun x=>(if(0:Nat)=0 then(#[]:Array Value) else zv.cells)[x%(if(0:Nat)=0 then(#[]:Array Value) else zv.cells).size]!)=(Array.range 0).map (zv.cells[·%zv.cells.size]!):=by simp
          rw[e0]
          exact r1
         ·simp only[if_neg h0]
          exact r1
        simp only[execOp,Instr.buildSlice,Sem.run_bind,run_underlying hk,Result.andThen_ok,su gM,cT,if_neg hnz]
        by_cases h0:len*i.size=0
        ·simp only[h0,if_true] at Dl ⊢
         simp only[Sem.run_pure,Result.andThen_ok,Sem.run_bind,Dl]
         simp[newRow]
        ·simp only[h0,if_false] at Dl ⊢
         simp only[Sem.run_bind,LC gM hz,Sem.run_pure,Result.andThen_ok,Dl]
         simp[newRow]
       cases A3:E.y9 with
       |true=>
        rw[A3] at h
        have A4:¬cK g s.h w.heap.size:=fun ho=>Nat.lt_irrefl _ (hd.lt ho)
        have hB:=B.jV w (.cells A e)
        have Zu:(w.alloc (.cells A e)).heap.size=w.heap.size+1:=by simp
        refine .inl ⟨_,w.alloc (.cells A e),fun x=>I x\/x=w.heap.size,g,_,s,.inl iA,rfl,⟨(hd.later hB).wk (fun _ h=>.inl h) (fun x hx=>?_) (fun x hx=>?_),Ext.of_B hB,fun _ h=>.inl h,fun x hx=>?_,fun _ _ h=>h,fun _ _ _=>rfl,fun q bJ p' b2 hq h1 h2 h3=>⟨bJ,h1,h3⟩,fun q bJ p' b2 hq h1 h2 h3=>by have:=(List.getElem?_eq_some_iff.1 h1).1;omega⟩,.rd (Dr.Gl (eT.of N7) (OS.mono (fun _ h=>.inl h)) c3 r3 (fun b hb=>?_)),h⟩
        ·rw[Zu]
         rcases hx with e|e
         ·have:=hd.ay x e;omega
         ·omega
        ·rcases hx with e|e
         ·intro ho
          obtain⟨o,ao,p,a1,a2,a3⟩:=ho
          exact hd.own o ao p x a1 a2 a3 e
         ·subst e;exact A4
        ·rcases hx with e|e
         ·exact .inl e
         ·right;right;omega
        ·right
         simpa[Value.ownBlock] using hb.symm
       |false=>
        rw[A3] at h
        refine .inl ⟨.slice (some ⟨w.heap.size,0,none⟩) len len,w.alloc (.cells A e),I,g++[(some w.heap.size,.slice (some ⟨w.heap.size,0,none⟩) len len)],.row s.h.length,{s with h:=s.h++[.row e i.size xs]},.inl iA,rfl,Af.push hd (B.jV _ _) (p:=(some w.heap.size,.slice (some ⟨w.heap.size,0,none⟩) len len)) (ao:=.row e i.size xs) ⟨some ⟨w.heap.size,0,none⟩,len,A.toList,by rw[c2],eT.of N7,rfl,OS,c3,r3⟩ (fun b hb=>by
         have:some w.heap.size=some b:=hb
         injection this with this
         omega),Vr.newRow hd,h⟩
      ·exact h.elim
     ·exact h.elim
   ·exact h.elim
  ·exact h.elim
 ·
  rename_i src yP x
  split at h
  ·rename_i sz ig z Bw Bx z' e b hs s9 hx
   split at h
   ·rename_i wR wS z2 he
    obtain⟨pW,h⟩:=h
    have hv:=bM x;rw[hx] at hv
    have k1:=ru aM hs
    have k2:=lq aM s9
    have k3:=zW aM he
    have hB:B w (Lib.bytesWorld w e (au b)):=⟨rfl,rfl,rfl,by rw[Lib.bytesWorld_size];omega,fun j hj=>Lib.bytesWorld_at_old w e (au b) j hj⟩
    have Yo:b.length<=grownCap w (au b).size 0 e:=by have:=grownCap_ge w (au b).size 0 e;rw[lY] at this ⊢;exact this
    have Yp:grownCap w (au b).size 0 e<=maxLen:=grownCap_le_maxLen w _ 0 e (by rw[lY];unfold maxLen;omega)
    have qT:Bs (Lib.bytesWorld w e (au b)) (.slice (some ⟨w.heap.size,0,none⟩) b.length (grownCap w (au b).size 0 e)) b:=by
     refine⟨⟨some ⟨w.heap.size,0,none⟩,_,rfl,fun e=>(by cases e),Yo,Yp,fun ad iP=>?_⟩,pW⟩
     cases iP
     refine⟨fun _=>by rw[Lib.bytesWorld_size];exact Nat.lt_succ_self _,fun j u hu=>?_⟩
     have hj:j<b.length:=by
      rcases Nat.lt_or_ge j b.length with h|h
      ·exact h
      ·rw[List.getElem?_eq_none (by rw[om];exact h)] at hu;cases hu
     rw[qi b j hj] at hu
     injection hu with hu
     subst hu
     rw[Addr.add_mid,Nat.zero_add,Lib.bytesWorld_cell w e (au b) j (by rw[lY];exact hj)]
     simp[au,List.getD,hj]
    have A4:¬cK g s.h w.heap.size:=fun ho=>Nat.lt_irrefl _ (hd.lt ho)
    cases A3:E.y9 with
    |true=>
      rw[A3] at h
      refine .inl ⟨_,Lib.bytesWorld w e (au b),fun x=>I x\/x=w.heap.size,g,_,s,.inl ?_,rfl,⟨(hd.later hB).wk (fun _ h=>.inl h) (fun x hx=>?_) (fun x hx=>?_),Ext.of_B hB,fun _ h=>.inl h,fun x hx=>?_,fun _ _ h=>h,fun _ _ _=>rfl,fun q bJ p' b2 hq h1 h2 h3=>⟨bJ,h1,h3⟩,fun q bJ p' b2 hq h1 h2 h3=>by have:=(List.getElem?_eq_some_iff.1 h1).1;omega⟩,.rd (qT.dr (fun q hq _=>?_)),h⟩
      ·have:=Lib.run_convert_string_bytes (P:=P) w src yP e (au b) k1 k2 k3
       rw[lY] at this
       simp only[execOp,hv.kB,Sem.run_bind,this,lY]
       rfl
      ·rw[Lib.bytesWorld_size]
       rcases hx with e|e
       ·have:=hd.ay x e;omega
       ·omega
      ·rcases hx with e|e
       ·intro ho
        obtain⟨o,ao,p,a1,a2,a3⟩:=ho
        exact hd.own o ao p x a1 a2 a3 e
       ·subst e;exact A4
      ·rcases hx with e|e
       ·exact .inl e
       ·right;right;omega
      ·right
       simpa[Value.ownBlock] using hq.symm
    |false=>
      rw[A3] at h
      simp only[cond_false] at h
      have hw:=eT.conv w e (au b) (by rw[lY];unfold maxLen;omega)
      rw[lY,Jh] at hw
      have iA:=Lib.run_convert_string_bytes (P:=P) w src yP e (au b) k1 k2 k3
      rw[lY] at iA
      refine .inl ⟨.slice (some ⟨w.heap.size,0,none⟩) b.length (grownCap w b.length 0 e),Lib.bytesWorld w e (au b),I,g++[(some w.heap.size,.slice (some ⟨w.heap.size,0,none⟩) b.length (grownCap w b.length 0 e))],.row s.h.length,{s with h:=s.h++[.row e 1 (b.map aE)]},.inl ?_,rfl,Af.push hd hB (p:=(some w.heap.size,.slice (some ⟨w.heap.size,0,none⟩) b.length (grownCap w b.length 0 e))) (ao:=.row e 1 (b.map aE)) ⟨some ⟨w.heap.size,0,none⟩,grownCap w b.length 0 e,dA b,by rw[List.length_map],by rw[List.length_map];exact hw,rfl,Ft b,(by intro y hy;obtain⟨x,_,rfl⟩:=List.mem_map.1 hy;rfl),zq b⟩ (fun b' bQ=>by
       have:some w.heap.size=some b':=bQ
       injection this with this
       omega),?_,h⟩
      ·simp only[execOp,hv.kB,Sem.run_bind,iA]
       rfl
      ·exact Vr.newRow hd
   ·exact h.elim
  ·exact h.elim
 ·
  rename_i args ts
  split at h
  ·rename_i x y t t' rN IG
   have ha:args=#[x,y]:=Array.toList_inj.1 rN
   have ht:ts=#[t,t']:=Array.toList_inj.1 IG
   subst ha ht
   cases Bm:DC E.tb t t' with
   |false=>
    rw[Bm] at h
    simp only[cond_false] at h
    split at h
    ·rename_i sz ig z e Bw Bx z' o b hl By hx hy
     split at h
     ·rename_i wR wS z2 e' n' xs he hh
      cases fO:(Nat.beq e e'&&Nat.beq 1 n')&&Nat.beq wR 1 with
      |false=>rw[fO] at h;exact h.elim
      |true=>
      rw[fO] at h
      rw[Bool.and_eq_true,Bool.and_eq_true] at fO
      simp only[cond_true] at h
      cases Nat.eq_of_beq_eq_true fO.1.1
      cases Nat.eq_of_beq_eq_true fO.1.2
      have OT:=bM y;rw[hy] at OT
      obtain⟨⟨c1,c2⟩,h⟩:=h
      have hv:=bM x;rw[hx] at hv
      obtain⟨bo,ra,rl,rc,hg,ex⟩:=hv.sF
      have fR:=sR hh
      obtain⟨a',c',vs,hp,dm,nj,jd,hlen,h1⟩:=hd.obj o _ _ fR hg
      have rT:bo=(Value.slice ra rl rc).ownBlock:=nj
      have IM:=hd.drop o
      have wI:∀bb,(Value.slice ra rl rc).ownBlock=some bb->¬I bb/\¬cK g (s.h.set o .gone) bb:=by
       intro bb hb
       have ho:(AO.row e 1 xs).owns (bo,.slice ra rl rc) bb:=by show bo=some bb;rw[rT];exact hb
       refine⟨fun hI=>hd.own o _ _ bb fR hg ho hI,fun hO=>?_⟩
       obtain⟨o2,oh,p2,q1,q2,q3⟩:=hO
       rw[List.getElem?_set] at q1
       split at q1
       ·split at q1
        ·injection q1 with q1;subst q1;exact q3
        ·cases q1
       ·rename_i bS
        exact bS (hd.sep o o2 _ oh _ p2 bb fR q1 hg q2 ho q3)
      obtain⟨v',w',r1,r2,r3,⟨qa,ql,qc,r4⟩,r5⟩:=UM IM aM hl By he (Nat.eq_of_beq_eq_true fO.2) dm jd hlen h1 wI c1 c2 ty
      have rO:kQ (.call ⟨.builtin .append,#[x,y],#[t,t']⟩) s=[o]:=by simp[kQ,hx]
      have hE:Ext (fI [o] g s.h) w w':=(Ext.refl _ w).grown r2 (fun bb hb _=>⟨o,_,_,by simp,fR,hg,by show bo=some bb;rw[rT];exact hb⟩)
      refine .inl ⟨v',w',I,g++[(v'.ownBlock,v')],.row s.h.length,{s with h:=sh s.h o .gone++[.row e 1 (xs++b.map aE)]},.inl ?_,rfl,⟨by simp only[lI];exact r3,by simp only[rO];exact hE,fun _ h=>h,fun _ h=>.inl h,fun _ _ h=>o9 h,fun q hq hn=>?_,fun q bJ p' bb hq h1 h2 h3=>?_,fun q bJ p' bb hq h1 h2 h3=>?_⟩,?_,h⟩
      ·simp only[execOp,resolve,invoke,builtin,Sem.run_bind,Sem.run_pure,Result.andThen_ok,List.map_toArray,List.map_cons,List.map_nil,ex,OT.kB,r1]
      ·simp only[rO,List.mem_singleton] at hn
       show(sh s.h o .gone++_)[q]?=_
       rw[lI,List.getElem?_append_left (by simpa using hq),List.getElem?_set_ne (Ne.symm hn)]
      ·replace h1:(sh s.h o .gone++[AO.row e 1 (xs++b.map aE)])[q]?=some bJ:=h1
       rw[lI,List.getElem?_append_left (by simpa using hq),List.getElem?_set] at h1
       split at h1
       ·split at h1
        ·injection h1 with h1;subst h1;exact h3.elim
        ·cases h1
       ·exact⟨bJ,h1,h3⟩
      ·replace h1:(sh s.h o .gone++[AO.row e 1 (xs++b.map aE)])[q]?=some bJ:=h1
       rw[lI] at h1
       rcases jK h1 with⟨e1,_⟩|⟨e1,k1⟩
       ·simp at e1;omega
       ·rcases jK h2 with⟨e2,_⟩|⟨e2,k2⟩
        ·have:=hd.len;omega
        ·subst k1 k2
         have bQ:v'.ownBlock=some bb:=h3
         rcases r5 with e5|e5
         ·rw[e5] at bQ
          left
          simp only[rO]
          exact⟨o,_,_,by simp,fR,hg,by show bo=some bb;rw[rT];exact bQ⟩
         ·rw[e5] at bQ;injection bQ with bQ;right;omega
      ·rw[r4]
       exact .row _ (Value.slice qa ql qc).ownBlock _ _ _ (by rw[<-hd.len];exact zT _ _)
     ·exact h.elim
    ·exact h.elim
   |true=>
    rw[Bm] at h
    simp only[cond_true] at h
    split at h
    ·rename_i sz ig z e hl
     obtain⟨e2,fV⟩:=WA aM Bm hl
     split at h
     ·rename_i i hi
      cases hb:Nat.blt 0 i.size with
      |false=>rw[hb] at h;exact h.elim
      |true=>
       rw[hb] at h
       simp only[cond_true] at h
       have nU:0<i.size:=Nat.le_of_ble_eq_true hb
       split at h
       case h_2=>exact h.elim
       rename_i ys hy
       obtain⟨news,lg,g1,ze,u7⟩:=UK hd nU (bM y) hy
       split at h
       ·rename_i hx
        obtain⟨⟨c1,c2⟩,h⟩:=h
        have hv:=bM x;rw[hx] at hv
        have ex:=hv.rm
        obtain⟨v',w',r1,r2,r3,⟨qa,ql,qc,r4⟩,r5⟩:=ME hd aM hl hi (xs:=[]) (vs:=[]) nU lg g1 ze u7 (eT.nil w e i.size) .nil (by simp) (by simp) (fun b hb=>by simp[Value.ownBlock] at hb) (by simpa using c1) (by simpa using c2) ty
        replace r1:=(Jr (lq aM hl) fV ty _ _ _).trans r1
        have hB:B w w':=(Ext.refl (fun _=>False) w).grown r2 (fun g hg=>by simp[Value.ownBlock] at hg) |>.GN (fun _ _=>id)
        cases qd:(E.y9&&!Nat.beq t t') with
        |false=>
         rw[qd] at h
         simp only[cond_false] at h
         refine .inl ⟨v',w',I,g++[(v'.ownBlock,v')],.row s.h.length,{s with h:=s.h++[.row e i.size ys]},.inl ?_,rfl,⟨by simpa using r3,Ext.of_B hB,fun _ h=>h,fun _ h=>.inl h,fun _ _ h=>o9 h,fun q hq _=>List.getElem?_append_left hq,fun q bJ p' b hq h1 h2 h3=>⟨bJ,by rw[<-h1];exact(List.getElem?_append_left hq).symm,h3⟩,fun q bJ p' b hq h1 h2 h3=>?_⟩,?_,h⟩
         ·simp only[execOp,resolve,invoke,builtin,Sem.run_bind,Sem.run_pure,Result.andThen_ok,List.map_toArray,List.map_cons,List.map_nil,ex,r1]
         ·rcases jK h1 with⟨e1,_⟩|⟨e1,k1⟩
          ·omega
          ·rcases jK h2 with⟨e2,_⟩|⟨e2,k2⟩
           ·have:=hd.len;omega
           ·subst k1 k2
            right
            have bQ:v'.ownBlock=some b:=h3
            rcases r5 with e5|e5
            ·rw[e5] at bQ;simp[Value.ownBlock] at bQ
            ·rw[e5] at bQ;injection bQ with bQ;omega
         ·rw[r4]
          exact .row _ (Value.slice qa ql qc).ownBlock _ _ _ (by rw[<-hd.len];exact zT _ _)
        |true=>
         rw[qd] at h
         simp only[cond_true] at h
         have Bz:Den I (g++[(v'.ownBlock,v')]) w' (s.h++[.row e i.size ys]):=by simpa using r3
         have p9:(s.h++[AO.row e i.size ys])[s.h.length]?=some (.row e i.size ys):=by simp
         have IN:(g++[(v'.ownBlock,v')])[s.h.length]?=some (v'.ownBlock,v'):=by rw[<-hd.len];simp
         have Zv:(s.h++[AO.row e i.size ys]).set s.h.length .gone=s.h++[.gone]:=by simp
         obtain⟨a',c',rY,OU,GG,rT,Zw,GH,eD⟩:=Bz.obj _ _ _ p9 IN
         have cT:∀b,v'.ownBlock=some b->b=w.heap.size:=fun b hb=>by
          rcases r5 with e5|e5
          ·rw[e5] at hb;simp[Value.ownBlock] at hb
          ·rw[e5] at hb;injection hb with hb;exact hb.symm
         have hlt:∀b,v'.ownBlock=some b->b<w'.heap.size:=fun b hb=>Bz.lt ⟨_,_,_,p9,IN,hb⟩
         have mA:=Bz.drop s.h.length
         rw[Zv] at mA
         have fu:∀b,v'.ownBlock=some b->¬cK (g++[(v'.ownBlock,v')]) (s.h++[.gone]) b:=by
          rintro b hb ⟨o2,oh,p2,q1,q2,q3⟩
          rcases jK q1 with⟨e1,k1⟩|⟨e1,k1⟩
          ·have:=Bz.sep o2 s.h.length _ _ _ _ b (by rw[List.getElem?_append_left e1];exact k1) p9 q2 IN q3 hb
           omega
          ·subst k1;exact q3
         refine .inl ⟨v',w',fun b=>I b\/v'.ownBlock=some b,g++[(v'.ownBlock,v')],.list i.size ys,{s with h:=s.h++[.gone]},.inl ?_,rfl,⟨mA.wk (fun _ h=>.inl h) (fun x hx=>?_) (fun x hx=>?_),Ext.of_B hB,fun _ h=>.inl h,fun x hx=>?_,fun _ _ h=>o9 h,fun q hq _=>List.getElem?_append_left hq,fun q bJ p' b hq h1 h2 h3=>⟨bJ,by rw[<-h1];exact(List.getElem?_append_left hq).symm,h3⟩,fun q bJ p' b hq h1 h2 h3=>?_⟩,?_,h⟩
         ·simp only[execOp,resolve,invoke,builtin,Sem.run_bind,Sem.run_pure,Result.andThen_ok,List.map_toArray,List.map_cons,List.map_nil,ex,r1]
         ·exact hx.elim (Bz.ay x) (hlt x)
         ·rcases hx with hx|hx
          ·rintro⟨o2,oh,p2,q1,q2,q3⟩
           exact mA.own o2 oh p2 x q1 q2 q3 hx
          ·exact fu x hx
         ·rcases hx with hx|hx
          ·exact .inl hx
          ·right;right;rw[cT x hx];exact Nat.le_refl _
         ·rcases jK h1 with⟨e1,_⟩|⟨e1,k1⟩
          ·omega
          ·subst k1;exact h3.elim
         ·exact .rd (Dr.Gl GG (Zw.mono (fun _ h=>.inl h)) GH eD (fun b hb=>.inr hb))
       ·rename_i o hx
        split at h
        ·rename_i e' n' xs hh
         cases fO:Nat.beq e e'&&Nat.beq i.size n' with
         |false=>rw[fO] at h;exact h.elim
         |true=>
          rw[fO] at h
          rw[Bool.and_eq_true] at fO
          simp only[cond_true] at h
          cases Nat.eq_of_beq_eq_true fO.1
          cases Nat.eq_of_beq_eq_true fO.2
          obtain⟨⟨c1,c2⟩,h⟩:=h
          have hv:=bM x;rw[hx] at hv
          obtain⟨bo,ra,rl,rc,hg,ex⟩:=hv.sF
          have fR:=sR hh
          obtain⟨a',c',vs,hp,dm,nj,jd,hlen,h1⟩:=hd.obj o _ _ fR hg
          have rT:bo=(Value.slice ra rl rc).ownBlock:=nj
          have IM:=hd.drop o
          have wI:∀b,(Value.slice ra rl rc).ownBlock=some b->¬I b/\¬cK g (s.h.set o .gone) b:=by
           intro b hb
           have ho:(AO.row e i.size xs).owns (bo,.slice ra rl rc) b:=by show bo=some b;rw[rT];exact hb
           refine⟨fun hI=>hd.own o _ _ b fR hg ho hI,fun hO=>?_⟩
           obtain⟨o2,oh,p2,q1,q2,q3⟩:=hO
           rw[List.getElem?_set] at q1
           split at q1
           ·split at q1
            ·injection q1 with q1;subst q1;exact q3
            ·cases q1
           ·rename_i bS
            exact bS (hd.sep o o2 _ oh _ p2 b fR q1 hg q2 ho q3)
          obtain⟨v',w',r1,r2,r3,⟨qa,ql,qc,r4⟩,r5⟩:=ME IM aM hl hi nU lg g1 ze u7 dm jd hlen h1 wI c1 c2 ty
          replace r1:=(Jr (lq aM hl) fV ty _ _ _).trans r1
          have rO:kQ (.call ⟨.builtin .append,#[x,y],#[t,t']⟩) s=[o]:=by simp[kQ,hx]
          have hE:Ext (fI [o] g s.h) w w':=(Ext.refl _ w).grown r2 (fun b hb _=>⟨o,_,_,by simp,fR,hg,by show bo=some b;rw[rT];exact hb⟩)
          refine .inl ⟨v',w',I,g++[(v'.ownBlock,v')],.row s.h.length,{s with h:=sh s.h o .gone++[.row e i.size (xs++ys)]},.inl ?_,rfl,⟨by simp only[lI];exact r3,by simp only[rO];exact hE,fun _ h=>h,fun _ h=>.inl h,fun _ _ h=>o9 h,fun q hq hn=>?_,fun q bJ p' b hq h1 h2 h3=>?_,fun q bJ p' b hq h1 h2 h3=>?_⟩,?_,h⟩
          ·simp only[execOp,resolve,invoke,builtin,Sem.run_bind,Sem.run_pure,Result.andThen_ok,List.map_toArray,List.map_cons,List.map_nil,ex,r1]
          ·simp only[rO,List.mem_singleton] at hn
           show(sh s.h o .gone++_)[q]?=_
           rw[lI,List.getElem?_append_left (by simpa using hq),List.getElem?_set_ne (Ne.symm hn)]
          ·replace h1:(sh s.h o .gone++[AO.row e i.size (xs++ys)])[q]?=some bJ:=h1
           rw[lI,List.getElem?_append_left (by simpa using hq),List.getElem?_set] at h1
           split at h1
           ·split at h1
            ·injection h1 with h1;subst h1;exact h3.elim
            ·cases h1
           ·exact⟨bJ,h1,h3⟩
          ·replace h1:(sh s.h o .gone++[AO.row e i.size (xs++ys)])[q]?=some bJ:=h1
           rw[lI] at h1
           rcases jK h1 with⟨e1,_⟩|⟨e1,k1⟩
           ·simp at e1;omega
           ·rcases jK h2 with⟨e2,_⟩|⟨e2,k2⟩
            ·have:=hd.len;omega
            ·subst k1 k2
             have bQ:v'.ownBlock=some b:=h3
             rcases r5 with e5|e5
             ·rw[e5] at bQ
              left
              simp only[rO]
              exact⟨o,_,_,by simp,fR,hg,by show bo=some b;rw[rT];exact bQ⟩
             ·rw[e5] at bQ;injection bQ with bQ;right;omega
          ·rw[r4]
           exact .row _ (Value.slice qa ql qc).ownBlock _ _ _ (by rw[<-hd.len];exact zT _ _)
        ·exact h.elim
       ·exact h.elim
     ·exact h.elim
    ·exact h.elim
  ·exact h.elim
 ·
  rename_i f args ts
  split at h
  ·rename_i gf n eI hf
   obtain⟨cQ,hF,hk⟩:=h
   have hv:=bM f;rw[hf] at hv
   obtain⟨zf,ef,OV⟩:=hv.CW
   have rN:bR I g w (zf.take n++(args.toList.map a.eval++zf.drop n)) (sV n eI (args.toList.map (ev s))):=by
    rw[Lw]
    refine bR.append (OV.take n) (bR.append ⟨by simp,fun i v d h1 h2=>?_⟩ (OV.drop n))
    rw[List.getElem?_map] at h1 h2
    cases hq:args.toList[i]? with
    |none=>rw[hq] at h1;cases h1
    |some x=>
     rw[hq] at h1 h2
     injection h1 with h1;injection h2 with h2
     subst h1 h2
     exact bM x
   have hc:=hF.2 w I g _ hW hd rN
   have rO:kQ (.call ⟨.value f,args,ts⟩) s=kg s.h (sV n eI (args.toList.map (ev s))):=by simp[kQ,hf]
   refine .inr (.inl ⟨gf,_,?_,hc.mono (fun e w' hR=>?_)⟩)
   ·have Zx:((zf.take n).toArray++args.map a.eval)++(zf.drop n).toArray=(zf.take n++(args.toList.map a.eval++zf.drop n)).toArray:=by
     apply Array.toList_inj.1
     simp
    simp only[execOp,resolve,ef,Deferred.ofValue,Sem.run_bind,Sem.run_pure,Result.andThen_ok,invoke,Zx,Jk hF.1]
   ·rcases hR with⟨v,I',g',r,h',rfl,hp,q1,q2⟩|⟨ch,rfl,hp,q1⟩
    ·exact .inl ⟨v,I',g',r,h',rfl,by simp only[rO];exact q1,q2,hk r h' hp⟩
    ·exact .inr ⟨ch,rfl,hp,by simp only[rO];exact q1⟩
  ·exact h.elim
 ·
  rename_i x
  split at h
  ·rename_i t hx
   have hv:=bM x;rw[hx] at hv
   have e:=hv.Ws
   exact .inr (.inr ⟨_,by simp[execOp,Instr.panic,e,goPanic],h⟩)
  ·exact h.elim
 ·exact h.elim
end
end Go.Proofs.YtafomdobfmmleaaGreatDoor

/- Lemmas and contracts. -/
namespace Go.Proofs.YtafomdobfmmleaaGreatDoor
open Go.RowKit
set_option linter.unusedSectionVars false
variable [Wd]
set_option linter.unusedVariables false
structure Cx where
 w0:World
 I0:Nat->Prop
 g0:aX
 h0:List AO
 n:Nat
 lo:Nat
 t0:Array Value
structure Inv (C:Cx) (I:Nat->Prop) (g:aX) (s:S) (a:Act) (w:World):Prop where
 den:Den I g w s.h
 wd:Wd.W I w
 tmp:∀j,Vr I g w (a.tmps.getD j undef) (lk s.t j)
 sz:a.tmps.size=C.n
 qV:a.defers=[]
 kp:∀j,j<C.lo->a.tmps.getD j undef=C.t0.getD j undef
 ext:Ext (cK C.g0 C.h0) C.w0 w
 i1:∀b,C.I0 b->I b
 i2:∀b,I b->C.I0 b\/cK C.g0 C.h0 b\/C.w0.heap.size<=b
 ow:∀b,cK g s.h b->cK C.g0 C.h0 b\/C.w0.heap.size<=b
 gk:∀(o:Nat) p t cs,C.g0[o]?=some p->C.h0[o]?=some (.cells t cs)->g[o]?=some p
def yQ (C:Cx) (Qc:Exit->Act->World->Prop):Prop:=∀a w ch,Wd.jq ch->a.defers=[]->Ext (cK C.g0 C.h0) C.w0 w->Qc (.panic ch) a w
theorem Inv.N8 {C:Cx} {I:Nat->Prop} {g:aX} {s:S} {a:Act} {w w':World} {M:List Nat} (h:Inv C I g s a w) (hx:Ext (fI M g s.h) w w'):Ext (cK C.g0 C.h0) C.w0 w':=
 h.ext.trans hx (fun x hx ho=>by
   rcases h.ow x ho.owned with e|e
   ·exact e
   ·omega)
def jP (C:Cx) (s:S) (a:Act) (w:World):Prop:=∃I g,Inv C I g s a w
section
variable {P:Program} {Q:Exit->S->Prop} {C:Cx} {I I':Nat->Prop} {g g':aX} {s s':S} {a:Act} {w w':World}
theorem Inv.ev (h:Inv C I g s a w) (x:Operand):Vr I g w (a.eval x) (ev s x):=Yk h.tmp x
theorem Inv.step {M:List Nat} (h:Inv C I g s a w) (ht:s'.t=s.t) (k:Af I g w s.h M I' g' w' s'.h):Inv C I' g' s' a w' where
 den:=k.den
 wd:=Wd.cl h.wd (fun b hb=>k.ext.block b (h.den.ay b hb) (fun ho=>by
  obtain⟨o,ao,p,_,h1,h2,h3⟩:=ho
  exact h.den.own o ao p b h1 h2 h3 hb)) k.i1
 tmp j:=by
  rw[ht]
  exact((h.tmp j).ext k.ext (fun b hb ho=>by
   obtain⟨o,ao,p,_,h1,h2,h3⟩:=ho
   exact h.den.own o ao p b h1 h2 h3 hb)).mono k.i1 k.gx
 sz:=h.sz
 qV:=h.qV
 kp:=h.kp
 ext:=h.ext.trans k.ext (fun x hx ho=>by
  rcases h.ow x ho.owned with e|e
  ·exact e
  ·omega)
 i1 b hb:=k.i1 b (h.i1 b hb)
 i2 b hb:=by
  have cT:=h.ext.size
  rcases k.i2 b hb with e|e|e
  ·exact h.i2 b e
  ·right;exact h.ow b e.owned
  ·right;right;omega
 ow b hb:=by
  have cT:=h.ext.size
  rcases k.ow h.den.len b hb with e|e
  ·exact h.ow b e
  ·right;omega
 gk o p t cs h1 h2:=k.gx o p (h.gk o p t cs h1 h2)
theorem UO (a:Act) (d:Option Tmp) (v:Value):(a.put d v).tmps.size=a.tmps.size:=by
 cases d<;>simp[Act.put]
theorem put_defers (a:Act) (d:Option Tmp) (v:Value):(a.put d v).defers=a.defers:=by
 cases d<;>rfl
theorem Inv.put {E:En} (hE:E.n=C.n/\E.lo=C.lo) (h:Inv C I g s a w) {v:Value} {d:D} (hv:Vr I g w v d) {dst:Option Tmp} {k:S->T} (hk:(put E dst d s k).ok P Q):∃s',s'.h=s.h/\Inv C I g s' (a.put dst v) w/\(k s').ok P Q:=by
 cases dst with
 |none=>exact⟨s,rfl,h,hk⟩
 |some j=>
  simp only[Go.Proofs.YtafomdobfmmleaaGreatDoor.put] at hk
  cases qW:Nat.blt j E.n&&Nat.ble E.lo j with
  |false=>rw[qW] at hk;exact hk.elim
  |true=>
   rw[qW] at hk
   rw[Bool.and_eq_true] at qW
   obtain⟨hj,nh⟩:=qW
   simp only[cond_true,force_eq] at hk
   replace hk:(k {s with t:=(j,d)::s.t}).ok P Q:=by cases s;exact hk
   have hlt:j<a.tmps.size:=by rw[h.sz,<-hE.1];exact Nat.le_of_ble_eq_true hj
   refine⟨{s with t:=(j,d)::s.t},rfl,⟨h.den,h.wd,fun i=>?_,by rw[UO];exact h.sz,by rw[put_defers];exact h.qV,(fun i hi=>by
    rw[<-h.kp i hi]
    have bS:j≠i:=by
     have:=Nat.le_of_ble_eq_true nh
     rw[hE.2] at this
     intro e
     subst e
     exact absurd hi (Nat.not_lt.2 this)
    simp only[Act.put]
    rw[Array.getD_eq_getD_getElem?,Array.getD_eq_getD_getElem?,Array.getElem?_setIfInBounds_ne bS]),h.ext,h.i1,h.i2,h.ow,h.gk⟩,hk⟩
   simp only[lk,Act.put]
   by_cases qU:i=j
   ·subst qU
    have:Nat.beq i i=true:=Nat.beq_refl i
    rw[this]
    simp[hlt]
    exact hv
   ·have:Nat.beq i j=false:=by
     cases hb:Nat.beq i j with
     |false=>rfl
     |true=>exact absurd (Nat.eq_of_beq_eq_true hb) qU
    rw[this]
    have e:(a.tmps.setIfInBounds j v).getD i undef=a.tmps.getD i undef:=by
     simp only[Array.getD_eq_getD_getElem?]
     rw[Array.getElem?_setIfInBounds_ne (Ne.symm qU)]
    rw[e]
    exact h.tmp i
theorem LG {E:En} (aM:E.tb.ok P) (hE:E.n=C.n/\E.lo=C.lo) (h:Inv C I g s a w) {o:Oper} {k:S->T} (hk:(uS E o.op o.type s (fun d s'=>put E o.dst d s' k)).ok P Q) {K:Act->World->Prop} {Qc:Exit->Act->World->Prop} (hX:yQ C Qc) (hK:∀s' a' w',jP C s' a' w'->(k s').ok P Q->K a' w'):o.wp P a w K Qc:=by
 unfold uS at hk
 cases hw:wP E o.op s with
 |true=>
  rw[hw] at hk
  simp only[cond_true] at hk
  rcases LF aM h.wd h.ev h.den (o:=o) hk with⟨v,w',I',g',d,s',hr,ht,ha,hv,cB⟩|⟨f,vs,hr,hc⟩|⟨v,hr,hp⟩
  ·have hi:=h.step ht ha
   obtain⟨s2,_,h2,fV⟩:=hi.put hE hv cB
   unfold Oper.wp
   rcases hr with hr|⟨hr,rfl⟩
   ·rw[hr];exact hK _ _ _ ⟨_,_,h2⟩ fV
   ·rw[hr];exact hK _ _ _ ⟨_,_,h2⟩ fV
  ·unfold Oper.wp
   rw[hr]
   refine hc.mono (fun e w' hR=>?_)
   rcases hR with⟨v,I',g',d,h',rfl,ha,hv,cB⟩|⟨ch,rfl,hp,hx⟩
   ·have hi:=h.step (s':={s with h:=h'}) rfl ha
    obtain⟨s2,_,h2,fV⟩:=hi.put hE hv cB
    exact hK _ _ _ ⟨_,_,h2⟩ fV
   ·exact hX a w' ch hp h.qV (h.N8 hx)
  ·unfold Oper.wp
   rw[hr]
   exact hX a w _ hp h.qV h.ext
 |false=>
  rw[hw] at hk
  simp only[cond_false] at hk
  cases hl:wO E o.op s with
  |true=>
   rw[hl] at hk
   simp only[cond_true] at hk
   obtain⟨v,d,hr,hv,cB⟩:=zX aM h.ev h.den (o:=o) hk
   obtain⟨s2,_,h2,fV⟩:=h.put hE hv cB
   unfold Oper.wp
   rw[hr w (fun _ _ _=>rfl) (fun _ _ _ _ _ _ _ _=>rfl)]
   exact hK _ _ _ ⟨_,_,h2⟩ fV
  |false=>
   rw[hl] at hk
   simp only[cond_false] at hk
   obtain⟨v,d,hr,hv,cB⟩:=Fq aM h.ev h.den (o:=o) hk
   obtain⟨s2,_,h2,fV⟩:=h.put hE hv cB
   unfold Oper.wp
   rw[hr w]
   exact hK _ _ _ ⟨_,_,h2⟩ fV
def tG:List Oper->Nat->Option Oper
 |[],_=>none
 |o::_,0=>some o
 |_::l,n+1=>tG l n
theorem Ag:∀(l:List Oper) (n:Nat),tG l n=l[n]?
 |[],_=>by simp[tG]
 |d::_,0=>by simp[tG]
 |_::l,n+1=>by simp[tG,Ag l n]
def pL (ops:List Oper) (o:Oper) (s:S):Option Bool:=
 match o.guard with
 |none=>some true
 |some (j,want)=>match tG ops j with
  |some ⟨some t,_,_,_,_,_⟩=>match lk s.t t with
   |.bool b=>some (b==want)
   |.aD _=>some false
   |_=>none
  |_=>none
theorem E6 (h:Inv C I g s a w) {ops:Array Oper} {o:Oper} {b:Bool} (hg:pL ops.toList o s=some b):Region.wanted o (yielded ops a.tmps)=b:=by
 unfold pL at hg
 unfold Region.wanted
 split at hg
 ·rename_i e
  injection hg with hg
  subst hg
  rw[e]
 ·rename_i j want e
  rw[e]
  simp only
  split at hg
  ·rename_i t _ _ _ _ _ hl
   rw[Ag,Array.getElem?_toList] at hl
   have hv:=h.tmp t
   split at hg
   ·rename_i b' hb
    injection hg with hg
    subst hg
    rw[hb] at hv
    have e2:=hv.oq
    have e3:a.tmps[t]?=some (.bool b'):=by
     cases hq:a.tmps[t]? with
     |none=>rw[Array.getD_eq_getD_getElem?,hq] at e2;cases e2
     |some u=>rw[Array.getD_eq_getD_getElem?,hq] at e2;simp at e2;rw[e2]
    simp[yielded,hl,e3]
   ·rename_i ds hb
    injection hg with hg
    subst hg
    rw[hb] at hv
    obtain⟨vs,e2,_⟩:=hv.CH
    cases hq:a.tmps[t]? with
    |none=>simp[yielded,hl,hq]
    |some u=>
     rw[Array.getD_eq_getD_getElem?,hq] at e2
     simp at e2
     subst e2
     simp[yielded,hl,hq]
   ·cases hg
  ·cases hg
def lit (ops:List Oper) (s:S) (j:Nat) (v:Bool):S:=
 match tG ops j with
 |some ⟨some t,_,_,_,_,_⟩=>match lk s.t t with
  |.bool _=>(match s with|⟨l,h⟩=>⟨(t,.bool v)::l,h⟩)
  |_=>s
 |_=>s
theorem Gm (h:Inv C I g s a w) {ops:Array Oper} {o:Oper} {j:Nat} {want b:Bool} (hg:o.guard=some (j,want)) (hb:pL ops.toList o s=some b):Inv C I g (lit ops.toList s j (if b then want else !want)) a w/\(lit ops.toList s j (if b then want else !want)).h=s.h:=by
 unfold pL at hb
 rw[hg] at hb
 simp only at hb
 unfold lit
 split at hb
 ·rename_i t _ _ _ _ _ hl
  simp only[]
  cases hq:lk s.t t with
  |bool b'=>
   rw[hq] at hb
   simp only at hb
   injection hb with hb
   have hv:b'=(if b then want else !want):=by
    subst hb
    cases b'<;>cases want<;>rfl
   have key:∀i,Vr I g w (a.tmps.getD i undef) (lk ((t,.bool (if b then want else !want))::s.t) i):=by
    intro i
    simp only[lk]
    cases hbi:Nat.beq i t with
    |true=>
     have e:=Nat.eq_of_beq_eq_true hbi
     have:=h.tmp t
     rw[hq,hv] at this
     rw[e]
     exact this
    |false=>exact h.tmp i
   cases s with
   |mk l hh=>exact⟨⟨h.den,h.wd,key,h.sz,h.qV,h.kp,h.ext,h.i1,h.i2,h.ow,h.gk⟩,rfl⟩
  |_=>exact⟨h,rfl⟩
 ·cases hb
def AI (E:En) (ops:List Oper) (o:Oper) (s:S) (k:S->T):T:=
 match o.guard with
 |none=>uS E o.op o.type s (fun d s'=>put E o.dst d s' k)
 |some (j,want)=>match pL ops o s with
  |some b=>.br b (uS E o.op o.type (lit ops s j want) (fun d s'=>put E o.dst d s' k)) (put E o.dst (.aD []) (lit ops s j (!want)) k)
  |none=>.fail 50
def wg (E:En) (ops:List Oper):List Oper->S->(S->T)->T
 |[],s,k=>k s
 |o::r,s,k=>AI E ops o s (fun s'=>wg E ops r s' k)
theorem Cu {E:En} (aM:E.tb.ok P) (hE:E.n=C.n/\E.lo=C.lo) {ops:Array Oper} {Qc:Exit->Act->World->Prop} {k:S->T} (hX:yQ C Qc) (hK:∀s' a' w',jP C s' a' w'->(k s').ok P Q->Qc .normal a' w'):
 ∀(l:List Oper) (s:S) (a:Act) (w:World),jP C s a w->(wg E ops.toList l s k).ok P Q->wpList P ops Qc l a w
 |[],s,a,w,h,hk=>hK _ _ _ h hk
 |o::r,s,a,w,⟨I,g,h⟩,hk=>by
  simp only[wg,AI] at hk
  unfold wpList
  split at hk
  ·rename_i e
   have hw:Region.wanted o (yielded ops a.tmps)=true:=by unfold Region.wanted;rw[e]
   rw[if_pos hw]
   exact .inl (LG aM hE h hk hX (fun s' a' w' h' cB=>Cu aM hE hX hK r s' a' w' h' cB))
  ·rename_i j want e
   split at hk
   ·rename_i b hb
    have hw:=E6 h hb
    rw[hw]
    have hlt:=(Gm h e hb).1
    cases b with
    |true=>
     rw[if_pos rfl]
     exact .inl (LG aM hE hlt (hk.1 rfl) hX (fun s' a' w' h' cB=>Cu aM hE hX hK r s' a' w' h' cB))
    |false=>
     rw[if_neg (by simp)]
     obtain⟨s2,_,h2,fV⟩:=hlt.put hE .undef (hk.2 rfl)
     exact Cu aM hE hX hK r _ _ _ ⟨_,_,h2⟩ fV
   ·exact hk.elim
end
end Go.Proofs.YtafomdobfmmleaaGreatDoor

/- Lemmas and contracts. -/
namespace Go.Proofs.YtafomdobfmmleaaGreatDoor
open Go.RowKit
set_option linter.unusedSectionVars false
variable [Wd]
set_option linter.unusedVariables false
section
variable {P:Program} {ops:Array Oper} {Q:Exit->Act->World->Prop} {S:Array Bool->World->Prop}
def jA (P:Program) (ops:Array Oper) (Q:Exit->Act->World->Prop) (S:Array Bool->World->Prop):Nat->Array Bool->Act->World->Prop
 |0,L,a,w=>Region.ready .any ops L=[]/\Q .normal a w
 |fuel+1,L,a,w=>(Region.ready .any ops L=[]->Q .normal a w)/\
  ∀i∈Region.ready .any ops L,Go.wpOp P ops Q i (fun a' w'=>S (L.setIfInBounds i true) w'/\jA P ops Q S fuel (L.setIfInBounds i true) a' w') a w
theorem J4:∀(fuel:Nat) (L:Array Bool) (a:Act) (w:World),jA P ops Q S fuel L a w->wpAny P .any ops Q fuel L a w
 |0,_,_,_,h=>h
 |fuel+1,_,_,_,h=>⟨h.1,fun i hi=>wpOp_mono (fun a' w' h'=>J4 fuel _ a' w' h'.2) (h.2 i hi)⟩
def nH (ops:Array Oper) (L:Array Bool):Prop:=∀(j:Nat) (oj:Oper),ops[j]?=some oj->L.getD j true=true->∀e∈oj.after,Region.binds .any e=true->L.getD e.on false=true
theorem nH.start (ops:Array Oper):nH ops (Array.replicate ops.size false):=by
 intro j oj hj h
 have:=(Array.getElem?_eq_some_iff.1 hj).1
 simp[Array.getD,this] at h
theorem FV {L:Array Bool} {i:Nat} (h:L.getD i false=true):L.getD i true=true:=by
 unfold Array.getD at*
 split at h
 ·rename_i hl;rw[dif_pos hl];exact h
 ·cases h
theorem nH.step {L:Array Bool} (h:nH ops L) {i:Nat} (hi:i∈Region.ready .any ops L):nH ops (L.setIfInBounds i true):=by
 intro j oj hj hd e he hb
 obtain⟨_,oi,D3,kH⟩:=mem_ready.1 hi
 by_cases qX:i=j
 ·subst qX
  rw[hj] at D3
  injection D3 with D3
  subst D3
  exact getD_set_true (kH e he hb)
 ·rw[getD_set_ne true qX] at hd
  exact getD_set_true (h j oj hj hd e he hb)
def Ar (ops:List Oper):Nat->Nat->Nat->Bool
 |0,_,_=>false
 |n+1,j,i=>match tG ops j with
  |none=>false
  |some o=>o.after.toList.any fun e=>Region.binds .any e&&(Nat.beq e.on i||Ar ops n e.on i)
theorem E7 {L:Array Bool} (h:nH ops L):∀(n j i:Nat),Ar ops.toList n j i=true->(∀o,ops[j]?=some o->∀e∈o.after,Region.binds .any e=true->L.getD e.on false=true)->L.getD i true=true
 |0,j,i,hw,_=>by simp[Ar] at hw
 |n+1,j,i,hw,hj=>by
  simp only[Ar] at hw
  split at hw
  ·cases hw
  ·rename_i o ho
   rw[Ag,Array.getElem?_toList] at ho
   obtain⟨e,he,hb⟩:=List.any_eq_true.1 hw
   rw[Bool.and_eq_true,Bool.or_eq_true] at hb
   have he':e∈o.after:=Array.mem_toList_iff.1 he
   have hd:=hj o ho e he' hb.1
   rcases hb.2 with q|q
   ·rw[<-Nat.eq_of_beq_eq_true q];exact FV hd
   ·exact E7 h n e.on i q (fun o2 h2 e2 qL fO=>h e.on o2 h2 (FV hd) e2 qL fO)
def Gn (ops:List Oper) (mo:List Nat) (i:Nat):Bool:=mo.all fun j=>Ar ops ops.length j i&&!(Nat.beq j i)
theorem Js {i:Nat} {oi:Oper} {v:Value} {mo:List Nat} {Y:World->Prop} (hi:ops[i]?=some oi) (qK:∀(j:Nat) (o:Oper) cs b,ops[j]?=some o->o.op≠.select cs b)
 (hQ:∀c a w,Q (.panic c) (a.put oi.dst v) w->Q (.panic c) a w) (IP:∀L w,(∀j∈mo,L.getD j true=false)->S L w->Y w) (zg:Gn ops.toList mo i=true) (D4:∀L w,S (L.setIfInBounds i true) w->S L w):
 ∀(fuel:Nat) (L:Array Bool) (a:Act) (w:World),nH ops L->(∀j∈mo,L.getD j true=false)->
  (∀j oj,ops[j]?=some oj->j≠i->L.getD j true=false->(∀e∈oj.after,Region.binds .any e=true->e.on≠i)->oi.apart ops oj=true)->
  i∈Region.ready .any ops L->YieldsIf P ops Y oi v a->Y w->S (L.setIfInBounds i true) w->
  jA P ops Q S fuel (L.setIfInBounds i true) (a.put oi.dst v) w->jA P ops Q S (fuel+1) L a w:=by
 have hmi:∀j∈mo,j≠i:=fun j hj e=>by
  have:=List.all_eq_true.1 zg j hj
  rw[e,Nat.beq_refl] at this
  simp at this
 have UP:∀(L:Array Bool),nH ops L->i∈Region.ready .any ops L->∀j∈mo,j∉Region.ready .any ops L:=by
  intro L hc hr j hj hrj
  obtain⟨_,oj,BA,kH⟩:=mem_ready.1 hrj
  have hw:=List.all_eq_true.1 zg j hj
  rw[Bool.and_eq_true] at hw
  have:=E7 hc _ j i hw.1 (fun o ho e he hb=>by rw[BA] at ho;injection ho with ho;subst ho;exact kH e he hb)
  rw[(mem_ready.1 hr).1] at this
  cases this
 intro fuel
 induction fuel with
 |zero=>
  intro L a w fy wv GI hr hy hS IQ H
  refine⟨fun h=>(by rw[h] at hr;cases hr),fun j hj=>?_⟩
  by_cases qX:j=i
  ·subst qX;exact hy.wpOp hi hS ⟨IQ,H⟩
  ·have:=ready_mono hj qX
   rw[H.1] at this
   cases this
 |succ fuel ih=>
  intro L a w fy wv GI hr hy hS IQ H
  refine⟨fun h=>(by rw[h] at hr;cases hr),fun j hj=>?_⟩
  by_cases qX:j=i
  ·subst qX;exact hy.wpOp hi hS ⟨IQ,H⟩
  ·have h1:=H.2 j (ready_mono hj qX)
   obtain⟨N9,oj,BA,kH⟩:=mem_ready.1 hj
   have A4:∀e∈oj.after,Region.binds .any e=true->e.on≠i:=fun e he hb heq=>by
    have h1:=FV (kH e he hb)
    rw[heq,(mem_ready.1 hr).1] at h1
    cases h1
   have OW:j∉mo:=fun hm=>UP L fy hr j hm hj
   have Yq:∀m∈mo,(L.setIfInBounds j true).getD m true=false:=fun m hm=>by
    rw[getD_set_ne true (show j≠m from fun e=>OW (by rw[e];exact hm))];exact wv m hm
   have Yr:∀m∈mo,((L.setIfInBounds i true).setIfInBounds j true).getD m true=false:=fun m hm=>by
    rw[getD_set_ne true (show j≠m from fun e=>OW (by rw[e];exact hm)),getD_set_ne true (show i≠m from fun e=>hmi m hm e.symm)];exact wv m hm
   have h2:=wpOp_putIf BA (GI j oj BA qX N9 A4) (fun cs b=>qK i oi cs b hi) (fun cs b=>qK j oj cs b BA) hQ hy h1
   have Xw:∀k ok,ops[k]?=some ok->k≠i->(L.setIfInBounds j true).getD k true=false->
    (∀e∈ok.after,Region.binds .any e=true->e.on≠i)->oi.apart ops ok=true:=fun k ok hk hki OX fu=>by
    refine GI k ok hk hki ?_ fu
    by_cases OY:j=k
    ·subst OY;exact N9
    ·rw[getD_set_ne true OY] at OX;exact OX
   refine wpOp_mono (fun a' w' h3=>?_) h2
   obtain⟨h3y,D5,OZ⟩:=h3
   have e0:(L.setIfInBounds i true).setIfInBounds j true=(L.setIfInBounds j true).setIfInBounds i true:=Array.setIfInBounds_comm _ _ (Ne.symm qX)
   have hYw:=IP _ _ Yr D5
   rw[e0] at D5 OZ
   exact⟨D4 _ _ D5,ih (L.setIfInBounds j true) a' w' (fy.step hj) Yq Xw (ready_mono hr (Ne.symm qX)) h3y hYw D5 OZ⟩
end
def alone (op:Op):Bool:=
 match op with
 |.alloc _|.box _ _|.buildSlice _ _ _|.store _ _ _|.makeSlice _ _ _=>true
 |.call ⟨.builtin .append,_,_⟩=>true
 |.call ⟨.value _,_,_⟩=>true
 |_=>false
def As (hr:List AO) (md:List Nat) (ms:List Nat):Bool:=ms.all fun m=>md.elem m||Nat.ble hr.length m
def FW:List Oper->Nat->List Nat
 |[],_=>[]
 |o::l,i=>bif alone o.op then i::FW l (i+1) else FW l (i+1)
def eC (ops:List Oper) (md:List Nat):List Nat:=
 match md.filter (Nat.ble 1000) with
 |[]=>FW ops 0
 |l=>l.map (·-1000)
def lP (mo md:List Nat) (L0 L:Array Bool):List Nat:=bif mo.all (fun j=>L0.getD j true||!L.getD j true) then[] else md
def loadT (ops:List Oper) (hr:List AO) (md:List Nat) (gr:Bool) (i:Nat) (op:Op) (s:S) (t:T):T:=
 match sJ op s with
 |some o=>bif Nat.blt o hr.length then(bif md.elem o then .ask (Gn ops (eC ops md) i=true) t else t) else .fail 64
 |none=>t
inductive PT where
 |done
 |one (i:Nat) (al:Bool) (r:PT)
 |alt (i:Nat) (a r:PT)
def PT.oJ:PT->List Nat
 |.one i true _=>[i]
 |.alt i _ r=>i::r.oJ
 |_=>[]
def PT.depth:PT->Nat
 |.done=>0
 |.one _ _ r=>r.depth+1
 |.alt _ a r=>max (a.depth+1) r.depth
def PT.of:List (Nat×Bool)->PT
 |[]=>.done
 |(i,al)::r=>.one i al (PT.of r)
def lD (ops:Array Oper):PT->Array Bool->Bool->Bool
 |.done,L,ch=>!ch&&(Region.ready .any ops L).isEmpty
 |.one i false r,L,ch=>!ch&&((ops[i]?).isSome&&(Region.free .any ops L i&&(Region.ready .any ops L).contains i))&&lD ops r (L.setIfInBounds i true) false
 |.one i true r,L,ch=>(ops[i]?).isSome&&(ch||Region.ready .any ops L==[i])&&lD ops r (L.setIfInBounds i true) false
 |.alt i a r,L,ch=>(ops[i]?).isSome&&(ch||Region.ready .any ops L==i::r.oJ)&&(lD ops a (L.setIfInBounds i true) false&&lD ops r L true)
def pX (E:En) (ops:List Oper) (hr:List AO) (md:List Nat) (i:Nat) (al gr:Bool) (k:Bool->S->T) (s:S):T:=
 match tG ops i with
 |none=>.fail 60
 |some o=>match pL ops o s with
  |none=>.fail 61
  |some b=>
   let body:=fun s:S=>bif al then(bif As hr (bif (eC ops md).elem i then md else[]) (kQ o.op s) then uS E o.op o.type s (fun d s'=>put E o.dst d s' (k true)) else .fail 62)
    else bif wP E o.op s then .fail 63
    else bif wO E o.op s then loadT ops hr md gr i o.op s (yB E o.op s (fun d=>put E o.dst d s (k gr)))
    else yA E o.op s (fun d=>put E o.dst d s (k gr))
   bif !al&&(eC ops md).elem i then .fail 63 else
   match o.guard with
   |none=>body s
   |some (j,want)=>.br b (body (lit ops s j want)) (put E o.dst (.aD []) (lit ops s j (!want)) (k gr))
def mS (E:En) (ops:List Oper) (hr:List AO) (md:List Nat):PT->Bool->S->(S->T)->T
 |.done,_,s,k=>k s
 |.one i al r,gr,s,k=>pX E ops hr md i al gr (fun g s'=>mS E ops hr md r g s' k) s
 |.alt i a r,gr,s,k=>.both (pX E ops hr md i true gr (fun g s'=>mS E ops hr md a g s' k) s) (mS E ops hr md r gr s k)
section
variable {P:Program} {Q:Exit->S->Prop} {C:Cx}
def wA (md:List Nat) (n:Nat) (g:aX) (h:List AO) (b:Nat):Prop:=∃(o:Nat) (ao:AO) (p:Option Nat×Value),(o∈md\/n<=o)/\h[o]?=some ao/\g[o]?=some p/\ao.owns p b
def SB (mo md:List Nat) (n:Nat) (L0:Array Bool) (g:aX) (h:List AO) (w:World):Array Bool->World->Prop:=fun L w'=>Ext (wA (lP mo md L0 L) n g h) w w'
theorem S8 {hr:List AO} {md ms:List Nat} (h:As hr md ms=true):∀m∈ms,m∈md\/hr.length<=m:=by
 intro m hm
 have:=List.all_eq_true.1 h m hm
 rw[Bool.or_eq_true] at this
 rcases this with e|e
 ·left;simpa using e
 ·right;exact Nat.le_of_ble_eq_true e
def nk (L1 L2:Array Bool):Prop:=∀j,L1.getD j true=true->L2.getD j true=true
theorem nk.refl (L:Array Bool):nk L L:=fun _ h=>h
theorem nk.set {L1 L2:Array Bool} (h:nk L1 L2) (i:Nat):nk L1 (L2.setIfInBounds i true):=fun j hj=>by
 by_cases e:i=j
 ·subst e
  unfold Array.getD
  split
  ·simp
  ·rfl
 ·rw[getD_set_ne true e];exact h j hj
theorem Qo (L:Array Bool) (i:Nat):(L.setIfInBounds i true).getD i true=true:=by
 unfold Array.getD
 split
 ·simp
 ·rfl
theorem Ep {ops:Array Oper} {Qc:Exit->Act->World->Prop} {S S':Array Bool->World->Prop} {L1:Array Bool} (hS:∀L w,nk L1 L->S L w->S' L w):∀(fuel:Nat) (L:Array Bool) (a:Act) (w:World),nk L1 L->jA P ops Qc S fuel L a w->jA P ops Qc S' fuel L a w
 |0,_,_,_,_,h=>h
 |fuel+1,L,_,_,hl,h=>⟨h.1,fun i hi=>wpOp_mono (fun a' w' h'=>⟨hS _ _ (hl.set i) h'.1,Ep hS fuel _ a' w' (hl.set i) h'.2⟩) (h.2 i hi)⟩
theorem UQ {mo md:List Nat} {L0 L:Array Bool} (h:∀j∈mo,L.getD j true=false):lP mo md L0 L=[]:=by
 unfold lP
 have:mo.all (fun j=>L0.getD j true||!L.getD j true)=true:=List.all_eq_true.2 fun j hj=>by rw[h j hj];simp
 rw[this];rfl
theorem WB {mo md:List Nat} {L0 L:Array Bool} {i:Nat} (hi:i∉mo):lP mo md L0 (L.setIfInBounds i true)=lP mo md L0 L:=by
 unfold lP
 congr 1
 have:∀j∈mo,(L0.getD j true||!(L.setIfInBounds i true).getD j true)=(L0.getD j true||!L.getD j true):=fun j hj=>by
  rw[getD_set_ne true (show i≠j from fun e=>hi (by rw[e];exact hj))]
 induction mo with
 |nil=>rfl
 |cons m mo ih=>
  rw[List.all_cons,List.all_cons,this m (by simp),ih (fun h=>hi (by simp[h])) (fun j hj=>this j (by simp[hj]))]
theorem UR {mo md:List Nat} {L0 L:Array Bool} {i:Nat} (hi:i∉mo):lP mo md (L0.setIfInBounds i true) L=lP mo md L0 L:=by
 unfold lP
 congr 1
 have:∀j∈mo,((L0.setIfInBounds i true).getD j true||!L.getD j true)=(L0.getD j true||!L.getD j true):=fun j hj=>by
  rw[getD_set_ne true (show i≠j from fun e=>hi (by rw[e];exact hj))]
 induction mo with
 |nil=>rfl
 |cons m mo ih=>
  rw[List.all_cons,List.all_cons,this m (by simp),ih (fun h=>hi (by simp[h])) (fun j hj=>this j (by simp[hj]))]
theorem Gp (mo md:List Nat) (L0 L:Array Bool):lP mo md L0 L=[]\/(lP mo md L0 L=md/\∃j∈mo,L0.getD j true=false/\L.getD j true=true):=by
 unfold lP
 cases h:mo.all (fun j=>L0.getD j true||!L.getD j true) with
 |true=>exact .inl rfl
 |false=>
  obtain⟨j,hj,hq⟩:=List.all_eq_false.1 h
  simp only[Bool.or_eq_true,Bool.not_eq_true',not_or,Bool.not_eq_true,Bool.not_eq_false] at hq
  exact .inr ⟨rfl,j,hj,hq⟩
theorem Gq {mo md:List Nat} {L0 L:Array Bool} {j:Nat} (hj:j∈mo) (h0:L0.getD j true=false) (h1:L.getD j true=true):lP mo md L0 L=md:=by
 unfold lP
 have:mo.all (fun j=>L0.getD j true||!L.getD j true)=false:=List.all_eq_false.2 ⟨j,hj,by rw[h0,h1];simp⟩
 rw[this];rfl
theorem WC {mo md:List Nat} {L0 L:Array Bool} {o:Nat} (h:o∈lP mo md L0 L):o∈md:=by
 rcases Gp mo md L0 L with e|⟨e,_⟩
 ·rw[e] at h;simp at h
 ·rw[e] at h;exact h
theorem SB.back {mo md:List Nat} {n i:Nat} {L L2:Array Bool} {I I':Nat->Prop} {g g':aX} {h h':List AO} {w w' w2:World} {M:List Nat} (hd:Den I g w h) (hM:∀m∈M,(i∈mo/\m∈md)\/n<=m) (hi:L.getD i true=false) (k:Af I g w h M I' g' w' h') (hl:nk (L.setIfInBounds i true) L2) (hS:SB mo md n (L.setIfInBounds i true) g' h' w' L2 w2):SB mo md n L g h w L2 w2:=by
 have hi2:L2.getD i true=true:=hl i (Qo L i)
 have O0:∀b,fI M g h b->wA (lP mo md L L2) n g h b:=by
  rintro b ⟨o,ao,p,hm,h1,h2,h3⟩
  refine⟨o,ao,p,?_,h1,h2,h3⟩
  rcases hM o hm with⟨e1,e2⟩|e
  ·rw[Gq e1 hi hi2];exact .inl e2
  ·exact .inr e
 refine(k.ext.mono (fun b _ hb=>O0 b hb)).trans hS (fun x hx ho=>?_)
 obtain⟨o,bJ,p,hm,h1,h2,h3⟩:=ho
 have DJ:o∈lP mo md L L2\/n<=o:=by
  rcases hm with hm|hm
  ·rcases Gp mo md (L.setIfInBounds i true) L2 with e|⟨e,j,hj,e1,e2⟩
   ·rw[e] at hm;simp at hm
   ·rw[e] at hm
    have ni:L.getD j true=false:=by
     cases hq:L.getD j true with
     |false=>rfl
     |true=>rw[(nk.refl L).set i j hq] at e1;cases e1
    rw[Gq hj ni e2]
    exact .inl hm
  ·exact .inr hm
 rcases Nat.lt_or_ge o h.length with hlt|dn
 ·obtain⟨ao,e1,e2⟩:=k.al o bJ p x hlt h1 h2 h3
  have hg:g[o]?=some (g[o]'(by rw[hd.len];exact hlt)):=List.getElem?_eq_getElem _
  have:=k.gx o _ hg
  rw[h2] at this
  injection this with this
  exact⟨o,ao,p,DJ,e1,by rw[hg,this],e2⟩
 ·rcases k.nw o bJ p x dn h1 h2 h3 with e|e
  ·exact O0 x e
  ·omega
theorem SB.pass {mo md:List Nat} {n i:Nat} {L L2:Array Bool} {g:aX} {h:List AO} {w w2:World} (hi:L.getD i true=false) (hl:nk (L.setIfInBounds i true) L2) (hS:SB mo md n (L.setIfInBounds i true) g h w L2 w2):SB mo md n L g h w L2 w2:=by
 refine Ext.mono hS (fun x _ ho=>?_)
 obtain⟨o,bJ,p,hm,h1,h2,h3⟩:=ho
 refine⟨o,bJ,p,?_,h1,h2,h3⟩
 rcases hm with hm|hm
 ·rcases Gp mo md (L.setIfInBounds i true) L2 with e|⟨e,j,hj,e1,e2⟩
  ·rw[e] at hm;simp at hm
  ·rw[e] at hm
   have ni:L.getD j true=false:=by
    cases hq:L.getD j true with
    |false=>rfl
    |true=>rw[(nk.refl L).set i j hq] at e1;cases e1
   rw[Gq hj ni e2]
   exact .inl hm
 ·exact .inr hm
section
variable {E:En} {ops:Array Oper} {Qc:Exit->Act->World->Prop} {hr:List AO} {md:List Nat} {kk:Bool->S->T} {fuel i:Nat} {L:Array Bool} {gr:Bool} {s:S} {a:Act} {w:World} {I:Nat->Prop} {g:aX} {o:Oper}
theorem J5 (aM:E.tb.ok P) (hE:E.n=C.n/\E.lo=C.lo) (hX:yQ C Qc) (ho:ops[i]?=some o) (y6:i∈Region.ready .any ops L) (h:Inv C I g s a w) (hk:(pX E ops.toList hr md i true gr kk s).ok P Q)
 (hc:∀tH s' a' w' I' g',Inv C I' g' s' a' w'->(kk tH s').ok P Q->jA P ops Qc (SB (eC ops.toList md) md hr.length (L.setIfInBounds i true) g' s'.h w') fuel (L.setIfInBounds i true) a' w'):
 Go.wpOp P ops Qc i (fun a' w'=>SB (eC ops.toList md) md hr.length L g s.h w (L.setIfInBounds i true) w'/\jA P ops Qc (SB (eC ops.toList md) md hr.length L g s.h w) fuel (L.setIfInBounds i true) a' w') a w:=by
 have u0:=(mem_ready.1 y6).1
 have step:∀{g':aX} {h':List AO} {w':World} {a':Act},(∀L2 w2,nk (L.setIfInBounds i true) L2->SB (eC ops.toList md) md hr.length (L.setIfInBounds i true) g' h' w' L2 w2->SB (eC ops.toList md) md hr.length L g s.h w L2 w2)->jA P ops Qc (SB (eC ops.toList md) md hr.length (L.setIfInBounds i true) g' h' w') fuel (L.setIfInBounds i true) a' w'->
  SB (eC ops.toList md) md hr.length L g s.h w (L.setIfInBounds i true) w'/\jA P ops Qc (SB (eC ops.toList md) md hr.length L g s.h w) fuel (L.setIfInBounds i true) a' w':=
  fun hb hg=>⟨hb _ _ (nk.refl _) (Ext.refl _ _),Ep hb _ _ _ _ (nk.refl _) hg⟩
 simp only[pX] at hk
 rw[Ag,Array.getElem?_toList,ho] at hk
 simp only at hk
 cases hg:pL ops.toList o s with
 |none=>rw[hg] at hk;exact hk.elim
 |some b=>
  rw[hg] at hk
  simp only[Bool.not_true,Bool.false_and,cond_false] at hk
  have hw:=E6 h hg
  have main:∀s1:S,Inv C I g s1 a w->s1.h=s.h->b=true->(bif true then(bif As hr (bif (eC ops.toList md).elem i then md else[]) (kQ o.op s1) then uS E o.op o.type s1 (fun d s'=>put E o.dst d s' (kk true)) else .fail 62)
   else bif wP E o.op s1 then .fail 63
   else bif wO E o.op s1 then loadT ops.toList hr md gr i o.op s1 (yB E o.op s1 (fun d=>put E o.dst d s1 (kk gr)))
   else yA E o.op s1 (fun d=>put E o.dst d s1 (kk gr))).ok P Q->Go.wpOp P ops Qc i (fun a' w'=>SB (eC ops.toList md) md hr.length L g s.h w (L.setIfInBounds i true) w'/\jA P ops Qc (SB (eC ops.toList md) md hr.length L g s.h w) fuel (L.setIfInBounds i true) a' w') a w:=by
   intro s1 h1 e1 hb hq
   subst hb
   simp only[cond_true] at hq
   cases hm:As hr (bif (eC ops.toList md).elem i then md else[]) (kQ o.op s1) with
   |false=>rw[hm] at hq;exact hq.elim
   |true=>
    rw[hm] at hq
    simp only[cond_true] at hq
    have hM:∀m∈kQ o.op s1,(i∈eC ops.toList md/\m∈md)\/hr.length<=m:=fun m DJ=>by
     rcases S8 hm m DJ with e|e
     ·cases he:(eC ops.toList md).elem i with
      |true=>rw[he] at e;exact .inl ⟨by simpa using he,e⟩
      |false=>rw[he] at e;simp at e
     ·exact .inr e
    unfold Go.wpOp
    simp only[ho,hw,if_true]
    refine .inl ?_
    unfold uS at hq
    cases hW:wP E o.op s1 with
    |true=>
     rw[hW] at hq
     simp only[cond_true] at hq
     rcases LF aM h1.wd h1.ev h1.den (o:=o) hq with⟨v,w',I',g',d,s',jf,ht,ha,hv,cB⟩|⟨f,vs,jf,fy⟩|⟨v,jf,hp⟩
     ·obtain⟨s2,nW,h2,fV⟩:=(h1.step ht ha).put hE hv cB
      have kV:=step (g':=g') (h':=s2.h) (fun L2 w2 hl hS=>by rw[nW] at hS;rw[<-e1];exact SB.back h1.den hM u0 ha hl hS) (hc true s2 _ w' I' g' h2 fV)
      unfold Oper.wp
      rcases jf with jf|⟨jf,rfl⟩
      ·rw[jf];exact kV
      ·rw[jf];exact kV
     ·unfold Oper.wp
      rw[jf]
      refine fy.mono (fun e w' hR=>?_)
      rcases hR with⟨v,I',g',d,h',rfl,ha,hv,cB⟩|⟨ch,rfl,hp,hx⟩
      case inr=>exact hX a w' ch hp h1.qV (h1.N8 hx)
      obtain⟨s2,nW,h2,fV⟩:=(h1.step (s':={s1 with h:=h'}) rfl ha).put hE hv cB
      exact step (g':=g') (h':=s2.h) (fun L2 w2 hl hS=>by rw[nW] at hS;rw[<-e1];exact SB.back h1.den hM u0 ha hl hS) (hc true s2 _ w' I' g' h2 fV)
     ·unfold Oper.wp
      rw[jf]
      exact hX a w _ hp h1.qV h1.ext
    |false=>
     rw[hW] at hq
     simp only[cond_false] at hq
     have rest:∀v d,(execOp a.eval o).run P w=.ok (.value v) w->Vr I g w v d->(put E o.dst d s1 (kk true)).ok P Q->o.wp P a w (fun a' w'=>SB (eC ops.toList md) md hr.length L g s.h w (L.setIfInBounds i true) w'/\jA P ops Qc (SB (eC ops.toList md) md hr.length L g s.h w) fuel (L.setIfInBounds i true) a' w') Qc:=by
      intro v d jf hv cB
      obtain⟨s2,nW,h2,fV⟩:=h1.put hE hv cB
      unfold Oper.wp
      rw[jf]
      exact step (g':=g) (h':=s2.h) (fun L2 w2 hl hS=>by rw[nW,e1] at hS;exact SB.pass u0 hl hS) (hc true s2 _ w I g h2 fV)
     cases hL:wO E o.op s1 with
     |true=>
      rw[hL] at hq
      simp only[cond_true] at hq
      obtain⟨v,d,jf,hv,cB⟩:=zX aM h1.ev h1.den (o:=o) hq
      exact rest v d (jf w (fun _ _ _=>rfl) (fun _ _ _ _ _ _ _ _=>rfl)) hv cB
     |false=>
      rw[hL] at hq
      simp only[cond_false] at hq
      obtain⟨v,d,jf,hv,cB⟩:=Fq aM h1.ev h1.den (o:=o) hq
      exact rest v d (jf w) hv cB
  split at hk
  ·rename_i e
   have hb:b=true:=by
    have:pL ops.toList o s=some true:=by unfold pL;rw[e]
    rw[hg] at this
    injection this
   exact main s h rfl hb hk
  ·rename_i j want e
   have hlt:=Gm h e hg
   cases b with
   |true=>exact main _ hlt.1 hlt.2 rfl (hk.1 rfl)
   |false=>
    obtain⟨s2,nW,h2,fV⟩:=hlt.1.put hE .undef (hk.2 rfl)
    have Yt:=hc gr s2 _ w I g h2 fV
    unfold Go.wpOp
    simp only[ho,hw]
    exact step (g':=g) (h':=s2.h) (fun L2 w2 hl hS=>by rw[nW,hlt.2] at hS;exact SB.pass u0 hl hS) Yt
theorem S9 (aM:E.tb.ok P) (hE:E.n=C.n/\E.lo=C.lo) (fy:nH ops L) (qK:Region.noSelect ops=true) (hP:∀c a w d v,Qc (.panic c) (a.put d v) w->Qc (.panic c) a w) (ho:ops[i]?=some o) (zh:Region.free .any ops L i=true) (IS:(Region.ready .any ops L).contains i=true)
 (h:Inv C I g s a w) (hk:(pX E ops.toList hr md i false gr kk s).ok P Q)
 (hc:∀tH s' a' w' I' g',Inv C I' g' s' a' w'->(kk tH s').ok P Q->jA P ops Qc (SB (eC ops.toList md) md hr.length (L.setIfInBounds i true) g' s'.h w') fuel (L.setIfInBounds i true) a' w'):
 jA P ops Qc (SB (eC ops.toList md) md hr.length L g s.h w) (fuel+1) L a w:=by
 simp only[pX] at hk
 rw[Ag,Array.getElem?_toList,ho] at hk
 simp only at hk
 cases hg:pL ops.toList o s with
 |none=>rw[hg] at hk;exact hk.elim
 |some b=>
  rw[hg] at hk
  simp only[Bool.not_false,Bool.true_and] at hk
  cases zg:(eC ops.toList md).elem i with
  |true=>rw[zg] at hk;exact hk.elim
  |false=>
  rw[zg] at hk
  simp only[cond_false] at hk
  have O1:i∉eC ops.toList md:=fun h=>by
   have:(eC ops.toList md).elem i=true:=by simpa using h
   rw[zg] at this;cases this
  have same:∀{s2:S} {a2:Act},s2.h=s.h->jA P ops Qc (SB (eC ops.toList md) md hr.length (L.setIfInBounds i true) g s2.h w) fuel (L.setIfInBounds i true) a2 w->jA P ops Qc (SB (eC ops.toList md) md hr.length L g s.h w) fuel (L.setIfInBounds i true) a2 w:=fun {s2 a2} e hq=>by
   rw[e] at hq
   refine Ep (L1:=L.setIfInBounds i true) (fun L2 w2 _ hS=>?_) _ _ _ _ (nk.refl _) hq
   unfold SB at hS ⊢
   rwa [UR O1] at hS
  have D4:∀(L':Array Bool) (w':World),SB (eC ops.toList md) md hr.length L g s.h w (L'.setIfInBounds i true) w'->SB (eC ops.toList md) md hr.length L g s.h w L' w':=fun L' w' h=>by
   unfold SB at h ⊢
   rwa [WB O1] at h
  have Oa:SB (eC ops.toList md) md hr.length L g s.h w (L.setIfInBounds i true) w:=Ext.refl _ _
  have O2:∀(L':Array Bool) (w':World),SB (eC ops.toList md) md hr.length L g s.h w L' w'->Ext (wA md hr.length g s.h) w w':=fun L' w' h=>
   Ext.mono h (fun x _ ⟨o,ao,p,hm,h1,h2,h3⟩=>⟨o,ao,p,hm.imp WC id,h1,h2,h3⟩)
  have hw:=E6 h hg
  have main:∀s1:S,Inv C I g s1 a w->s1.h=s.h->b=true->(bif false then(bif As hr (bif (eC ops.toList md).elem i then md else[]) (kQ o.op s1) then uS E o.op o.type s1 (fun d s'=>put E o.dst d s' (kk true)) else .fail 62)
   else bif wP E o.op s1 then .fail 63
   else bif wO E o.op s1 then loadT ops.toList hr md gr i o.op s1 (yB E o.op s1 (fun d=>put E o.dst d s1 (kk gr)))
   else yA E o.op s1 (fun d=>put E o.dst d s1 (kk gr))).ok P Q->jA P ops Qc (SB (eC ops.toList md) md hr.length L g s.h w) (fuel+1) L a w:=by
   intro s1 h1 e1 hb hq
   subst hb
   simp only[cond_false] at hq
   cases hW:wP E o.op s1 with
   |true=>rw[hW] at hq;exact hq.elim
   |false=>
    rw[hW] at hq
    simp only[cond_false] at hq
    have rest:∀(mo:List Nat) (Y:World->Prop) v d,Gn ops.toList mo i=true->(∀j∈mo,L.getD j true=false)->(∀L' w',(∀j∈mo,L'.getD j true=false)->SB (eC ops.toList md) md hr.length L g s.h w L' w'->Y w')->Y w->(∀w',Y w'->(execOp a.eval o).run P w'=.ok (.value v) w')->Vr I g w v d->(put E o.dst d s1 (kk gr)).ok P Q->jA P ops Qc (SB (eC ops.toList md) md hr.length L g s.h w) (fuel+1) L a w:=by
     intro mo Y v d Da wv IP hY jf hv cB
     obtain⟨s2,nW,h2,fV⟩:=h1.put hE hv cB
     exact Js (mo:=mo) (Y:=Y) ho (Region.noSelect_spec qK) (fun c a w=>hP c a w _ _) IP Da D4 fuel L a w fy wv (Region.free_spec ho zh) (by simpa using IS) (.inl ⟨hw,jf⟩) hY Oa (same (by rw[nW,e1]) (hc gr s2 _ w I g h2 fV))
    cases hL:wO E o.op s1 with
    |true=>
     rw[hL] at hq
     simp only[cond_true] at hq
     unfold loadT at hq
     split at hq
     ·rename_i n hn
      cases IT:Nat.blt n hr.length with
      |false=>rw[IT] at hq;exact hq.elim
      |true=>
      rw[IT] at hq
      simp only[cond_true] at hq
      have IU:n<hr.length:=Nat.le_of_ble_eq_true IT
      have key:∀(IV:List Nat) (w':World),n∉IV->Ext (wA IV hr.length g s.h) w w'->∀(n':Nat) ao p b,sJ o.op s1=some n'->s1.h[n']?=some ao->g[n']?=some p->ao.owns p b->w'.heap[b]?=w.heap[b]?:=by
       intro IV w' zi hx n' ao p b j0 k1 h2 h3
       rw[hn] at j0
       injection j0 with j0
       subst j0
       refine hx.block b (h1.den.lt ⟨n,ao,p,k1,h2,h3⟩) (fun ⟨o2,oh,p2,hm,q1,q2,q3⟩=>?_)
       have:=h1.den.sep n o2 ao oh p p2 b k1 (by rw[e1];exact q1) h2 q2 h3 q3
       subst this
       rcases hm with hm|hm
       ·exact zi hm
       ·omega
      cases zi:md.elem n with
      |true=>
       rw[zi] at hq
       simp only[cond_true] at hq
       obtain⟨Da,hq⟩:=hq
       have wv:∀j∈eC ops.toList md,L.getD j true=false:=fun j hj=>by
        have O3:=List.all_eq_true.1 Da j hj
        rw[Bool.and_eq_true] at O3
        cases hd:L.getD j true with
        |false=>rfl
        |true=>
         have:=E7 fy _ j i O3.1 (fun o' tw e he hb=>fy j o' tw hd e he hb)
         rw[(mem_ready.1 (show i∈Region.ready .any ops L by simpa using IS)).1] at this
         cases this
       obtain⟨v,d,jf,hv,cB⟩:=zX aM h1.ev h1.den (o:=o) hq
       refine rest (eC ops.toList md) (fun w'=>Ext (wA [] hr.length g s.h) w w') v d Da wv (fun L' w' hp hx=>by unfold SB at hx;rwa [UQ hp] at hx) (Ext.refl _ _) (fun w' hx=>jf w' (fun j0=>by rw[hn] at j0;cases j0) (key [] w' (by simp) hx)) hv cB
      |false=>
       rw[zi] at hq
       simp only[cond_false] at hq
       have hn2:n∉md:=fun hm=>by
        have:md.elem n=true:=by simpa using hm
        rw[this] at zi
        cases zi
       obtain⟨v,d,jf,hv,cB⟩:=zX aM h1.ev h1.den (o:=o) hq
       exact rest [] (fun w'=>Ext (wA md hr.length g s.h) w w') v d rfl (fun j hj=>by simp at hj) (fun L' w' _ hx=>O2 L' w' hx) (Ext.refl _ _) (fun w' hx=>jf w' (fun j0=>by rw[hn] at j0;cases j0) (key md w' hn2 hx)) hv cB
     ·rename_i hn
      obtain⟨v,d,jf,hv,cB⟩:=zX aM h1.ev h1.den (o:=o) hq
      refine rest [] (fun w'=>Ext (wA md hr.length g s.h) w w') v d rfl (fun j hj=>by simp at hj) (fun L' w' _ hx=>O2 L' w' hx) (Ext.refl _ _) (fun w' hx=>jf w' (fun _ b hb=>?_) (fun n' ao p b j0 k1 h2 h3=>by rw[hn] at j0;cases j0)) hv cB
      refine hx.block b (h1.den.ay b hb) (fun ⟨o2,oh,p2,_,q1,q2,q3⟩=>?_)
      exact h1.den.own o2 oh p2 b (by rw[e1];exact q1) q2 q3 hb
    |false=>
     rw[hL] at hq
     simp only[cond_false] at hq
     obtain⟨v,d,jf,hv,cB⟩:=Fq aM h1.ev h1.den (o:=o) hq
     exact rest [] (fun _=>True) v d rfl (fun j hj=>by simp at hj) (fun _ _ _ _=>trivial) trivial (fun w' _=>jf w') hv cB
  split at hk
  ·rename_i e
   have hb:b=true:=by
    have:pL ops.toList o s=some true:=by unfold pL;rw[e]
    rw[hg] at this
    injection this
   exact main s h rfl hb hk
  ·rename_i j want e
   have hlt:=Gm h e hg
   cases b with
   |true=>exact main _ hlt.1 hlt.2 rfl (hk.1 rfl)
   |false=>
    obtain⟨s2,nW,h2,fV⟩:=hlt.1.put hE .undef (hk.2 rfl)
    exact Js (mo:=[]) (Y:=fun _=>True) ho (Region.noSelect_spec qK) (fun c a w=>hP c a w _ _) (fun _ _ _ _=>trivial) rfl D4 fuel L a w fy (fun j hj=>by simp at hj) (Region.free_spec ho zh) (by simpa using IS) (.inr ⟨hw,rfl⟩) trivial Oa (same (by rw[nW,hlt.2]) (hc gr s2 _ w I g h2 fV))
end
theorem Rm {ops:Array Oper} {Qc:Exit->Act->World->Prop} {S:Array Bool->World->Prop} {L:Array Bool} {a:Act} {w:World} (hr:Region.ready .any ops L=[]) (h:Qc .normal a w):∀fuel,jA P ops Qc S fuel L a w
 |0=>⟨hr,h⟩
 |_+1=>⟨fun _=>h,by rw[hr];simp⟩
theorem R4 {E:En} (aM:E.tb.ok P) (hE:E.n=C.n/\E.lo=C.lo) {ops:Array Oper} {Qc:Exit->Act->World->Prop} (hX:yQ C Qc) (qK:Region.noSelect ops=true) (hP:∀c a w d v,Qc (.panic c) (a.put d v) w->Qc (.panic c) a w) {k:S->T} (hK:∀s' a' w',jP C s' a' w'->(k s').ok P Q->Qc .normal a' w')
 {hr:List AO} {md:List Nat} (pl:PT):
 (∀(fuel:Nat) (L:Array Bool) (gr:Bool) (s:S) (a:Act) (w:World) (I:Nat->Prop) (g:aX),nH ops L->Inv C I g s a w->lD ops pl L false=true->pl.depth<=fuel->(mS E ops.toList hr md pl gr s k).ok P Q->jA P ops Qc (SB (eC ops.toList md) md hr.length L g s.h w) fuel L a w)/\
 (∀(fuel:Nat) (L:Array Bool) (gr:Bool) (s:S) (a:Act) (w:World) (I:Nat->Prop) (g:aX),nH ops L->(∀j∈pl.oJ,j∈Region.ready .any ops L)->Inv C I g s a w->lD ops pl L true=true->pl.depth<=fuel+1->(mS E ops.toList hr md pl gr s k).ok P Q->∀j∈pl.oJ,Go.wpOp P ops Qc j (fun a' w'=>SB (eC ops.toList md) md hr.length L g s.h w (L.setIfInBounds j true) w'/\jA P ops Qc (SB (eC ops.toList md) md hr.length L g s.h w) fuel (L.setIfInBounds j true) a' w') a w):=by
 induction pl with
 |done=>
  refine⟨fun fuel L gr s a w I g fy h hp hf hk=>?_,fun fuel L gr s a w I g fy lg h hp hf hk j hj=>by simp[PT.oJ] at hj⟩
  have hr:Region.ready .any ops L=[]:=by
   simp only[lD,Bool.and_eq_true] at hp
   exact List.isEmpty_iff.1 hp.2
  exact Rm hr (hK _ _ _ ⟨I,g,h⟩ hk) fuel
 |one i al r ih=>
  have chain:∀(fuel:Nat) (L:Array Bool) (gr:Bool) (s:S) (a:Act) (w:World) (I:Nat->Prop) (g:aX),nH ops L->i∈Region.ready .any ops L->Inv C I g s a w->(∃ch,lD ops (.one i true r) L ch=true)->r.depth<=fuel->(mS E ops.toList hr md (.one i true r) gr s k).ok P Q->Go.wpOp P ops Qc i (fun a' w'=>SB (eC ops.toList md) md hr.length L g s.h w (L.setIfInBounds i true) w'/\jA P ops Qc (SB (eC ops.toList md) md hr.length L g s.h w) fuel (L.setIfInBounds i true) a' w') a w:=by
   intro fuel L gr s a w I g fy y6 h ⟨ch,hp⟩ hf hk
   simp only[lD,Bool.and_eq_true] at hp
   obtain⟨⟨uX,_⟩,gm⟩:=hp
   obtain⟨o,ho⟩:=Option.isSome_iff_exists.1 uX
   exact J5 aM hE hX ho y6 h hk (fun tH s' a' w' I' g' h' cB=>ih.1 fuel _ tH s' a' w' I' g' (fy.step y6) h' gm hf cB)
  cases al with
  |true=>
   refine⟨fun fuel L gr s a w I g fy h hp hf hk=>?_,fun fuel L gr s a w I g fy lg h hp hf hk j hj=>?_⟩
   ·cases fuel with
    |zero=>simp[PT.depth] at hf
    |succ fuel=>
     have lg:Region.ready .any ops L=[i]:=by
      simp only[lD,Bool.and_eq_true,Bool.false_or,beq_iff_eq] at hp
      exact hp.1.2
     refine⟨fun h0=>(by rw[lg] at h0;cases h0),fun j hj=>?_⟩
     have qW:=hj
     rw[lg] at hj
     simp only[List.mem_singleton] at hj
     subst hj
     exact chain fuel L gr s a w I g fy qW h ⟨_,hp⟩ (by simp[PT.depth] at hf;exact hf) hk
   ·have qW:=lg j hj
    simp only[PT.oJ,List.mem_singleton] at hj
    subst hj
    exact chain fuel L gr s a w I g fy qW h ⟨_,hp⟩ (by simp[PT.depth] at hf;exact hf) hk
  |false=>
   refine⟨fun fuel L gr s a w I g fy h hp hf hk=>?_,fun fuel L gr s a w I g fy lg h hp hf hk j hj=>by simp[PT.oJ] at hj⟩
   cases fuel with
   |zero=>simp[PT.depth] at hf
   |succ fuel=>
    simp only[lD,Bool.and_eq_true] at hp
    obtain⟨⟨_,uX,tE,gm⟩,Bu⟩:=hp
    obtain⟨o,ho⟩:=Option.isSome_iff_exists.1 uX
    exact S9 aM hE fy qK hP ho tE gm h hk (fun tH s' a' w' I' g' h' cB=>ih.1 fuel _ tH s' a' w' I' g' (fy.step (by simpa using gm)) h' Bu (by simp[PT.depth] at hf;exact hf) cB)
 |alt i b r wN BC=>
  have chain:∀(fuel:Nat) (L:Array Bool) (gr:Bool) (s:S) (a:Act) (w:World) (I:Nat->Prop) (g:aX),nH ops L->(∀j∈(PT.alt i b r).oJ,j∈Region.ready .any ops L)->Inv C I g s a w->(∃ch,lD ops (.alt i b r) L ch=true)->(PT.alt i b r).depth<=fuel+1->(mS E ops.toList hr md (.alt i b r) gr s k).ok P Q->∀j∈(PT.alt i b r).oJ,Go.wpOp P ops Qc j (fun a' w'=>SB (eC ops.toList md) md hr.length L g s.h w (L.setIfInBounds j true) w'/\jA P ops Qc (SB (eC ops.toList md) md hr.length L g s.h w) fuel (L.setIfInBounds j true) a' w') a w:=by
   intro fuel L gr s a w I g fy lg h ⟨ch,hp⟩ hf hk j hj
   simp only[lD,Bool.and_eq_true] at hp
   obtain⟨⟨uX,_⟩,gm,Bu⟩:=hp
   simp only[PT.depth] at hf
   have qW:=lg j hj
   simp only[PT.oJ,List.mem_cons] at hj
   rcases hj with rfl|hj
   ·obtain⟨o,ho⟩:=Option.isSome_iff_exists.1 uX
    exact J5 aM hE hX ho qW h hk.1 (fun tH s' a' w' I' g' h' cB=>wN.1 fuel _ tH s' a' w' I' g' (fy.step qW) h' gm (by omega) cB)
   ·exact BC.2 fuel L gr s a w I g fy (fun j hj=>lg j (by simp[PT.oJ,hj])) h Bu (by omega) hk.2 j hj
  refine⟨fun fuel L gr s a w I g fy h hp hf hk=>?_,fun fuel L gr s a w I g fy lg h hp hf hk=>chain fuel L gr s a w I g fy lg h ⟨_,hp⟩ hf hk⟩
  cases fuel with
  |zero=>simp only[PT.depth] at hf;omega
  |succ fuel=>
   have lg:Region.ready .any ops L=(PT.alt i b r).oJ:=by
    simp only[lD,Bool.and_eq_true,Bool.false_or,beq_iff_eq] at hp
    exact hp.1.2
   refine⟨fun h0=>(by rw[lg] at h0;simp[PT.oJ] at h0),?_⟩
   rw[lg]
   exact chain fuel L gr s a w I g fy (fun j hj=>by rw[lg];exact hj) h ⟨_,hp⟩ hf hk
theorem US {E:En} (aM:E.tb.ok P) (hE:E.n=C.n/\E.lo=C.lo) (A7:P.follows .mixedOrders=true) {id:Nat} {ops:Array Oper} {Qc:Exit->Act->World->Prop} (hX:yQ C Qc) (qK:Region.noSelect ops=true) (hP:∀c a w d v,Qc (.panic c) (a.put d v) w->Qc (.panic c) a w) {k:S->T} (hK:∀s' a' w',jP C s' a' w'->(k s').ok P Q->Qc .normal a' w')
 {md:List Nat} (pl:PT) (s:S) (a:Act) (w:World) (I:Nat->Prop) (g:aX) (h:Inv C I g s a w.drew) (hp:lD ops pl (Array.replicate ops.size false) false=true) (hf:pl.depth<=ops.size) (hk:(mS E ops.toList s.h md pl false s k).ok P Q):
 (Code.region id ops true).wp P Qc a w:=
 wp_region_any A7 (J4 _ _ _ _ ((R4 aM hE hX qK hP hK pl).1 ops.size _ false s a w.drew I g (nH.start ops) h hp hf hk))
end
end Go.Proofs.YtafomdobfmmleaaGreatDoor

/- Lemmas and contracts. -/
namespace Go.Proofs.YtafomdobfmmleaaGreatDoor
open Go.RowKit
set_option linter.unusedSectionVars false
variable [Wd]
set_option linter.unusedVariables false
theorem rE:∀(l:List Nat) (n:Nat),ln l n=l[n]?
 |[],_=>by simp[ln]
 |d::_,0=>by simp[ln]
 |_::l,n+1=>by simp[ln,rE l n]
theorem Gr (σ:List Nat):∀ds:List D,D.bG.rl σ ds=ds.map (D.bG σ)
 |[]=>rfl
 |d::ds=>by rw[D.bG.rl,Gr σ ds];rfl
theorem rF (σ:List Nat) (ds:List D) (i:Nat):(D.bG.rl σ ds)[i]?=(ds[i]?).map (D.bG σ):=by rw[Gr];simp
theorem uA (σ:List Nat) (ds:List D):(D.bG.rl σ ds).length=ds.length:=by rw[Gr];simp
section
variable {I:Nat->Prop} {w:World} {σ:List Nat}
theorem Dr.Xx {v:Value} {d:D} (h:Dr I w v d):d.bG σ=d:=by
 have key:∀(vs:List Value) (ds:List D),vs.length=ds.length->(∀(i:Nat) v d,vs[i]?=some v->ds[i]?=some d->d.bG σ=d)->D.bG.rl σ ds=ds:=by
  intro vs ds hl ih
  apply List.ext_getElem?
  intro i
  rw[rF]
  cases hd:ds[i]? with
  |none=>rfl
  |some d=>
   have hlt:i<vs.length:=by rw[hl];exact(List.getElem?_eq_some_iff.1 hd).1
   simp[ih i _ d (List.getElem?_eq_getElem hlt) hd]
 induction h with
 |agg vs ds hl h1 h ih=>simp only[D.bG];rw[key vs ds hl ih]
 |aD vs ds hl h ih=>simp only[D.bG];rw[key vs ds hl ih]
 |fn f n vs ds hl h ih=>simp only[D.bG];rw[key vs ds hl ih]
 |_=>rfl
theorem Dr.WD {v:Value} {d':D} (h:Dr I w v d'):∀d:D,d.bG σ=d'->d=d':=by
 have key:∀(vs:List Value) (ds cs:List D),vs.length=ds.length->(∀(i:Nat) v d,vs[i]?=some v->ds[i]?=some d->∀c:D,c.bG σ=d->c=d)->D.bG.rl σ cs=ds->cs=ds:=by
  intro vs ds cs hl ih e
  apply List.ext_getElem?
  intro i
  have hi:=congrArg (·[i]?) e
  simp only[rF] at hi
  cases hc:cs[i]? with
  |none=>rw[hc] at hi;rw[<-hi];rfl
  |some c=>
   rw[hc] at hi
   simp only[Option.map_some] at hi
   have hlt:i<vs.length:=by rw[hl];exact(List.getElem?_eq_some_iff.1 hi.symm).1
   have:=ih i _ _ (List.getElem?_eq_getElem hlt) hi.symm c rfl
   rw[<-hi,<-this]
 induction h with
 |agg vs ds hl h1 h ih=>
  intro d e
  cases d<;>simp only[D.bG] at e<;>first|(cases e;done)|(injection e with e;rw[key vs ds _ hl ih e])|(split at e<;>cases e)
 |aD vs ds hl h ih=>
  intro d e
  cases d<;>simp only[D.bG] at e<;>first|(cases e;done)|(injection e with e;rw[key vs ds _ hl ih e])|(split at e<;>cases e)
 |fn f n vs ds hl h ih=>
  intro d e
  cases d<;>simp only[D.bG] at e<;>first|(cases e;done)|(injection e with e1 e3 e2;rw[e1,e3,key vs ds _ hl ih e2])|(split at e<;>cases e)
 |_=>
  intro d e
  cases d<;>simp only[D.bG] at e<;>first|rfl|exact e|(cases e;done)|(split at e<;>cases e)
theorem Vr.down {g gs:aX} (hσ:∀(i o:Nat),σ[i]?=some o->gs[i]?=g[o]?) {v:Value} {d':D} (h:Vr I g w v d'):∀d:D,d.bG σ=d'->Vr I gs w v d:=by
 induction h with
 |rd h=>intro d e;rw[h.WD d e];exact .rd h
 |any v=>
  intro d e
  cases d<;>simp only[D.bG] at e<;>first|exact .any v|(cases e;done)|(split at e<;>cases e)
 |ia t=>
  intro d e
  cases d<;>simp only[D.bG] at e<;>first|(injection e with e;subst e;exact .ia _)|(cases e;done)|(split at e<;>cases e)
 |mu=>
  intro d e
  cases d<;>simp only[D.bG] at e<;>first|(injection e with e;subst e;exact .mu)|(cases e;done)|(split at e<;>cases e)
 |eZ t x=>
  intro d e
  cases d<;>simp only[D.bG] at e<;>first|(injection e with e;subst e;exact .eZ t x)|(cases e;done)|(split at e<;>cases e)
 |ptr o off b bo h=>
  intro d e
  cases d<;>simp only[D.bG] at e<;>first
   |(cases e;done)
   |(split at e<;>first
    |(cases e;done)
    |(rename_i p hp
      injection e with e1 e2
      subst e1 e2
      rw[rE] at hp
      exact .ptr _ _ b bo (by rw[hσ _ _ hp];exact h)))
 |row o bo a l c h=>
  intro d e
  cases d<;>simp only[D.bG] at e<;>first
   |(cases e;done)
   |(split at e<;>first
    |(cases e;done)
    |(rename_i p hp
      injection e with e1
      subst e1
      rw[rE] at hp
      exact .row _ bo a l c (by rw[hσ _ _ hp];exact h)))
 |fq o n i off b base l c bo h=>
  intro d e
  cases d<;>simp only[D.bG] at e<;>first
   |(cases e;done)
   |(split at e<;>first
    |(cases e;done)
    |(rename_i p hp
      injection e with e1 e2 e3 e4
      subst e1 e2 e3 e4
      rw[rE] at hp
      exact .fq _ _ _ _ b base l c bo (by rw[hσ _ _ hp];exact h)))
 |agg vs ds hl h1 h ih=>
  intro d e
  cases d<;>simp only[D.bG] at e<;>first
   |(cases e;done)
   |(split at e<;>cases e;done)
   |(injection e with e
     subst e
     refine .agg vs _ (by rw[hl,uA]) h1 (fun i v c hv hc=>ih i v _ hv (by rw[rF,hc];rfl) c rfl))
 |aD vs ds hl h ih=>
  intro d e
  cases d<;>simp only[D.bG] at e<;>first
   |(cases e;done)
   |(split at e<;>cases e;done)
   |(injection e with e
     subst e
     refine .aD vs _ (by rw[hl,uA]) (fun i v c hv hc=>ih i v _ hv (by rw[rF,hc];rfl) c rfl))
 |fn f n vs ds hl h ih=>
  intro d e
  cases d<;>simp only[D.bG] at e<;>first
   |(cases e;done)
   |(split at e<;>cases e;done)
   |(injection e with e1 e3 e
     subst e1 e3 e
     refine .fn _ _ vs _ (by rw[hl,uA]) (fun i v c hv hc=>ih i v _ hv (by rw[rF,hc];rfl) c rfl))
theorem Vr.up {g gs:aX} (hσ:∀(i:Nat) p,gs[i]?=some p->∃o,σ[i]?=some o/\g[o]?=some p) {v:Value} {d:D} (h:Vr I gs w v d):Vr I g w v (d.bG σ):=by
 induction h with
 |rd h=>rw[h.Xx];exact .rd h
 |any v=>exact .any v
 |ia t=>exact .ia t
 |mu=>exact .mu
 |eZ t x=>exact .eZ t x
 |ptr o off b bo h=>
  obtain⟨p,h1,h2⟩:=hσ _ _ h
  simp only[D.bG,rE,h1]
  exact .ptr _ _ b bo h2
 |row o bo a l c h=>
  obtain⟨p,h1,h2⟩:=hσ _ _ h
  simp only[D.bG,rE,h1]
  exact .row _ bo a l c h2
 |fq o n i off b base l c bo h=>
  obtain⟨p,h1,h2⟩:=hσ _ _ h
  simp only[D.bG,rE,h1]
  exact .fq _ _ _ _ b base l c bo h2
 |agg vs ds hl h1 h ih=>
  refine .agg vs _ (by rw[uA];exact hl) h1 (fun i v d hv hd=>?_)
  rw[rF] at hd
  cases hq:ds[i]? with
  |none=>rw[hq] at hd;cases hd
  |some c=>rw[hq] at hd;injection hd with hd;subst hd;exact ih i v c hv hq
 |aD vs ds hl h ih=>
  refine .aD vs _ (by rw[uA];exact hl) (fun i v d hv hd=>?_)
  rw[rF] at hd
  cases hq:ds[i]? with
  |none=>rw[hq] at hd;cases hd
  |some c=>rw[hq] at hd;injection hd with hd;subst hd;exact ih i v c hv hq
 |fn f n vs ds hl h ih=>
  refine .fn f n vs _ (by rw[uA];exact hl) (fun i v d hv hd=>?_)
  rw[rF] at hd
  cases hq:ds[i]? with
  |none=>rw[hq] at hd;cases hd
  |some c=>rw[hq] at hd;injection hd with hd;subst hd;exact ih i v c hv hq
end
theorem AO.ry (σ:List Nat) (p:Option Nat×Value) (a:AO) (b:Nat):(a.bG σ).owns p b<->a.owns p b:=by cases a<;>exact Iff.rfl
section
variable {I:Nat->Prop} {w:World} {σ:List Nat}
theorem bR.down {g gs:aX} (hσ:∀(i o:Nat),σ[i]?=some o->gs[i]?=g[o]?) {vs:List Value} {ds:List D} (h:bR I g w vs (D.bG.rl σ ds)):bR I gs w vs ds:=
 ⟨by rw[h.1,uA],fun i v d h1 h2=>(h.2 i v (d.bG σ) h1 (by rw[rF,h2];rfl)).down hσ d rfl⟩
theorem bR.up {g gs:aX} (hσ:∀(i:Nat) p,gs[i]?=some p->∃o,σ[i]?=some o/\g[o]?=some p) {vs:List Value} {ds:List D} (h:bR I gs w vs ds):bR I g w vs (D.bG.rl σ ds):=by
 refine⟨by rw[uA];exact h.1,fun i v d h1 h2=>?_⟩
 rw[rF] at h2
 cases hq:ds[i]? with
 |none=>rw[hq] at h2;cases h2
 |some c=>rw[hq] at h2;injection h2 with h2;subst h2;exact(h.2 i v c h1 hq).up hσ
theorem Ro.down {g gs:aX} (hσ:∀(i o:Nat),σ[i]?=some o->gs[i]?=g[o]?) {p:Option Nat×Value} {a:AO} (h:Ro I g w p (a.bG σ)):Ro I gs w p a:=by
 cases a with
 |cells t cs=>
  obtain⟨b,vs,rfl,hb,hv,h1⟩:=h
  exact⟨b,vs,rfl,hb,hv.down hσ,h1⟩
 |row t n xs=>exact h
 |gone=>trivial
theorem Ro.up {g gs:aX} (hσ:∀(i:Nat) p,gs[i]?=some p->∃o,σ[i]?=some o/\g[o]?=some p) {p:Option Nat×Value} {a:AO} (h:Ro I gs w p a):Ro I g w p (a.bG σ):=by
 cases a with
 |cells t cs=>
  obtain⟨b,vs,rfl,hb,hv,h1⟩:=h
  exact⟨b,vs,rfl,hb,hv.up hσ,h1⟩
 |row t n xs=>exact h
 |gone=>trivial
theorem View.lt {h h':List AO} (V:View σ h h') {i o:Nat} (hi:σ[i]?=some o):o<h.length:=by
 have hlt:i<h'.length:=by rw[<-V.len];exact(List.getElem?_eq_some_iff.1 hi).1
 exact(List.getElem?_eq_some_iff.1 (V.obj i o _ hi (List.getElem?_eq_getElem hlt))).1
def gv (σ:List Nat) (g:aX):aX:=σ.map fun o=>(g[o]?).getD (none,.nilFunc)
theorem At {g:aX} {h h':List AO} (V:View σ h h') (hl:g.length=h.length):∀(i o:Nat),σ[i]?=some o->(gv σ g)[i]?=g[o]?:=by
 intro i o hi
 have hlt:=V.lt hi
 rw[gv,List.getElem?_map,hi,Option.map_some,List.getElem?_eq_getElem (by omega:o<g.length)]
 rfl
theorem Au {g:aX} {h h':List AO} (V:View σ h h') (hl:g.length=h.length) {i:Nat} {p:Option Nat×Value} (hp:(gv σ g)[i]?=some p):∃o,σ[i]?=some o/\g[o]?=some p:=by
 cases hi:σ[i]? with
 |none=>rw[gv,List.getElem?_map,hi] at hp;cases hp
 |some o=>exact⟨o,rfl,by rw[<-At V hl i o hi];exact hp⟩
theorem Den.view {g:aX} {h h':List AO} (hd:Den I g w h) (V:View σ h h'):Den I (gv σ g) w h':=by
 have hσ:=At V hd.len
 refine⟨by rw[<-V.len];simp[gv],hd.ay,fun i a p h1 h2=>?_,fun i a p b h1 h2 h3=>?_,fun i j a a' p p' b h1 eD h2 mD h3 jS=>?_⟩
 ·obtain⟨o,e1,e2⟩:=Au V hd.len h2
  exact(hd.obj o _ p (V.obj i o a e1 h1) e2).down hσ
 ·obtain⟨o,e1,e2⟩:=Au V hd.len h2
  exact hd.own o _ p b (V.obj i o a e1 h1) e2 ((AO.ry σ p a b).2 h3)
 ·obtain⟨o,e1,e2⟩:=Au V hd.len h2
  obtain⟨o',uY,uZ⟩:=Au V hd.len mD
  have:=hd.sep o o' _ _ p p' b (V.obj i o a e1 h1) (V.obj j o' a' uY eD) e2 uZ ((AO.ry σ p a b).2 h3) ((AO.ry σ p' a' b).2 jS)
  subst this
  exact V.inj i j o e1 uY
theorem cK.view {g:aX} {h h':List AO} (V:View σ h h') (hl:g.length=h.length) {b:Nat} (hb:cK (gv σ g) h' b):fI σ g h b:=by
 obtain⟨i,a,p,h1,h2,h3⟩:=hb
 obtain⟨o,e1,e2⟩:=Au V hl h2
 exact⟨o,_,p,List.mem_of_getElem? e1,V.obj i o a e1 h1,e2,(AO.ry σ p a b).2 h3⟩
end
end Go.Proofs.YtafomdobfmmleaaGreatDoor

/- Lemmas and contracts. -/
namespace Go.Proofs.YtafomdobfmmleaaGreatDoor
open Go.RowKit
set_option linter.unusedSectionVars false
variable [Wd]
set_option linter.unusedVariables false
structure AJ where
 ord:List (Nat×Bool)
 md:List Nat
structure mP where
 t:PT
 md:List Nat
def AJ.t (p:AJ):mP:=⟨PT.of p.ord,p.md⟩
def lp:List (Nat×mP)->Nat->Option mP
 |[],_=>none
 |(i,p)::l,j=>bif Nat.beq j i then some p else lp l j
def GJ:List Oper->Nat->Option Op
 |[],_=>none
 |o::l,t=>match o.dst with
  |some d=>bif Nat.beq d t then some o.op else GJ l t
  |none=>GJ l t
def rootOf (ops:List Oper) (s:S):Nat->Operand->D
 |0,_=>.any
 |n+1,x=>match x with
  |.tmp t=>match GJ ops t with
   |some (.fieldAddr _ y _)=>rootOf ops s n y
   |some (.nilCheck y)=>rootOf ops s n y
   |some (.move y)=>rootOf ops s n y
   |some _=>.any
   |none=>ev s x
  |_=>ev s x
def xJ (ops:List Oper) (s:S):List Oper->List D
 |[]=>[]
 |o::l=>match o.op with
  |.store _ a _=>rootOf ops s 8 a::xJ ops s l
  |.call ⟨.builtin .append,args,_⟩=>match args.toList with
   |x::_=>rootOf ops s 8 x::xJ ops s l
   |[]=>xJ ops s l
  |.call ⟨.value f,args,_⟩=>ev s f::args.toList.map (rootOf ops s 8)++xJ ops s l
  |_=>xJ ops s l
def natural:List Oper->Nat->List (Nat×Bool)
 |[],_=>[]
 |o::l,i=>(i,alone o.op)::natural l (i+1)
def rG (PL:List (Nat×mP)) (id:Nat) (ops:List Oper) (s:S):mP:=
 match lp PL id with
 |some p=>p
 |none=>⟨PT.of (natural ops 0),kg s.h (xJ ops s ops)⟩
def mm (E:En) (m:Nat) (PL:List (Nat×mP)):Code->S->(Exit->S->T)->T
 |.skip,s,K=>K .normal s
 |.region id ops false,s,K=>wg E ops.toList ops.toList s (K .normal)
 |.region id ops true,s,K=>
  .ask ((lD ops (rG PL id ops.toList s).t (Array.replicate ops.size false) false&&(Region.noSelect ops&&Nat.ble (rG PL id ops.toList s).t.depth ops.size))=true)
   (mS E ops.toList s.h (rG PL id ops.toList s).md (rG PL id ops.toList s).t false s (K .normal))
 |.seq a b,s,K=>mm E m PL a s fun e s'=>match e with
  |.normal=>mm E m PL b s' K
  |e=>K e s'
 |.cond c a b,s,K=>match ev s c with
  |.bool v=>.br v (mm E m PL a s K) (mm E m PL b s K)
  |_=>.fail 70
 |.block id c,s,K=>mm E m PL c s fun e s'=>match e with
  |.exit r8=>bif Nat.beq r8 id then K .normal s' else K (.exit r8) s'
  |e=>K e s'
 |.loop c,s,K=>.loop m s (fun s'=>mm E m PL c s' .leaf) K
 |.exit id,s,K=>K (.exit id) s
 |.ret,s,K=>K .ret s
 |_,_,_=>.fail 71
theorem least {p:Nat->Prop} (h:∃n,p n):∃n,p n/\∀m,p m->n<=m:=by
 obtain⟨n,hn⟩:=h
 induction n using Nat.strongRecOn with
 |_ n ih=>
  by_cases hq:∃m,m<n/\p m
  ·obtain⟨m,h1,h2⟩:=hq
   exact ih m h1 h2
  ·exact⟨n,hn,fun m hm=>by
    rcases Nat.lt_or_ge m n with h|h
    ·exact absurd ⟨m,h,hm⟩ hq
    ·exact h⟩
section
variable {P:Program} {C:Cx}
theorem jP.view {m:Nat} (hm:C.h0.length=m) {s s':S} {a:Act} {w:World} (h:jP C s a w) (V:Sv m s s'):jP C s' a w:=by
 obtain⟨I,g,h⟩:=h
 obtain⟨σ,V,hp,ht⟩:=V
 have hσ:=At V h.den.len
 refine⟨I,gv σ g,h.den.view V,h.wd,fun j=>?_,h.sz,h.qV,h.kp,h.ext,h.i1,h.i2,fun b hb=>h.ow b (cK.view V h.den.len hb).owned,fun o p t cs h1 h2=>?_⟩
 ·rcases ht j with e|e
  ·rw[e];exact .any _
  ·exact(h.tmp j).down hσ _ e.symm
 ·have hlt:o<m:=by rw[<-hm];exact(List.getElem?_eq_some_iff.1 h2).1
  rw[hσ o o (hp o hlt)]
  exact h.gk o p t cs h1 h2
theorem UT {E:En} (aM:E.tb.ok P) (hE:E.n=C.n/\E.lo=C.lo) {m:Nat} (hm:C.h0.length=m) (A7:P.follows .mixedOrders=true) {PL:List (Nat×mP)}:∀(c:Code) {s:S} {a:Act} {w:World} {K:Exit->S->T} {Q:Exit->S->Prop} {Qc:Exit->Act->World->Prop},
 yQ C Qc->(∀c a w d v,Qc (.panic c) (a.put d v) w->Qc (.panic c) a w)->(∀e s' a' w',jP C s' a' w'->(K e s').ok P Q->Qc e a' w')->jP C s a w->(mm E m PL c s K).ok P Q->c.wp P Qc a w:=by
 intro c
 induction c with
 |skip=>intro s a w K Q Qc hX hP hK h hk;exact wp_skip (hK _ _ _ _ h hk)
 |region id ops draw=>
  intro s a w K Q Qc hX hP hK h hk
  cases draw with
  |false=>
   exact wp_region_list (Cu aM hE hX (fun s' a' w' h' cB=>hK _ _ _ _ h' cB) ops.toList s a w h hk)
  |true=>
   simp only[mm,T.ok] at hk
   obtain⟨lM,hk⟩:=hk
   simp only[Bool.and_eq_true] at lM
   obtain⟨hp,qK,hlen⟩:=lM
   replace hlen:=Nat.le_of_ble_eq_true hlen
   obtain⟨I,g,h⟩:=h
   have hB:B w w.drew:=(Below.refl _ _).drew
   have h':Inv C I g s a w.drew:=h.step (M:=[]) rfl ⟨h.den.later hB,Ext.of_B hB,fun _ h=>h,fun _ h=>.inl h,fun _ _ h=>h,fun _ _ _=>rfl,fun o ao p b _ h1 _ h3=>⟨ao,h1,h3⟩,fun o ao p b hq h1 _ _=>by have:=(List.getElem?_eq_some_iff.1 h1).1;omega⟩
   exact US aM hE A7 hX qK hP (fun s' a' w' h' cB=>hK _ _ _ _ h' cB) _ s a w I g h' hp hlen hk
 |seq x y IW IX=>
  intro s a w K Q Qc hX hP hK h hk
  refine wp_seq (IW (K:=fun e s'=>match e with
   |.normal=>mm E m PL y s' K
   |e=>K e s') (Q:=Q) (fun a w ch h1 h2 h3=>hX a w ch h1 h2 h3) (fun c a w d v hq=>hP c a w d v hq) (fun e s' a' w' h' cB=>?_) h hk)
  cases e with
  |normal=>exact IX hX hP hK h' cB
  |_=>exact hK _ _ _ _ h' cB
 |cond c x y IW IX=>
  intro s a w K Q Qc hX hP hK h hk
  simp only[mm] at hk
  obtain⟨I,g,h⟩:=h
  split at hk
  ·rename_i v hc
   have hv:=h.ev c
   rw[hc] at hv
   exact wp_cond_split hv.oq (fun e=>IW hX hP hK ⟨I,g,h⟩ (hk.1 e)) (fun e=>IX hX hP hK ⟨I,g,h⟩ (hk.2 e))
  ·exact hk.elim
 |block id c ih=>
  intro s a w K Q Qc hX hP hK h hk
  refine wp_block (ih (K:=fun e s'=>match e with
   |.exit r8=>bif Nat.beq r8 id then K .normal s' else K (.exit r8) s'
   |e=>K e s') (Q:=Q) (fun a w ch h1 h2 h3=>hX a w ch h1 h2 h3) (fun c a w d v hq=>hP c a w d v hq) (fun e s' a' w' h' cB=>?_) h hk)
  cases e with
  |exit r8=>
   simp only[Exit.inBlock]
   cases hb:Nat.beq r8 id with
   |true=>
    simp only[hb,cond_true] at cB
    rw[if_pos (Nat.eq_of_beq_eq_true hb)]
    exact hK _ _ _ _ h' cB
   |false=>
    simp only[hb,cond_false] at cB
    rw[if_neg (fun e=>by subst e;rw[Nat.beq_refl] at hb;cases hb)]
    exact hK _ _ _ _ h' cB
  |_=>exact hK _ _ _ _ h' cB
 |loop c ih=>
  intro s a w K Q Qc hX hP hK h hk
  simp only[mm,T.ok] at hk
  obtain⟨Iv,μ,⟨s1,V1,hI1⟩,hk⟩:=hk
  have hex:∀a w,(∃s,jP C s a w/\Iv s)->∃n,∃s,jP C s a w/\Iv s/\μ s=n:=fun a w ⟨s,h1,h2⟩=>⟨_,s,h1,h2,rfl⟩
  classical
  let μ':Act->World->Nat:=fun a w=>if hh:∃s,jP C s a w/\Iv s then Classical.choose (least (hex a w hh)) else 0
  have wD:∀a w (hh:∃s,jP C s a w/\Iv s),μ' a w=Classical.choose (least (hex a w hh)):=fun a w hh=>by simp only[μ',dif_pos hh]
  have hle:∀a w s,jP C s a w->Iv s->μ' a w<=μ s:=fun a w s h1 h2=>by
   have hh:∃s,jP C s a w/\Iv s:=⟨s,h1,h2⟩
   rw[wD a w hh]
   exact(Classical.choose_spec (least (hex a w hh))).2 _ ⟨s,h1,h2,rfl⟩
  have p9:∀a w,(∃s,jP C s a w/\Iv s)->∃s,jP C s a w/\Iv s/\μ s=μ' a w:=fun a w hh=>by
   rw[wD a w hh]
   exact(Classical.choose_spec (least (hex a w hh))).1
  refine wp_loop (fun a w=>∃s,jP C s a w/\Iv s) μ' ⟨s1,h.view hm V1,hI1⟩ (fun a w hh=>?_)
  obtain⟨s0,h0,hI0,hμ⟩:=p9 a w hh
  refine ih (K:=.leaf) (fun a w ch h1 h2 h3=>hX a w ch h1 h2 h3) (fun c a w d v hq=>hP c a w d v hq) (fun e s' a' w' h' cB=>?_) h0 (hk s0 hI0)
  cases e with
  |normal=>
   obtain⟨s2,V2,Bi,hlt⟩:=cB
   have h2:=h'.view hm V2
   exact⟨⟨s2,h2,Bi⟩,by have:=hle a' w' s2 h2 Bi;omega⟩
  |exit id=>exact hK _ _ _ _ h' cB
  |goto l=>exact hK _ _ _ _ h' cB
  |ret=>exact hK _ _ _ _ h' cB
  |panic ch=>exact hK _ _ _ _ h' cB
  |outgrown=>exact hK _ _ _ _ h' cB
 |exit id=>intro s a w K Q Qc hX hP hK h hk;exact wp_exit (hK _ _ _ _ h hk)
 |ret=>intro s a w K Q Qc hX hP hK h hk;exact wp_ret (hK _ _ _ _ h hk)
 |_=>intro s a w K Q Qc hX hP hK h hk;exact hk.elim
end
end Go.Proofs.YtafomdobfmmleaaGreatDoor

/- Lemmas and contracts. -/
namespace Go.Proofs.YtafomdobfmmleaaGreatDoor
open Go.RowKit
set_option linter.unusedSectionVars false
variable [Wd]
set_option linter.unusedVariables false
def D.cE:D->D
 |.own n xs=>.list n (ll xs)
 |.list n xs=>.list n (ll xs)
 |.ref cs=>.ref (cl cs)
 |.agg cs=>.agg (cl cs)
 |.aD cs=>.aD (cl cs)
 |.fn f n cs=>.fn f n (cl cs)
 |d=>d
 where
 cl:List D->List D
 |[]=>[]
 |d::ds=>d.cE::cl ds
 ll:List (List D)->List (List D)
 |[]=>[]
 |x::xs=>cl x::ll xs
theorem Gs:∀ds:List D,D.cE.cl ds=ds.map D.cE
 |[]=>rfl
 |d::ds=>by rw[D.cE.cl,Gs ds];rfl
theorem C0:∀xs:List (List D),D.cE.ll xs=xs.map D.cE.cl
 |[]=>rfl
 |x::xs=>by rw[D.cE.ll,C0 xs];rfl
theorem oC {ds:List D} {i:Nat} {e:D} (h:(D.cE.cl ds)[i]?=some e):∃d,ds[i]?=some d/\e=d.cE:=by
 rw[Gs,List.getElem?_map] at h
 cases hd:ds[i]? with
 |none=>rw[hd] at h;cases h
 |some d=>rw[hd] at h;injection h with h;exact⟨d,rfl,h.symm⟩
theorem uB {xs:List (List D)} {i:Nat} {y:List D} (h:(D.cE.ll xs)[i]?=some y):∃x,xs[i]?=some x/\y=D.cE.cl x:=by
 rw[C0,List.getElem?_map] at h
 cases hd:xs[i]? with
 |none=>rw[hd] at h;cases h
 |some d=>rw[hd] at h;injection h with h;exact⟨d,rfl,h.symm⟩
theorem uC (ds:List D):(D.cE.cl ds).length=ds.length:=by rw[Gs,List.length_map]
theorem Na (xs:List (List D)):(D.cE.ll xs).length=xs.length:=by rw[C0,List.length_map]
theorem Dr.cE {I:Nat->Prop} {w:World} {v:Value} {d:D} (h:Dr I w v d):Dr I w v d.cE:=by
 induction h with
 |bool b=>exact .bool b
 |int k n=>exact .int k n
 |str s=>exact .str s
 |nils=>exact .nils
 |dF=>exact .dF
 |aB=>exact .aB
 |iW=>exact .iW
 |list A cap n l xs U cj hl hm eu hlen hA h1 hU ih=>
  simp only[D.cE]
  refine .list A cap n l _ U (by rw[Na];exact cj) hl hm eu (fun y hy=>?_) (fun h0=>?_) (fun i y j e hy he=>?_) (fun i y j e hy he=>?_)
  ·obtain⟨i,hi⟩:=List.getElem?_of_mem hy
   obtain⟨x,hx,rfl⟩:=uB hi
   rw[uC];exact hlen x (List.mem_of_getElem? hx)
  ·obtain⟨b,off,e1,hb,hI,hc⟩:=hA h0
   refine⟨b,off,e1,hb,hI,fun i y j e hy he=>?_⟩
   obtain⟨x,hx,rfl⟩:=uB hy
   obtain⟨d,hd,rfl⟩:=oC he
   exact hc i x j d hx hd
  ·obtain⟨x,hx,rfl⟩:=uB hy
   obtain⟨d,hd,rfl⟩:=oC he
   exact h1 i x j d hx hd
  ·obtain⟨x,hx,rfl⟩:=uB hy
   obtain⟨d,hd,rfl⟩:=oC he
   exact ih i x j d hx hd
 |own A cap n l xs U cj hl hm eu hlen hA h1 hU ih=>
  simp only[D.cE]
  refine .list A cap n l _ U (by rw[Na];exact cj) hl hm eu (fun y hy=>?_) (fun h0=>?_) (fun i y j e hy he=>?_) (fun i y j e hy he=>?_)
  ·obtain⟨i,hi⟩:=List.getElem?_of_mem hy
   obtain⟨x,hx,rfl⟩:=uB hi
   rw[uC];exact hlen x (List.mem_of_getElem? hx)
  ·obtain⟨b,off,e1,hb,hI,_,_,hc⟩:=hA h0
   refine⟨b,off,e1,hb,hI,fun i y j e hy he=>?_⟩
   obtain⟨x,hx,rfl⟩:=uB hy
   obtain⟨d,hd,rfl⟩:=oC he
   exact hc i x j d hx hd
  ·obtain⟨x,hx,rfl⟩:=uB hy
   obtain⟨d,hd,rfl⟩:=oC he
   exact h1 i x j d hx hd
  ·obtain⟨x,hx,rfl⟩:=uB hy
   obtain⟨d,hd,rfl⟩:=oC he
   exact ih i x j d hx hd
 |ref b off cs U hI hb hc h1 hU ih=>
  simp only[D.cE]
  refine .ref b off _ U hI hb (fun j e he=>?_) (fun j e he=>?_) (fun j e he=>?_)<;>obtain⟨d,hd,rfl⟩:=oC he
  ·exact hc j d hd
  ·exact h1 j d hd
  ·exact ih j d hd
 |agg vs ds hl h1 h ih=>
  simp only[D.cE]
  refine .agg vs _ (by rw[uC];exact hl) h1 (fun i v e hv he=>?_)
  obtain⟨d,hd,rfl⟩:=oC he
  exact ih i v d hv hd
 |aD vs ds hl h ih=>
  simp only[D.cE]
  refine .aD vs _ (by rw[uC];exact hl) (fun i v e hv he=>?_)
  obtain⟨d,hd,rfl⟩:=oC he
  exact ih i v d hv hd
 |fn f n vs ds hl h ih=>
  simp only[D.cE]
  refine .fn f n vs _ (by rw[uC];exact hl) (fun i v e hv he=>?_)
  obtain⟨d,hd,rfl⟩:=oC he
  exact ih i v d hv hd
theorem Vr.cE {I:Nat->Prop} {g:aX} {w:World} {v:Value} {d:D} (h:Vr I g w v d):Vr I g w v d.cE:=by
 induction h with
 |rd h=>exact .rd h.cE
 |any v=>exact .any v
 |ia t=>exact .ia t
 |mu=>exact .mu
 |eZ t x=>exact .eZ t x
 |ptr o off b bo h=>exact .ptr o off b bo h
 |row o bo a l c h=>exact .row o bo a l c h
 |fq o n i off b base l c bo h=>exact .fq o n i off b base l c bo h
 |agg vs ds hl h1 h ih=>
  simp only[D.cE]
  refine .agg vs _ (by rw[uC];exact hl) h1 (fun i v e hv he=>?_)
  obtain⟨d,hd,rfl⟩:=oC he
  exact ih i v d hv hd
 |aD vs ds hl h ih=>
  simp only[D.cE]
  refine .aD vs _ (by rw[uC];exact hl) (fun i v e hv he=>?_)
  obtain⟨d,hd,rfl⟩:=oC he
  exact ih i v d hv hd
 |fn f n vs ds hl h ih=>
  simp only[D.cE]
  refine .fn f n vs _ (by rw[uC];exact hl) (fun i v e hv he=>?_)
  obtain⟨d,hd,rfl⟩:=oC he
  exact ih i v d hv hd
inductive Co:D->D->Prop
 |refl (d:D):Co d d
 |nil (n:Nat):Co .nils (.list n [])
 |nT (n:Nat):Co .nils (.own n [])
 |any (d:D):Co d .any
 |cE (d:D):Co d d.cE
 |agg (ds es:List D) (hl:ds.length=es.length) (h:∀(i:Nat) d e,ds[i]?=some d->es[i]?=some e->Co d e):Co (.agg ds) (.agg es)
 |aD (ds es:List D) (hl:ds.length=es.length) (h:∀(i:Nat) d e,ds[i]?=some d->es[i]?=some e->Co d e):Co (.aD ds) (.aD es)
 |list (n:Nat) (xs ys:List (List D)) (hl:xs.length=ys.length) (h:∀(i:Nat) x y,xs[i]?=some x->ys[i]?=some y->x.length=y.length/\∀(j:Nat) d e,x[j]?=some d->y[j]?=some e->e=d\/(d=.nils/\∃m,e=.list m [])):Co (.list n xs) (.list n ys)
theorem Dr.Xy {I:Nat->Prop} {w:World} {v:Value} {d e:D} (h:Dr I w v d) (k:e=d\/(d=.nils/\∃m,e=.list m [])):Dr I w v e:=by
 rcases k with rfl|⟨rfl,m,rfl⟩
 ·exact h
 ·cases h
  exact .list none 0 m 0 [] (fun _ _=>undef) rfl (Nat.le_refl _) (Nat.zero_le _) (fun _=>⟨rfl,rfl⟩) (by simp) (fun h=>by simp at h) (by simp) (by simp)
theorem Co.ok {I:Nat->Prop} {g:aX} {w:World} {d e:D} (h:Co d e):∀{v:Value},Vr I g w v d->Vr I g w v e:=by
 induction h with
 |refl d=>exact fun h=>h
 |nil n=>
  intro v h
  cases h.rm
  exact .rd (.list none 0 n 0 [] (fun _ _=>undef) rfl (Nat.le_refl _) (Nat.zero_le _) (fun _=>⟨rfl,rfl⟩) (by simp) (fun h=>by simp at h) (by simp) (by simp))
 |nT n=>
  intro v h
  cases h.rm
  exact .rd (.own none 0 n 0 [] (fun _ _=>undef) rfl (Nat.le_refl _) (Nat.zero_le _) (fun _=>⟨rfl,rfl⟩) (by simp) (fun h=>by simp at h) (by simp) (by simp))
 |any d=>exact fun _=>.any _
 |cE d=>exact fun h=>h.cE
 |agg ds es hl h ih=>
  intro v hv
  obtain⟨vs,rfl,k1,k2⟩:=hv.ot
  refine .agg vs es (k1.1.trans hl) k2 (fun i v e h1 h2=>?_)
  have hlt:i<ds.length:=by rw[hl];exact(List.getElem?_eq_some_iff.1 h2).1
  exact ih i _ e (List.getElem?_eq_getElem hlt) h2 (k1.2 i v _ h1 (List.getElem?_eq_getElem hlt))
 |aD ds es hl h ih=>
  intro v hv
  obtain⟨vs,rfl,k1⟩:=hv.CH
  refine .aD vs es (k1.1.trans hl) (fun i v e h1 h2=>?_)
  have hlt:i<ds.length:=by rw[hl];exact(List.getElem?_eq_some_iff.1 h2).1
  exact ih i _ e (List.getElem?_eq_getElem hlt) h2 (k1.2 i v _ h1 (List.getElem?_eq_getElem hlt))
 |list n xs ys hl h=>
  intro v hv
  cases hv with
  |rd hv=>
   cases hv with
   |list A cap _ l _ U cj fR hm eu hlen hA h1 hU=>
    have at_:∀(i:Nat) y (j:Nat) e,ys[i]?=some y->y[j]?=some e->∃x d,xs[i]?=some x/\x[j]?=some d/\x.length=y.length/\(e=d\/(d=.nils/\∃m,e=.list m [])):=fun i y j e hy he=>by
     have hi:i<xs.length:=by rw[hl];exact(List.getElem?_eq_some_iff.1 hy).1
     obtain⟨k1,k2⟩:=h i _ y (List.getElem?_eq_getElem hi) hy
     have hj:j<(xs[i]).length:=by rw[k1];exact(List.getElem?_eq_some_iff.1 he).1
     exact⟨_,_,List.getElem?_eq_getElem hi,List.getElem?_eq_getElem hj,k1,k2 j _ e (List.getElem?_eq_getElem hj) he⟩
    refine .rd (.list A cap n l ys U (cj.trans hl) fR hm eu (fun y hy=>?_) (fun h0=>?_) (fun i y j e hy he=>?_) (fun i y j e hy he=>?_))
    ·obtain⟨i,hi⟩:=List.getElem?_of_mem hy
     have hx:i<xs.length:=by rw[hl];exact(List.getElem?_eq_some_iff.1 hi).1
     obtain⟨k1,_⟩:=h i _ y (List.getElem?_eq_getElem hx) hi
     rw[<-k1]
     exact hlen _ (List.getElem_mem hx)
    ·obtain⟨b,off,e1,e2,e3,e4⟩:=hA h0
     refine⟨b,off,e1,e2,e3,fun i y j e hy he=>?_⟩
     obtain⟨x,d,a1,a2,_,_⟩:=at_ i y j e hy he
     exact e4 i x j d a1 a2
    ·obtain⟨x,d,a1,a2,_,_⟩:=at_ i y j e hy he
     exact h1 i x j d a1 a2
    ·obtain⟨x,d,a1,a2,_,a3⟩:=at_ i y j e hy he
     exact(hU i x j d a1 a2).Xy a3
def aa (ds es:List D):Prop:=ds.length=es.length/\∀(i:Nat) d e,ds[i]?=some d->es[i]?=some e->Co d e
theorem aa.nil:aa [] []:=⟨rfl,fun i d e h=>by simp at h⟩
theorem aa.cons {d e:D} {ds es:List D} (h:Co d e) (k:aa ds es):aa (d::ds) (e::es):=by
 refine⟨by simp[k.1],fun i a b h1 h2=>?_⟩
 cases i with
 |zero=>simp at h1 h2;subst h1 h2;exact h
 |succ i=>simp at h1 h2;exact k.2 i a b h1 h2
theorem aa.refl (ds:List D):aa ds ds:=⟨rfl,fun i d e h1 h2=>by rw[h1] at h2;injection h2 with h2;subst h2;exact .refl _⟩
theorem aa.bA {ds es:List D} (h:aa ds es):Co (.agg ds) (.agg es):=.agg ds es h.1 h.2
theorem aa.fG {ds es:List D} (h:aa ds es):Co (.aD ds) (.aD es):=.aD ds es h.1 h.2
theorem aa.ok {I:Nat->Prop} {g:aX} {w:World} {ds es:List D} (h:aa ds es) {vs:List Value} (k:bR I g w vs ds):bR I g w vs es:=by
 refine⟨k.1.trans h.1,fun i v e h1 h2=>?_⟩
 have hlt:i<ds.length:=by rw[h.1];exact(List.getElem?_eq_some_iff.1 h2).1
 exact(h.2 i _ e (List.getElem?_eq_getElem hlt) h2).ok (k.2 i v _ h1 (List.getElem?_eq_getElem hlt))
def D.cM (h:List AO) (fz:List Nat):D->D
 |.row o=>bif fz.elem o then(match lh h o with
  |.row _ n xs=>bif fz.elem (o+1000) then .own n xs else .list n xs
  |_=>.row o) else .row o
 |.agg cs=>.agg (fl cs)
 |.aD cs=>.aD (fl cs)
 |d=>d
 where fl:List D->List D
 |[]=>[]
 |d::ds=>d.cM h fz::fl ds
theorem oB (h:List AO) (fz:List Nat):∀ds:List D,D.cM.fl h fz ds=ds.map (D.cM h fz)
 |[]=>rfl
 |d::ds=>by rw[D.cM.fl,oB h fz ds];rfl
theorem Vr.cM {I I':Nat->Prop} {g:aX} {w:World} {h:List AO} {fz:List Nat} (hd:Den I g w h) (hA:∀b,Old.A b->I b) (hI:∀b,I b->I' b) (hf:∀b,fI fz g h b->I' b) {v:Value} {d:D} (hv:Vr I g w v d):Vr I' g w v (d.cM h fz):=by
 have Yu:∀{v:Value} {d:D},Dr I w v d->d.cM h fz=d:=by
  intro v d mA
  have key:∀(vs:List Value) (ds:List D),vs.length=ds.length->(∀(i:Nat) v d,vs[i]?=some v->ds[i]?=some d->d.cM h fz=d)->D.cM.fl h fz ds=ds:=by
   intro vs ds hl ih
   apply List.ext_getElem?
   intro i
   rw[oB,List.getElem?_map]
   cases hd:ds[i]? with
   |none=>rfl
   |some d=>
    have hlt:i<vs.length:=by rw[hl];exact(List.getElem?_eq_some_iff.1 hd).1
    simp[ih i _ d (List.getElem?_eq_getElem hlt) hd]
  induction mA with
  |agg vs ds hl h1 h ih=>simp only[D.cM];rw[key vs ds hl ih]
  |aD vs ds hl h ih=>simp only[D.cM];rw[key vs ds hl ih]
  |_=>rfl
 induction hv with
 |rd hq=>rw[Yu hq];exact .rd (hq.mono hI)
 |any v=>exact .any v
 |ia t=>exact .ia t
 |mu=>exact .mu
 |eZ t x=>exact .eZ t x
 |ptr o off b bo hq=>exact .ptr o off b bo hq
 |fq o n i off b base l c bo h=>exact .fq o n i off b base l c bo h
 |row o bo a l c hq=>
  simp only[D.cM]
  cases D6:fz.elem o with
  |false=>exact .row o bo a l c hq
  |true=>
   simp only[cond_true]
   cases hl:lh h o with
   |row t n xs=>
    have fR:=sR hl
    obtain⟨a',c',vs,hp,hr,hb,hdv,hlen,h1⟩:=hd.obj o _ _ fR hq
    have OU:a=a'/\l=xs.length:=by injection hp with e1 e2 e3;exact⟨e1,e2⟩
    obtain⟨rfl,rfl⟩:=OU
    have mA:=Dr.Gl (I:=I') hr (hdv.mono hI) hlen h1 (fun b bQ=>hf b ⟨o,_,_,by simpa using D6,fR,hq,hb.trans bQ⟩)
    simp only
    cases fz.elem (o+1000) with
    |false=>exact .rd mA
    |true=>exact .rd (mA.Xv (fun b bQ hn=>hd.own o _ _ b fR hq (hb.trans bQ) (hA b hn)) (fun b off l c e j hj=>hr.UU e hj))
   |cells t cs=>exact .row o bo a l c hq
   |gone=>exact .row o bo a l c hq
 |agg vs ds hl h1 h ih=>
  refine .agg vs _ (by rw[oB];simpa using hl) h1 (fun i v e hv he=>?_)
  rw[oB,List.getElem?_map] at he
  cases hq:ds[i]? with
  |none=>rw[hq] at he;cases he
  |some c=>rw[hq] at he;injection he with he;subst he;exact ih i v c hv hq
 |aD vs ds hl h ih=>
  refine .aD vs _ (by rw[oB];simpa using hl) (fun i v e hv he=>?_)
  rw[oB,List.getElem?_map] at he
  cases hq:ds[i]? with
  |none=>rw[hq] at he;cases he
  |some c=>rw[hq] at he;injection he with he;subst he;exact ih i v c hv hq
 |fn f n vs ds hl h ih=>exact .fn f n vs ds hl (fun i v d h1 h2=>(h i v d h1 h2).mono hI (fun _ _ h=>h))
def AO.cM (h:List AO) (fz:List Nat):AO->AO
 |.cells t cs=>.cells t (D.cM.fl h fz cs)
 |a=>a
def qh (h:List AO) (fz:List Nat):Nat->List AO->List AO
 |_,[]=>[]
 |o,a::l=>(bif fz.elem o then .gone else a.cM h fz)::qh h fz (o+1) l
theorem MF (h:List AO) (fz:List Nat):∀(l:List AO) (k o:Nat),(qh h fz k l)[o]?=(l[o]?).map fun a=>if fz.elem (k+o) then AO.gone else a.cM h fz
 |[],k,o=>by simp[qh]
 |a::l,k,0=>by simp only[qh,Nat.add_zero];cases fz.elem k<;>rfl
 |a::l,k,o+1=>by simp[qh,MF h fz l (k+1) o,Nat.add_assoc,Nat.add_comm 1 o]
def S.cM (s:S) (fz:List Nat):S:=⟨s.t.map fun x=>(x.1,x.2.cM s.h fz),qh s.h fz 0 s.h⟩
theorem Nb (f:D->D) (hf:f .any=.any):∀(l:List (Nat×D)) (j:Nat),lk (l.map fun x=>(x.1,f x.2)) j=f (lk l j)
 |[],j=>by simp[lk,hf]
 |(i,d)::l,j=>by
  simp only[List.map_cons,lk,Nb f hf l j]
  cases Nat.beq j i<;>rfl
theorem jP.cM {C:Cx} {s:S} {a:Act} {w:World} (h:jP C s a w) (fz:List Nat):jP C (s.cM fz) a w:=by
 obtain⟨I,g,h⟩:=h
 have yR:∀{o:Nat} {ao:AO},(s.cM fz).h[o]?=some ao->ao≠.gone->∃a0,s.h[o]?=some a0/\ao=a0.cM s.h fz/\fz.elem o=false:=by
  intro o ao h1 bS
  have eD:(qh s.h fz 0 s.h)[o]?=some ao:=h1
  rw[MF] at eD
  cases hq:s.h[o]? with
  |none=>rw[hq] at eD;cases eD
  |some a0=>
   rw[hq] at eD
   simp only[Option.map_some,Nat.zero_add] at eD
   injection eD with eD
   cases D6:fz.elem o with
   |true=>rw[D6] at eD;exact absurd eD.symm bS
   |false=>rw[D6] at eD;exact⟨a0,rfl,eD.symm,rfl⟩
 have dm:∀{p:Option Nat×Value} {a0:AO} {b:Nat},(a0.cM s.h fz).owns p b->a0.owns p b:=by
  intro p a0 b hb
  cases a0<;>exact hb
 have r9:∀{p:Option Nat×Value} {ao:AO} {b:Nat},ao.owns p b->ao≠.gone:=by
  intro p ao b hb e
  subst e
  exact hb
 have hI:∀b,I b->(I b\/fI fz g s.h b):=fun b hb=>.inl hb
 refine⟨fun b=>I b\/fI fz g s.h b,g,⟨?_,fun b hb=>?_,fun o ao p h1 h2=>?_,fun o ao p b h1 h2 h3 hb=>?_,fun o o' ao bJ p p' b h1 eD h2 mD h3 jS=>?_⟩,Wd.cl h.wd (fun _ _=>rfl) (fun b hb=>.inl hb),fun j=>?_,h.sz,h.qV,h.kp,h.ext,fun b hb=>.inl (h.i1 b hb),fun b hb=>?_,fun b hb=>?_,h.gk⟩
 ·have:(qh s.h fz 0 s.h).length=s.h.length:=by
   have:∀(l:List AO) (k:Nat),(qh s.h fz k l).length=l.length:=by
    intro l
    induction l with
    |nil=>intro k;rfl
    |cons a l ih=>intro k;simp[qh,ih]
   exact this _ _
  exact h.den.len.trans this.symm
 ·rcases hb with e|e
  ·exact h.den.ay b e
  ·exact h.den.lt e.owned
 ·cases BD:ao with
  |gone=>trivial
  |cells t cs=>
   obtain⟨a0,e1,e2,e3⟩:=yR h1 (by rw[BD];simp)
   rw[<-BD,e2]
   have hr:=h.den.obj o a0 p e1 h2
   cases a0 with
   |cells t0 H9=>
    obtain⟨b,vs,rfl,hb,hv,g1⟩:=hr
    refine⟨b,vs,rfl,hb,⟨by rw[oB];simpa using hv.1,fun i v d q1 q2=>?_⟩,g1⟩
    rw[oB,List.getElem?_map] at q2
    cases hq:H9[i]? with
    |none=>rw[hq] at q2;cases q2
    |some c=>rw[hq] at q2;injection q2 with q2;subst q2;exact(hv.2 i v c q1 hq).cM h.den (fun b hb=>Wd.aI h.wd b hb) (fun _ h=>.inl h) (fun _ h=>.inr h)
   |row t0 n xs=>exact hr.mono hI (fun _ _ h=>h)
   |gone=>trivial
  |row t n xs=>
   obtain⟨a0,e1,e2,e3⟩:=yR h1 (by rw[BD];simp)
   rw[<-BD,e2]
   have hr:=h.den.obj o a0 p e1 h2
   cases a0 with
   |cells t0 H9=>rw[BD] at e2;cases e2
   |row t0 n xs=>exact hr.mono hI (fun _ _ h=>h)
   |gone=>trivial
 ·obtain⟨a0,e1,e2,e3⟩:=yR h1 (r9 h3)
  rw[e2] at h3
  rcases hb with e|⟨o',bJ,p',hm,q1,q2,q3⟩
  ·exact h.den.own o a0 p b e1 h2 (dm h3) e
  ·have:=h.den.sep o o' a0 bJ p p' b e1 q1 h2 q2 (dm h3) q3
   subst this
   have:fz.elem o=true:=by simpa using hm
   rw[this] at e3
   cases e3
 ·obtain⟨a0,e1,e2,e3⟩:=yR h1 (r9 h3)
  obtain⟨zj,uY,uZ,ZZ⟩:=yR eD (r9 jS)
  rw[e2] at h3
  rw[uZ] at jS
  exact h.den.sep o o' a0 zj p p' b e1 uY h2 mD (dm h3) (dm jS)
 ·show Vr _ g w _ (lk (s.t.map fun x=>(x.1,x.2.cM s.h fz)) j)
  rw[Nb (D.cM s.h fz) rfl]
  exact(h.tmp j).cM h.den (fun b hb=>Wd.aI h.wd b hb) (fun _ h=>.inl h) (fun _ h=>.inr h)
 ·rcases hb with e|e
  ·exact h.i2 b e
  ·right;exact h.ow b e.owned
 ·obtain⟨o,ao,p,h1,h2,h3⟩:=hb
  obtain⟨a0,e1,e2,e3⟩:=yR h1 (r9 h3)
  rw[e2] at h3
  exact h.ow b ⟨o,a0,p,e1,h2,dm h3⟩
end Go.Proofs.YtafomdobfmmleaaGreatDoor

/- Lemmas and contracts. -/
namespace Go.Proofs.YtafomdobfmmleaaGreatDoor
open Go.RowKit
set_option linter.unusedSectionVars false
variable [Wd]
set_option linter.unusedVariables false
def bf (P:Program) (f:FuncId) (az:List D) (h:List AO) (cQ:D->List AO->Prop):Prop:=
 nC P f=true/\∀(w:World) (I:Nat->Prop) (g:aX) (vs:List Value),Wd.W I w->Den I g w h->bR I g w vs az->Calls P f vs.toArray w fun e w'=>(∃v I' g' r h',e=.returned v/\cQ r h'/\Den I' g' w' h'/\Vr I' g' w' v r/\Ext (cK g h) w w'/\
  (∀b,I b->I' b)/\(∀b,I' b->I b\/cK g h b\/w.heap.size<=b)/\(∀b,cK g' h' b->cK g h b\/w.heap.size<=b)/\
  (∀(o:Nat) p t cs,g[o]?=some p->h[o]?=some (.cells t cs)->g'[o]?=some p/\∃t' fB,h'[o]?=some (.cells t' fB)))\/
  (∃ch,e=.panicked ch/\Wd.jq ch/\Ext (cK g h) w w')
def sW:Nat->List D->List (Nat×D)
 |_,[]=>[]
 |i,d::ds=>(i,d)::sW (i+1) ds
theorem MG:∀(ds:List D) (k j:Nat),lk (sW k ds) j=if k<=j then(ds[j-k]?).getD .any else .any
 |[],k,j=>by simp[sW,lk]
 |d::ds,k,j=>by
  simp only[sW,lk,MG ds (k+1) j]
  by_cases hj:j=k
  ·subst hj
   rw[Nat.beq_refl]
   simp
  ·have hb:Nat.beq j k=false:=by
    cases hb:Nat.beq j k with
    |false=>rfl
    |true=>exact absurd (Nat.eq_of_beq_eq_true hb) hj
   rw[hb]
   simp only[cond_false]
   by_cases hk:k<=j
   ·have:j-k=j-(k+1)+1:=by omega
    rw[if_pos (by omega),if_pos hk,this]
    simp
   ·rw[if_neg (by omega),if_neg hk]
def jG (tb:TT) (s:S):List ResultVar->Option (List D)
 |[]=>some []
 |.tmp t::r=>match jG tb s r with
  |some ds=>some (lk s.t t::ds)
  |none=>none
 |.cell a ty::r=>match lk s.t a with
  |.ptr o off=>match lh s.h o with
   |.cells _ cs=>match qy tb ty cs off,jG tb s r with
    |some d,some ds=>some (d::ds)
    |_,_=>none
   |_=>none
  |_=>none
def lJ:List D->D
 |[d]=>d
 |ds=>.aD ds
def Lf (tb:TT) (rs:List ResultVar) (h:List AO) (cQ:D->List AO->Prop) (e:Exit) (s:S):Prop:=
 (e=.normal\/e=.ret)/\∃(fz:List Nat) (ds:List D),jG tb (s.cM fz) rs=some ds/\∃(σ:List Nat) (r r0:D) (h':List AO),View σ (s.cM fz).h h'/\Co (lJ ds) r0/\r0=r.bG σ/\
   (∀(o:Nat) t cs,h[o]?=some (.cells t cs)->σ[o]?=some o/\∃t' fB,h'[o]?=some (.cells t' fB))/\cQ r h'
section
variable {P:Program}
def yC (tmps:Array Value):ResultVar->Sem Value
 |.tmp t=>pure (tmps.getD t undef)
 |.cell a t=>do loadVar t (<-asAddr (tmps.getD a undef))
theorem R5 (fn:Func) (tmps:Array Value):results fn tmps=(do let vs<-fn.results.mapM (yC tmps);pure (if h:vs.size=1 then vs[0] else .tuple vs)):=by
 unfold results
 congr 1
theorem FX {tb:TT} (aM:tb.ok P) {s:S} {I:Nat->Prop} {g:aX} {w:World} (hd:Den I g w s.h) {tmps:Array Value} (ht:∀j,Vr I g w (tmps.getD j undef) (lk s.t j)):
 ∀(rs:List ResultVar) (ds:List D),jG tb s rs=some ds->∃vs:List Value,(rs.mapM (yC tmps)).run P w=.ok vs w/\bR I g w vs ds
 |[],ds,h=>by
  simp only[jG] at h
  injection h with h
  subst h
  exact⟨[],rfl,.nil⟩
 |.tmp t::r,ds,h=>by
  simp only[jG] at h
  split at h
  ·rename_i IY hr
   injection h with h
   subst h
   obtain⟨vs,h1,h2⟩:=FX aM hd ht r IY hr
   refine⟨tmps.getD t undef::vs,?_,.cons (ht t) h2⟩
   rw[List.mapM_cons,Sem.run_bind]
   have r5:(yC tmps (.tmp t)).run P w=.ok (tmps.getD t undef) w:=rfl
   rw[r5]
   simp only[Result.andThen_ok,Sem.run_bind,h1,Sem.run_pure]
  ·cases h
 |.cell a ty::r,ds,h=>by
  simp only[jG] at h
  split at h
  ·rename_i o off ha
   split at h
   ·rename_i ct cs hl
    split at h
    ·rename_i d IY hp hr
     injection h with h
     subst h
     obtain⟨vs,h1,h2⟩:=FX aM hd ht r IY hr
     have hv:=ht a
     rw[ha] at hv
     obtain⟨b,bo,hg,e⟩:=hv.sG
     have fR:=Cs hl
     obtain⟨b',us,hpp,hb,k1,k2⟩:=hd.obj o _ _ fR hg
     injection hpp with tE gm
     injection gm with gm
     injection gm with gm
     injection gm with gm _ _
     subst gm
     obtain⟨v,r1,r2⟩:=B9 aM hp k1 k2 b 0
     have r3:=r2 w (fun j u hj=>by rw[Nat.zero_add,hb.cell];simpa using hj)
     rw[Nat.zero_add] at r3
     refine⟨v::vs,?_,.cons r1 h2⟩
     rw[List.mapM_cons,Sem.run_bind]
     have r4:(loadVar ty ⟨b,off,none⟩).run P w=.ok v w:=by
      simpa[Instr.loadAt,Instr.sureAddr] using r3
     have r5:(yC tmps (.cell a ty)).run P w=.ok v w:=by
      simp only[yC,e,asAddr,Sem.run_bind,Sem.run_pure,Result.andThen_ok,r4]
     rw[r5]
     simp only[Result.andThen_ok,Sem.run_bind,h1,Sem.run_pure]
    ·cases h
   ·cases h
  ·cases h
theorem R6 {tb:TT} (aM:tb.ok P) {s:S} {I:Nat->Prop} {g:aX} {w:World} (hd:Den I g w s.h) {tmps:Array Value} (ht:∀j,Vr I g w (tmps.getD j undef) (lk s.t j)) {fn:Func} {ds:List D} (h:jG tb s fn.results.toList=some ds):
 ∃v,(results fn tmps).run P w=.ok v w/\Vr I g w v (lJ ds):=by
 obtain⟨vs,h1,h2⟩:=FX aM hd ht _ _ h
 have hm:(fn.results.mapM (yC tmps)).run P w=.ok vs.toArray w:=by
  rw[Array.mapM_eq_mapM_toList,Sem.run_map,h1]
  rfl
 have hr:(results fn tmps).run P w=.ok (if h:vs.toArray.size=1 then vs.toArray[0] else .tuple vs.toArray) w:=by
  rw[R5,Sem.run_bind,hm]
  rfl
 refine⟨_,hr,?_⟩
 match ds,vs,h2 with
 |[],[],h2=>simpa[lJ] using Vr.fG h2
 |[d],[v],h2=>
  obtain⟨v',rY,e,k1,_⟩:=h2.sN
  injection e with e1 e2
  subst e1
  simpa[lJ] using k1
 |d::d'::ds,v::v'::vs,h2=>simpa[lJ] using Vr.fG h2
 |[],v::vs,h2=>have:=h2.1;simp at this
 |[d],[],h2=>have:=h2.1;simp at this
 |[d],v::v'::vs,h2=>have:=h2.1;simp at this
 |d::d'::ds,[],h2=>have:=h2.1;simp at this
 |d::d'::ds,[v],h2=>have:=h2.1;simp at this
theorem bf.Vt {f:FuncId} {fn:Func} {c:Code} {E:En} {m:Nat} {PL:List (Nat×mP)} {az:List D} {h:List AO} {cQ:D->List AO->Prop} (hf:P.funcs[f]?=some fn) (hb:fn.body=some c) (hn:fn.ntmps=E.n) (aM:E.tb.ok P) (A7:P.follows .mixedOrders=true) (qz:nC P f=true) (hm:h.length=m) (Bf:az.length<=E.n)
 (hx:(mm E m PL c ⟨sW 0 az,h⟩ .leaf).ok P (Lf E.tb fn.results.toList h cQ)):bf P f az h cQ:=by
 refine⟨qz,fun w I g vs hW hd hv=>?_⟩
 refine calls_of_wp hf hb ?_
 have cT:vs.length<=E.n:=by rw[hv.1];exact Bf
 refine UT (C:=⟨w,I,g,h,E.n,E.lo,vs.toArray++Array.replicate (fn.ntmps-vs.toArray.size) undef⟩) aM ⟨rfl,rfl⟩ hm A7 c (fun a w ch h1 h2 h3=>⟨h2,.inr ⟨ch,rfl,h1,h3⟩⟩) (fun c a w d v hq=>?_) (fun e s' a' w' hi hl=>?_) ⟨I,g,⟨hd,hW,fun j=>?_,?_,rfl,fun _ _=>rfl,Ext.refl _ _,fun _ h=>h,fun _ h=>.inl h,fun _ h=>.inl h,fun o p t cs h1 h2=>h1⟩⟩ hx
 ·simp only[bodyPost] at hq ⊢
  rw[put_defers] at hq
  exact hq
 ·obtain⟨he,fz,ds,hr,σ,r,r0,h',V,iZ,rfl,Gk,GK⟩:=hl
  obtain⟨I',g',kr⟩:=hi.cM fz
  obtain⟨v,iA,hvr⟩:=R6 aM kr.den kr.tmp hr
  have hσ:=At V kr.den.len
  have hR:bodyPost P fn (fun e w'=>(∃v I' g' r h',e=.returned v/\cQ r h'/\Den I' g' w' h'/\Vr I' g' w' v r/\Ext (cK g h) w w'/\
   (∀b,I b->I' b)/\(∀b,I' b->I b\/cK g h b\/w.heap.size<=b)/\(∀b,cK g' h' b->cK g h b\/w.heap.size<=b)/\
   (∀(o:Nat) p t cs,g[o]?=some p->h[o]?=some (.cells t cs)->g'[o]?=some p/\∃t' fB,h'[o]?=some (.cells t' fB)))\/(∃ch,e=.panicked ch/\Wd.jq ch/\Ext (cK g h) w w')) .normal a' w':=by
   refine⟨kr.qV,v,iA,.inl ⟨v,I',gv σ g',r,h',rfl,GK,kr.den.view V,(iZ.ok hvr).down hσ r rfl,kr.ext,kr.i1,kr.i2,fun b hb=>kr.ow b (cK.view V kr.den.len hb).owned,fun o p t cs h1 h2=>?_⟩⟩
   obtain⟨k1,k2⟩:=Gk o t cs h2
   exact⟨by rw[hσ o o k1];exact kr.gk o p t cs h1 h2,k2⟩
  rcases he with rfl|rfl
  ·exact hR
  ·exact hR
 ·rw[MG]
  simp only[Nat.zero_le,if_true,Nat.sub_zero]
  cases hq:az[j]? with
  |none=>exact .any _
  |some d=>
   have hlt:j<vs.length:=by rw[hv.1];exact(List.getElem?_eq_some_iff.1 hq).1
   have e:(vs.toArray++Array.replicate (fn.ntmps-vs.toArray.size) undef).getD j undef=vs[j]:=by
    rw[Array.getD_eq_getD_getElem?,Array.getElem?_append_left (by simpa using hlt)]
    simp[hlt]
   rw[e]
   exact hv.2 j _ d (List.getElem?_eq_getElem hlt) hq
 ·show(vs.toArray++Array.replicate (fn.ntmps-vs.toArray.size) undef).size=E.n
  simp
  omega
end
end Go.Proofs.YtafomdobfmmleaaGreatDoor

/- Lemmas and contracts. -/
namespace Go.Proofs.YtafomdobfmmleaaGreatDoor
open Go.RowKit
set_option linter.unusedSectionVars false
variable [Wd]
set_option linter.unusedVariables false
def nu:AO->Bool
 |.cells _ _=>true
 |_=>false
def pos:List Nat->Nat->Nat->Option Nat
 |[],_,_=>none
 |s::r,o,i=>bif Nat.beq s o then some i else pos r o (i+1)
def zk (n:Nat) (σ:List Nat) (h:List AO):Nat->List AO->List Nat
 |_,[]=>[]
 |j,_::r=>(bif nu (lh h j) then(match ln σ j with|some o=>o|none=>n+j) else n+j)::zk n σ h (j+1) r
def ve (σ σ':List Nat) (h h':List AO):Nat->List AO->List AO
 |_,[]=>[]
 |o,a::l=>(match pos σ o 0 with
  |none=>a
  |some i=>bif nu (lh h i) then(lh h' i).bG σ' else .gone)::ve σ σ' h h' (o+1) l
def vf (σ':List Nat) (h:List AO):Nat->List AO->List AO
 |_,[]=>[]
 |j,a::r=>(bif nu (lh h j) then .gone else a.bG σ')::vf σ' h (j+1) r
def mY (hb:List AO) (σ:List Nat) (h h':List AO):List Nat:=zk hb.length σ h 0 h'
def mW (hb:List AO) (σ:List Nat) (h h':List AO):List AO:=ve σ (mY hb σ h h') h h' 0 hb++vf (mY hb σ h h') h 0 h'
theorem LH:∀{σ:List Nat} {o i:Nat},pos σ o i=none->o∉σ
 |[],o,i,_=>by simp
 |s::r,o,i,h=>by
  simp only[pos] at h
  cases hb:Nat.beq s o with
  |true=>rw[hb] at h;cases h
  |false=>
   rw[hb] at h
   have:=LH (σ:=r) h
   intro hm
   rcases List.mem_cons.1 hm with rfl|hm
   ·rw[Nat.beq_refl] at hb;cases hb
   ·exact this hm
theorem Fu:∀{σ:List Nat} {o i k:Nat},pos σ o i=some k->i<=k/\σ[k-i]?=some o
 |[],o,i,k,h=>by simp[pos] at h
 |s::r,o,i,k,h=>by
  simp only[pos] at h
  cases hb:Nat.beq s o with
  |true=>
   rw[hb] at h
   injection h with h
   subst h
   exact⟨Nat.le_refl _,by simp[Nat.eq_of_beq_eq_true hb]⟩
  |false=>
   rw[hb] at h
   obtain⟨h1,h2⟩:=Fu (σ:=r) h
   refine⟨by omega,?_⟩
   rw[show k-i=k-(i+1)+1 from by omega]
   simpa using h2
theorem MH (n:Nat) (σ:List Nat) (h:List AO):∀(l:List AO) (k j:Nat),(zk n σ h k l)[j]?=(l[j]?).map fun _=>(bif nu (lh h (k+j)) then(match ln σ (k+j) with|some o=>o|none=>n+(k+j)) else n+(k+j))
 |[],k,j=>by simp[zk]
 |a::l,k,0=>by simp[zk]
 |a::l,k,j+1=>by simp[zk,MH n σ h l (k+1) j,Nat.add_assoc,Nat.add_comm 1 j]
theorem FY (σ σ':List Nat) (h h':List AO):∀(l:List AO) (k o:Nat),(ve σ σ' h h' k l)[o]?=(l[o]?).map fun a=>(match pos σ (k+o) 0 with
 |none=>a
 |some i=>bif nu (lh h i) then(lh h' i).bG σ' else .gone)
 |[],k,j=>by simp[ve]
 |a::l,k,0=>by simp[ve]
 |a::l,k,j+1=>by simp[ve,FY σ σ' h h' l (k+1) j,Nat.add_assoc,Nat.add_comm 1 j]
theorem MI (σ':List Nat) (h:List AO):∀(l:List AO) (k j:Nat),(vf σ' h k l)[j]?=(l[j]?).map fun a=>(bif nu (lh h (k+j)) then AO.gone else a.bG σ')
 |[],k,j=>by simp[vf]
 |a::l,k,0=>by simp[vf]
 |a::l,k,j+1=>by simp[vf,MI σ' h l (k+1) j,Nat.add_assoc,Nat.add_comm 1 j]
theorem CN (σ σ':List Nat) (h h':List AO):∀(l:List AO) (k:Nat),(ve σ σ' h h' k l).length=l.length
 |[],k=>rfl
 |a::l,k=>by simp[ve,CN σ σ' h h' l (k+1)]
theorem MJ (σ':List Nat) (h:List AO):∀(l:List AO) (k:Nat),(vf σ' h k l).length=l.length
 |[],k=>rfl
 |a::l,k=>by simp[vf,MJ σ' h l (k+1)]
theorem Db {h:List AO} {j:Nat} (k:nu (lh h j)=true):∃t cs,h[j]?=some (.cells t cs):=by
 cases hq:lh h j with
 |cells t cs=>exact⟨t,cs,Cs hq⟩
 |row t n xs=>rw[hq] at k;cases k
 |gone=>rw[hq] at k;cases k
section
variable {P:Program} {f:FuncId} {az:List D} {h:List AO} {cQ:D->List AO->Prop}
theorem bf.bz (hF:bf P f az h cQ) {hb:List AO} {σ:List Nat} (V:View σ hb h) {BE:List D} (hc:aa BE (D.bG.rl σ az)) {M:List Nat} (hM:∀o∈σ,o∈M):
 Bc P f BE hb M fun r h2=>∃r0 h0,cQ r0 h0/\r=r0.bG (mY hb σ h h0)/\h2=mW hb σ h h0:=by
 refine⟨hF.1,fun w I g vs hW hd hv=>?_⟩
 have hσ:=At V hd.len
 have qg:=hd.view V
 refine(hF.2 w I (gv σ g) vs hW qg ((hc.ok hv).down hσ)).mono ?_
 rintro e w' (⟨v,I',kL,r0,h0,rfl,GK,mz,oT,hx,i1,i2,ow,ck⟩|⟨ch,rfl,hp,hx⟩)
 case inr=>
  refine .inr ⟨ch,rfl,hp,hx.mono (fun x _ ho=>?_)⟩
  obtain⟨o,ao,p,m1,m2,m3,m4⟩:=cK.view V hd.len ho
  exact⟨o,ao,p,hM o m1,m2,m3,m4⟩
 left
 have zl:g.length=hb.length:=hd.len
 have O4:kL.length=h0.length:=mz.len
 have IZ:∀(j:Nat) p,kL[j]?=some p->∃o,(mY hb σ h h0)[j]?=some o/\(g++kL)[o]?=some p/\((nu (lh h j)=true/\σ[j]?=some o)\/(nu (lh h j)=false/\o=hb.length+j)):=by
  intro j p hp
  have hj:j<h0.length:=by rw[<-O4];exact(List.getElem?_eq_some_iff.1 hp).1
  have e:=MH hb.length σ h h0 0 j
  rw[List.getElem?_eq_getElem hj,Nat.zero_add] at e
  simp only[Option.map_some] at e
  cases hq:nu (lh h j) with
  |true=>
   obtain⟨t,cs,lO⟩:=Db hq
   have hlt:j<σ.length:=by rw[V.len];exact(List.getElem?_eq_some_iff.1 lO).1
   have hs:=List.getElem?_eq_getElem hlt
   refine⟨σ[j],?_,?_,.inl ⟨rfl,hs⟩⟩
   ·rw[mY,e,hq,rE,hs];rfl
   ·have e1:=hσ j _ hs
    have hg:g[σ[j]]?=some (g[σ[j]]'(by rw[zl];exact V.lt hs)):=List.getElem?_eq_getElem _
    rw[hg] at e1
    have:=(ck j _ t cs e1 lO).1
    rw[hp] at this
    injection this with this
    rw[List.getElem?_append_left (by rw[zl];exact V.lt hs),hg,this]
  |false=>
   refine⟨hb.length+j,?_,?_,.inr ⟨rfl,rfl⟩⟩
   ·rw[mY,e,hq];rfl
   ·rw[<-zl,List.getElem?_append_right (by omega)]
    simpa using hp
 have Ob:∀(j:Nat) p,kL[j]?=some p->∃o,(mY hb σ h h0)[j]?=some o/\(g++kL)[o]?=some p:=fun j p hp=>let ⟨o,a,b,_⟩:=IZ j p hp;⟨o,a,b⟩
 have aL:∀(o:Nat) ao p,(mW hb σ h h0)[o]?=some ao->(g++kL)[o]?=some p->ao≠.gone->
  (o<hb.length/\o∉σ/\hb[o]?=some ao/\g[o]?=some p)\/(∃j a0,h0[j]?=some a0/\kL[j]?=some p/\ao=a0.bG (mY hb σ h h0)/\(mY hb σ h h0)[j]?=some o/\((nu (lh h j)=true/\σ[j]?=some o)\/(nu (lh h j)=false/\o=hb.length+j))):=by
  intro o ao p h1 h2 bS
  rw[mW,List.getElem?_append,CN] at h1
  split at h1
  ·rename_i hlt
   rw[FY,Nat.zero_add] at h1
   have hg:g[o]?=some p:=by rw[List.getElem?_append_left (by omega)] at h2;exact h2
   cases nj:hb[o]? with
   |none=>rw[nj] at h1;cases h1
   |some a=>
    rw[nj] at h1
    simp only[Option.map_some] at h1
    injection h1 with h1
    cases hp:pos σ o 0 with
    |none=>
     rw[hp] at h1
     simp only at h1
     subst h1
     exact .inl ⟨hlt,LH hp,rfl,hg⟩
    |some i=>
     rw[hp] at h1
     simp only at h1
     obtain⟨_,hi⟩:=Fu hp
     rw[Nat.sub_zero] at hi
     cases hq:nu (lh h i) with
     |false=>rw[hq] at h1;exact absurd h1.symm bS
     |true=>
      rw[hq] at h1
      simp only[cond_true] at h1
      obtain⟨t,cs,lO⟩:=Db hq
      have e1:(gv σ g)[i]?=some p:=by rw[hσ i o hi];exact hg
      obtain⟨e2,t',fB,e3⟩:=ck i p t cs e1 lO
      obtain⟨o2,k1,k2,k3⟩:=IZ i p e2
      have ho:o2=o:=by
       rcases k3 with⟨_,k⟩|⟨k,_⟩
       ·rw[hi] at k;injection k with k;exact k.symm
       ·rw[hq] at k;cases k
      subst ho
      have e4:lh h0 i=.cells t' fB:=by
       rcases C9 h0 i with e|e
       ·have abI:=(List.getElem?_eq_some_iff.1 e3).1
        have:∀(l:List AO) (n:Nat) a,l[n]?=some a->lh l n=a:=by
         intro l
         induction l with
         |nil=>intro n a h;simp at h
         |cons b l ih=>
          intro n a h
          cases n with
          |zero=>simp at h;simp[lh,h]
          |succ n=>simp at h;simp[lh,ih n a h]
        exact this h0 i _ e3
       ·rw[e3] at e;injection e with e;exact e.symm
      exact .inr ⟨i,_,e3,e2,by rw[<-h1,e4],k1,k3⟩
  ·rename_i dn
   rw[MI,Nat.zero_add] at h1
   have abJ:hb.length<=o:=by omega
   cases hh:h0[o-hb.length]? with
   |none=>rw[hh] at h1;cases h1
   |some a0=>
    rw[hh] at h1
    simp only[Option.map_some] at h1
    injection h1 with h1
    cases hq:nu (lh h (o-hb.length)) with
    |true=>rw[hq] at h1;exact absurd h1.symm bS
    |false=>
     rw[hq] at h1
     simp only[cond_false] at h1
     have hg:kL[o-hb.length]?=some p:=by
      rw[List.getElem?_append_right (by omega),zl] at h2;exact h2
     obtain⟨o2,k1,k2,k3⟩:=IZ _ p hg
     have ho:o2=o:=by
      rcases k3 with⟨k,_⟩|⟨_,k⟩
      ·rw[hq] at k;cases k
      ·omega
     subst ho
     exact .inr ⟨_,a0,hh,hg,h1.symm,k1,k3⟩
 have r9:∀{p:Option Nat×Value} {ao:AO} {b:Nat},ao.owns p b->ao≠.gone:=by
  intro p ao b hb e
  subst e
  exact hb
 have hold:∀(o:Nat) ao p b,o∉σ->hb[o]?=some ao->g[o]?=some p->ao.owns p b->¬cK (gv σ g) h b/\b<w.heap.size:=by
  intro o ao p b hn h1 h2 h3
  refine⟨fun hO=>?_,hd.lt ⟨o,ao,p,h1,h2,h3⟩⟩
  obtain⟨o2,oh,p2,hm,q1,q2,q3⟩:=cK.view V hd.len hO
  have:=hd.sep o o2 ao oh p p2 b h1 q1 h2 q2 h3 q3
  subst this
  exact hn hm
 have hIn:∀b,I b->¬cK (gv σ g) h b:=by
  rintro b bQ ⟨o,ao,p,q1,q2,q3⟩
  exact qg.own o ao p b q1 q2 q3 bQ
 have I1:∀b,cK (gv σ g) h b->fI M g hb b:=by
  intro b hO
  obtain⟨o2,oh,p2,hm,q1,q2,q3⟩:=cK.view V hd.len hO
  exact⟨o2,oh,p2,hM o2 hm,q1,q2,q3⟩
 refine⟨v,I',g++kL,r0.bG (mY hb σ h h0),mW hb σ h h0,rfl,⟨r0,h0,GK,rfl,rfl⟩,⟨⟨?_,mz.ay,fun o ao p h1 h2=>?_,fun o ao p b h1 h2 h3 hI=>?_,fun o o' ao bJ p p' b h1 eD h2 mD h3 jS=>?_⟩,hx.mono (fun b _ hO=>I1 b hO),i1,fun b bQ=>(i2 b bQ).imp id (Or.imp (I1 b) id),fun o p hp=>by rw[List.getElem?_append_left (List.getElem?_eq_some_iff.1 hp).1];exact hp,fun o ho hn=>?_,fun o ao p b ho h1 h2 h3=>?_,fun o ao p b ho h1 h2 h3=>?_⟩,oT.up Ob⟩
 ·rw[mW,List.length_append,List.length_append,CN,MJ,zl,O4]
 ·by_cases bS:ao=.gone
  ·subst bS;trivial
  ·rcases aL o ao p h1 h2 bS with⟨_,hn,q1,q2⟩|⟨j,a0,q1,q2,rfl,_,_⟩
   ·exact((hd.obj o ao p q1 q2).ext hx hIn (fun b bQ=>(hold o ao p b hn q1 q2 bQ).1)).mono i1 (fun o p hp=>by rw[List.getElem?_append_left (List.getElem?_eq_some_iff.1 hp).1];exact hp)
   ·exact(mz.obj j a0 p q1 q2).up Ob
 ·rcases aL o ao p h1 h2 (r9 h3) with⟨_,hn,q1,q2⟩|⟨j,a0,q1,q2,rfl,_,_⟩
  ·obtain⟨k1,k2⟩:=hold o ao p b hn q1 q2 h3
   rcases i2 b hI with e|e|e
   ·exact hd.own o ao p b q1 q2 h3 e
   ·exact k1 e
   ·omega
  ·exact mz.own j a0 p b q1 q2 ((AO.ry _ p a0 b).1 h3) hI
 ·rcases aL o ao p h1 h2 (r9 h3) with⟨_,hn,q1,q2⟩|⟨j,a0,q1,q2,rfl,q3,_⟩<;>rcases aL o' bJ p' eD mD (r9 jS) with⟨_,j0,BF,BG⟩|⟨j',zj,BF,BG,rfl,O5,_⟩
  ·exact hd.sep o o' ao bJ p p' b q1 BF q2 BG h3 jS
  ·obtain⟨k1,k2⟩:=hold o ao p b hn q1 q2 h3
   rcases ow b ⟨j',zj,p',BF,BG,(AO.ry _ p' zj b).1 jS⟩ with e|e
   ·exact absurd e k1
   ·omega
  ·obtain⟨k1,k2⟩:=hold o' bJ p' b j0 BF BG jS
   rcases ow b ⟨j,a0,p,q1,q2,(AO.ry _ p a0 b).1 h3⟩ with e|e
   ·exact absurd e k1
   ·omega
  ·have:=mz.sep j j' a0 zj p p' b q1 BF q2 BG ((AO.ry _ p a0 b).1 h3) ((AO.ry _ p' zj b).1 jS)
   subst this
   rw[q3] at O5
   injection O5
 ·have I2:o∉σ:=fun hm=>hn (hM o hm)
  rw[mW,List.getElem?_append_left (by rw[CN];exact ho),FY,Nat.zero_add]
  cases hp:pos σ o 0 with
  |none=>simp
  |some i=>
   obtain⟨_,hi⟩:=Fu hp
   rw[Nat.sub_zero] at hi
   exact absurd (List.mem_of_getElem? hi) I2
 ·rcases aL o ao p h1 h2 (r9 h3) with⟨_,hn,q1,q2⟩|⟨j,a0,q1,q2,rfl,q3,q4⟩
  ·exact⟨ao,q1,h3⟩
  ·rcases q4 with⟨k1,k2⟩|⟨_,k⟩
   ·obtain⟨t,cs,lO⟩:=Db k1
    have e1:=V.obj j o _ k2 lO
    have hg:(gv σ g)[j]?=g[o]?:=hσ j o k2
    have HM:g[o]?=some (g[o]'(by rw[zl];exact ho)):=List.getElem?_eq_getElem _
    rw[HM] at hg
    obtain⟨e2,t',fB,e3⟩:=ck j _ t cs hg lO
    rw[q2] at e2
    injection e2 with e2
    rw[q1] at e3
    injection e3 with e3
    subst e3
    refine⟨_,e1,?_⟩
    have h4:p.1=some b:=h3
    exact h4
   ·omega
 ·rcases aL o ao p h1 h2 (r9 h3) with⟨hlt,_,_,_⟩|⟨j,a0,q1,q2,rfl,q3,q4⟩
  ·omega
  ·exact(ow b ⟨j,a0,p,q1,q2,(AO.ry _ p a0 b).1 h3⟩).imp (I1 b) id
theorem bf.pure {R:D->Prop} (hF:bf P f az [] (fun r h'=>R r/\h'=[])) (hp:gh.pl az=true) {BE:List D} (hc:aa BE az) {hb:List AO} {M:List Nat}:Bc P f BE hb M fun r h2=>R r/\h2=hb:=by
 refine⟨hF.1,fun w I g vs hW hd hv=>?_⟩
 have mz:Den I [] w []:=⟨rfl,hd.ay,fun o ao p h1=>by simp at h1,fun o ao p b h1=>by simp at h1,fun o o' ao bJ p p' b h1=>by simp at h1⟩
 refine(hF.2 w I [] vs hW mz (lS (hc.ok hv) hp).wH).mono ?_
 have fu:∀b,¬cK [] [] b:=by rintro b ⟨o,ao,p,q1,_⟩;simp at q1
 rintro e w' (⟨v,I',kL,r0,h0,rfl,⟨hR,rfl⟩,lN,oT,hx,i1,i2,ow,ck⟩|⟨ch,rfl,hp,hx⟩)
 case inr=>exact .inr ⟨ch,rfl,hp,hx.mono (fun x _ ho=>absurd ho (fu x))⟩
 left
 have hg:kL=[]:=List.eq_nil_of_length_eq_zero lN.len
 subst hg
 have jr:Ext (fun _=>False) w w':=hx.mono (fun b _ hb=>fu b hb)
 refine⟨v,I',g,r0,hb,rfl,⟨hR,rfl⟩,⟨((hd.ext jr (fun _ _=>id) (fun _ _=>id))).wk i1 lN.ay (fun b hI hO=>?_),jr.mono (fun _ _ h=>h.elim),i1,fun b hI=>(i2 b hI).imp id (Or.imp (fun h=>absurd h (fu b)) id),fun _ _ h=>h,fun _ _ _=>rfl,fun o ao p b ho h1 _ h3=>⟨ao,h1,h3⟩,fun o ao p b ho h1 _ _=>by have:=(List.getElem?_eq_some_iff.1 h1).1;omega⟩,oT.mono (fun _ h=>h) (fun o p h=>by simp at h)⟩
 have hlt:=hd.lt hO
 rcases i2 b hI with e|e|e
 ·obtain⟨o,ao,p,q1,q2,q3⟩:=hO
  exact hd.own o ao p b q1 q2 q3 e
 ·exact fu b e
 ·omega
end
end Go.Proofs.YtafomdobfmmleaaGreatDoor
