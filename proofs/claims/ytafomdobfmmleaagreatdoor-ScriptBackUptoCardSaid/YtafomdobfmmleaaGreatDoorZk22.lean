/- Lemmas and contracts, part 22. -/
import Derived.Test.YtafomdobfmmleaaGreatDoorZk21
import Derived.Lib.IndexBytes
import Derived.Deep.RegionLaw
import Derived.Deep.QuietTactic
import Derived.BigQuiet
/- Lemmas and contracts. -/
namespace Go.Proofs.YtafomdobfmmleaaGreatDoor
open Go.RowKit
set_option linter.unusedVariables false
noncomputable def yN {α:Type} (p:α->Prop):Option α:=by
 classical exact if h:∃a,p a then some (Classical.choose h) else none
theorem tT {α:Type} {p:α->Prop} {a:α} (h:yN p=some a):p a:=by
 classical
 unfold yN at h
 split at h
 ·rename_i hh
  injection h with h
  subst h
  exact Classical.choose_spec hh
 ·cases h
theorem B2 {α:Type} {p:α->Prop} (h:yN p=none):∀a,¬p a:=by
 classical
 unfold yN at h
 split at h
 ·cases h
 ·rename_i hh
  exact fun a ha=>hh ⟨a,ha⟩
noncomputable def uo (l:List UInt8):Option dX:=yN (FL l)
noncomputable def uO (l:List UInt8):Option aS:=yN (sP l)
abbrev Iy:=(dX×List aS)×Int×Int
def jH (n e:Int):Iy:=((me,[]),n,e)
noncomputable def scan:List UInt8->List UInt8->Nat->dX->List aS->Iy
 |[],cur,n,s,l=>if cur≠[]\/n=0 then(if 4096<=l.length then jH ((n:Int)+1) 3 else jH ((n:Int)+1) 270) else((s,l),0,0)
 |c::r,cur,n,s,l=>if c=10 then
   (if n=0 then(match uo cur with|none=>jH 1 270|some s'=>scan r [] 1 s' l)
    else if 4096<=l.length then jH ((n:Int)+1) 3 else match uO cur with|none=>jH ((n:Int)+1) 270|some a=>scan r [] (n+1) s (l++[a]))
  else scan r (cur++[c]) n s l
theorem Fo:∀(x t cur:List UInt8) (n:Nat) (s:dX) (l:List aS),(10:UInt8)∉x->scan (x++t) cur n s l=scan t (cur++x) n s l
 |[],t,cur,n,s,l,_=>by simp
 |c::x,t,cur,n,s,l,h=>by
  have hc:¬c=10:=fun e=>h (by rw[e];exact List.mem_cons_self)
  rw[List.cons_append,scan,if_neg hc,Fo x t _ n s l (fun k=>h (List.mem_cons_of_mem _ k))]
  simp
theorem B3 {x r:List UInt8} (n:Nat) (s:dX) (l:List aS) (h:(10:UInt8)∉x):scan (x++10::r) [] n s l=
 (if n=0 then(match uo x with|none=>jH 1 270|some s'=>scan r [] 1 s' l)
   else if 4096<=l.length then jH ((n:Int)+1) 3 else match uO x with|none=>jH ((n:Int)+1) 270|some a=>scan r [] (n+1) s (l++[a])):=by
 rw[Fo x _ _ n s l h,scan,if_pos rfl,List.nil_append]
theorem KF {x:List UInt8} (n:Nat) (s:dX) (l:List aS) (h:(10:UInt8)∉x) (h1:x≠[]\/n=0):scan x [] n s l=(if 4096<=l.length then jH ((n:Int)+1) 3 else jH ((n:Int)+1) 270):=by
 have:=Fo x [] [] n s l h
 rw[List.append_nil] at this
 rw[this,scan,List.nil_append,if_pos h1]
theorem KH (s:List UInt8):(∃x r,s=x++10::r/\(10:UInt8)∉x/\Lib.cut s [10]=(x,r,true))\/((10:UInt8)∉s/\Lib.cut s [10]=(s,[],false)):=by
 have h1:=Lib.index_one s 10
 have h0:=Lib.index_ge s [10]
 by_cases h:Lib.index s [10]=-1
 ·refine .inr ⟨fun hm=>?_,?_⟩
  ·obtain⟨k,hk⟩:=List.getElem?_of_mem hm
   exact Lib.indexByte_none (h1▸h) k hk
  ·unfold Lib.cut
   rw[if_neg (by omega)]
 ·obtain⟨o,ho⟩:∃o:Nat,Lib.index s [10]=o:=⟨(Lib.index s [10]).toNat,by omega⟩
  obtain⟨k1,k2⟩:=Lib.indexByte_some (h1▸ho)
  have hlt:=(List.getElem?_eq_some_iff.1 k1).1
  refine .inl ⟨s.take o,s.drop (o+1),?_,fun hm=>?_,?_⟩
  ·conv=>lhs;rw[<-List.take_append_drop o s]
   rw[List.drop_eq_getElem_cons hlt,(List.getElem?_eq_some_iff.1 k1).2]
  ·obtain⟨k,hk⟩:=List.getElem?_of_mem hm
   rw[List.getElem?_take] at hk
   split at hk
   ·rename_i hko;exact k2 k hko hk
   ·cases hk
  ·unfold Lib.cut
   rw[ho,if_pos (by omega)]
   rfl
end Go.Proofs.YtafomdobfmmleaaGreatDoor

/- Lemmas and contracts. -/
namespace Go.Proofs.YtafomdobfmmleaaGreatDoor
open Go.RowKit
set_option linter.unusedVariables false
def uL:D->Bool
 |.bool _=>true
 |.int _ _=>true
 |.str _=>true
 |_=>false
theorem Fk [Old] {I I':Nat->Prop} {g g':aX} {w w':World} {v:Value} {d:D} (hb:uL d=true) (h:Vr I g w v d):Vr I' g' w' v d:=by
 cases d<;>first|(cases hb;done)|skip
 all_goals
  cases h with
  |rd h=>
   cases h
   first|exact .rd (.bool _)|exact .rd (.int _ _)|exact .rd (.str _)
theorem NI [Wd] {P:Program} {Q:Exit->S->Prop} {f:FuncId} {ar cu:List D} {h:List AO} {c:D->List AO->T} {r:D} (fz:List Nat) (hF:aJ P f ar r) (hp:gh.pl ar=true) (hc:aa (D.cM.fl h fz cu) ar) (hb:uL r=true) (k:(c r h).ok P Q):(T.call f cu h c).ok P Q:=by
 refine⟨fun r' h'=>r'=r/\h'=h,⟨hF.1,fun w I g vs hW hd ha=>?_⟩,fun r' h' ⟨e1,e2⟩=>by subst e1 e2;exact k⟩
 have hv:bR (fun b=>I b\/fI fz g h b) g w vs (D.cM.fl h fz cu):=by
  rw[oB]
  refine⟨by rw[List.length_map];exact ha.1,fun i v d h1 h2=>?_⟩
  rw[List.getElem?_map] at h2
  cases hq:cu[i]? with
  |none=>rw[hq] at h2;cases h2
  |some d0=>
   rw[hq] at h2
   injection h2 with h2
   subst h2
   exact(ha.2 i v d0 h1 hq).cM hd (Wd.aI hW) (fun _ h=>.inl h) (fun _ h=>.inr h)
 have mA:=lS (hc.ok hv) hp
 have mz:Den (fun b=>I b\/fI fz g h b) [] w []:=⟨rfl,fun b hb=>hb.elim (hd.ay b) (fun ho=>hd.lt ho.owned),fun o ao p h1=>by simp at h1,fun o ao p b h1=>by simp at h1,fun o o' ao bJ p p' b h1=>by simp at h1⟩
 refine(hF.2 w _ [] vs (Wd.cl hW (fun _ _=>rfl) (fun _ h=>.inl h)) mz mA.wH).mono ?_
 have fu:∀b,¬cK [] [] b:=by rintro b ⟨o,ao,p,q1,_⟩;simp at q1
 rintro e w' (⟨v,I',kL,r0,h0,rfl,⟨rfl,rfl⟩,lN,oT,hx,i1,i2,ow,ck⟩|⟨ch,rfl,hp,hx⟩)
 case inr=>exact .inr ⟨ch,rfl,hp,hx.mono (fun x _ ho=>absurd ho (fu x))⟩
 have jr:Ext (fun _=>False) w w':=hx.mono (fun b _ hb=>fu b hb)
 exact .inl ⟨v,I,g,r0,h,rfl,⟨rfl,rfl⟩,⟨hd.ext jr (fun _ _=>id) (fun _ _=>id),jr.mono (fun _ _ h=>h.elim),fun _ h=>h,fun _ h=>.inl h,fun _ _ h=>h,fun _ _ _=>rfl,fun o ao p b ho h1 _ h3=>⟨ao,h1,h3⟩,fun o ao p b ho h1 _ _=>by have:=(List.getElem?_eq_some_iff.1 h1).1;omega⟩,Fk hb oT⟩
end Go.Proofs.YtafomdobfmmleaaGreatDoor

/- Lemmas and contracts. -/
namespace Go.Proofs.YtafomdobfmmleaaGreatDoor
open Go.RowKit
set_option linter.unusedVariables false
theorem W7 [Wd] {P:Program} {Q:Exit->S->Prop} {f:FuncId} {ar cu:List D} {h:List AO} {t:TypeId} {cs ds:List D} {c:D->List AO->T} {R:D->Prop} (fz:List Nat) (p:Nat) (ho:h[p]?=some (.cells t cs)) (hz:fz.elem p=false) (qg:aa (D.cM.fl h fz cs) ds) (hp:gh.pl ds=true) (hF:bf P f ar [.cells t ds] (fun r h'=>R r)) (hc:aa cu (D.bG.rl [p] ar)) (hM:(kg h cu).elem p=true) (hb:∀r,R r->uL r=true) (k:∀r,R r->(c r (h.set p .gone)).ok P Q):(T.call f cu h c).ok P Q:=by
 have Bg:p∈kg h cu:=by simpa using hM
 have uX:p∉fz:=by simpa using hz
 refine⟨fun r' h'=>R r'/\h'=h.set p .gone,⟨hF.1,fun w I g vs hW hd ha=>?_⟩,fun r' h' ⟨e1,e2⟩=>by subst e2;exact k r' e1⟩
 have lM:p<h.length:=(List.getElem?_eq_some_iff.1 ho).1
 obtain⟨q,hg⟩:∃q,g[p]?=some q:=⟨_,List.getElem?_eq_getElem (by rw[hd.len];exact lM)⟩
 obtain⟨b,us,Hx,AQ,jd,h1⟩:=hd.obj p _ _ ho hg
 have Hy:∀x,I x->(I x\/fI fz g h x):=fun _ h=>.inl h
 have hA:∀b,Old.A b->I b:=Wd.aI hW
 have wG:bR (fun x=>I x\/fI fz g h x) g w us ds:=qg.ok (by
  rw[oB]
  refine⟨by rw[List.length_map];exact jd.1,fun i v d h1 h2=>?_⟩
  rw[List.getElem?_map] at h2
  cases hq:cs[i]? with
  |none=>rw[hq] at h2;cases h2
  |some d0=>
   rw[hq] at h2
   injection h2 with h2
   subst h2
   exact(jd.2 i v d0 h1 hq).cM hd hA Hy (fun _ h=>.inr h))
 have DQ:AO.owns q (.cells t cs) b:=by rw[Hx];rfl
 have On:¬(I b\/fI fz g h b):=by
  rintro(e|⟨o',bJ,p',hm,q1,q2,q3⟩)
  ·exact hd.own p _ _ b ho hg DQ e
  ·have:=hd.sep p o' _ bJ _ p' b ho q1 hg q2 DQ q3
   subst this
   exact uX hm
 have hσ:∀(i o:Nat),[p][i]?=some o->[q][i]?=g[o]?:=by
  intro i o e
  cases i with
  |zero=>simp at e;subst e;simp[hg]
  |succ i=>simp at e
 have dm:∀x,cK [q] [.cells t ds] x->x=b:=by
  rintro x ⟨o,ao,q',e1,e2,e3⟩
  cases o with
  |succ o=>simp at e1
  |zero=>
   simp at e1 e2
   subst e1 e2
   rw[Hx] at e3
   injection e3 with e3
   exact e3.symm
 have Hv:Den (fun x=>I x\/fI fz g h x) [q] w [.cells t ds]:=by
  refine⟨rfl,fun x hx=>hx.elim (hd.ay x) (fun e=>hd.lt e.owned),fun o ao q' e1 e2=>?_,fun o ao q' x e1 e2 e3 hx=>?_,fun o o' ao bJ q q' x e1 uY e2 uZ e3 ZZ=>?_⟩
  ·cases o with
   |succ o=>simp at e1
   |zero=>
    simp at e1 e2
    subst e1 e2
    exact⟨b,us,Hx,AQ,(lS wG hp).wH,h1⟩
  ·have:=dm x ⟨o,ao,q',e1,e2,e3⟩
   subst this
   exact On hx
  ·cases o with
   |succ o=>simp at e1
   |zero=>cases o' with
    |succ o=>simp at uY
    |zero=>rfl
 have Z0:bR (fun x=>I x\/fI fz g h x) [q] w vs ar:=(hc.ok (ha.mono Hy (fun _ _ h=>h))).down hσ
 refine(hF.2 w _ [q] vs (Wd.cl hW (fun _ _=>rfl) Hy) Hv Z0).mono ?_
 have tv:∀x,x=b->fI (kg h cu) g h x:=by rintro x rfl;exact⟨p,_,_,Bg,ho,hg,DQ⟩
 rintro e w' (⟨v,I',kL,r0,h0,rfl,hR,lN,oT,hx,i1,i2,ow,ck⟩|⟨ch,rfl,hp,hx⟩)
 case inr=>exact .inr ⟨ch,rfl,hp,hx.mono (fun x _ ho=>tv x (dm x ho))⟩
 have jr:Ext (fun x=>x=b) w w':=hx.mono (fun x _ ho=>dm x ho)
 have key:∀{i:Nat} {ao:AO},(h.set p .gone)[i]?=some ao->(h[i]?=some ao/\i≠p)\/ao=.gone:=by
  intro i ao hi
  rw[List.getElem?_set] at hi
  split at hi
  ·injection hi with e
   exact .inr e.symm
  ·rename_i bS
   exact .inl ⟨hi,fun e=>bS e.symm⟩
 have wI:∀x,cK g (h.set p .gone) x->¬x=b:=by
  rintro x ⟨o,ao,q',e1,e2,e3⟩ rfl
  rcases key e1 with⟨k1,k2⟩|rfl
  ·exact k2 (hd.sep o p _ _ _ _ x k1 ho e2 hg e3 DQ)
  ·exact e3.elim
 refine .inl ⟨v,I,g,r0,h.set p .gone,rfl,⟨hR,rfl⟩,⟨(hd.drop p).ext jr (fun x hI (e:x=b)=>On (.inl (by rw[<-e];exact hI))) wI,jr.mono (fun x _ (e:x=b)=>tv x e),fun _ h=>h,fun _ h=>.inl h,fun _ _ h=>h,fun o _ hn=>?_,fun o ao q' x _ e1 e2 e3=>?_,fun o ao q' x hl e1 _ _=>?_⟩,Fk (hb _ hR) oT⟩
 ·rw[List.getElem?_set,if_neg (fun (e:p=o)=>hn (by rw[<-e];exact Bg))]
 ·rcases key e1 with⟨k1,_⟩|rfl
  ·exact⟨ao,k1,e3⟩
  ·exact e3.elim
 ·have:=(List.getElem?_eq_some_iff.1 e1).1
  rw[List.length_set] at this
  omega
end Go.Proofs.YtafomdobfmmleaaGreatDoor

/- Lemmas and contracts. -/
namespace Go.Proofs.YtafomdobfmmleaaGreatDoor
open Go.RowKit
set_option linter.unusedVariables false
set_option maxRecDepth 20000
theorem oS {n:Int} (h0:0<=n) (h1:n<=255):IntKind.u8.wrap n=n:=by
 simp[IntKind.wrap,IntKind.bits,IntKind.signed]
 omega
end Go.Proofs.YtafomdobfmmleaaGreatDoor

/- Lemmas and contracts. -/
namespace Go.Proofs.YtafomdobfmmleaaGreatDoor
open Go.RowKit Go.Deep
set_option linter.unusedVariables false
theorem JN:∀r:List UInt8,r.length%2=1->mN r=none
 |[],h=>by simp at h
 |[_],_=>rfl
 |x::y::r,h=>by
  simp only[List.length_cons] at h
  simp only[mN]
  rw[JN r (by omega)]
  split<;>rfl
theorem DP (h l:Nat) (hh:h<16) (hl:l<16):bits BinOp.or IntKind.u8 ((h:Int)*16) (l:Int)=((16*h+l:Nat):Int):=by
 have h':∀x:Fin 16,∀y:Fin 16,bits BinOp.or IntKind.u8 ((x.val:Int)*16) (y.val:Int)=((16*x.val+y.val:Nat):Int):=by decide+kernel
 exact h' ⟨h,hh⟩ ⟨l,hl⟩
theorem RF {r:List UInt8} {q:Nat} {a b:UInt8} (ha:r[2*q]?=some a) (hb:r[2*q+1]?=some b):r.drop (2*q)=a::b::r.drop (2*(q+1)):=by
 obtain⟨h1,h2⟩:=List.getElem?_eq_some_iff.1 ha
 obtain⟨h3,h4⟩:=List.getElem?_eq_some_iff.1 hb
 rw[List.drop_eq_getElem_cons h1,h2,List.drop_eq_getElem_cons h3,h4]
 rfl
end Go.Proofs.YtafomdobfmmleaaGreatDoor

/- Lemmas and contracts. -/
namespace Go.Proofs.YtafomdobfmmleaaGreatDoor
open Go.RowKit
set_option linter.unusedVariables false
set_option maxRecDepth 20000
theorem SH (c:Nat):(48<=c/\c<=57/\aY c=c-48)\/(97<=c/\c<=102/\aY c=c-87)\/(¬(48<=c/\c<=57)/\¬(97<=c/\c<=102)/\aY c=16):=by
 unfold aY
 split
 ·rename_i h;exact .inl ⟨h.1,h.2,rfl⟩
 ·rename_i h
  split
  ·rename_i k;exact .inr (.inl ⟨k.1,k.2,rfl⟩)
  ·rename_i k;exact .inr (.inr ⟨h,k,rfl⟩)
theorem jh [Wd] (c:UInt8):aJ Tryz.prog 40 [.int .u8 (c.toNat:Int)] (.int .u8 (aY c.toNat:Int)):=by
 have hc:=c.toNat_lt
 have hd:=SH c.toNat
 generalize aY c.toNat=d at*
 generalize c.toNat=x at*
 have hx:(x<48)\/(48<=x/\x<=57)\/(57<x/\x<97)\/(97<=x/\x<=102)\/102<x:=by omega
 rcases hx with hx|hx|hx|hx|hx
 all_goals
  have Hv:(d:Int)=if(48<=x/\x<=57) then(x:Int)-48 else if(97<=x/\x<=102) then(x:Int)-97+10 else 16:=by split<;>(try split)<;>omega
  refine aF 22 [] Tryz.func40 rfl (by kernel_rfl) ?_
  repeat' (conv=>arg 2;whnf);first|(exfalso;simp at h;omega)|refine ah ?_|refine aj ?_|refine aG (fun h=>?_) (fun h=>?_)|refine aP (oS (by omega) (by omega)) ?_|(refine F3 (.inr rfl) rfl ?_;rw[Hv];(first|rw[if_pos (by omega)]|rw[if_neg (by omega),if_pos (by omega)]|rw[if_neg (by omega),if_neg (by omega)]);done)
end Go.Proofs.YtafomdobfmmleaaGreatDoor

/- Lemmas and contracts. -/
namespace Go.Proofs.YtafomdobfmmleaaGreatDoor
open Go.RowKit
set_option linter.unusedVariables false
set_option maxRecDepth 20000
def uT (s:List UInt8):D:=match ff s with
 |some bs=>.aD [.list 1 (bs.map aE),.bool true]
 |none=>.aD [.nils,.bool false]
def mU (r:List UInt8) (q:Nat) (out:List UInt8):Prop:=2*q<=r.length/\out.length=q/\mN r=(mN (r.drop (2*q))).map (out++·)
theorem mU.zero (r:List UInt8):mU r 0 []:=⟨by omega,rfl,by simp⟩
theorem La {r:List UInt8} {q:Nat} {a b:UInt8} (ha:r[2*q]?=some a) (hb:r[2*q+1]?=some b):r.drop (2*q)=a::b::r.drop (2*(q+1)):=RF ha hb
theorem mU.next {r:List UInt8} {q:Nat} {out:List UInt8} {a b:UInt8} (h:mU r q out) (ha:r[2*q]?=some a) (hb:r[2*q+1]?=some b) (h1:aY a.toNat<16) (h2:aY b.toNat<16):mU r (q+1) (out++[UInt8.ofNat (16*aY a.toNat+aY b.toNat)]):=by
 have hl:=(List.getElem?_eq_some_iff.1 hb).1
 refine⟨by omega,by simp[h.2.1],?_⟩
 rw[h.2.2,La ha hb]
 simp only[mN]
 rw[if_pos ⟨h1,h2⟩,Option.map_map]
 congr 1
 funext l
 simp
theorem mU.bad {r:List UInt8} {q:Nat} {out:List UInt8} {a b:UInt8} (h:mU r q out) (ha:r[2*q]?=some a) (hb:r[2*q+1]?=some b) (h1:¬(aY a.toNat<16/\aY b.toNat<16)):mN r=none:=by
 rw[h.2.2,La ha hb]
 simp only[mN]
 rw[if_neg h1]
 rfl
theorem mU.fin {r:List UInt8} {q:Nat} {out:List UInt8} (h:mU r q out) (hq:r.length<=2*q):mN r=some out:=by
 rw[h.2.2,List.drop_of_length_le hq]
 simp[mN]
theorem Ks {s bs:List UInt8} (h:ff s=some bs):uT s=.aD [.list 1 (bs.map aE),.bool true]:=by unfold uT;rw[h]
theorem zB {s:List UInt8} (h:ff s=none):uT s=.aD [.nils,.bool false]:=by unfold uT;rw[h]
theorem Lb {s:List UInt8} (h:s.length%2=0):ff s=none:=by
 cases s with
 |nil=>rfl
 |cons x r=>
  simp only[ff]
  split
  ·exact JN r (by simp at h;omega)
  ·rfl
theorem VZ (d:D):Co (.aD [.nils,d]) (.aD [.list 1 [],d]):=.aD _ _ rfl (fun i a b h1 h2=>by
 match i with
 |0=>simp at h1 h2;subst h1 h2;exact .nil 1
 |1=>simp at h1 h2;subst h1 h2;exact .refl _
 |i+2=>simp at h1)
theorem Jn [Wd] (s:List UInt8) (hl:s.length<=4194304) (he:s.length%2=0):aJ Tryz.prog 12 [.str s] (.aD [.nils,.bool false]):=by
 have hr:((s.length:Int).tmod 2)=0:=by rw[Int.tmod_eq_emod_of_nonneg (by omega)];omega
 refine mq false 46 [(7,⟨[(0,false),(1,false),(2,false),(4,false),(5,false),(6,false),(7,false),(3,true),(8,true),(9,false),(10,false)],[]⟩)] Tryz.func12 rfl (by kernel_rfl) ?_
 repeat' (conv=>arg 2;whnf);first|refine ah ?_|refine aj ?_|refine af (by decide) ?_|refine af (by kernel_rfl) ?_|(exfalso;simp[hr] at h;done)|(exfalso;simp at h;omega)|exact bq (.inr rfl) rfl (.refl _) rfl|refine aG (fun h=>?_) (fun h=>?_)
theorem Jo [Wd] (s:List UInt8) (x:UInt8) (hl:s.length<=4194304) (he:s.length%2=1) (hx:s[0]?=some x) (NO:x≠120):aJ Tryz.prog 12 [.str s] (.aD [.nils,.bool false]):=by
 have hr:((s.length:Int).tmod 2)=1:=by rw[Int.tmod_eq_emod_of_nonneg (by omega)];omega
 have ZU:¬(x.toNat=120):=fun e=>NO (UInt8.toNat_inj.1 (by rw[e];rfl))
 refine mq false 46 [(7,⟨[(0,false),(1,false),(2,false),(4,false),(5,false),(6,false),(7,false),(3,true),(8,true),(9,false),(10,false)],[]⟩)] Tryz.func12 rfl (by kernel_rfl) ?_
 repeat' (conv=>arg 2;whnf);first|refine ah ?_|refine aj ?_|refine af (by decide) ?_|refine af (by kernel_rfl) ?_|refine gS x (by omega) (by simpa using hx) ?_|(exfalso;simp[hr] at h;done)|(exfalso;simp[hr] at h;exact ZU (by omega))|(exfalso;simp[hr] at h;exact NO h)|exact bq (.inr rfl) rfl (.refl _) rfl|refine aG (fun h=>?_) (fun h=>?_)
theorem Qy [Wd] (r:List UInt8) (hl:(120::r).length<=4194304) (he:r.length%2=0):aJ Tryz.prog 12 [.str (120::r)] (uT (120::r)):=by
 have hlen:(120::r).length=r.length+1:=rfl
 have hr:(((120::r:List UInt8).length:Int).tmod 2)=1:=by rw[Int.tmod_eq_emod_of_nonneg (by omega)];omega
 refine mq false 46 [(7,⟨[(0,false),(1,false),(2,false),(4,false),(5,false),(6,false),(7,false),(3,true),(8,true),(9,false),(10,false)],[]⟩)] Tryz.func12 rfl (by kernel_rfl) ?_
 repeat' (conv=>arg 2;whnf);first|refine ah ?_|refine aj ?_|refine af (by decide) ?_|refine af (by kernel_rfl) ?_|refine gS 120 (by omega) rfl ?_|(exfalso;rw[hr] at h;revert h;decide)|(exfalso;revert h;decide)|refine aG (fun h=>?_) (fun h=>?_)
 ·refine cD (α:=Nat×List UInt8) (fun a=>match a.2 with
   |[]=>⟨[(5,.int .i64 ((1+2*a.1:Nat):Int)),(4,.nils),(3,.bool false),(2,.nils),(0,.str (120::r))],[]⟩
   |x::k=>⟨[(5,.int .i64 ((1+2*a.1:Nat):Int)),(4,.row 0),(3,.bool false),(2,.nils),(0,.str (120::r))],[.row 5 1 ((x::k).map aE)]⟩) (fun a=>mU r a.1 a.2) (fun a=>r.length-a.1) (0,[]) (mU.zero r) (Sv.mk' [] rfl trivial ⟨rfl,rfl,rfl,rfl,rfl,trivial⟩) ?_
  rintro⟨q,out⟩ hJ
  replace hJ:mU r q out:=hJ
  have ho:=hJ.2.1
  have hq:=hJ.1
  cases out with
  |nil=>
   rcases Nat.lt_or_ge (2*q) r.length with hlt|dn
   ·obtain⟨a,ha⟩:∃a,r[2*q]?=some a:=⟨_,List.getElem?_eq_getElem hlt⟩
    obtain⟨b,hb⟩:∃b,r[2*q+1]?=some b:=⟨_,List.getElem?_eq_getElem (by omega)⟩
    have sa:(120::r)[1+2*q]?=some a:=by rw[Nat.add_comm];exact ha
    have sb:(120::r)[1+2*q+1]?=some b:=by rw[show 1+2*q+1=(2*q+1)+1 by omega];exact hb
    have Bf:=a.toNat_lt
    have tj:=b.toNat_lt
    by_cases g:aY a.toNat<16/\aY b.toNat<16
    ·have HA:=jh a
     have HB:=jh b
     have hN:=hJ.next ha hb g.1 g.2
     have hv:((UInt8.ofNat (16*aY a.toNat+aY b.toNat)).toNat:Int)=16*(aY a.toNat:Int)+(aY b.toNat:Int):=by rw[UInt8.toNat_ofNat'];omega
     have qC:IntKind.u8.wrap ((aY a.toNat:Int)*16)=(aY a.toNat:Int)*16:=oS (by omega) (by omega)
     have wE:aE (UInt8.ofNat (16*aY a.toNat+aY b.toNat))=[.int .u8 (bits BinOp.or IntKind.u8 (IntKind.u8.wrap ((aY a.toNat:Int)*2^min (Int.toNat 4) IntKind.u8.bits)) (aY b.toNat:Int))]:=by unfold aE;rw[hv,show(2:Int)^min (Int.toNat 4) IntKind.u8.bits=16 from by decide,qC,DP _ _ g.1 g.2];rfl
     repeat' (conv=>arg 2;whnf);first|(exfalso;simp at h;omega)|refine af (by kernel_rfl) ?_|refine aA ?_ ?_|refine ah ?_|refine aj ?_|refine gS a (Int.natCast_nonneg _) sa ?_|refine gS b (by(try dsimp only);omega) sb ?_|refine ak HA rfl (aa.refl _) ?_|refine ak HB rfl (aa.refl _) ?_|refine aP (aZ (by(try dsimp only);omega) (by(try dsimp only);omega)) ?_|refine aP (oS (by(try dsimp only);omega) (by(try dsimp only);omega)) ?_|refine aP (show IntKind.u8.wrap (IntKind.u8.wrap ((aY a.toNat:Int)*16)+(aY b.toNat:Int))=_ by rw[qC];exact oS (by omega) (by omega)) ?_|refine af (by constructor<;>(simp only[List.length_cons,List.length_nil,maxLen] at ho ⊢;omega)) ?_|refine aG (fun h=>?_) (fun h=>?_)|refine bV (q+1,[UInt8.ofNat (16*aY a.toNat+aY b.toNat)]) (Sv.mk' [1] rfl ⟨⟨rfl,by show AO.row _ 1 ([]++[[D.int .u8 (bits BinOp.or IntKind.u8 (IntKind.u8.wrap ((aY a.toNat:Int)*2^min (Int.toNat 4) IntKind.u8.bits)) (aY b.toNat:Int))]])=AO.row _ 1 (List.map aE [UInt8.ofNat (16*aY a.toNat+aY b.toNat)]);rw[List.map_cons,wE];rfl⟩,trivial⟩ ⟨(by show D.int _ _=D.int _ _;exact congrArg (D.int _) (by(try dsimp only);omega)),rfl,rfl,rfl,rfl,trivial⟩) hN (by show r.length-(q+1)<r.length-q;omega)|fail
    ·have hN:=hJ.bad ha hb g
     rw[zB (show ff (120::r)=none by simp only[ff,if_true];exact hN)]
     rcases(show ¬aY a.toNat<16\/(aY a.toNat<16/\¬aY b.toNat<16) by omega) with g1|g1
     ·skip
      have HA:=jh a
      have HB:=jh b
      repeat' (conv=>arg 2;whnf);first|(exfalso;simp at h;omega)|refine af (by kernel_rfl) ?_|refine aA ?_ ?_|refine ah ?_|refine aj ?_|refine gS a (Int.natCast_nonneg _) sa ?_|refine gS b (by(try dsimp only);omega) sb ?_|refine ak HA rfl (aa.refl _) ?_|refine ak HB rfl (aa.refl _) ?_|refine aP (aZ (by(try dsimp only);omega) (by(try dsimp only);omega)) ?_|refine fF ?_|exact bq (.inr rfl) rfl (.refl _) rfl|refine aG (fun h=>?_) (fun h=>?_)|fail
     ·skip
      have HA:=jh a
      have HB:=jh b
      repeat' (conv=>arg 2;whnf);first|(exfalso;simp at h;omega)|refine af (by kernel_rfl) ?_|refine aA ?_ ?_|refine ah ?_|refine aj ?_|refine gS a (Int.natCast_nonneg _) sa ?_|refine gS b (by(try dsimp only);omega) sb ?_|refine ak HA rfl (aa.refl _) ?_|refine ak HB rfl (aa.refl _) ?_|refine aP (aZ (by(try dsimp only);omega) (by(try dsimp only);omega)) ?_|refine fF ?_|exact bq (.inr rfl) rfl (.refl _) rfl|refine aG (fun h=>?_) (fun h=>?_)|fail
   ·have hN:=hJ.fin dn
    rw[Ks (show ff (120::r)=some [] by simp only[ff,if_true];exact hN)]
    repeat' (conv=>arg 2;whnf);first|(exfalso;simp at h;omega)|refine ah ?_|refine aj ?_|refine bD ?_|exact bq (.inr rfl) rfl (VZ _) rfl|refine aG (fun h=>?_) (fun h=>?_)|fail
  |cons z out=>
   rcases Nat.lt_or_ge (2*q) r.length with hlt|dn
   ·obtain⟨a,ha⟩:∃a,r[2*q]?=some a:=⟨_,List.getElem?_eq_getElem hlt⟩
    obtain⟨b,hb⟩:∃b,r[2*q+1]?=some b:=⟨_,List.getElem?_eq_getElem (by omega)⟩
    have sa:(120::r)[1+2*q]?=some a:=by rw[Nat.add_comm];exact ha
    have sb:(120::r)[1+2*q+1]?=some b:=by rw[show 1+2*q+1=(2*q+1)+1 by omega];exact hb
    have Bf:=a.toNat_lt
    have tj:=b.toNat_lt
    by_cases g:aY a.toNat<16/\aY b.toNat<16
    ·have HA:=jh a
     have HB:=jh b
     have hN:=hJ.next ha hb g.1 g.2
     have hv:((UInt8.ofNat (16*aY a.toNat+aY b.toNat)).toNat:Int)=16*(aY a.toNat:Int)+(aY b.toNat:Int):=by rw[UInt8.toNat_ofNat'];omega
     have qC:IntKind.u8.wrap ((aY a.toNat:Int)*16)=(aY a.toNat:Int)*16:=oS (by omega) (by omega)
     have wE:aE (UInt8.ofNat (16*aY a.toNat+aY b.toNat))=[.int .u8 (bits BinOp.or IntKind.u8 (IntKind.u8.wrap ((aY a.toNat:Int)*2^min (Int.toNat 4) IntKind.u8.bits)) (aY b.toNat:Int))]:=by unfold aE;rw[hv,show(2:Int)^min (Int.toNat 4) IntKind.u8.bits=16 from by decide,qC,DP _ _ g.1 g.2];rfl
     repeat' (conv=>arg 2;whnf);first|(exfalso;simp at h;omega)|refine af (by kernel_rfl) ?_|refine aA ?_ ?_|refine ah ?_|refine aj ?_|refine gS a (Int.natCast_nonneg _) sa ?_|refine gS b (by(try dsimp only);omega) sb ?_|refine ak HA rfl (aa.refl _) ?_|refine ak HB rfl (aa.refl _) ?_|refine aP (aZ (by(try dsimp only);omega) (by(try dsimp only);omega)) ?_|refine aP (oS (by(try dsimp only);omega) (by(try dsimp only);omega)) ?_|refine aP (show IntKind.u8.wrap (IntKind.u8.wrap ((aY a.toNat:Int)*16)+(aY b.toNat:Int))=_ by rw[qC];exact oS (by omega) (by omega)) ?_|refine af (by constructor<;>(simp only[List.length_cons,List.length_nil,List.length_map,maxLen] at ho ⊢;omega)) ?_|refine aG (fun h=>?_) (fun h=>?_)|refine bV (q+1,(z::out)++[UInt8.ofNat (16*aY a.toNat+aY b.toNat)]) (Sv.mk' [2] rfl ⟨⟨rfl,by show AO.row _ 1 ((z::out).map aE++[[D.int .u8 (bits BinOp.or IntKind.u8 (IntKind.u8.wrap ((aY a.toNat:Int)*2^min (Int.toNat 4) IntKind.u8.bits)) (aY b.toNat:Int))]])=AO.row _ 1 (List.map aE ((z::out)++[UInt8.ofNat (16*aY a.toNat+aY b.toNat)]));simp only[List.map_append,List.map_cons,List.map_nil,wE]⟩,trivial⟩ ⟨(by show D.int _ _=D.int _ _;exact congrArg (D.int _) (by(try dsimp only);omega)),rfl,rfl,rfl,rfl,trivial⟩) hN (by show r.length-(q+1)<r.length-q;omega)|fail
    ·have hN:=hJ.bad ha hb g
     rw[zB (show ff (120::r)=none by simp only[ff,if_true];exact hN)]
     rcases(show ¬aY a.toNat<16\/(aY a.toNat<16/\¬aY b.toNat<16) by omega) with g1|g1
     ·skip
      have HA:=jh a
      have HB:=jh b
      repeat' (conv=>arg 2;whnf);first|(exfalso;simp at h;omega)|refine af (by kernel_rfl) ?_|refine aA ?_ ?_|refine ah ?_|refine aj ?_|refine gS a (Int.natCast_nonneg _) sa ?_|refine gS b (by(try dsimp only);omega) sb ?_|refine ak HA rfl (aa.refl _) ?_|refine ak HB rfl (aa.refl _) ?_|refine aP (aZ (by(try dsimp only);omega) (by(try dsimp only);omega)) ?_|refine fF ?_|exact bq (.inr rfl) rfl (.refl _) rfl|refine aG (fun h=>?_) (fun h=>?_)|fail
     ·skip
      have HA:=jh a
      have HB:=jh b
      repeat' (conv=>arg 2;whnf);first|(exfalso;simp at h;omega)|refine af (by kernel_rfl) ?_|refine aA ?_ ?_|refine ah ?_|refine aj ?_|refine gS a (Int.natCast_nonneg _) sa ?_|refine gS b (by(try dsimp only);omega) sb ?_|refine ak HA rfl (aa.refl _) ?_|refine ak HB rfl (aa.refl _) ?_|refine aP (aZ (by(try dsimp only);omega) (by(try dsimp only);omega)) ?_|refine fF ?_|exact bq (.inr rfl) rfl (.refl _) rfl|refine aG (fun h=>?_) (fun h=>?_)|fail
   ·have hN:=hJ.fin dn
    rw[Ks (show ff (120::r)=some (z::out) by simp only[ff,if_true];exact hN)]
    repeat' (conv=>arg 2;whnf);first|(exfalso;simp at h;omega)|refine ah ?_|refine aj ?_|refine bD ?_|exact jo [0] (.inr rfl) rfl (.refl _) rfl|refine aG (fun h=>?_) (fun h=>?_)|fail
end Go.Proofs.YtafomdobfmmleaaGreatDoor

/- Lemmas and contracts. -/
namespace Go.Proofs.YtafomdobfmmleaaGreatDoor
open Go.RowKit
set_option linter.unusedVariables false
set_option maxRecDepth 20000
theorem Q0 [Wd] (s:List UInt8) (hl:s.length<=4194304):aJ Tryz.prog 12 [.str s] (uT s):=by
 by_cases he:s.length%2=0
 ·rw[zB (Lb he)]
  exact Jn s hl he
 ·match s,he with
  |x::r,he=>
   by_cases h:x=120
   ·subst h
    exact Qy r hl (by simp at he;omega)
   ·rw[zB (by simp only[ff];rw[if_neg h])]
    exact Jo _ x hl (by omega) rfl h
theorem Mb (x:UInt8):(0:Int)<=(x.toNat:Int).fdiv (2^min (Int.toNat 4) IntKind.u8.bits)/\digits[((x.toNat:Int).fdiv (2^min (Int.toNat 4) IntKind.u8.bits)).toNat]?=some (kj (x.toNat/16)):=by
 have hx:=x.toNat_lt
 rw[show(2:Int)^min (Int.toNat 4) IntKind.u8.bits=16 from by decide,Int.fdiv_eq_ediv_of_nonneg _ (by decide)]
 have e:((x.toNat:Int)/16).toNat=x.toNat/16:=by omega
 rw[e]
 exact⟨by omega,Kj _ (by omega)⟩
theorem Mc (x:UInt8):(0:Int)<=bits BinOp.and IntKind.u8 (x.toNat:Int) 15/\digits[(bits BinOp.and IntKind.u8 (x.toNat:Int) 15).toNat]?=some (kj (x.toNat%16)):=by
 have hx:=x.toNat_lt
 rw[XU _ hx]
 exact⟨by omega,Kj _ (by omega)⟩
theorem Ao [Wd] (b:List UInt8) (hl:b.length<=50000000):aJ Tryz.prog 14 [.list 1 (b.map aE)] (.str (fN b)):=by
 refine mq false 25 [(5,⟨[(0,false),(1,false),(2,false),(3,false),(4,false),(5,false),(6,false),(7,true),(8,true),(9,false)],[0]⟩)] Tryz.func14 rfl (by kernel_rfl) ?_
 repeat' (conv=>arg 2;whnf);first|refine af (by kernel_rfl) ?_
 refine cD (α:=Nat×List (List D)) (fun a=>⟨[(9,.int .i64 a.1),(8,.int .i64 (b.map aE).length),(7,.list 1 (b.map aE)),(3,.row 0),(2,.str []),(0,.list 1 (b.map aE))],[.row 5 1 a.2]⟩) (fun a=>a.1<=b.length/\a.2=(rP (b.take a.1)).map aE) (fun a=>b.length-a.1) (0,[[.int .u8 120]]) ⟨Nat.zero_le _,rfl⟩ (Sv.mk' [0] rfl ⟨⟨rfl,rfl⟩,trivial⟩ ⟨rfl,rfl,rfl,rfl,rfl,rfl,trivial⟩) ?_
 rintro⟨q,xs⟩ ⟨hq,he⟩
 replace hq:q<=b.length:=hq
 replace he:xs=(rP (b.take q)).map aE:=he
 have qM:xs.length<=100000001:=by
  have:=Am (b.take q)
  have:(b.take q).length<=q:=by rw[List.length_take];omega
  rw[he,List.length_map]
  omega
 repeat' (conv=>arg 2;whnf);first|refine af (by decide) ?_|refine af ⟨(by simp[maxLen];omega),(by simp;omega)⟩ ?_|refine af (by kernel_rfl) ?_|refine aA ?_ ?_|refine ah ?_|refine aj ?_|refine aG (fun h=>?_) (fun h=>?_)|refine cV (l:=b) (by simp at h;omega) (fun x hx=>?_)|refine gS _ (Mb x).1 (Mb x).2 ?_|refine gS _ (Mc x).1 (Mc x).2 ?_|refine aP (aZ (by simp at h hq;omega) (by simp at h hq;omega)) ?_|refine bV (q+1,xs++[[.int .u8 ((kj (x.toNat/16)).toNat:Int)],[.int .u8 ((kj (x.toNat%16)).toNat:Int)]]) (Sv.mk' [2] rfl ⟨⟨rfl,rfl⟩,trivial⟩ ⟨rfl,rfl,rfl,rfl,rfl,rfl,trivial⟩) ⟨by have:=(List.getElem?_eq_some_iff.1 hx).1;show q+1<=b.length;omega,by show xs++_=_;rw[VM hx,he]⟩ (by have:=(List.getElem?_eq_some_iff.1 hx).1;show b.length-(q+1)<b.length-q;omega)|refine bD ?_|refine kO (fN b) (by rw[he,show b.take q=b from List.take_of_length_le (by simp at h;omega)];rfl) ?_|refine af (YN hl) ?_|refine bq (.inr rfl) rfl (.refl _) rfl
end Go.Proofs.YtafomdobfmmleaaGreatDoor

/- Lemmas and contracts. -/
namespace Go.Proofs.YtafomdobfmmleaaGreatDoor
open Go.RowKit
set_option linter.unusedVariables false
set_option maxRecDepth 20000
def uU (s:List UInt8):D->List AO->Prop:=fun r h=>match ff s with
 |none=>r=.aD [.nils,.bool false]/\h=[]
 |some []=>r=.aD [.nils,.bool true]/\h=[]
 |some (x::k)=>r=.aD [.row 0,.bool true]/\h=[.row 5 1 ((x::k).map aE)]
theorem zE {s:List UInt8} (h:ff s=none):uU s=fun r h=>r=.aD [.nils,.bool false]/\h=[]:=by unfold uU;rw[h]
theorem Ld {s:List UInt8} (h:ff s=some []):uU s=fun r h=>r=.aD [.nils,.bool true]/\h=[]:=by unfold uU;rw[h]
theorem Kv {s:List UInt8} {x:UInt8} {k:List UInt8} (h:ff s=some (x::k)):uU s=fun r h=>r=.aD [.row 0,.bool true]/\h=[.row 5 1 ((x::k).map aE)]:=by unfold uU;rw[h]
theorem P9 [Wd] (r:List UInt8) (hl:(120::r).length<=4194304) (he:r.length%2=0):bf Tryz.prog 12 [.str (120::r)] [] (uU (120::r)):=by
 have hlen:(120::r).length=r.length+1:=rfl
 have hr:(((120::r:List UInt8).length:Int).tmod 2)=1:=by rw[Int.tmod_eq_emod_of_nonneg (by omega)];omega
 refine mq false 46 [(7,⟨[(0,false),(1,false),(2,false),(4,false),(5,false),(6,false),(7,false),(3,true),(8,true),(9,false),(10,false)],[]⟩)] Tryz.func12 rfl (by kernel_rfl) ?_
 repeat' (conv=>arg 2;whnf);first|refine ah ?_|refine aj ?_|refine af (by decide) ?_|refine af (by kernel_rfl) ?_|refine gS 120 (by omega) rfl ?_|(exfalso;rw[hr] at h;revert h;decide)|(exfalso;revert h;decide)|refine aG (fun h=>?_) (fun h=>?_)
 ·refine cD (α:=Nat×List UInt8) (fun a=>match a.2 with
   |[]=>⟨[(5,.int .i64 ((1+2*a.1:Nat):Int)),(4,.nils),(3,.bool false),(2,.nils),(0,.str (120::r))],[]⟩
   |x::k=>⟨[(5,.int .i64 ((1+2*a.1:Nat):Int)),(4,.row 0),(3,.bool false),(2,.nils),(0,.str (120::r))],[.row 5 1 ((x::k).map aE)]⟩) (fun a=>mU r a.1 a.2) (fun a=>r.length-a.1) (0,[]) (mU.zero r) (Sv.mk' [] rfl trivial ⟨rfl,rfl,rfl,rfl,rfl,trivial⟩) ?_
  rintro⟨q,out⟩ hJ
  replace hJ:mU r q out:=hJ
  have ho:=hJ.2.1
  have hq:=hJ.1
  cases out with
  |nil=>
   rcases Nat.lt_or_ge (2*q) r.length with hlt|dn
   ·obtain⟨a,ha⟩:∃a,r[2*q]?=some a:=⟨_,List.getElem?_eq_getElem hlt⟩
    obtain⟨b,hb⟩:∃b,r[2*q+1]?=some b:=⟨_,List.getElem?_eq_getElem (by omega)⟩
    have sa:(120::r)[1+2*q]?=some a:=by rw[Nat.add_comm];exact ha
    have sb:(120::r)[1+2*q+1]?=some b:=by rw[show 1+2*q+1=(2*q+1)+1 by omega];exact hb
    have Bf:=a.toNat_lt
    have tj:=b.toNat_lt
    by_cases g:aY a.toNat<16/\aY b.toNat<16
    ·have HA:=jh a
     have HB:=jh b
     have hN:=hJ.next ha hb g.1 g.2
     have hv:((UInt8.ofNat (16*aY a.toNat+aY b.toNat)).toNat:Int)=16*(aY a.toNat:Int)+(aY b.toNat:Int):=by rw[UInt8.toNat_ofNat'];omega
     have qC:IntKind.u8.wrap ((aY a.toNat:Int)*16)=(aY a.toNat:Int)*16:=oS (by omega) (by omega)
     have wE:aE (UInt8.ofNat (16*aY a.toNat+aY b.toNat))=[.int .u8 (bits BinOp.or IntKind.u8 (IntKind.u8.wrap ((aY a.toNat:Int)*2^min (Int.toNat 4) IntKind.u8.bits)) (aY b.toNat:Int))]:=by unfold aE;rw[hv,show(2:Int)^min (Int.toNat 4) IntKind.u8.bits=16 from by decide,qC,DP _ _ g.1 g.2];rfl
     repeat' (conv=>arg 2;whnf);first|(exfalso;simp at h;omega)|refine af (by kernel_rfl) ?_|refine aA ?_ ?_|refine ah ?_|refine aj ?_|refine gS a (Int.natCast_nonneg _) sa ?_|refine gS b (by(try dsimp only);omega) sb ?_|refine ak HA rfl (aa.refl _) ?_|refine ak HB rfl (aa.refl _) ?_|refine aP (aZ (by(try dsimp only);omega) (by(try dsimp only);omega)) ?_|refine aP (oS (by(try dsimp only);omega) (by(try dsimp only);omega)) ?_|refine aP (show IntKind.u8.wrap (IntKind.u8.wrap ((aY a.toNat:Int)*16)+(aY b.toNat:Int))=_ by rw[qC];exact oS (by omega) (by omega)) ?_|refine af (by constructor<;>(simp only[List.length_cons,List.length_nil,maxLen] at ho ⊢;omega)) ?_|refine aG (fun h=>?_) (fun h=>?_)|refine bV (q+1,[UInt8.ofNat (16*aY a.toNat+aY b.toNat)]) (Sv.mk' [1] rfl ⟨⟨rfl,by show AO.row _ 1 ([]++[[D.int .u8 (bits BinOp.or IntKind.u8 (IntKind.u8.wrap ((aY a.toNat:Int)*2^min (Int.toNat 4) IntKind.u8.bits)) (aY b.toNat:Int))]])=AO.row _ 1 (List.map aE [UInt8.ofNat (16*aY a.toNat+aY b.toNat)]);rw[List.map_cons,wE];rfl⟩,trivial⟩ ⟨(by show D.int _ _=D.int _ _;exact congrArg (D.int _) (by(try dsimp only);omega)),rfl,rfl,rfl,rfl,trivial⟩) hN (by show r.length-(q+1)<r.length-q;omega)|fail
    ·have hN:=hJ.bad ha hb g
     rw[zE (show ff (120::r)=none by simp only[ff,if_true];exact hN)]
     rcases(show ¬aY a.toNat<16\/(aY a.toNat<16/\¬aY b.toNat<16) by omega) with g1|g1
     ·skip
      have HA:=jh a
      have HB:=jh b
      repeat' (conv=>arg 2;whnf);first|(exfalso;simp at h;omega)|refine af (by kernel_rfl) ?_|refine aA ?_ ?_|refine ah ?_|refine aj ?_|refine gS a (Int.natCast_nonneg _) sa ?_|refine gS b (by(try dsimp only);omega) sb ?_|refine ak HA rfl (aa.refl _) ?_|refine ak HB rfl (aa.refl _) ?_|refine aP (aZ (by(try dsimp only);omega) (by(try dsimp only);omega)) ?_|refine fF ?_|exact bq (.inr rfl) rfl (.refl _) rfl|refine aG (fun h=>?_) (fun h=>?_)|fail
     ·skip
      have HA:=jh a
      have HB:=jh b
      repeat' (conv=>arg 2;whnf);first|(exfalso;simp at h;omega)|refine af (by kernel_rfl) ?_|refine aA ?_ ?_|refine ah ?_|refine aj ?_|refine gS a (Int.natCast_nonneg _) sa ?_|refine gS b (by(try dsimp only);omega) sb ?_|refine ak HA rfl (aa.refl _) ?_|refine ak HB rfl (aa.refl _) ?_|refine aP (aZ (by(try dsimp only);omega) (by(try dsimp only);omega)) ?_|refine fF ?_|exact bq (.inr rfl) rfl (.refl _) rfl|refine aG (fun h=>?_) (fun h=>?_)|fail
   ·have hN:=hJ.fin dn
    rw[Ld (show ff (120::r)=some [] by simp only[ff,if_true];exact hN)]
    repeat' (conv=>arg 2;whnf);first|(exfalso;simp at h;omega)|refine ah ?_|refine aj ?_|refine bD ?_|exact bq (.inr rfl) rfl (.refl _) rfl|refine aG (fun h=>?_) (fun h=>?_)|fail
  |cons z out=>
   rcases Nat.lt_or_ge (2*q) r.length with hlt|dn
   ·obtain⟨a,ha⟩:∃a,r[2*q]?=some a:=⟨_,List.getElem?_eq_getElem hlt⟩
    obtain⟨b,hb⟩:∃b,r[2*q+1]?=some b:=⟨_,List.getElem?_eq_getElem (by omega)⟩
    have sa:(120::r)[1+2*q]?=some a:=by rw[Nat.add_comm];exact ha
    have sb:(120::r)[1+2*q+1]?=some b:=by rw[show 1+2*q+1=(2*q+1)+1 by omega];exact hb
    have Bf:=a.toNat_lt
    have tj:=b.toNat_lt
    by_cases g:aY a.toNat<16/\aY b.toNat<16
    ·have HA:=jh a
     have HB:=jh b
     have hN:=hJ.next ha hb g.1 g.2
     have hv:((UInt8.ofNat (16*aY a.toNat+aY b.toNat)).toNat:Int)=16*(aY a.toNat:Int)+(aY b.toNat:Int):=by rw[UInt8.toNat_ofNat'];omega
     have qC:IntKind.u8.wrap ((aY a.toNat:Int)*16)=(aY a.toNat:Int)*16:=oS (by omega) (by omega)
     have wE:aE (UInt8.ofNat (16*aY a.toNat+aY b.toNat))=[.int .u8 (bits BinOp.or IntKind.u8 (IntKind.u8.wrap ((aY a.toNat:Int)*2^min (Int.toNat 4) IntKind.u8.bits)) (aY b.toNat:Int))]:=by unfold aE;rw[hv,show(2:Int)^min (Int.toNat 4) IntKind.u8.bits=16 from by decide,qC,DP _ _ g.1 g.2];rfl
     repeat' (conv=>arg 2;whnf);first|(exfalso;simp at h;omega)|refine af (by kernel_rfl) ?_|refine aA ?_ ?_|refine ah ?_|refine aj ?_|refine gS a (Int.natCast_nonneg _) sa ?_|refine gS b (by(try dsimp only);omega) sb ?_|refine ak HA rfl (aa.refl _) ?_|refine ak HB rfl (aa.refl _) ?_|refine aP (aZ (by(try dsimp only);omega) (by(try dsimp only);omega)) ?_|refine aP (oS (by(try dsimp only);omega) (by(try dsimp only);omega)) ?_|refine aP (show IntKind.u8.wrap (IntKind.u8.wrap ((aY a.toNat:Int)*16)+(aY b.toNat:Int))=_ by rw[qC];exact oS (by omega) (by omega)) ?_|refine af (by constructor<;>(simp only[List.length_cons,List.length_nil,List.length_map,maxLen] at ho ⊢;omega)) ?_|refine aG (fun h=>?_) (fun h=>?_)|refine bV (q+1,(z::out)++[UInt8.ofNat (16*aY a.toNat+aY b.toNat)]) (Sv.mk' [2] rfl ⟨⟨rfl,by show AO.row _ 1 ((z::out).map aE++[[D.int .u8 (bits BinOp.or IntKind.u8 (IntKind.u8.wrap ((aY a.toNat:Int)*2^min (Int.toNat 4) IntKind.u8.bits)) (aY b.toNat:Int))]])=AO.row _ 1 (List.map aE ((z::out)++[UInt8.ofNat (16*aY a.toNat+aY b.toNat)]));simp only[List.map_append,List.map_cons,List.map_nil,wE]⟩,trivial⟩ ⟨(by show D.int _ _=D.int _ _;exact congrArg (D.int _) (by(try dsimp only);omega)),rfl,rfl,rfl,rfl,trivial⟩) hN (by show r.length-(q+1)<r.length-q;omega)|fail
    ·have hN:=hJ.bad ha hb g
     rw[zE (show ff (120::r)=none by simp only[ff,if_true];exact hN)]
     rcases(show ¬aY a.toNat<16\/(aY a.toNat<16/\¬aY b.toNat<16) by omega) with g1|g1
     ·skip
      have HA:=jh a
      have HB:=jh b
      repeat' (conv=>arg 2;whnf);first|(exfalso;simp at h;omega)|refine af (by kernel_rfl) ?_|refine aA ?_ ?_|refine ah ?_|refine aj ?_|refine gS a (Int.natCast_nonneg _) sa ?_|refine gS b (by(try dsimp only);omega) sb ?_|refine ak HA rfl (aa.refl _) ?_|refine ak HB rfl (aa.refl _) ?_|refine aP (aZ (by(try dsimp only);omega) (by(try dsimp only);omega)) ?_|refine fF ?_|exact bq (.inr rfl) rfl (.refl _) rfl|refine aG (fun h=>?_) (fun h=>?_)|fail
     ·skip
      have HA:=jh a
      have HB:=jh b
      repeat' (conv=>arg 2;whnf);first|(exfalso;simp at h;omega)|refine af (by kernel_rfl) ?_|refine aA ?_ ?_|refine ah ?_|refine aj ?_|refine gS a (Int.natCast_nonneg _) sa ?_|refine gS b (by(try dsimp only);omega) sb ?_|refine ak HA rfl (aa.refl _) ?_|refine ak HB rfl (aa.refl _) ?_|refine aP (aZ (by(try dsimp only);omega) (by(try dsimp only);omega)) ?_|refine fF ?_|exact bq (.inr rfl) rfl (.refl _) rfl|refine aG (fun h=>?_) (fun h=>?_)|fail
   ·have hN:=hJ.fin dn
    rw[Kv (show ff (120::r)=some (z::out) by simp only[ff,if_true];exact hN)]
    repeat' (conv=>arg 2;whnf);first|(exfalso;simp at h;omega)|refine ah ?_|refine aj ?_|refine bD ?_|exact mL (r:=.aD [.row 0,.bool true]) (h':=[.row 5 1 ((z::out).map aE)]) [0] (.inr rfl) rfl rfl ⟨⟨rfl,rfl⟩,trivial⟩ trivial (.refl _)|refine aG (fun h=>?_) (fun h=>?_)|fail
theorem QB [Wd] (s:List UInt8) (hl:s.length<=4194304):bf Tryz.prog 12 [.str s] [] (uU s):=by
 by_cases he:s.length%2=0
 ·rw[zE (Lb he)]
  exact Jn s hl he
 ·match s,he with
  |x::r,he=>
   by_cases h:x=120
   ·subst h
    exact P9 r hl (by simp at he;omega)
   ·rw[zE (by simp only[ff];rw[if_neg h])]
    exact Jo _ x hl (by omega) rfl h
abbrev yI [Wd] {α:Type} (f:FuncId) (p:j3 α) (R:α->D):Prop:=∀ws,jI ws->(p ws=none->Wd.jq ou)->bf Tryz.prog f [.ptr 0 0] (ez ws) (fun r h=>∃x rest,p ws=some (x,rest)/\r=R x/\h=ez rest)
theorem jy [Wd] (b:Bool) (hp:b=false->Wd.jq ou):bf Tryz.prog 35 [.bool b] [] (fun r h=>(b=true/\r=.aD [])/\h=[]):=by
 cases b
 ·exact vQ (hp rfl) false
 ·refine⟨xM.1,fun w I g vs hW hd ha=>(xM.2 w I g vs hW hd ha).mono ?_⟩
  rintro e w' (⟨v,I',g',r,h',e1,⟨e2,e3⟩,k⟩|k)
  ·exact .inl ⟨v,I',g',r,h',e1,⟨⟨rfl,e2⟩,e3⟩,k⟩
  ·exact .inr k
theorem Ge [Wd]:yI 36 (pU some) D.str:=by
 intro ws hw hp
 cases ws with
 |nil=>
  refine aF 26 [] Tryz.func36 rfl (by kernel_rfl) ?_
  repeat' (conv=>arg 2;whnf);first|(refine gW (vQ (hp rfl) _) rfl (aa.refl _) ?_;rintro r ⟨hr,rfl⟩)|(exfalso;simp[cW] at hr;done)
 |cons s rest=>
  have h:=Ga s rest (by have:=hw.1;simp at this;omega)
  refine⟨h.1,fun w I g vs hW hd ha=>(h.2 w I g vs hW hd ha).mono ?_⟩
  rintro e w' (⟨v,I',g',r,h',e1,⟨e2,e3⟩,k⟩|k)
  ·exact .inl ⟨v,I',g',r,h',e1,⟨s,rest,rfl,e2,e3⟩,k⟩
  ·exact .inr k
theorem jI.one {α:Type} {p:List UInt8->Option α} {ws r:List (List UInt8)} {x:α} (h:jI ws) (e:pU p ws=some (x,r)):jI r:=by
 cases ws with
 |nil=>cases e
 |cons s r'=>
  simp only[pU,Option.map_eq_some_iff] at e
  obtain⟨y,_,e⟩:=e
  injection e with _ e2
  subst e2
  exact h.tail
end Go.Proofs.YtafomdobfmmleaaGreatDoor

/- Lemmas and contracts. -/
namespace Go.Proofs.YtafomdobfmmleaaGreatDoor
open Go.RowKit
set_option linter.unusedVariables false
set_option maxRecDepth 20000
theorem ue (a:aS):ey.ok a=(dI.ok a.kind/\dI.ok a.aL/\dI.ok a.num/\jc.ok a.op/\dY.ok a.bytes/\cr.ok a.msg/\dB.ok a.fL):=rfl
theorem xL:jc.ok bU:=by
 simp[jc,dM,dP,dI,dS,dY,dL,bU]
theorem yh:dY.ok []:=by simp[dY]
theorem GO {n:Int} (h:-9223372036854775808<=n/\n<=9223372036854775807):dI.ok n:=h
theorem Fe {m:aN} (hm:cr.ok m):(cH m).key<=9223372036854775807/\(cH m).an<=9223372036854775807:=by
 have hs:∀s:bH,jC.ok s->s.key<=9223372036854775807/\s.an<=9223372036854775807:=fun s h=>⟨h.1.2,h.2.2⟩
 rw[vH] at hm
 obtain⟨h1,h2,h3,h4,h5,h6,h7,h8,h9,jQ,gP,oM,pZ,p4,p6,lK,p7⟩:=hm
 unfold cH
 split
 ·split
  ·rename_i c hc
   have h:=gP.2 c (by rw[hc];simp)
   rw[w7] at h
   exact hs _ h.2.2.2.2
  ·exact hs _ p7
 ·exact hs _ p7
theorem CU (b:List UInt8):(fN b).length<=1+2*b.length:=Am b
end Go.Proofs.YtafomdobfmmleaaGreatDoor

/- Lemmas and contracts. -/
namespace Go.Proofs.YtafomdobfmmleaaGreatDoor
open Go.RowKit
set_option linter.unusedVariables false
set_option maxRecDepth 20000
open Classical in
noncomputable def Ay (a:aS):D:=if gR a then .aD [.str (eP a),.int .i64 0] else .aD [.str [],.int .i64 1]
theorem CB {a:aS} (h:gR a):Ay a=.aD [.str (eP a),.int .i64 0]:=by unfold Ay;rw[if_pos h]
theorem FJ {a:aS} (h:¬gR a):Ay a=.aD [.str [],.int .i64 1]:=by unfold Ay;rw[if_neg h]
end Go.Proofs.YtafomdobfmmleaaGreatDoor

/- Lemmas and contracts. -/
namespace Go.Proofs.YtafomdobfmmleaaGreatDoor
open Go.RowKit
set_option linter.unusedVariables false
set_option maxRecDepth 20000
theorem tO [Wd]:fP 227 (.agg [.ptr 0 0]) [] (fun s=>.int .i64 (nR 12 s).1) (fun s=>(nR 12 s).2):=by
 intro s hs
 have h1:=ug 12 s
 refine aF 7 [] Tryz.func227 rfl (by kernel_rfl) ?_
 repeat' (conv=>arg 2;whnf);first|refine af (by kernel_rfl) ?_|refine aA ?_ ?_|refine ah ?_|refine aj ?_|refine aP (aZ (by omega) (by omega)) ?_|refine aC 0 s (bL 12 s).2 (.int .u64 ((bL 12 s).1:Int)) (fD 12) hs rfl rfl ⟨⟨rfl,rfl⟩,trivial⟩ (aa.refl _) rfl ?_|refine bE (d:=.int .i64 ((bL 12 s).1:Int)) (.inr rfl) rfl ⟨⟨rfl,rfl⟩,trivial⟩ rfl (.refl _) rfl rfl
theorem Kc [Wd]:fP 229 (.agg [.ptr 0 0]) [] (fun s=>.int .i64 (nR 7 s).1) (fun s=>(nR 7 s).2):=by
 intro s hs
 have h1:=ug 7 s
 refine aF 7 [] Tryz.func229 rfl (by kernel_rfl) ?_
 repeat' (conv=>arg 2;whnf);first|refine af (by kernel_rfl) ?_|refine aA ?_ ?_|refine ah ?_|refine aj ?_|refine aP (aZ (by omega) (by omega)) ?_|refine aC 0 s (bL 7 s).2 (.int .u64 ((bL 7 s).1:Int)) (fD 7) hs rfl rfl ⟨⟨rfl,rfl⟩,trivial⟩ (aa.refl _) rfl ?_|refine bE (d:=.int .i64 ((bL 7 s).1:Int)) (.inr rfl) rfl ⟨⟨rfl,rfl⟩,trivial⟩ rfl (.refl _) rfl rfl
theorem Cd.zm {α:Type} {p:RS->α×RS} {ok:α->Prop} {b:α->List UInt8} (h:Cd p ok b) {s:RS} {x:α} {b1:List UInt8} {e1:Int} (q:p s=(x,(b1,e1))) (he:e1=0):ok x:=by
 have e2:=h.toRd1.ok (s:=s) (by rw[q];exact he)
 rw[e2] at q
 have h1:=(h.back s.1 (by rw[q];exact he)).1
 rw[q] at h1
 exact h1
theorem tX [Wd] (o:bF) (h:jc.ok o):aJ Tryz.prog 107 [.agg (cI o)] (.int .i64 (cw o)):=aJ.ZC wm h (fun _ _=>.int _ _) (by kernel_rfl) rfl uM
theorem q8 [Wd]:fP 172 (.ptr 0 0) [.int .i64 64] (fun s=>.list 1 ((fU 64 s).1.map aE)) (fun s=>(fU 64 s).2):=BX 64 (by decide)
theorem nO {aq:Nat} {s:RS} {n:Int} {r:RS} (h:nR aq s=(n,r)):0<=n/\n<=aq:=by
 have h1:=ug aq s
 have h2:((bL aq s).1:Int)=n:=congrArg Prod.fst h
 omega
theorem vD {aq:Nat} {s:RS} {x:List UInt8} {r:RS} (h:fU aq s=(x,r)):x.length<=aq:=by
 obtain⟨y,b,e,hy,_,h2⟩:=QY aq s
 rw[h] at hy
 cases hy
 exact h2
theorem dJ [Wd] {P:Program} {Q:Exit->S->Prop} {b:Bool} {t f:T} (hb:b=true) (h:t.ok P Q):(T.br b t f).ok P Q:=by subst hb;exact ah h
theorem bI [Wd] {P:Program} {Q:Exit->S->Prop} {b:Bool} {t f:T} (hb:b=false) (h:f.ok P Q):(T.br b t f).ok P Q:=by subst hb;exact aj h
theorem pT [Wd] {P:Program} {Q:Exit->S->Prop} {e:Int} {t f:T} (h1:e=0->t.ok P Q) (h2:¬e=0->f.ok P Q):(T.br (e==0) t f).ok P Q:=⟨fun h=>h1 (by simpa using h),fun h=>h2 (by simpa using h)⟩
theorem oF [Wd] {P:Program} {Q:Exit->S->Prop} {e:Int} {t f:T} (h1:¬e=0->t.ok P Q) (h2:e=0->f.ok P Q):(T.br (e !=0) t f).ok P Q:=⟨fun h=>h1 (by simpa using h),fun h=>h2 (by simpa using h)⟩
theorem U6 (k:Int) {b:List UInt8}:eX k (b,0)=(b,k):=rfl
theorem sD (k:Int) {b:List UInt8} {e:Int} (h:¬e=0):eX k (b,e)=(b,e):=if_neg h
theorem U7 [Wd] (b:List UInt8) (e:Int) (hs:b.length<=8388609) {b0:List UInt8} {e0:Int} (q:nR 4 (b,e)=(0,(b0,e0))) (h0:b0.length<=8388609):bf Tryz.prog 119 [.ptr 0 0] (dz (b,e)) (fun r h=>r=.agg (cI (dw (b,e)).1)/\h=dz (dw (b,e)).2):=by
 have eB:nI 0 (b0,e0)=(⟨0,[],[],0,[]⟩,(b0,e0)):=by unfold nI;simp[pR]
 obtain⟨o,ho⟩:∃o:bF,o=⟨0,[],[],0,[]⟩:=⟨_,rfl⟩
 obtain⟨ef,iC⟩:∃ef:Int,eX (cw o) (b0,e0)=(b0,ef):=⟨(eX (cw o) (b0,e0)).2,Prod.ext (sy _ _) rfl⟩
 have eR:dw (b,e)=if ef=0 then(o,(b0,ef)) else(bU,(b0,ef)):=by
  unfold dw iV gd bg bZ
  simp only[q,eB,<-ho,iC]
 have mC:e0=0->jc.ok o:=fun he=>by
  rw[ho]
  exact yc ((xd 0 (by decide)).zm eB he) (by decide)
 have fu:¬e0=0->ef=e0:=fun he=>by
  have:=iC
  rw[sD _ he] at this
  exact(congrArg (fun r:RS=>r.2) this).symm
 have gY:ef=0->dw (b,e)=(o,(b0,ef)):=fun h=>by rw[eR,if_pos h]
 have gN:¬ef=0->dw (b,e)=(bU,(b0,ef)):=fun h=>by rw[eR,if_neg h]
 have gE:¬e0=0->dw (b,e)=(bU,(b0,e0)):=fun h=>by rw[eR,fu h,if_neg h]
 refine aF 59 [] Tryz.func119 rfl (by kernel_rfl) ?_
 repeat' (conv=>arg 2;whnf);first|refine af (by kernel_rfl) ?_|refine aA ?_ ?_|refine ah ?_|refine aj ?_|refine dJ (by decide) ?_|refine bI (by decide) ?_|refine pT (fun h=>?_) (fun hz=>?_)|refine oF (fun h=>?_) (fun h=>?_)|refine aC 0 (b,e) (b0,e0) (.int .u64 0) (fD 4) hs (congrArg Prod.snd q).symm (congrArg (fun r:Int×RS=>D.int .u64 r.1) q).symm ⟨⟨rfl,rfl⟩,trivial⟩ (aa.refl _) rfl ?_|refine aP (aZ (by decide) (by decide)) ?_|refine aP (aZ (by omega) (by omega)) ?_|refine kO _ rfl ?_|refine af (by omega) ?_|refine aC 0 (b0,e0) (b0,e0) (.int .i64 e0) dh h0 rfl rfl ⟨⟨rfl,rfl⟩,trivial⟩ (aa.refl _) rfl ?_|refine ak (tX o (mC h)) rfl (aa.cons (by rw[ho];exact aa.bA (aa.cons (.refl _) (aa.cons (.refl _) (aa.cons (.refl _) (aa.cons (.refl _) (aa.cons (.nil _) .nil)))))) .nil) ?_|refine aC 0 (b0,e0) (b0,ef) (.aD []) (j6 (cw o)) h0 iC.symm rfl ⟨⟨rfl,rfl⟩,trivial⟩ (aa.refl _) rfl ?_|refine aC 0 (b0,ef) (b0,ef) (.int .i64 ef) dh h0 rfl rfl ⟨⟨rfl,rfl⟩,trivial⟩ (aa.refl _) rfl ?_|refine bE (x:=b0) (y:=ef) (d:=.agg (cI o)) (.inr rfl) rfl ⟨⟨rfl,rfl⟩,trivial⟩ rfl (by rw[ho];exact aa.bA (aa.cons (.refl _) (aa.cons (.refl _) (aa.cons (.refl _) (aa.cons (.refl _) (aa.cons (.nil _) .nil)))))) (congrArg Prod.snd (gY h)).symm (congrArg (fun r:bF×RS=>D.agg (cI r.1)) (gY h)).symm|refine bE (x:=b0) (y:=ef) (d:=.agg (cI bU)) (.inr rfl) rfl ⟨⟨rfl,rfl⟩,trivial⟩ rfl (aa.bA (aa.cons (.refl _) (aa.cons (.refl _) (aa.cons (.refl _) (aa.cons (.refl _) (aa.cons (.nil _) .nil)))))) (congrArg Prod.snd (gN h)).symm (congrArg (fun r:bF×RS=>D.agg (cI r.1)) (gN h)).symm|refine bE (x:=b0) (y:=e0) (d:=.agg (cI bU)) (.inr rfl) rfl ⟨⟨rfl,rfl⟩,trivial⟩ rfl (aa.bA (aa.cons (.refl _) (aa.cons (.refl _) (aa.cons (.refl _) (aa.cons (.refl _) (aa.cons (.nil _) .nil)))))) (congrArg Prod.snd (gE h)).symm (congrArg (fun r:bF×RS=>D.agg (cI r.1)) (gE h)).symm|exact absurd h hz|fail
theorem U8 [Wd] (b:List UInt8) (e:Int) (hs:b.length<=8388609) {b0:List UInt8} {e0:Int} (q:nR 4 (b,e)=(1,(b0,e0))) (h0:b0.length<=8388609):bf Tryz.prog 119 [.ptr 0 0] (dz (b,e)) (fun r h=>r=.agg (cI (dw (b,e)).1)/\h=dz (dw (b,e)).2):=by
 obtain⟨t,b1,e1,q1,l1⟩:=Rd1.get (ju 64) (b0,e0)
 replace l1:b1.length<=b0.length:=l1
 have h1:b1.length<=8388609:=by omega
 have mX:=vD q1
 have eB:nI 1 (b0,e0)=(⟨1,t,[],0,[]⟩,(b1,e1)):=by unfold nI;simp[bg,q1]
 obtain⟨o,ho⟩:∃o:bF,o=⟨1,t,[],0,[]⟩:=⟨_,rfl⟩
 obtain⟨ef,iC⟩:∃ef:Int,eX (cw o) (b1,e1)=(b1,ef):=⟨(eX (cw o) (b1,e1)).2,Prod.ext (sy _ _) rfl⟩
 have eR:dw (b,e)=if ef=0 then(o,(b1,ef)) else(bU,(b1,ef)):=by
  unfold dw iV gd bg bZ
  simp only[q,eB,<-ho,iC]
 have mC:e1=0->jc.ok o:=fun he=>by
  rw[ho]
  exact yc ((xd 1 (by decide)).zm eB he) (by decide)
 have fu:¬e1=0->ef=e1:=fun he=>by
  have:=iC
  rw[sD _ he] at this
  exact(congrArg (fun r:RS=>r.2) this).symm
 have gY:ef=0->dw (b,e)=(o,(b1,ef)):=fun h=>by rw[eR,if_pos h]
 have gN:¬ef=0->dw (b,e)=(bU,(b1,ef)):=fun h=>by rw[eR,if_neg h]
 have gE:¬e1=0->dw (b,e)=(bU,(b1,e1)):=fun h=>by rw[eR,fu h,if_neg h]
 refine aF 59 [] Tryz.func119 rfl (by kernel_rfl) ?_
 repeat' (conv=>arg 2;whnf);first|refine af (by kernel_rfl) ?_|refine aA ?_ ?_|refine ah ?_|refine aj ?_|refine dJ (by decide) ?_|refine bI (by decide) ?_|refine pT (fun h=>?_) (fun hz=>?_)|refine oF (fun h=>?_) (fun h=>?_)|refine aC 0 (b,e) (b0,e0) (.int .u64 1) (fD 4) hs (congrArg Prod.snd q).symm (congrArg (fun r:Int×RS=>D.int .u64 r.1) q).symm ⟨⟨rfl,rfl⟩,trivial⟩ (aa.refl _) rfl ?_|refine aP (aZ (by decide) (by decide)) ?_|refine aP (aZ (by omega) (by omega)) ?_|refine kO _ rfl ?_|refine af (by omega) ?_|refine aC 0 (b0,e0) (b1,e1) (.list 1 (t.map aE)) q8 h0 (congrArg Prod.snd q1).symm (congrArg (fun r:List UInt8×RS=>D.list 1 (r.1.map aE)) q1).symm ⟨⟨rfl,rfl⟩,trivial⟩ (aa.refl _) rfl ?_|refine aC 0 (b1,e1) (b1,e1) (.int .i64 e1) dh h1 rfl rfl ⟨⟨rfl,rfl⟩,trivial⟩ (aa.refl _) rfl ?_|refine ak (tX o (mC h)) rfl (aa.cons (by rw[ho];exact aa.bA (aa.cons (.refl _) (aa.cons (.refl _) (aa.cons (.refl _) (aa.cons (.refl _) (aa.cons (.nil _) .nil)))))) .nil) ?_|refine aC 0 (b1,e1) (b1,ef) (.aD []) (j6 (cw o)) h1 iC.symm rfl ⟨⟨rfl,rfl⟩,trivial⟩ (aa.refl _) rfl ?_|refine aC 0 (b1,ef) (b1,ef) (.int .i64 ef) dh h1 rfl rfl ⟨⟨rfl,rfl⟩,trivial⟩ (aa.refl _) rfl ?_|refine bE (x:=b1) (y:=ef) (d:=.agg (cI o)) (.inr rfl) rfl ⟨⟨rfl,rfl⟩,trivial⟩ rfl (by rw[ho];exact aa.bA (aa.cons (.refl _) (aa.cons (.refl _) (aa.cons (.refl _) (aa.cons (.refl _) (aa.cons (.nil _) .nil)))))) (congrArg Prod.snd (gY h)).symm (congrArg (fun r:bF×RS=>D.agg (cI r.1)) (gY h)).symm|refine bE (x:=b1) (y:=ef) (d:=.agg (cI bU)) (.inr rfl) rfl ⟨⟨rfl,rfl⟩,trivial⟩ rfl (aa.bA (aa.cons (.refl _) (aa.cons (.refl _) (aa.cons (.refl _) (aa.cons (.refl _) (aa.cons (.nil _) .nil)))))) (congrArg Prod.snd (gN h)).symm (congrArg (fun r:bF×RS=>D.agg (cI r.1)) (gN h)).symm|refine bE (x:=b1) (y:=e1) (d:=.agg (cI bU)) (.inr rfl) rfl ⟨⟨rfl,rfl⟩,trivial⟩ rfl (aa.bA (aa.cons (.refl _) (aa.cons (.refl _) (aa.cons (.refl _) (aa.cons (.refl _) (aa.cons (.nil _) .nil)))))) (congrArg Prod.snd (gE h)).symm (congrArg (fun r:bF×RS=>D.agg (cI r.1)) (gE h)).symm|exact absurd h hz|fail
theorem U9 [Wd] (b:List UInt8) (e:Int) (hs:b.length<=8388609) {b0:List UInt8} {e0:Int} (q:nR 4 (b,e)=(3,(b0,e0))) (h0:b0.length<=8388609):bf Tryz.prog 119 [.ptr 0 0] (dz (b,e)) (fun r h=>r=.agg (cI (dw (b,e)).1)/\h=dz (dw (b,e)).2):=by
 obtain⟨t,b1,e1,q1,l1⟩:=Rd1.get (ju 64) (b0,e0)
 replace l1:b1.length<=b0.length:=l1
 have h1:b1.length<=8388609:=by omega
 obtain⟨g,b2,e2,q2,l2⟩:=Rd1.get (ju 64) (b1,e1)
 replace l2:b2.length<=b1.length:=l2
 have h2:b2.length<=8388609:=by omega
 obtain⟨n,b3,e3,q3,l3⟩:=Rd1.get (dK MX) (b2,e2)
 replace l3:b3.length<=b2.length:=l3
 have h3:b3.length<=8388609:=by omega
 have hn:=nO q3
 rw[uF] at hn
 have mX:=vD q1
 have fO:=vD q2
 have eB:nI 3 (b0,e0)=(⟨3,t,g,n,[]⟩,(b3,e3)):=by unfold nI;simp[bg,aT,bZ,q1,q2,q3]
 obtain⟨o,ho⟩:∃o:bF,o=⟨3,t,g,n,[]⟩:=⟨_,rfl⟩
 obtain⟨ef,iC⟩:∃ef:Int,eX (cw o) (b3,e3)=(b3,ef):=⟨(eX (cw o) (b3,e3)).2,Prod.ext (sy _ _) rfl⟩
 have eR:dw (b,e)=if ef=0 then(o,(b3,ef)) else(bU,(b3,ef)):=by
  unfold dw iV gd bg bZ
  simp only[q,eB,<-ho,iC]
 have mC:e3=0->jc.ok o:=fun he=>by
  rw[ho]
  exact yc ((xd 3 (by decide)).zm eB he) (by decide)
 have fu:¬e3=0->ef=e3:=fun he=>by
  have:=iC
  rw[sD _ he] at this
  exact(congrArg (fun r:RS=>r.2) this).symm
 have gY:ef=0->dw (b,e)=(o,(b3,ef)):=fun h=>by rw[eR,if_pos h]
 have gN:¬ef=0->dw (b,e)=(bU,(b3,ef)):=fun h=>by rw[eR,if_neg h]
 have gE:¬e3=0->dw (b,e)=(bU,(b3,e3)):=fun h=>by rw[eR,fu h,if_neg h]
 refine aF 59 [] Tryz.func119 rfl (by kernel_rfl) ?_
 repeat' (conv=>arg 2;whnf);first|refine af (by kernel_rfl) ?_|refine aA ?_ ?_|refine ah ?_|refine aj ?_|refine dJ (by decide) ?_|refine bI (by decide) ?_|refine pT (fun h=>?_) (fun hz=>?_)|refine oF (fun h=>?_) (fun h=>?_)|refine aC 0 (b,e) (b0,e0) (.int .u64 3) (fD 4) hs (congrArg Prod.snd q).symm (congrArg (fun r:Int×RS=>D.int .u64 r.1) q).symm ⟨⟨rfl,rfl⟩,trivial⟩ (aa.refl _) rfl ?_|refine aP (aZ (by decide) (by decide)) ?_|refine aP (aZ (by omega) (by omega)) ?_|refine kO _ rfl ?_|refine af (by omega) ?_|refine aC 0 (b0,e0) (b1,e1) (.list 1 (t.map aE)) q8 h0 (congrArg Prod.snd q1).symm (congrArg (fun r:List UInt8×RS=>D.list 1 (r.1.map aE)) q1).symm ⟨⟨rfl,rfl⟩,trivial⟩ (aa.refl _) rfl ?_|refine aC 0 (b1,e1) (b2,e2) (.list 1 (g.map aE)) q8 h1 (congrArg Prod.snd q2).symm (congrArg (fun r:List UInt8×RS=>D.list 1 (r.1.map aE)) q2).symm ⟨⟨rfl,rfl⟩,trivial⟩ (aa.refl _) rfl ?_|refine aC 0 (b2,e2) (b3,e3) (.int .u64 n) (fD MX) h2 (congrArg Prod.snd q3).symm (congrArg (fun r:Int×RS=>D.int .u64 r.1) q3).symm ⟨⟨rfl,rfl⟩,trivial⟩ (aa.refl _) rfl ?_|refine aC 0 (b3,e3) (b3,e3) (.int .i64 e3) dh h3 rfl rfl ⟨⟨rfl,rfl⟩,trivial⟩ (aa.refl _) rfl ?_|refine ak (tX o (mC h)) rfl (aa.cons (by rw[ho];exact aa.bA (aa.cons (.refl _) (aa.cons (.refl _) (aa.cons (.refl _) (aa.cons (.refl _) (aa.cons (.nil _) .nil)))))) .nil) ?_|refine aC 0 (b3,e3) (b3,ef) (.aD []) (j6 (cw o)) h3 iC.symm rfl ⟨⟨rfl,rfl⟩,trivial⟩ (aa.refl _) rfl ?_|refine aC 0 (b3,ef) (b3,ef) (.int .i64 ef) dh h3 rfl rfl ⟨⟨rfl,rfl⟩,trivial⟩ (aa.refl _) rfl ?_|refine bE (x:=b3) (y:=ef) (d:=.agg (cI o)) (.inr rfl) rfl ⟨⟨rfl,rfl⟩,trivial⟩ rfl (by rw[ho];exact aa.bA (aa.cons (.refl _) (aa.cons (.refl _) (aa.cons (.refl _) (aa.cons (.refl _) (aa.cons (.nil _) .nil)))))) (congrArg Prod.snd (gY h)).symm (congrArg (fun r:bF×RS=>D.agg (cI r.1)) (gY h)).symm|refine bE (x:=b3) (y:=ef) (d:=.agg (cI bU)) (.inr rfl) rfl ⟨⟨rfl,rfl⟩,trivial⟩ rfl (aa.bA (aa.cons (.refl _) (aa.cons (.refl _) (aa.cons (.refl _) (aa.cons (.refl _) (aa.cons (.nil _) .nil)))))) (congrArg Prod.snd (gN h)).symm (congrArg (fun r:bF×RS=>D.agg (cI r.1)) (gN h)).symm|refine bE (x:=b3) (y:=e3) (d:=.agg (cI bU)) (.inr rfl) rfl ⟨⟨rfl,rfl⟩,trivial⟩ rfl (aa.bA (aa.cons (.refl _) (aa.cons (.refl _) (aa.cons (.refl _) (aa.cons (.refl _) (aa.cons (.nil _) .nil)))))) (congrArg Prod.snd (gE h)).symm (congrArg (fun r:bF×RS=>D.agg (cI r.1)) (gE h)).symm|exact absurd h hz|fail
theorem Va [Wd] (b:List UInt8) (e:Int) (hs:b.length<=8388609) {b0:List UInt8} {e0:Int} (q:nR 4 (b,e)=(4,(b0,e0))) (h0:b0.length<=8388609):bf Tryz.prog 119 [.ptr 0 0] (dz (b,e)) (fun r h=>r=.agg (cI (dw (b,e)).1)/\h=dz (dw (b,e)).2):=by
 obtain⟨t,b1,e1,q1,l1⟩:=Rd1.get (ju 64) (b0,e0)
 replace l1:b1.length<=b0.length:=l1
 have h1:b1.length<=8388609:=by omega
 obtain⟨n,b2,e2,q2,l2⟩:=Rd1.get (dK MX) (b1,e1)
 replace l2:b2.length<=b1.length:=l2
 have h2:b2.length<=8388609:=by omega
 have hn:=nO q2
 rw[uF] at hn
 have mX:=vD q1
 have eB:nI 4 (b0,e0)=(⟨4,t,[],n,[]⟩,(b2,e2)):=by unfold nI;simp[bg,aT,bZ,q1,q2]
 obtain⟨o,ho⟩:∃o:bF,o=⟨4,t,[],n,[]⟩:=⟨_,rfl⟩
 obtain⟨ef,iC⟩:∃ef:Int,eX (cw o) (b2,e2)=(b2,ef):=⟨(eX (cw o) (b2,e2)).2,Prod.ext (sy _ _) rfl⟩
 have eR:dw (b,e)=if ef=0 then(o,(b2,ef)) else(bU,(b2,ef)):=by
  unfold dw iV gd bg bZ
  simp only[q,eB,<-ho,iC]
 have mC:e2=0->jc.ok o:=fun he=>by
  rw[ho]
  exact yc ((xd 4 (by decide)).zm eB he) (by decide)
 have fu:¬e2=0->ef=e2:=fun he=>by
  have:=iC
  rw[sD _ he] at this
  exact(congrArg (fun r:RS=>r.2) this).symm
 have gY:ef=0->dw (b,e)=(o,(b2,ef)):=fun h=>by rw[eR,if_pos h]
 have gN:¬ef=0->dw (b,e)=(bU,(b2,ef)):=fun h=>by rw[eR,if_neg h]
 have gE:¬e2=0->dw (b,e)=(bU,(b2,e2)):=fun h=>by rw[eR,fu h,if_neg h]
 refine aF 59 [] Tryz.func119 rfl (by kernel_rfl) ?_
 repeat' (conv=>arg 2;whnf);first|refine af (by kernel_rfl) ?_|refine aA ?_ ?_|refine ah ?_|refine aj ?_|refine dJ (by decide) ?_|refine bI (by decide) ?_|refine pT (fun h=>?_) (fun hz=>?_)|refine oF (fun h=>?_) (fun h=>?_)|refine aC 0 (b,e) (b0,e0) (.int .u64 4) (fD 4) hs (congrArg Prod.snd q).symm (congrArg (fun r:Int×RS=>D.int .u64 r.1) q).symm ⟨⟨rfl,rfl⟩,trivial⟩ (aa.refl _) rfl ?_|refine aP (aZ (by decide) (by decide)) ?_|refine aP (aZ (by omega) (by omega)) ?_|refine kO _ rfl ?_|refine af (by omega) ?_|refine aC 0 (b0,e0) (b1,e1) (.list 1 (t.map aE)) q8 h0 (congrArg Prod.snd q1).symm (congrArg (fun r:List UInt8×RS=>D.list 1 (r.1.map aE)) q1).symm ⟨⟨rfl,rfl⟩,trivial⟩ (aa.refl _) rfl ?_|refine aC 0 (b1,e1) (b2,e2) (.int .u64 n) (fD MX) h1 (congrArg Prod.snd q2).symm (congrArg (fun r:Int×RS=>D.int .u64 r.1) q2).symm ⟨⟨rfl,rfl⟩,trivial⟩ (aa.refl _) rfl ?_|refine aC 0 (b2,e2) (b2,e2) (.int .i64 e2) dh h2 rfl rfl ⟨⟨rfl,rfl⟩,trivial⟩ (aa.refl _) rfl ?_|refine ak (tX o (mC h)) rfl (aa.cons (by rw[ho];exact aa.bA (aa.cons (.refl _) (aa.cons (.refl _) (aa.cons (.refl _) (aa.cons (.refl _) (aa.cons (.nil _) .nil)))))) .nil) ?_|refine aC 0 (b2,e2) (b2,ef) (.aD []) (j6 (cw o)) h2 iC.symm rfl ⟨⟨rfl,rfl⟩,trivial⟩ (aa.refl _) rfl ?_|refine aC 0 (b2,ef) (b2,ef) (.int .i64 ef) dh h2 rfl rfl ⟨⟨rfl,rfl⟩,trivial⟩ (aa.refl _) rfl ?_|refine bE (x:=b2) (y:=ef) (d:=.agg (cI o)) (.inr rfl) rfl ⟨⟨rfl,rfl⟩,trivial⟩ rfl (by rw[ho];exact aa.bA (aa.cons (.refl _) (aa.cons (.refl _) (aa.cons (.refl _) (aa.cons (.refl _) (aa.cons (.nil _) .nil)))))) (congrArg Prod.snd (gY h)).symm (congrArg (fun r:bF×RS=>D.agg (cI r.1)) (gY h)).symm|refine bE (x:=b2) (y:=ef) (d:=.agg (cI bU)) (.inr rfl) rfl ⟨⟨rfl,rfl⟩,trivial⟩ rfl (aa.bA (aa.cons (.refl _) (aa.cons (.refl _) (aa.cons (.refl _) (aa.cons (.refl _) (aa.cons (.nil _) .nil)))))) (congrArg Prod.snd (gN h)).symm (congrArg (fun r:bF×RS=>D.agg (cI r.1)) (gN h)).symm|refine bE (x:=b2) (y:=e2) (d:=.agg (cI bU)) (.inr rfl) rfl ⟨⟨rfl,rfl⟩,trivial⟩ rfl (aa.bA (aa.cons (.refl _) (aa.cons (.refl _) (aa.cons (.refl _) (aa.cons (.refl _) (aa.cons (.nil _) .nil)))))) (congrArg Prod.snd (gE h)).symm (congrArg (fun r:bF×RS=>D.agg (cI r.1)) (gE h)).symm|exact absurd h hz|fail
theorem Th {α:Type} {p:RS->α×RS} {m:Nat} {s s2:RS} {x:α} (h:p s=(x,s2)):mV p (m+1) s=(x::(mV p m s2).1,(mV p m s2).2):=by
 show bg _ (aT p (mV p m)) s=_
 unfold bg aT bZ
 rw[h]
set_option maxHeartbeats 2000000 in
theorem Vb [Wd] (b:List UInt8) (e:Int) (hs:b.length<=8388609) {b0:List UInt8} {e0:Int} (q:nR 4 (b,e)=(2,(b0,e0))) (h0:b0.length<=8388609):bf Tryz.prog 119 [.ptr 0 0] (dz (b,e)) (fun r h=>r=.agg (cI (dw (b,e)).1)/\h=dz (dw (b,e)).2):=by
 obtain⟨t,b1,e1,q1,l1⟩:=Rd1.get (ju 64) (b0,e0)
 replace l1:b1.length<=b0.length:=l1
 have h1:b1.length<=8388609:=by omega
 have mX:=vD q1
 obtain⟨n,b2,e2,qn,hn,l2⟩:=sw 4 (b1,e1)
 replace l2:b2.length<=b1.length:=l2
 have h2:b2.length<=8388609:=by omega
 have q2:nR 4 (b1,e1)=((n:Int),(b2,e2)):=by unfold nR;rw[qn]
 obtain⟨rs,b3,e3,q3,l3⟩:=Rd1.get (CP (ju 64) n) (b2,e2)
 replace l3:b3.length<=b2.length:=l3
 have h3:b3.length<=8388609:=by omega
 have eB:nI 2 (b0,e0)=(⟨2,t,[],0,rs⟩,(b3,e3)):=by unfold nI;simp[bg,aT,bZ,q1,q2,q3]
 obtain⟨o,ho⟩:∃o:bF,o=⟨2,t,[],0,rs⟩:=⟨_,rfl⟩
 obtain⟨ef,iC⟩:∃ef:Int,eX (cw o) (b3,e3)=(b3,ef):=⟨(eX (cw o) (b3,e3)).2,Prod.ext (sy _ _) rfl⟩
 have eR:dw (b,e)=if ef=0 then(o,(b3,ef)) else(bU,(b3,ef)):=by
  unfold dw iV gd bg bZ
  simp only[q,eB,<-ho,iC]
 have mC:e3=0->jc.ok o:=fun he=>by
  rw[ho]
  exact yc ((xd 2 (by decide)).zm eB he) (by decide)
 have fu:¬e3=0->ef=e3:=fun he=>by
  have:=iC
  rw[sD _ he] at this
  exact(congrArg (fun r:RS=>r.2) this).symm
 have gY:ef=0->dw (b,e)=(o,(b3,ef)):=fun h=>by rw[eR,if_pos h]
 have gN:¬ef=0->dw (b,e)=(bU,(b3,ef)):=fun h=>by rw[eR,if_neg h]
 have gE:¬e3=0->dw (b,e)=(bU,(b3,e3)):=fun h=>by rw[eR,fu h,if_neg h]
 refine jZ 59 [(8,⟨(.one 0 false (.one 2 false (.alt 1 (.one 3 true (.one 4 true (.one 5 true (.one 6 false (.one 7 true .done))))) (.one 3 true (.alt 1 (.one 4 true (.one 5 true (.one 6 false (.one 7 true .done)))) (.one 4 true (.one 1 true (.one 5 true (.one 6 false (.one 7 true .done)))))))))),[0,2,3]⟩)] Tryz.func119 rfl (by kernel_rfl) ?_
 repeat' (conv=>arg 2;whnf);first|refine af (by kernel_rfl) ?_|refine aA ?_ ?_|refine ah ?_|refine aj ?_|refine aC 0 (b,e) (b0,e0) (.int .u64 2) (fD 4) hs (congrArg Prod.snd q).symm (congrArg (fun r:Int×RS=>D.int .u64 r.1) q).symm ⟨⟨rfl,rfl⟩,trivial⟩ (aa.refl _) rfl ?_|refine aP (aZ (by decide) (by decide)) ?_|refine kO _ rfl ?_|refine af (by omega) ?_|refine aC 0 (b0,e0) (b1,e1) (.list 1 (t.map aE)) q8 h0 (congrArg Prod.snd q1).symm (congrArg (fun r:List UInt8×RS=>D.list 1 (r.1.map aE)) q1).symm ⟨⟨rfl,rfl⟩,trivial⟩ (aa.refl _) rfl ?_|refine aC 0 (b1,e1) (b2,e2) (.int .u64 (n:Int)) (fD 4) h1 (congrArg Prod.snd q2).symm (congrArg (fun r:Int×RS=>D.int .u64 r.1) q2).symm ⟨⟨rfl,rfl⟩,trivial⟩ (aa.refl _) rfl ?_
 conv=>arg 2;whnf
 refine cD (α:=Nat×RS×List (List UInt8)) (fun a=>match a.2.2 with
  |[]=>⟨[(21,.int .u64 a.1),(20,.int .u64 (n:Int)),(3,.ptr 2 0),(2,.ptr 1 0),(0,.ptr 0 0)],[.cells 235 [.list 1 (a.2.1.1.map aE),.int .i64 a.2.1.2,.bool true],.cells 40 [.int .i64 0,.str [],.str [],.int .i64 0,.nils],.cells 40 [.int .i64 2,.str t,.str [],.int .i64 0,.nils]]⟩
  |x::l=>⟨[(21,.int .u64 a.1),(20,.int .u64 (n:Int)),(3,.ptr 2 0),(2,.ptr 1 0),(0,.ptr 0 0)],[.cells 235 [.list 1 (a.2.1.1.map aE),.int .i64 a.2.1.2,.bool true],.cells 40 [.int .i64 0,.str [],.str [],.int .i64 0,.nils],.cells 40 [.int .i64 2,.str t,.str [],.int .i64 0,.row 3],.row 51 1 ((x::l).map kU)]⟩) (fun a=>a.1<=n/\a.2.1.1.length<=8388609/\a.2.2.length=a.1/\(rs,(b3,e3))=(a.2.2++(mV (fU 64) (n-a.1) a.2.1).1,(mV (fU 64) (n-a.1) a.2.1).2)) (fun a=>n-a.1) (0,(b2,e2),[]) ⟨Nat.zero_le _,h2,rfl,q3.symm⟩ (Sv.mk' [0,1,3] rfl ⟨⟨rfl,rfl⟩,⟨rfl,rfl⟩,⟨rfl,rfl⟩,trivial⟩ ⟨rfl,rfl,rfl,rfl,rfl,trivial⟩) ?_
 rintro⟨i,⟨bb,ee⟩,out⟩ ⟨hi,hl,lR,hg⟩
 replace hi:i<=n:=hi
 replace hl:bb.length<=8388609:=hl
 replace lR:out.length=i:=lR
 replace hg:(rs,(b3,e3))=(out++(mV (fU 64) (n-i) (bb,ee)).1,(mV (fU 64) (n-i) (bb,ee)).2):=hg
 obtain⟨x,bx,ex,qx,lx⟩:=Rd1.get (ju 64) (bb,ee)
 replace lx:bx.length<=bb.length:=lx
 have hx:bx.length<=8388609:=by omega
 have jE:i<n->(rs,(b3,e3))=((out++[x])++(mV (fU 64) (n-(i+1)) (bx,ex)).1,(mV (fU 64) (n-(i+1)) (bx,ex)).2):=fun hlt=>by
  have e:n-i=(n-(i+1))+1:=by omega
  rw[e,Th qx] at hg
  rw[hg]
  simp
 have cO:n<=i->rs=out/\b3=bb/\e3=ee:=fun h=>by
  rw[show n-i=0 by omega] at hg
  have hg:(rs,(b3,e3))=(out++[],(bb,ee)):=hg
  rw[List.append_nil] at hg
  cases hg
  exact⟨rfl,rfl,rfl⟩
 cases out with
 |nil=>
  conv=>arg 2;whnf
  refine GM (fun hlt=>?_) (fun dn=>?_)
  ·replace hlt:i<n:=hlt
   repeat' (conv=>arg 2;whnf);first|refine aC 0 (bb,ee) (bx,ex) (.list 1 (x.map aE)) q8 hl (congrArg Prod.snd qx).symm (congrArg (fun r:List UInt8×RS=>D.list 1 (r.1.map aE)) qx).symm ⟨⟨rfl,rfl⟩,trivial⟩ (aa.refl _) rfl ?_|refine aA ?_ ?_|refine af (by kernel_rfl) ?_|refine af (by constructor<;>(simp only[List.length_cons,List.length_nil];decide)) ?_|refine aP (Ds (by show 0<=(i:Int)+1;omega) (by show(i:Int)+1<_;omega)) ?_|refine bV (i+1,(bx,ex),[x]) (Sv.mk' [0,1,2,4] rfl ⟨⟨rfl,rfl⟩,⟨rfl,rfl⟩,⟨rfl,rfl⟩,⟨rfl,rfl⟩,trivial⟩ ⟨rfl,rfl,rfl,rfl,rfl,trivial⟩) ⟨hlt,hx,by show([x]).length=i+1;simp at lR ⊢;omega,jE hlt⟩ (by show n-(i+1)<n-i;omega)
  ·obtain⟨er,eb,wX⟩:=cO dn
   subst er eb wX
   repeat' (conv=>arg 2;whnf);first|refine af (by kernel_rfl) ?_|refine aA ?_ ?_|refine ah ?_|refine aj ?_|refine pT (fun h=>?_) (fun hz=>?_)|refine oF (fun h=>?_) (fun h=>?_)|refine bD ?_|refine aC 0 (b3,e3) (b3,e3) (.int .i64 e3) dh h3 rfl rfl ⟨⟨rfl,rfl⟩,trivial⟩ (aa.refl _) rfl ?_|refine ak (tX o (mC h)) rfl (aa.cons (by rw[ho];exact aa.bA (aa.cons (.refl _) (aa.cons (.refl _) (aa.cons (.refl _) (aa.cons (.refl _) (aa.cons (.nil _) .nil)))))) .nil) ?_|refine aC 0 (b3,e3) (b3,ef) (.aD []) (j6 (cw o)) h3 iC.symm rfl ⟨⟨rfl,rfl⟩,trivial⟩ (aa.refl _) rfl ?_|refine aC 0 (b3,ef) (b3,ef) (.int .i64 ef) dh h3 rfl rfl ⟨⟨rfl,rfl⟩,trivial⟩ (aa.refl _) rfl ?_|refine bE (x:=b3) (y:=ef) (d:=.agg (cI o)) (.inr rfl) rfl ⟨⟨rfl,rfl⟩,trivial⟩ rfl (by rw[ho];exact aa.bA (aa.cons (.refl _) (aa.cons (.refl _) (aa.cons (.refl _) (aa.cons (.refl _) (aa.cons (.nil _) .nil)))))) (congrArg Prod.snd (gY h)).symm (congrArg (fun r:bF×RS=>D.agg (cI r.1)) (gY h)).symm|refine bE (x:=b3) (y:=ef) (d:=.agg (cI bU)) (.inr rfl) rfl ⟨⟨rfl,rfl⟩,trivial⟩ rfl (aa.bA (aa.cons (.refl _) (aa.cons (.refl _) (aa.cons (.refl _) (aa.cons (.refl _) (aa.cons (.nil _) .nil)))))) (congrArg Prod.snd (gN h)).symm (congrArg (fun r:bF×RS=>D.agg (cI r.1)) (gN h)).symm|refine bE (x:=b3) (y:=e3) (d:=.agg (cI bU)) (.inr rfl) rfl ⟨⟨rfl,rfl⟩,trivial⟩ rfl (aa.bA (aa.cons (.refl _) (aa.cons (.refl _) (aa.cons (.refl _) (aa.cons (.refl _) (aa.cons (.nil _) .nil)))))) (congrArg Prod.snd (gE h)).symm (congrArg (fun r:bF×RS=>D.agg (cI r.1)) (gE h)).symm|exact absurd h hz|fail
 |cons y out=>
  conv=>arg 2;whnf
  refine GM (fun hlt=>?_) (fun dn=>?_)
  ·replace hlt:i<n:=hlt
   repeat' (conv=>arg 2;whnf);first|refine aC 0 (bb,ee) (bx,ex) (.list 1 (x.map aE)) q8 hl (congrArg Prod.snd qx).symm (congrArg (fun r:List UInt8×RS=>D.list 1 (r.1.map aE)) qx).symm ⟨⟨rfl,rfl⟩,trivial⟩ (aa.refl _) rfl ?_|refine aA ?_ ?_|refine af (by kernel_rfl) ?_|refine af (by constructor<;>(simp only[List.length_cons,List.length_nil,List.length_map,maxLen] at lR ⊢;omega)) ?_|refine aP (Ds (by show 0<=(i:Int)+1;omega) (by show(i:Int)+1<_;omega)) ?_|refine bV (i+1,(bx,ex),(y::out)++[x]) (Sv.mk' [0,1,2,5] rfl ⟨⟨rfl,rfl⟩,⟨rfl,rfl⟩,⟨rfl,rfl⟩,⟨rfl,by simp;rfl⟩,trivial⟩ ⟨rfl,rfl,rfl,rfl,rfl,trivial⟩) ⟨hlt,hx,by show((y::out)++[x]).length=i+1;simp at lR ⊢;omega,jE hlt⟩ (by show n-(i+1)<n-i;omega)
  ·obtain⟨er,eb,wX⟩:=cO dn
   subst er eb wX
   repeat' (conv=>arg 2;whnf);first|refine af (by kernel_rfl) ?_|refine aA ?_ ?_|refine ah ?_|refine aj ?_|refine pT (fun h=>?_) (fun hz=>?_)|refine oF (fun h=>?_) (fun h=>?_)|refine bD ?_|refine aC 0 (b3,e3) (b3,e3) (.int .i64 e3) dh h3 rfl rfl ⟨⟨rfl,rfl⟩,trivial⟩ (aa.refl _) rfl ?_|refine NI [3] (tX o (mC h)) rfl (by rw[ho];exact aa.refl _) rfl ?_|refine aC 0 (b3,e3) (b3,ef) (.aD []) (j6 (cw o)) h3 iC.symm rfl ⟨⟨rfl,rfl⟩,trivial⟩ (aa.refl _) rfl ?_|refine aC 0 (b3,ef) (b3,ef) (.int .i64 ef) dh h3 rfl rfl ⟨⟨rfl,rfl⟩,trivial⟩ (aa.refl _) rfl ?_|refine nK [3] (x:=b3) (y:=ef) (d:=.agg (cI o)) (.inr rfl) rfl ⟨⟨rfl,rfl⟩,trivial⟩ rfl (by rw[ho];exact .refl _) (congrArg Prod.snd (gY h)).symm (congrArg (fun r:bF×RS=>D.agg (cI r.1)) (gY h)).symm|refine bE (x:=b3) (y:=ef) (d:=.agg (cI bU)) (.inr rfl) rfl ⟨⟨rfl,rfl⟩,trivial⟩ rfl (aa.bA (aa.cons (.refl _) (aa.cons (.refl _) (aa.cons (.refl _) (aa.cons (.refl _) (aa.cons (.nil _) .nil)))))) (congrArg Prod.snd (gN h)).symm (congrArg (fun r:bF×RS=>D.agg (cI r.1)) (gN h)).symm|refine bE (x:=b3) (y:=e3) (d:=.agg (cI bU)) (.inr rfl) rfl ⟨⟨rfl,rfl⟩,trivial⟩ rfl (aa.bA (aa.cons (.refl _) (aa.cons (.refl _) (aa.cons (.refl _) (aa.cons (.refl _) (aa.cons (.nil _) .nil)))))) (congrArg Prod.snd (gE h)).symm (congrArg (fun r:bF×RS=>D.agg (cI r.1)) (gE h)).symm|exact absurd h hz|fail
end Go.Proofs.YtafomdobfmmleaaGreatDoor

/- Lemmas and contracts. -/
namespace Go.Proofs.YtafomdobfmmleaaGreatDoor
open Go.RowKit
set_option linter.unusedVariables false
set_option maxRecDepth 20000
theorem Wa [Wd] (ws:List (List UInt8)) (hl:(iy ws).length<=140737488355328) (hn:ws.length<=140737488355328):aJ Tryz.prog 28 [.list 1 (cW ws),.str [32]] (.str (iy ws)):=
 bf.old (v:=.string (au (iy ws))) (fun _ _=>.str _) (by kernel_rfl) (fun w I vs hv=>by
  obtain⟨v,u,rfl,h1,h2⟩:=hv.vE
  cases h2
  generalize hx:cW ws=xs at h1
  cases h1 with
  |list A c _ l _ U cj fR hm eu hlen hA h1 hU=>
   subst hx
   have ZX:l=ws.length:=by rw[cj];simp[cW]
   subst ZX
   by_cases h0:0<ws.length
   ·obtain⟨g,off,rfl,hg,hI,fy⟩:=hA h0
    have hj:(ws.map au).map (fun x=>x.data.toList)=ws:=by
     rw[List.map_map]
     conv=>rhs;rw[<-List.map_id ws]
     refine List.map_congr_left fun x _=>?_
     simp[au]
    have qP:∀j x,(ws.map au)[j]?=some x->w.cell? ⟨g,off+j,none⟩=some (.string x):=fun j x hx=>by
     rw[List.getElem?_map] at hx
     obtain⟨y,hy,rfl⟩:=Option.map_eq_some_iff.1 hx
     have e1:(cW ws)[j]?=some [.str y]:=by simp[cW,hy]
     have e2:=fy j [.str y] 0 (.str y) e1 rfl
     have e3:=hU j [.str y] 0 (.str y) e1 rfl
     simp only[Nat.mul_one,Nat.add_zero] at e2
     rw[e2]
     generalize U j 0=u at e3
     cases e3
     rfl
    have:=Tryz.strings_Join g off c (ws.map au) (au [32]) w qP hg (by simpa using hn) (by simpa using fR) (by rw[hj];rw[show(au [32]).data.toList=[32] from rfl,join_eq];exact hl)
    rw[hj,show(au [32]).data.toList=[32] from rfl,join_eq] at this
    simpa[au] using this
   ·have hz:ws=[]:=List.eq_nil_of_length_eq_zero (by omega)
    subst hz
    refine(Tryz.strings_Join_none A c (au [32]) w).mono ?_
    rintro e w' ⟨rfl,rfl⟩
    exact⟨rfl,Below.refl _ _⟩) rfl
theorem W6 [Wd] (bs:List UInt8) (o:bF) (ho:jc.ok o) (hl:(bs++cy o).length+30<=bz):aJ Tryz.prog 108 [.list 1 (bs.map aE),.agg (cI o)] (.list 1 ((bs++if cw o=0 then cy o else[]).map aE)):=
 xB (by simp only[List.length_append] at hl ⊢;split
        ·omega
        ·simp only[List.length_nil];omega) (by kernel_rfl) (fun w I vs hv=>by
  obtain⟨v,u,rfl,h1,h2⟩:=hv.vE
  obtain⟨us,rfl,k1,k2⟩:=(Vr.rd (g:=[]) h2).ot
  exact Mg (h1.bs (by simp only[List.length_append] at hl;omega)) (wm.of (lS k1 rfl) ho) hl) rfl
theorem SL [Wd] (o:bF) (ho:jc.ok o) (h0:cw o=0):aJ Tryz.prog 66 [.agg (cI o)] (.aD [.list 1 ((cy o).map aE),.int .i64 0]):=by
 have l1:=xj h0
 have hp:=W6 [] o ho (by simp[bz];omega)
 rw[if_pos h0,List.nil_append] at hp
 have hc:=tX o ho
 rw[h0] at hc
 refine aF 12 [] Tryz.func66 rfl (by kernel_rfl) ?_
 repeat' (conv=>arg 2;whnf);first|refine af (by kernel_rfl) ?_|refine aA ?_ ?_|refine ah ?_|refine aj ?_|refine ak (hc) rfl (aa.refl _) ?_|refine ak hp rfl (aa.cons (Co.nil _) (.refl _)) ?_|refine bq (.inr rfl) rfl (.refl _) rfl
theorem SM [Wd] (o:bF) (ho:jc.ok o) (h0:¬cw o=0):aJ Tryz.prog 66 [.agg (cI o)] (.aD [.nils,.int .i64 (cw o)]):=by
 have hc:=tX o ho
 refine aF 12 [] Tryz.func66 rfl (by kernel_rfl) ?_
 repeat' (conv=>arg 2;whnf);first|refine af (by kernel_rfl) ?_|refine aA ?_ ?_|refine ah ?_|refine aj ?_|refine ak (hc) rfl (aa.refl _) ?_|refine aG (fun h=>?_) (fun h=>?_)|refine bq (.inr rfl) rfl (.refl _) rfl|(exfalso;simp[h0] at*;done)
theorem Gd [Wd] (m:aN):aJ Tryz.prog 110 [.agg (aU m)] (.agg (bu (cH m))):=by
 by_cases h7:m.kind=7
 ·by_cases hc:m.changes.length=1
  ·obtain⟨c,hc⟩:=vO hc
   have e:cH m=c.sign:=by unfold cH;rw[if_pos h7,hc]
   rw[e]
   refine aF 19 [] Tryz.func110 rfl (by kernel_rfl) ?_
   repeat' (conv=>arg 2;whnf);first|refine af (by kernel_rfl) ?_|refine aA ?_ ?_|refine ah ?_|refine aj ?_|refine aG (fun h=>?_) (fun h=>?_)|refine kS (bW c) (by decide) (by simp[hc]) ?_|refine bq (.inr rfl) rfl (.refl _) rfl|(exfalso;simp_all;done)
  ·have e:cH m=m.sign:=by
    unfold cH
    rw[if_pos h7]
    split
    ·rename_i c qP;rw[qP] at hc;exact absurd rfl hc
    ·rfl
   rw[e]
   refine aF 19 [] Tryz.func110 rfl (by kernel_rfl) ?_
   repeat' (conv=>arg 2;whnf);first|refine af (by kernel_rfl) ?_|refine aA ?_ ?_|refine ah ?_|refine aj ?_|refine aG (fun h=>?_) (fun h=>?_)|refine bq (.inr rfl) rfl (.refl _) rfl|(exfalso;simp at*;omega)|(exfalso;simp_all;done)
 ·have e:cH m=m.sign:=by unfold cH;rw[if_neg h7]
  rw[e]
  refine aF 19 [] Tryz.func110 rfl (by kernel_rfl) ?_
  repeat' (conv=>arg 2;whnf);first|refine af (by kernel_rfl) ?_|refine aA ?_ ?_|refine ah ?_|refine aj ?_|refine aG (fun h=>?_) (fun h=>?_)|refine bq (.inr rfl) rfl (.refl _) rfl|(exfalso;simp_all;done)
theorem zC [Wd] (k:Int):aJ Tryz.prog 111 [.int .i64 k] (.bool (!mj k)):=by
 refine aF 9 [] Tryz.func111 rfl (by kernel_rfl) ?_
 repeat' (conv=>arg 2;whnf);first|refine af (by kernel_rfl) ?_|refine aA ?_ ?_|refine ah ?_|refine aj ?_|refine aG (fun h=>?_) (fun h=>?_)|(refine bT (.inr rfl) rfl ?_;simp_all [mj];done)|(refine bT (.inr rfl) rfl ?_;simp[mj] at*;omega)|(exfalso;simp_all;done)
def Gx:List (Nat×mP):=[(5,⟨PT.of [(0,false),(1,false),(2,false),(4,false),(5,false),(6,false),(3,true),(7,true),(8,false)],[2]⟩)]
theorem JQ [Wd] (m:aN) (hm:cr.ok m) (hB:¬qo (eF m)=0):aJ Tryz.prog 67 [.agg (aU m)] (.aD [.nils,.bool false]):=by
 have hu:=Er m hm
 unfold uR at hu
 rw[if_neg hB] at hu
 have hS:=Gd m
 refine jZ 62 Gx Tryz.func67 rfl (by kernel_rfl) ?_
 repeat' (conv=>arg 2;whnf);first|refine af (by kernel_rfl) ?_|refine aA ?_ ?_|refine ah ?_|refine aj ?_|refine aG (fun h=>?_) (fun h=>?_)|refine ak hu rfl (aa.refl _) ?_|refine ak hS rfl (aa.refl _) ?_|refine ak (zC m.kind) rfl (aa.refl _) ?_|refine bq (.inr rfl) rfl (.refl _) rfl|(exfalso;simp at*;done)|(exfalso;simp_all;done)
theorem JR [Wd] (m:aN) (hm:cr.ok m) (hB:qo (eF m)=0) (hw:¬qj m):aJ Tryz.prog 67 [.agg (aU m)] (.aD [.nils,.bool false]):=by
 rw[EH] at hw
 have hu:=Er m hm
 unfold uR at hu
 rw[if_pos hB] at hu
 have hS:=Gd m
 generalize cH m=s at*
 replace hw:=fun h=>hw ⟨hB,h⟩
 refine jZ 62 Gx Tryz.func67 rfl (by kernel_rfl) ?_
 repeat' (conv=>arg 2;whnf);first|refine af (by kernel_rfl) ?_|refine aA ?_ ?_|refine ah ?_|refine aj ?_|refine aG (fun h=>?_) (fun h=>?_)|refine ak hu rfl (aa.refl _) ?_|refine ak hS rfl (aa.refl _) ?_|refine ak (zC m.kind) rfl (aa.refl _) ?_|refine bq (.inr rfl) rfl (.refl _) rfl|(exfalso;simp_all;done)|(exfalso;simp_all;omega)
set_option maxHeartbeats 1000000 in
theorem JS [Wd] (m:aN) (hm:cr.ok m) (hw:qj m) (hb:((cH m).key<=9223372036854775807)/\(cH m).an<=9223372036854775807):aJ Tryz.prog 67 [.agg (aU m)] (.aD [.list 1 (cW (kJ m)),.bool true]):=by
 have hi:=(EH m).1 hw
 obtain⟨hB,w1,w2,w3,w4⟩:=hi
 have hu:=Er m hm
 unfold uR at hu
 rw[if_pos hB] at hu
 have hS:=Gd m
 have l1:=Cf (tQ (tN (FN.1 hB).1))
 rw[vh] at l1
 rw[show kJ m=[fN (bh m),oH (cH m)] from rfl]
 generalize cH m=s at*
 have e1:aW s.key=enc s.key.toNat:=ku w1 (by omega)
 have e2:aW s.an=enc s.an.toNat:=ku w2 (by omega)
 rw[show oH s=fN ([]++aW s.key++aW s.an) from by simp[oH,e1,e2]]
 have p1:=mG s.key
 have p2:=mG s.an
 have l2:([]++aW s.key++aW s.an).length<=20:=by simp only[List.length_append,List.length_nil];omega
 have q1:(fN (bh m)).length<=2000001:=by have:=Am (bh m);show(rP (bh m)).length<=_;omega
 have q2:(fN ([]++aW s.key++aW s.an)).length<=41:=by have:=Am ([]++aW s.key++aW s.an);show(rP _).length<=_;omega
 have cS:([]++aW s.key).length+100<=bz:=Nat.le_trans (Nat.add_le_add_right (show([]++aW s.key).length<=10 from p1) 100) (by decide)
 refine jZ 62 Gx Tryz.func67 rfl (by kernel_rfl) ?_
 repeat' (conv=>arg 2;whnf);first|refine af (by kernel_rfl) ?_|refine aA ?_ ?_|refine ah ?_|refine aj ?_|refine aG (fun h=>?_) (fun h=>?_)|refine ak hu rfl (aa.refl _) ?_|refine ak hS rfl (aa.refl _) ?_|refine ak (zC m.kind) rfl (aa.refl _) ?_|refine af (by simp only[List.length_append,List.length_cons,List.length_nil];omega) ?_|refine uG ?_|refine ak (Ao (bh m) (by omega)) rfl (aa.refl _) ?_|refine ak (zP [] (s.key) (by simp[bz])) rfl (aa.cons (Co.nil _) (.refl _)) ?_|refine ak (zP _ s.an cS) rfl (aa.refl _) ?_|refine ak (Ao _ (Nat.le_trans l2 (by decide))) rfl (aa.refl _) ?_|refine bq (.inr rfl) rfl (.refl _) rfl|(exfalso;simp_all;done)|(exfalso;simp_all;omega)
def lB:List (Nat×mP):=[(1,⟨PT.of [(0,false),(1,false),(3,false),(4,false),(2,true),(5,true),(6,false),(7,false)],[1]⟩),(17,⟨(.one 0 false (.one 1 false (.one 2 false (.one 5 false (.one 6 false (.one 3 true (.alt 4 (.one 7 true (.one 8 false (.one 9 false .done))) (.one 7 true (.one 4 true (.one 8 false (.one 9 false .done))))))))))),[1,1007]⟩),(26,⟨(.one 0 false (.one 1 false (.one 2 false (.one 3 false (.one 4 false (.one 5 false (.one 6 false (.one 7 true (.alt 8 (.one 9 true (.one 10 false (.one 11 false .done))) (.one 9 true (.one 8 true (.one 10 false (.one 11 false .done))))))))))))),[1,1009]⟩),(33,⟨PT.of [(0,false),(1,false),(2,false),(4,false),(6,false),(3,true),(5,true),(7,true),(8,false),(9,false)],[1,1005,1007]⟩)]
theorem T8 [Wd] (bY:jx) (a:aS) (ha:ey.ok a):aJ Tryz.prog 42 [.agg (cg {a with kind:=1})] (.aD [.agg (cg (⟨1,0,a.num,bU,[],aO,false⟩:aS)),.list 1 (cW [tV,Lib.itoa a.num]),.bool true]):=by
 have b2:-9223372036854775808<=a.aL/\a.aL<=9223372036854775807:=ha.2.1
 have b3:-9223372036854775808<=a.num/\a.num<=9223372036854775807:=ha.2.2.1
 have b5:a.bytes.length<=4194304:=ha.2.2.2.2.1
 refine jZ 141 lB Tryz.func42 rfl (by kernel_rfl) ?_
 repeat' (conv=>arg 2;whnf);first|refine af (by kernel_rfl) ?_|refine aA ?_ ?_|refine ah ?_|refine aj ?_|refine ak (bY a.num b3) rfl (aa.refl _) ?_|refine ak (bY a.aL b2) rfl (aa.refl _) ?_|(refine bq (.inr rfl) rfl (aa.fG (aa.cons (aa.bA ?_) (aa.refl _))) rfl;(repeat' (first|exact aa.nil|exact Co.refl _|exact Co.nil _|refine aa.cons ?_ ?_));done)
theorem T9 [Wd] (bY:jx) (a:aS) (ha:ey.ok a):aJ Tryz.prog 42 [.agg (cg {a with kind:=2})] (.aD [.agg (cg (⟨2,0,a.num,bU,[],aO,false⟩:aS)),.list 1 (cW [uH,Lib.itoa a.num]),.bool true]):=by
 have b2:-9223372036854775808<=a.aL/\a.aL<=9223372036854775807:=ha.2.1
 have b3:-9223372036854775808<=a.num/\a.num<=9223372036854775807:=ha.2.2.1
 have b5:a.bytes.length<=4194304:=ha.2.2.2.2.1
 refine jZ 141 lB Tryz.func42 rfl (by kernel_rfl) ?_
 repeat' (conv=>arg 2;whnf);first|refine af (by kernel_rfl) ?_|refine aA ?_ ?_|refine ah ?_|refine aj ?_|refine ak (bY a.num b3) rfl (aa.refl _) ?_|refine ak (bY a.aL b2) rfl (aa.refl _) ?_|(refine bq (.inr rfl) rfl (aa.fG (aa.cons (aa.bA ?_) (aa.refl _))) rfl;(repeat' (first|exact aa.nil|exact Co.refl _|exact Co.nil _|refine aa.cons ?_ ?_));done)
theorem Ua [Wd] (bY:jx) (a:aS) (ha:ey.ok a):aJ Tryz.prog 42 [.agg (cg {a with kind:=3})] (.aD [.agg (cg (⟨3,0,a.num,bU,[],aO,false⟩:aS)),.list 1 (cW [uj,Lib.itoa a.num]),.bool true]):=by
 have b2:-9223372036854775808<=a.aL/\a.aL<=9223372036854775807:=ha.2.1
 have b3:-9223372036854775808<=a.num/\a.num<=9223372036854775807:=ha.2.2.1
 have b5:a.bytes.length<=4194304:=ha.2.2.2.2.1
 refine jZ 141 lB Tryz.func42 rfl (by kernel_rfl) ?_
 repeat' (conv=>arg 2;whnf);first|refine af (by kernel_rfl) ?_|refine aA ?_ ?_|refine ah ?_|refine aj ?_|refine ak (bY a.num b3) rfl (aa.refl _) ?_|refine ak (bY a.aL b2) rfl (aa.refl _) ?_|(refine bq (.inr rfl) rfl (aa.fG (aa.cons (aa.bA ?_) (aa.refl _))) rfl;(repeat' (first|exact aa.nil|exact Co.refl _|exact Co.nil _|refine aa.cons ?_ ?_));done)
theorem Ub [Wd] (bY:jx) (a:aS) (ha:ey.ok a):aJ Tryz.prog 42 [.agg (cg {a with kind:=4})] (.aD [.agg (cg (⟨4,a.aL,0,bU,[],aO,false⟩:aS)),.list 1 (cW [uI,Lib.itoa a.aL]),.bool true]):=by
 have b2:-9223372036854775808<=a.aL/\a.aL<=9223372036854775807:=ha.2.1
 have b3:-9223372036854775808<=a.num/\a.num<=9223372036854775807:=ha.2.2.1
 have b5:a.bytes.length<=4194304:=ha.2.2.2.2.1
 refine jZ 141 lB Tryz.func42 rfl (by kernel_rfl) ?_
 repeat' (conv=>arg 2;whnf);first|refine af (by kernel_rfl) ?_|refine aA ?_ ?_|refine ah ?_|refine aj ?_|refine ak (bY a.num b3) rfl (aa.refl _) ?_|refine ak (bY a.aL b2) rfl (aa.refl _) ?_|(refine bq (.inr rfl) rfl (aa.fG (aa.cons (aa.bA ?_) (aa.refl _))) rfl;(repeat' (first|exact aa.nil|exact Co.refl _|exact Co.nil _|refine aa.cons ?_ ?_));done)
theorem Uc [Wd] (bY:jx) (a:aS) (ha:ey.ok a):aJ Tryz.prog 42 [.agg (cg {a with kind:=5})] (.aD [.agg (cg (⟨5,a.aL,0,bU,[],aO,false⟩:aS)),.list 1 (cW [uv,Lib.itoa a.aL]),.bool true]):=by
 have b2:-9223372036854775808<=a.aL/\a.aL<=9223372036854775807:=ha.2.1
 have b3:-9223372036854775808<=a.num/\a.num<=9223372036854775807:=ha.2.2.1
 have b5:a.bytes.length<=4194304:=ha.2.2.2.2.1
 refine jZ 141 lB Tryz.func42 rfl (by kernel_rfl) ?_
 repeat' (conv=>arg 2;whnf);first|refine af (by kernel_rfl) ?_|refine aA ?_ ?_|refine ah ?_|refine aj ?_|refine ak (bY a.num b3) rfl (aa.refl _) ?_|refine ak (bY a.aL b2) rfl (aa.refl _) ?_|(refine bq (.inr rfl) rfl (aa.fG (aa.cons (aa.bA ?_) (aa.refl _))) rfl;(repeat' (first|exact aa.nil|exact Co.refl _|exact Co.nil _|refine aa.cons ?_ ?_));done)
theorem Ud [Wd] (bY:jx) (a:aS) (ha:ey.ok a):aJ Tryz.prog 42 [.agg (cg {a with kind:=7})] (.aD [.agg (cg (⟨7,a.aL,0,bU,[],aO,false⟩:aS)),.list 1 (cW [uJ,Lib.itoa a.aL]),.bool true]):=by
 have b2:-9223372036854775808<=a.aL/\a.aL<=9223372036854775807:=ha.2.1
 have b3:-9223372036854775808<=a.num/\a.num<=9223372036854775807:=ha.2.2.1
 have b5:a.bytes.length<=4194304:=ha.2.2.2.2.1
 refine jZ 141 lB Tryz.func42 rfl (by kernel_rfl) ?_
 repeat' (conv=>arg 2;whnf);first|refine af (by kernel_rfl) ?_|refine aA ?_ ?_|refine ah ?_|refine aj ?_|refine ak (bY a.num b3) rfl (aa.refl _) ?_|refine ak (bY a.aL b2) rfl (aa.refl _) ?_|(refine bq (.inr rfl) rfl (aa.fG (aa.cons (aa.bA ?_) (aa.refl _))) rfl;(repeat' (first|exact aa.nil|exact Co.refl _|exact Co.nil _|refine aa.cons ?_ ?_));done)
theorem Ue [Wd] (bY:jx) (a:aS) (ha:ey.ok a):aJ Tryz.prog 42 [.agg (cg {a with kind:=8})] (.aD [.agg (cg (⟨8,a.aL,a.num,bU,[],aO,false⟩:aS)),.list 1 (cW [uw,Lib.itoa a.aL,Lib.itoa a.num]),.bool true]):=by
 have b2:-9223372036854775808<=a.aL/\a.aL<=9223372036854775807:=ha.2.1
 have b3:-9223372036854775808<=a.num/\a.num<=9223372036854775807:=ha.2.2.1
 have b5:a.bytes.length<=4194304:=ha.2.2.2.2.1
 refine jZ 141 lB Tryz.func42 rfl (by kernel_rfl) ?_
 repeat' (conv=>arg 2;whnf);first|refine af (by kernel_rfl) ?_|refine aA ?_ ?_|refine ah ?_|refine aj ?_|refine ak (bY a.num b3) rfl (aa.refl _) ?_|refine ak (bY a.aL b2) rfl (aa.refl _) ?_|(refine bq (.inr rfl) rfl (aa.fG (aa.cons (aa.bA ?_) (aa.refl _))) rfl;(repeat' (first|exact aa.nil|exact Co.refl _|exact Co.nil _|refine aa.cons ?_ ?_));done)
theorem Uf [Wd] (bY:jx) (a:aS) (ha:ey.ok a):aJ Tryz.prog 42 [.agg (cg {a with kind:=9})] (.aD [.agg (cg (⟨9,a.aL,0,bU,[],aO,false⟩:aS)),.list 1 (cW [ux,Lib.itoa a.aL]),.bool true]):=by
 have b2:-9223372036854775808<=a.aL/\a.aL<=9223372036854775807:=ha.2.1
 have b3:-9223372036854775808<=a.num/\a.num<=9223372036854775807:=ha.2.2.1
 have b5:a.bytes.length<=4194304:=ha.2.2.2.2.1
 refine jZ 141 lB Tryz.func42 rfl (by kernel_rfl) ?_
 repeat' (conv=>arg 2;whnf);first|refine af (by kernel_rfl) ?_|refine aA ?_ ?_|refine ah ?_|refine aj ?_|refine ak (bY a.num b3) rfl (aa.refl _) ?_|refine ak (bY a.aL b2) rfl (aa.refl _) ?_|(refine bq (.inr rfl) rfl (aa.fG (aa.cons (aa.bA ?_) (aa.refl _))) rfl;(repeat' (first|exact aa.nil|exact Co.refl _|exact Co.nil _|refine aa.cons ?_ ?_));done)
theorem SN [Wd] (bY:jx) (a:aS) (ha:ey.ok a):aJ Tryz.prog 42 [.agg (cg {a with kind:=10})] (.aD [.agg (cg (⟨10,0,0,bU,a.bytes,aO,false⟩:aS)),.list 1 (cW [uK,fN a.bytes]),.bool true]):=by
 have b2:-9223372036854775808<=a.aL/\a.aL<=9223372036854775807:=ha.2.1
 have b3:-9223372036854775808<=a.num/\a.num<=9223372036854775807:=ha.2.2.1
 have b5:a.bytes.length<=4194304:=ha.2.2.2.2.1
 refine jZ 141 lB Tryz.func42 rfl (by kernel_rfl) ?_
 repeat' (conv=>arg 2;whnf);first|refine af (by kernel_rfl) ?_|refine aA ?_ ?_|refine ah ?_|refine aj ?_|refine ak (bY a.num b3) rfl (aa.refl _) ?_|refine ak (bY a.aL b2) rfl (aa.refl _) ?_|refine ak (Ao a.bytes (by omega)) rfl (aa.refl _) ?_|(refine bq (.inr rfl) rfl (aa.fG (aa.cons (aa.bA ?_) (aa.refl _))) rfl;(repeat' (first|exact aa.nil|exact Co.refl _|exact Co.nil _|refine aa.cons ?_ ?_));done)
theorem SO [Wd] (bY:jx) (a:aS) (ha:ey.ok a):aJ Tryz.prog 42 [.agg (cg {a with kind:=12})] (.aD [.agg (cg (⟨12,0,0,bU,[],aO,false⟩:aS)),.list 1 (cW [uy]),.bool true]):=by
 have b2:-9223372036854775808<=a.aL/\a.aL<=9223372036854775807:=ha.2.1
 have b3:-9223372036854775808<=a.num/\a.num<=9223372036854775807:=ha.2.2.1
 have b5:a.bytes.length<=4194304:=ha.2.2.2.2.1
 refine jZ 141 lB Tryz.func42 rfl (by kernel_rfl) ?_
 repeat' (conv=>arg 2;whnf);first|refine af (by kernel_rfl) ?_|refine aA ?_ ?_|refine ah ?_|refine aj ?_|refine ak (bY a.num b3) rfl (aa.refl _) ?_|refine ak (bY a.aL b2) rfl (aa.refl _) ?_|(refine bq (.inr rfl) rfl (aa.fG (aa.cons (aa.bA ?_) (aa.refl _))) rfl;(repeat' (first|exact aa.nil|exact Co.refl _|exact Co.nil _|refine aa.cons ?_ ?_));done)
theorem Ug [Wd] (bY:jx) (a:aS) (ha:ey.ok a) (h0:cw a.op=0):aJ Tryz.prog 42 [.agg (cg {a with kind:=6})] (.aD [.agg (cg (⟨6,a.aL,0,a.op,[],aO,false⟩:aS)),.list 1 (cW [s6,Lib.itoa a.aL,fN (cy a.op)]),.bool true]):=by
 have b2:-9223372036854775808<=a.aL/\a.aL<=9223372036854775807:=ha.2.1
 have b3:-9223372036854775808<=a.num/\a.num<=9223372036854775807:=ha.2.2.1
 have b5:a.bytes.length<=4194304:=ha.2.2.2.2.1
 have l1:=xj h0
 have hb:=SL a.op ha.2.2.2.1 h0
 refine jZ 141 lB Tryz.func42 rfl (by kernel_rfl) ?_
 repeat' (conv=>arg 2;whnf);first|refine af (by kernel_rfl) ?_|refine aA ?_ ?_|refine ah ?_|refine aj ?_|refine ak (bY a.num b3) rfl (aa.refl _) ?_|refine ak (bY a.aL b2) rfl (aa.refl _) ?_|refine ak (hb) rfl (aa.refl _) ?_|refine ak (Ao (cy a.op) (by omega)) rfl (aa.refl _) ?_|(refine bq (.inr rfl) rfl (aa.fG (aa.cons (aa.bA ?_) (aa.refl _))) rfl;(repeat' (first|exact aa.nil|exact Co.refl _|exact Co.nil _|refine aa.cons ?_ ?_));done)
theorem SP [Wd] (bY:jx) (a:aS) (ha:ey.ok a) (h0:¬cw a.op=0):aJ Tryz.prog 42 [.agg (cg {a with kind:=6})] (.aD [.agg (cg (⟨6,a.aL,0,a.op,[],aO,false⟩:aS)),.list 1 (cW [s6,Lib.itoa a.aL,fN []]),.bool false]):=by
 have b2:-9223372036854775808<=a.aL/\a.aL<=9223372036854775807:=ha.2.1
 have b3:-9223372036854775808<=a.num/\a.num<=9223372036854775807:=ha.2.2.1
 have b5:a.bytes.length<=4194304:=ha.2.2.2.2.1
 have hb:=SM a.op ha.2.2.2.1 h0
 have he:(cw a.op==0)=false:=by simpa using h0
 refine jZ 141 lB Tryz.func42 rfl (by kernel_rfl) ?_
 repeat' (conv=>arg 2;whnf);first|refine af (by kernel_rfl) ?_|refine aA ?_ ?_|refine ah ?_|refine aj ?_|refine ak (bY a.num b3) rfl (aa.refl _) ?_|refine ak (bY a.aL b2) rfl (aa.refl _) ?_|refine ak (hb) rfl (aa.refl _) ?_|refine ak (Ao [] (by simp)) rfl (aa.cons (Co.nil _) .nil) ?_|(rw[he];refine bq (.inr rfl) rfl (aa.fG (aa.cons (aa.bA ?_) (aa.refl _))) rfl;(repeat' (first|exact aa.nil|exact Co.refl _|exact Co.nil _|refine aa.cons ?_ ?_));done)
theorem P8 [Wd] (bY:jx) (a:aS) (ha:ey.ok a) (hs:a.fL=true) (hw:qj a.msg):aJ Tryz.prog 42 [.agg (cg {a with kind:=11})] (.aD [.agg (cg (⟨11,a.aL,0,bU,[],a.msg,a.fL⟩:aS)),.list 1 (cW [sU,Lib.itoa a.aL,fN (bh a.msg),oH (cH a.msg)]),.bool true]):=by
 have b2:-9223372036854775808<=a.aL/\a.aL<=9223372036854775807:=ha.2.1
 have b3:-9223372036854775808<=a.num/\a.num<=9223372036854775807:=ha.2.2.1
 have b5:a.bytes.length<=4194304:=ha.2.2.2.2.1
 have hm:=JS a.msg ha.2.2.2.2.2.1 hw (Fe ha.2.2.2.2.2.1)
 refine wj false 141 lB Tryz.func42 rfl (by kernel_rfl) ?_
 repeat' (conv=>arg 2;whnf);first|refine af (by kernel_rfl) ?_|refine aA ?_ ?_|refine ah ?_|refine aj ?_|refine ak (bY a.num b3) rfl (aa.refl _) ?_|refine ak (bY a.aL b2) rfl (aa.refl _) ?_|refine ak (hm) rfl (aa.refl _) ?_|refine dJ hs ?_|refine af (by decide) ?_|refine af (by simp[maxLen,kJ,cW];done) ?_|(refine jo [4] (.inr rfl) rfl (aa.fG (aa.cons (aa.bA ?_) (aa.refl _))) rfl;(repeat' (first|exact aa.nil|exact Co.refl _|exact Co.nil _|refine aa.cons ?_ ?_));done)
theorem PC [Wd] (bY:jx) (a:aS) (ha:ey.ok a) (hs:a.fL=true) (hw:¬qj a.msg):aJ Tryz.prog 42 [.agg (cg {a with kind:=11})] (.aD [.agg (cg (⟨11,a.aL,0,bU,[],a.msg,a.fL⟩:aS)),.list 1 (cW [sU,Lib.itoa a.aL]),.bool false]):=by
 have b2:-9223372036854775808<=a.aL/\a.aL<=9223372036854775807:=ha.2.1
 have b3:-9223372036854775808<=a.num/\a.num<=9223372036854775807:=ha.2.2.1
 have b5:a.bytes.length<=4194304:=ha.2.2.2.2.1
 have hm:aJ Tryz.prog 67 [.agg (aU a.msg)] (.aD [.nils,.bool false]):=by
  by_cases hB:qo (eF a.msg)=0
  ·exact JR a.msg ha.2.2.2.2.2.1 hB hw
  ·exact JQ a.msg ha.2.2.2.2.2.1 hB
 refine wj false 141 lB Tryz.func42 rfl (by kernel_rfl) ?_
 repeat' (conv=>arg 2;whnf);first|refine af (by kernel_rfl) ?_|refine aA ?_ ?_|refine ah ?_|refine aj ?_|refine ak (bY a.num b3) rfl (aa.refl _) ?_|refine ak (bY a.aL b2) rfl (aa.refl _) ?_|refine ak (hm) rfl (aa.refl _) ?_|refine dJ hs ?_|refine af (by decide) ?_|refine af (by simp[maxLen];done) ?_|(refine jo [4] (.inr rfl) rfl (aa.fG (aa.cons (aa.bA ?_) (aa.refl _))) rfl;(repeat' (first|exact aa.nil|exact Co.refl _|exact Co.nil _|refine aa.cons ?_ ?_));done)
theorem PD [Wd] (bY:jx) (a:aS) (ha:ey.ok a) (hs:a.fL=false) (hw:qj a.msg):aJ Tryz.prog 42 [.agg (cg {a with kind:=11})] (.aD [.agg (cg (⟨11,a.aL,0,bU,[],a.msg,a.fL⟩:aS)),.list 1 (cW [sS,Lib.itoa a.aL,fN (bh a.msg),oH (cH a.msg)]),.bool true]):=by
 have b2:-9223372036854775808<=a.aL/\a.aL<=9223372036854775807:=ha.2.1
 have b3:-9223372036854775808<=a.num/\a.num<=9223372036854775807:=ha.2.2.1
 have b5:a.bytes.length<=4194304:=ha.2.2.2.2.1
 have hm:=JS a.msg ha.2.2.2.2.2.1 hw (Fe ha.2.2.2.2.2.1)
 refine wj false 141 lB Tryz.func42 rfl (by kernel_rfl) ?_
 repeat' (conv=>arg 2;whnf);first|refine af (by kernel_rfl) ?_|refine aA ?_ ?_|refine ah ?_|refine aj ?_|refine ak (bY a.num b3) rfl (aa.refl _) ?_|refine ak (bY a.aL b2) rfl (aa.refl _) ?_|refine ak (hm) rfl (aa.refl _) ?_|refine bI hs ?_|refine af (by decide) ?_|refine af (by simp[maxLen,kJ,cW];done) ?_|(refine jo [4] (.inr rfl) rfl (aa.fG (aa.cons (aa.bA ?_) (aa.refl _))) rfl;(repeat' (first|exact aa.nil|exact Co.refl _|exact Co.nil _|refine aa.cons ?_ ?_));done)
theorem Pw [Wd] (bY:jx) (a:aS) (ha:ey.ok a) (hs:a.fL=false) (hw:¬qj a.msg):aJ Tryz.prog 42 [.agg (cg {a with kind:=11})] (.aD [.agg (cg (⟨11,a.aL,0,bU,[],a.msg,a.fL⟩:aS)),.list 1 (cW [sS,Lib.itoa a.aL]),.bool false]):=by
 have b2:-9223372036854775808<=a.aL/\a.aL<=9223372036854775807:=ha.2.1
 have b3:-9223372036854775808<=a.num/\a.num<=9223372036854775807:=ha.2.2.1
 have b5:a.bytes.length<=4194304:=ha.2.2.2.2.1
 have hm:aJ Tryz.prog 67 [.agg (aU a.msg)] (.aD [.nils,.bool false]):=by
  by_cases hB:qo (eF a.msg)=0
  ·exact JR a.msg ha.2.2.2.2.2.1 hB hw
  ·exact JQ a.msg ha.2.2.2.2.2.1 hB
 refine wj false 141 lB Tryz.func42 rfl (by kernel_rfl) ?_
 repeat' (conv=>arg 2;whnf);first|refine af (by kernel_rfl) ?_|refine aA ?_ ?_|refine ah ?_|refine aj ?_|refine ak (bY a.num b3) rfl (aa.refl _) ?_|refine ak (bY a.aL b2) rfl (aa.refl _) ?_|refine ak (hm) rfl (aa.refl _) ?_|refine bI hs ?_|refine af (by decide) ?_|refine af (by simp[maxLen];done) ?_|(refine jo [4] (.inr rfl) rfl (aa.fG (aa.cons (aa.bA ?_) (aa.refl _))) rfl;(repeat' (first|exact aa.nil|exact Co.refl _|exact Co.nil _|refine aa.cons ?_ ?_));done)
theorem Uh [Wd] (bY:jx) (a:aS) (ha:ey.ok a) (hk:¬(1<=a.kind/\a.kind<=12)):aJ Tryz.prog 42 [.agg (cg a)] (.aD [.agg (cg bO),.list 1 (cW []),.bool false]):=by
 have b2:-9223372036854775808<=a.aL/\a.aL<=9223372036854775807:=ha.2.1
 have b3:-9223372036854775808<=a.num/\a.num<=9223372036854775807:=ha.2.2.1
 have b5:a.bytes.length<=4194304:=ha.2.2.2.2.1
 refine jZ 141 lB Tryz.func42 rfl (by kernel_rfl) ?_
 repeat' (conv=>arg 2;whnf);first|refine af (by kernel_rfl) ?_|refine aA ?_ ?_|refine ah ?_|refine aj ?_|refine ak (bY a.num b3) rfl (aa.refl _) ?_|refine ak (bY a.aL b2) rfl (aa.refl _) ?_|refine bI (by simp;omega) ?_|(refine bq (.inr rfl) rfl (aa.fG (aa.cons (aa.bA ?_) (aa.cons (Co.nil _) (aa.refl _)))) rfl;(repeat' (first|exact aa.nil|exact Co.refl _|exact Co.nil _|refine aa.cons ?_ ?_));done)
theorem Wb [Wd] (bY:jx) (a:aS) (ha:ey.ok a):∃(ws:List (List UInt8)) (b:Bool),aJ Tryz.prog 42 [.agg (cg a)] (.aD [.agg (cg (fM a)),.list 1 (cW ws),.bool b])/\(lC a->b=true/\ws=eG a)/\(¬lC a->b=false):=by
 by_cases k1:a.kind=1
 ·have ek:fM a=(⟨1,0,a.num,bU,[],aO,false⟩:aS):=by simp[fM,k1,bO]
  have hk:lC a:=⟨by omega,fun h=>by omega,fun h=>by omega⟩
  have t:=T8 bY a ha
  rw[lW k1,<-ek] at t
  exact⟨_,_,t,fun _=>⟨rfl,by simp[eG,iQ,iH,k1]⟩,fun h=>absurd hk h⟩
 by_cases k2:a.kind=2
 ·have ek:fM a=(⟨2,0,a.num,bU,[],aO,false⟩:aS):=by simp[fM,k2,bO]
  have hk:lC a:=⟨by omega,fun h=>by omega,fun h=>by omega⟩
  have t:=T9 bY a ha
  rw[lW k2,<-ek] at t
  exact⟨_,_,t,fun _=>⟨rfl,by simp[eG,iQ,iH,k2]⟩,fun h=>absurd hk h⟩
 by_cases k3:a.kind=3
 ·have ek:fM a=(⟨3,0,a.num,bU,[],aO,false⟩:aS):=by simp[fM,k3,bO]
  have hk:lC a:=⟨by omega,fun h=>by omega,fun h=>by omega⟩
  have t:=Ua bY a ha
  rw[lW k3,<-ek] at t
  exact⟨_,_,t,fun _=>⟨rfl,by simp[eG,iQ,iH,k3]⟩,fun h=>absurd hk h⟩
 by_cases k4:a.kind=4
 ·have ek:fM a=(⟨4,a.aL,0,bU,[],aO,false⟩:aS):=by simp[fM,k4,bO]
  have hk:lC a:=⟨by omega,fun h=>by omega,fun h=>by omega⟩
  have t:=Ub bY a ha
  rw[lW k4,<-ek] at t
  exact⟨_,_,t,fun _=>⟨rfl,by simp[eG,iQ,iH,k4]⟩,fun h=>absurd hk h⟩
 by_cases k5:a.kind=5
 ·have ek:fM a=(⟨5,a.aL,0,bU,[],aO,false⟩:aS):=by simp[fM,k5,bO]
  have hk:lC a:=⟨by omega,fun h=>by omega,fun h=>by omega⟩
  have t:=Uc bY a ha
  rw[lW k5,<-ek] at t
  exact⟨_,_,t,fun _=>⟨rfl,by simp[eG,iQ,iH,k5]⟩,fun h=>absurd hk h⟩
 by_cases k7:a.kind=7
 ·have ek:fM a=(⟨7,a.aL,0,bU,[],aO,false⟩:aS):=by simp[fM,k7,bO]
  have hk:lC a:=⟨by omega,fun h=>by omega,fun h=>by omega⟩
  have t:=Ud bY a ha
  rw[lW k7,<-ek] at t
  exact⟨_,_,t,fun _=>⟨rfl,by simp[eG,iQ,iH,k7]⟩,fun h=>absurd hk h⟩
 by_cases k8:a.kind=8
 ·have ek:fM a=(⟨8,a.aL,a.num,bU,[],aO,false⟩:aS):=by simp[fM,k8,bO]
  have hk:lC a:=⟨by omega,fun h=>by omega,fun h=>by omega⟩
  have t:=Ue bY a ha
  rw[lW k8,<-ek] at t
  exact⟨_,_,t,fun _=>⟨rfl,by simp[eG,iQ,iH,k8]⟩,fun h=>absurd hk h⟩
 by_cases k9:a.kind=9
 ·have ek:fM a=(⟨9,a.aL,0,bU,[],aO,false⟩:aS):=by simp[fM,k9,bO]
  have hk:lC a:=⟨by omega,fun h=>by omega,fun h=>by omega⟩
  have t:=Uf bY a ha
  rw[lW k9,<-ek] at t
  exact⟨_,_,t,fun _=>⟨rfl,by simp[eG,iQ,iH,k9]⟩,fun h=>absurd hk h⟩
 by_cases qQ:a.kind=10
 ·have ek:fM a=(⟨10,0,0,bU,a.bytes,aO,false⟩:aS):=by simp[fM,qQ,bO]
  have hk:lC a:=⟨by omega,fun h=>by omega,fun h=>by omega⟩
  have t:=SN bY a ha
  rw[lW qQ,<-ek] at t
  exact⟨_,_,t,fun _=>⟨rfl,by simp[eG,iQ,iH,qQ]⟩,fun h=>absurd hk h⟩
 by_cases qR:a.kind=12
 ·have ek:fM a=(⟨12,0,0,bU,[],aO,false⟩:aS):=by simp[fM,qR,bO]
  have hk:lC a:=⟨by omega,fun h=>by omega,fun h=>by omega⟩
  have t:=SO bY a ha
  rw[lW qR,<-ek] at t
  exact⟨_,_,t,fun _=>⟨rfl,by simp[eG,iQ,iH,qR]⟩,fun h=>absurd hk h⟩
 by_cases k6:a.kind=6
 ·have ek:fM a=(⟨6,a.aL,0,a.op,[],aO,false⟩:aS):=by simp[fM,k6,bO]
  by_cases h0:cw a.op=0
  ·have t:=Ug bY a ha h0
   rw[lW k6,<-ek] at t
   exact⟨_,_,t,fun _=>⟨rfl,by simp[eG,iQ,iH,k6]⟩,fun h=>absurd ⟨by omega,fun _=>h0,fun h=>by omega⟩ h⟩
  ·have t:=SP bY a ha h0
   rw[lW k6,<-ek] at t
   exact⟨_,_,t,fun h=>absurd (h.2.1 k6) h0,fun _=>rfl⟩
 by_cases j4:a.kind=11
 ·have ek:fM a=(⟨11,a.aL,0,bU,[],a.msg,a.fL⟩:aS):=by simp[fM,j4,bO]
  by_cases hw:qj a.msg
  ·have hk:lC a:=⟨by omega,fun h=>by omega,fun _=>hw⟩
   cases hs:a.fL
   ·have t:=PD bY a ha hs hw
    rw[lW j4,<-ek] at t
    exact⟨_,_,t,fun _=>⟨rfl,by simp[eG,iQ,iH,j4,hs,kJ]⟩,fun h=>absurd hk h⟩
   ·have t:=P8 bY a ha hs hw
    rw[lW j4,<-ek] at t
    exact⟨_,_,t,fun _=>⟨rfl,by simp[eG,iQ,iH,j4,hs,kJ]⟩,fun h=>absurd hk h⟩
  ·cases hs:a.fL
   ·have t:=Pw bY a ha hs hw
    rw[lW j4,<-ek] at t
    exact⟨_,_,t,fun h=>absurd (h.2.2 j4) hw,fun _=>rfl⟩
   ·have t:=PC bY a ha hs hw
    rw[lW j4,<-ek] at t
    exact⟨_,_,t,fun h=>absurd (h.2.2 j4) hw,fun _=>rfl⟩
 have hX:¬(1<=a.kind/\a.kind<=12):=fun h=>by omega
 have ek:fM a=bO:=by unfold fM;rw[if_neg (by omega),if_neg (by omega),if_neg (by omega),if_neg (by omega),if_neg (by omega),if_neg (by omega),if_neg (by omega)]
 have t:=Uh bY a ha hX
 rw[<-ek] at t
 exact⟨_,_,t,fun h=>absurd h.1 hX,fun _=>rfl⟩
theorem Wc {a:aS} (ha:ey.ok a):ey.ok (fM a):=by
 rw[ue] at ha
 obtain⟨b1,b2,b3,b4,b5,b6,b7⟩:=ha
 have z:∀k:Int,dI.ok k->ey.ok {bO with kind:=k}:=fun k hk=>by rw[ue];exact⟨hk,GO (n:=0) (by omega),GO (n:=0) (by omega),xL,yh,vF,trivial⟩
 have iz:dI.ok 0:=GO (by omega)
 unfold fM
 repeat' split
 ·rw[ue];exact⟨b1,iz,b3,xL,yh,vF,trivial⟩
 ·rw[ue];exact⟨b1,b2,iz,xL,yh,vF,trivial⟩
 ·rw[ue];exact⟨b1,b2,iz,b4,yh,vF,trivial⟩
 ·rw[ue];exact⟨b1,b2,b3,xL,yh,vF,trivial⟩
 ·rw[ue];exact⟨b1,iz,iz,xL,b5,vF,trivial⟩
 ·rw[ue];exact⟨b1,b2,iz,xL,yh,b6,trivial⟩
 ·exact z _ b1
 ·exact z 0 iz
theorem Lc:∀ws:List (List UInt8),(iy ws).length<=(ws.map fun w=>w.length+1).sum
 |[]=>Nat.le_refl _
 |[x]=>by simp[iy]
 |x::y::r=>by
  have:=Lc (y::r)
  rw[show iy (x::y::r)=x++32::iy (y::r) from rfl,List.length_append,List.length_cons,List.map_cons,List.sum_cons]
  omega
theorem ZY (n:Nat) (s:Bool):(iQ n s).length<=7:=by
 unfold iQ
 split<;>first|decide|(cases s<;>decide)
theorem Ku {a:aS} (ha:ey.ok a) (h:lC a):(iy (eG a)).length<=140737488355328/\(eG a).length<=140737488355328:=by
 have b2:-9223372036854775808<=a.aL/\a.aL<=9223372036854775807:=ha.2.1
 have b3:-9223372036854775808<=a.num/\a.num<=9223372036854775807:=ha.2.2.1
 have b5:a.bytes.length<=4194304:=ha.2.2.2.2.1
 have i1:=Lib.itoa_length_le a.aL b2.1 b2.2
 have i2:=Lib.itoa_length_le a.num b3.1 b3.2
 have k7:=ZY a.kind.toNat a.fL
 have q1:=CU a.bytes
 have o1:a.kind=6->(fN (cy a.op)).length<=100000000:=fun e=>by
  have:=xj (h.2.1 e)
  have:=CU (cy a.op)
  omega
 have m1:a.kind=11->(fN (bh a.msg)).length<=100000000/\(oH (cH a.msg)).length<=41:=fun e=>by
  have hw:=h.2.2 e
  have ho:(cH a.msg).key<=9223372036854775807/\(cH a.msg).an<=9223372036854775807:=Fe ha.2.2.2.2.2.1
  have hi:=(EH a.msg).1 hw
  have l1:=Cf (tQ (tN (FN.1 hi.1).1))
  rw[vh] at l1
  have q1:=CU (bh a.msg)
  have e1:=gQ (cH a.msg).key.toNat (by omega)
  have e2:=gQ (cH a.msg).an.toNat (by omega)
  have q2:=CU (enc (cH a.msg).key.toNat++enc (cH a.msg).an.toNat)
  rw[List.length_append] at q2
  exact⟨by omega,by unfold oH;omega⟩
 have hj:=Lc (eG a)
 have key:((eG a).map fun w=>w.length+1).sum<=140737488355328/\(eG a).length<=140737488355328:=by
  unfold eG iH
  repeat' split
  all_goals simp only[kJ,List.map_cons,List.map_nil,List.sum_cons,List.sum_nil,List.length_cons,List.length_nil];constructor<;>omega
 exact⟨Nat.le_trans hj key.1,key.2⟩
theorem Mh [Wd] (bY:jx) (a:aS) (ha:ey.ok a):aJ Tryz.prog 17 [.agg (cg a)] (Ay a):=by
 obtain⟨ws,b,hk,hY,hN⟩:=Wb bY a ha
 have hs:=VI a (fM a) ha (Wc ha)
 by_cases h:gR a
 ·obtain⟨rfl,rfl⟩:=hY h.1
  have hj:=Wa (eG a) (Ku ha h.1).1 (Ku ha h.1).2
  rw[xm h.2] at hs
  rw[CB h]
  refine aF 23 [] Tryz.func17 rfl (by kernel_rfl) ?_
  repeat' (conv=>arg 2;whnf);first|refine af (by kernel_rfl) ?_|refine aA ?_ ?_|refine ah ?_|refine aj ?_|refine ak hk rfl (aa.refl _) ?_|refine ak hs rfl (aa.refl _) ?_|refine ak hj rfl (aa.refl _) ?_|refine bq (.inr rfl) rfl (.refl _) rfl
 ·rw[FJ h]
  have hz:b=true->bK a (fM a)=false:=fun e=>xe fun e2=>h ⟨Classical.byContradiction fun n=>(by rw[hN n] at e;cases e),e2⟩
  refine aF 23 [] Tryz.func17 rfl (by kernel_rfl) ?_
  repeat' (conv=>arg 2;whnf);first|refine af (by kernel_rfl) ?_|refine aA ?_ ?_|refine ah ?_|refine aj ?_|refine ak hk rfl (aa.refl _) ?_|refine ak hs rfl (aa.refl _) ?_|refine aG (fun h=>?_) (fun h=>?_)|refine bq (.inr rfl) rfl (.refl _) rfl|(exfalso;simp_all;done)
end Go.Proofs.YtafomdobfmmleaaGreatDoor

/- Lemmas and contracts. -/
namespace Go.Proofs.YtafomdobfmmleaaGreatDoor
open Go.RowKit
set_option linter.unusedVariables false
set_option maxRecDepth 20000
end Go.Proofs.YtafomdobfmmleaaGreatDoor

/- Lemmas and contracts. -/
namespace Go.Proofs.YtafomdobfmmleaaGreatDoor
open Go.RowKit
set_option linter.unusedVariables false
set_option maxRecDepth 20000
end Go.Proofs.YtafomdobfmmleaaGreatDoor

/- Lemmas and contracts. -/
namespace Go.Proofs.YtafomdobfmmleaaGreatDoor
open Go.RowKit
set_option linter.unusedVariables false
set_option maxRecDepth 20000
theorem q9 [Wd] (l:List UInt8) (hl:l.length<=4194304):aJ Tryz.prog 153 [.list 1 (l.map aE)] (.own 1 (l.map aE)):=by
 refine mq false 8 [] Tryz.func153 rfl (by kernel_rfl) ?_
 repeat'
  (conv=>arg 2;whnf)
  first
  |refine af (by kernel_rfl) ?_
  |refine af (by simp[maxLen];omega) ?_
  |refine aA ?_ ?_
  |refine ah ?_
  |refine aj ?_
  |refine aG (fun h=>?_) (fun h=>?_)
  |(have e:l=[]:=by simpa using h
    subst e
    refine bq (.inr rfl) rfl (.nT _) rfl)
  |refine jo [1,1001] (.inr rfl) rfl (.refl _) rfl
theorem LZ [Wd] (l:List bH) (hl:l.length<=4194304):aJ Tryz.prog 289 [.list 2 (l.map bu)] (.own 2 (l.map bu)):=by
 refine mq false 8 [] Tryz.func289 rfl (by kernel_rfl) ?_
 repeat'
  (conv=>arg 2;whnf)
  first
  |refine af (by kernel_rfl) ?_
  |refine af (by simp[maxLen];omega) ?_
  |refine aA ?_ ?_
  |refine ah ?_
  |refine aj ?_
  |refine aG (fun h=>?_) (fun h=>?_)
  |(have e:l=[]:=by simpa using h
    subst e
    refine bq (.inr rfl) rfl (.nT _) rfl)
  |refine jo [1,1001] (.inr rfl) rfl (.refl _) rfl
theorem w8 [Wd] (l:List iS) (hl:l.length<=4194304):aJ Tryz.prog 245 [.list 5 (l.map eM)] (.own 5 (l.map eM)):=by
 refine mq false 8 [] Tryz.func245 rfl (by kernel_rfl) ?_
 repeat'
  (conv=>arg 2;whnf)
  first
  |refine af (by kernel_rfl) ?_
  |refine af (by simp[maxLen];omega) ?_
  |refine aA ?_ ?_
  |refine ah ?_
  |refine aj ?_
  |refine aG (fun h=>?_) (fun h=>?_)
  |(have e:l=[]:=by simpa using h
    subst e
    refine bq (.inr rfl) rfl (.nT _) rfl)
  |refine jo [1,1001] (.inr rfl) rfl (.refl _) rfl
theorem w9 [Wd] (l:List Int) (hl:l.length<=4194304):aJ Tryz.prog 246 [.list 1 (l.map eY)] (.own 1 (l.map eY)):=by
 refine mq false 8 [] Tryz.func246 rfl (by kernel_rfl) ?_
 repeat'
  (conv=>arg 2;whnf)
  first
  |refine af (by kernel_rfl) ?_
  |refine af (by simp[maxLen];omega) ?_
  |refine aA ?_ ?_
  |refine ah ?_
  |refine aj ?_
  |refine aG (fun h=>?_) (fun h=>?_)
  |(have e:l=[]:=by simpa using h
    subst e
    refine bq (.inr rfl) rfl (.nT _) rfl)
  |refine jo [1,1001] (.inr rfl) rfl (.refl _) rfl
end Go.Proofs.YtafomdobfmmleaaGreatDoor

/- Lemmas and contracts. -/
namespace Go.Proofs.YtafomdobfmmleaaGreatDoor
open Go.RowKit
set_option linter.unusedVariables false
set_option maxRecDepth 20000
theorem CR {α:Type} {l:List α} {i:Nat} {x:α} (hx:l[i]?=some x) {k:List α} (hk:k=l.take i):k++[x]=l.take (i+1):=by
 rw[List.take_add_one,hx,hk];rfl
theorem Cz {α:Type} {l k:List α} {i:Nat} (hk:k=l.take i) (h:¬i<l.length):k=l:=by
 rw[hk,List.take_of_length_le (by omega)]
end Go.Proofs.YtafomdobfmmleaaGreatDoor

/- Lemmas and contracts. -/
namespace Go.Proofs.YtafomdobfmmleaaGreatDoor
open Go.RowKit
set_option linter.unusedVariables false
set_option maxRecDepth 20000
def AR (b:List UInt8):List D:=[.own 1 (b.map aE)]
def oOp (s:bF):List D:=[.int .i64 s.kind,.str s.av,.str s.group,.int .i64 s.offset,.own 1 (s.records.map AR)]
def uk (s:cq):List D:=[.int .i64 s.request.aQ,.int .i64 s.request.time,.int .i64 s.request.op.kind,.str s.request.op.av,.str s.request.op.group,.int .i64 s.request.op.offset,.own 1 (s.request.op.records.map AR),.int .i64 s.sign.key,.int .i64 s.sign.an]
theorem L3 [Wd] (o:bF) (ho:jc.ok o):aJ Tryz.prog 288 [.agg (cI o)] (.agg (oOp o)):=by
 obtain⟨k0,t0,g0,o0,r⟩:=o
 have hl:(dL dY).ok r:=ho.2.2.2.2
 clear ho
 have HL:r.length<=4194304:=hl.1
 refine aF 22 [] Tryz.func288 rfl (by kernel_rfl) ?_
 conv=>arg 2;whnf
 refine cD (α:=Nat×List (List UInt8)) (fun a=>match a.2 with
  |[]=>⟨[(9,.int .i64 a.1),(8,.int .i64 (r.map kU).length),(7,.list 1 (r.map kU)),(3,.nils),(2,.ptr 1 0),(1,.ptr 0 0)],[.cells 40 [.int .i64 k0,.str t0,.str g0,.int .i64 o0,.list 1 (r.map kU)],.cells 40 [.int .i64 0,.str [],.str [],.int .i64 0,.nils]]⟩
  |x::k=>⟨[(9,.int .i64 a.1),(8,.int .i64 (r.map kU).length),(7,.list 1 (r.map kU)),(3,.row 2),(2,.ptr 1 0),(1,.ptr 0 0)],[.cells 40 [.int .i64 k0,.str t0,.str g0,.int .i64 o0,.list 1 (r.map kU)],.cells 40 [.int .i64 0,.str [],.str [],.int .i64 0,.nils],.row 51 1 ((x::k).map AR)]⟩) (fun a=>a.1<=r.length/\a.2=r.take a.1) (fun a=>r.length-a.1) (0,[]) ⟨Nat.zero_le _,rfl⟩ (Sv.mk' [0,1] rfl ⟨⟨rfl,rfl⟩,⟨rfl,rfl⟩,trivial⟩ ⟨rfl,rfl,rfl,rfl,rfl,rfl,trivial⟩) ?_
 rintro⟨i,out⟩ ⟨hi,ho⟩
 replace hi:i<=r.length:=hi
 replace ho:out=r.take i:=ho
 have lR:out.length=i:=by rw[ho,List.length_take];omega
 cases out with
 |nil=>
  repeat'
   (conv=>arg 2;whnf)
   first
   |refine af (by kernel_rfl) ?_
   |refine aA ?_ ?_
   |refine ah ?_
   |refine aj ?_
   |refine aG (fun h=>?_) (fun h=>?_)
   |refine cV (l:=r) (by simp at h;omega) (fun x (hx:r[i]?=some x)=>?_)
   |refine ak (q9 x (hl.2 x (List.mem_of_getElem? hx))) rfl (aa.refl _) ?_
   |refine af (by have:=(List.getElem?_eq_some_iff.1 hx).1;constructor<;>(simp only[List.length_cons,List.length_nil,maxLen] at lR ⊢;omega)) ?_
   |refine aP (aZ (by(try dsimp only);omega) (by have h9:=(List.getElem?_eq_some_iff.1 hx).1;(try dsimp only);omega)) ?_
   |refine bV (i+1,([x]:List ((List UInt8)))) (Sv.mk' [0,1,2] rfl ⟨⟨rfl,rfl⟩,⟨rfl,rfl⟩,⟨rfl,rfl⟩,trivial⟩ ⟨rfl,rfl,rfl,rfl,rfl,rfl,trivial⟩) ⟨by have:=(List.getElem?_eq_some_iff.1 hx).1;show i+1<=r.length;omega,CR hx ho⟩ (by have:=(List.getElem?_eq_some_iff.1 hx).1;show r.length-(i+1)<r.length-i;omega)
   |refine bD ?_
   |refine fF ?_
   |(have e:=Cz ho (by simp at h;omega)
     subst e
     refine bq (.inr rfl) rfl (aa.bA (by repeat' first|exact aa.nil|refine aa.cons (.refl _) ?_|refine aa.cons (.nT _) ?_)) rfl)
   |fail
 |cons z out=>
  repeat'
   (conv=>arg 2;whnf)
   first
   |refine af (by kernel_rfl) ?_
   |refine aA ?_ ?_
   |refine ah ?_
   |refine aj ?_
   |refine aG (fun h=>?_) (fun h=>?_)
   |refine cV (l:=r) (by simp at h;omega) (fun x (hx:r[i]?=some x)=>?_)
   |refine ak (q9 x (hl.2 x (List.mem_of_getElem? hx))) rfl (aa.refl _) ?_
   |refine af (by have:=(List.getElem?_eq_some_iff.1 hx).1;constructor<;>(simp only[List.length_cons,List.length_nil,List.length_map,maxLen] at lR ⊢;omega)) ?_
   |refine aP (aZ (by(try dsimp only);omega) (by have h9:=(List.getElem?_eq_some_iff.1 hx).1;(try dsimp only);omega)) ?_
   |refine bV (i+1,((z::out)++[(x:(List UInt8))])) (Sv.mk' [0,1,3] rfl ⟨⟨rfl,rfl⟩,⟨rfl,rfl⟩,⟨rfl,by simp;rfl⟩,trivial⟩ ⟨rfl,rfl,rfl,rfl,rfl,rfl,trivial⟩) ⟨by have:=(List.getElem?_eq_some_iff.1 hx).1;show i+1<=r.length;omega,CR hx ho⟩ (by have:=(List.getElem?_eq_some_iff.1 hx).1;show r.length-(i+1)<r.length-i;omega)
   |refine bD ?_
   |refine fF ?_
   |(have e:=Cz ho (by simp at h;omega)
     subst e
     refine jo [2,1002] (.inr rfl) rfl (.refl _) rfl)
   |fail
theorem zR [Wd] (l:List cq) (hs:(dL gF).ok l):aJ Tryz.prog 240 [.list 9 (l.map cZ)] (.own 9 (l.map uk)):=by
 have hl:=hs
 have HL:l.length<=4194304:=hl.1
 refine aF 24 [] Tryz.func240 rfl (by kernel_rfl) ?_
 conv=>arg 2;whnf
 refine cD (α:=Nat×List cq) (fun a=>match a.2 with
  |[]=>⟨[(8,.int .i64 a.1),(7,.int .i64 (l.map cZ).length),(6,.list 9 (l.map cZ)),(3,.nils),(2,.nils)],[]⟩
  |x::k=>⟨[(8,.int .i64 a.1),(7,.int .i64 (l.map cZ).length),(6,.list 9 (l.map cZ)),(3,.row 0),(2,.nils)],[.row 183 9 ((x::k).map uk)]⟩) (fun a=>a.1<=l.length/\a.2=l.take a.1) (fun a=>l.length-a.1) (0,[]) ⟨Nat.zero_le _,rfl⟩ (Sv.mk' [] rfl trivial ⟨rfl,rfl,rfl,rfl,rfl,trivial⟩) ?_
 rintro⟨i,out⟩ ⟨hi,ho⟩
 replace hi:i<=l.length:=hi
 replace ho:out=l.take i:=ho
 have lR:out.length=i:=by rw[ho,List.length_take];omega
 cases out with
 |nil=>
  repeat'
   (conv=>arg 2;whnf)
   first
   |refine af (by kernel_rfl) ?_
   |refine aA ?_ ?_
   |refine ah ?_
   |refine aj ?_
   |refine aG (fun h=>?_) (fun h=>?_)
   |refine cV (l:=l) (by simp at h;omega) (fun x (hx:l[i]?=some x)=>?_)
   |refine ak (L3 x.request.op (hl.2 x (List.mem_of_getElem? hx)).1.2.2) rfl (aa.refl _) ?_
   |refine af (by have:=(List.getElem?_eq_some_iff.1 hx).1;constructor<;>(simp only[List.length_cons,List.length_nil,maxLen] at lR ⊢;omega)) ?_
   |refine aP (aZ (by(try dsimp only);omega) (by have h9:=(List.getElem?_eq_some_iff.1 hx).1;(try dsimp only);omega)) ?_
   |refine bV (i+1,([x]:List (cq))) (Sv.mk' [1] rfl ⟨⟨rfl,rfl⟩,trivial⟩ ⟨rfl,rfl,rfl,rfl,rfl,trivial⟩) ⟨by have:=(List.getElem?_eq_some_iff.1 hx).1;show i+1<=l.length;omega,CR hx ho⟩ (by have:=(List.getElem?_eq_some_iff.1 hx).1;show l.length-(i+1)<l.length-i;omega)
   |refine bD ?_
   |refine fF ?_
   |(have e:=Cz ho (by simp at h;omega)
     subst e
     refine bq (.inr rfl) rfl (.nT _) rfl)
   |fail
 |cons z out=>
  repeat'
   (conv=>arg 2;whnf)
   first
   |refine af (by kernel_rfl) ?_
   |refine aA ?_ ?_
   |refine ah ?_
   |refine aj ?_
   |refine aG (fun h=>?_) (fun h=>?_)
   |refine cV (l:=l) (by simp at h;omega) (fun x (hx:l[i]?=some x)=>?_)
   |refine ak (L3 x.request.op (hl.2 x (List.mem_of_getElem? hx)).1.2.2) rfl (aa.refl _) ?_
   |refine af (by have:=(List.getElem?_eq_some_iff.1 hx).1;constructor<;>(simp only[List.length_cons,List.length_nil,List.length_map,maxLen] at lR ⊢;omega)) ?_
   |refine aP (aZ (by(try dsimp only);omega) (by have h9:=(List.getElem?_eq_some_iff.1 hx).1;(try dsimp only);omega)) ?_
   |refine bV (i+1,((z::out)++[(x:cq)])) (Sv.mk' [2] rfl ⟨⟨rfl,by simp;rfl⟩,trivial⟩ ⟨rfl,rfl,rfl,rfl,rfl,trivial⟩) ⟨by have:=(List.getElem?_eq_some_iff.1 hx).1;show i+1<=l.length;omega,CR hx ho⟩ (by have:=(List.getElem?_eq_some_iff.1 hx).1;show l.length-(i+1)<l.length-i;omega)
   |refine bD ?_
   |refine fF ?_
   |(have e:=Cz ho (by simp at h;omega)
     subst e
     refine jo [0,1000] (.inr rfl) rfl (.refl _) rfl)
   |fail
end Go.Proofs.YtafomdobfmmleaaGreatDoor

/- Lemmas and contracts. -/
namespace Go.Proofs.YtafomdobfmmleaaGreatDoor
open Go.RowKit
set_option linter.unusedVariables false
set_option maxRecDepth 20000
def YK (s:gU):List D:=[.int .i64 s.seq,.int .i64 s.an,.own 2 (s.cN.map bu)]
theorem sj [Wd] (s:gU) (hs:gV.ok s):aJ Tryz.prog 241 [.agg (mh s)] (.agg (YK s)):=by
 refine aF 8 [] Tryz.func241 rfl (by kernel_rfl) ?_
 repeat' (conv=>arg 2;whnf);first|refine af (by kernel_rfl) ?_|refine aA ?_ ?_|refine ah ?_|refine aj ?_|refine aG (fun h=>?_) (fun h=>?_)|refine ak (LZ s.cN hs.2.2.1) rfl (aa.refl _) ?_|refine bq (.inr rfl) rfl (.refl _) rfl
end Go.Proofs.YtafomdobfmmleaaGreatDoor

/- Lemmas and contracts. -/
namespace Go.Proofs.YtafomdobfmmleaaGreatDoor
open Go.RowKit
set_option linter.unusedVariables false
set_option maxRecDepth 20000
theorem o8 [Wd] {P:Program} {Q:Exit->S->Prop} {f:FuncId} {ar cu:List D} {hs hb:List AO} {c:D->List AO->T} {cQ:D->List AO->Prop} (σ:List Nat) (hF:bf P f ar hs cQ) (V:View σ hb hs) (hc:aa cu (D.bG.rl σ ar)) (hM:(σ.all fun o=>(kg hb cu).elem o)=true) (k:∀r jR,cQ r jR->(c (r.bG (mY hb σ hs jR)) (mW hb σ hs jR)).ok P Q):(T.call f cu hb c).ok P Q:=
 ⟨_,hF.bz V hc (fun o ho=>by have:=List.all_eq_true.1 hM o ho;simpa using this),fun r' h' ⟨r0,h0,hp,e3,e4⟩=>by subst e3 e4;exact k r0 h0 hp⟩
theorem xK [Wd] {P:Program} {tb:TT} {rs:List ResultVar} {e:Exit} {s:S} {h:List AO} {r:D} {h':List AO} {ds:List D} {cQ:D->List AO->Prop} (σ:List Nat) (he:e=.normal\/e=.ret) (hr:jG tb s rs=some ds) (hn:nodupB σ=true) (hv:kK s.h σ σ h') (hk:rJ 0 h σ h') (iZ:Co (lJ ds) (r.bG σ)) (hp:cQ r h'):
 (T.leaf e s).ok P (Lf tb rs h cQ):=
 ⟨he,[],ds,by rw[vJ];exact hr,σ,r,_,h',by rw[vJ];exact .mk' hn hv,iZ,rfl,fun o t cs h1=>by have:=xu hk o t cs h1;simpa using this,hp⟩
def F2 (t n:Nat) (xs:List (List D)) (r:D) (h':List AO):Prop:=(xs=[]/\r=.nils/\h'=[])\/(r=.row 0/\h'=[.row t n xs])
theorem JT [Wd] (l:List cX) (hl:l.length<=4194304):bf Tryz.prog 242 [.list 8 (l.map bW)] [] (F2 145 8 (l.map bW)):=by
 refine mq false 8 [] Tryz.func242 rfl (by kernel_rfl) ?_
 repeat' (conv=>arg 2;whnf);first|refine af (by kernel_rfl) ?_|refine af (by simp[maxLen];omega) ?_|refine aA ?_ ?_|refine ah ?_|refine aj ?_|refine aG (fun h=>?_) (fun h=>?_)|exact xK (r:=.nils) (h':=[]) [] (.inr rfl) rfl rfl trivial trivial (.refl _) (.inl ⟨by simpa using h,rfl,rfl⟩)|exact xK (r:=.row 0) (h':=[.row 145 8 (l.map bW)]) [1] (.inr rfl) rfl rfl ⟨⟨rfl,rfl⟩,trivial⟩ trivial (.refl _) (.inr ⟨rfl,rfl⟩)
theorem EW [Wd] (l:List gH) (hl:l.length<=4194304):bf Tryz.prog 243 [.list 5 (l.map dH)] [] (F2 159 5 (l.map dH)):=by
 refine mq false 8 [] Tryz.func243 rfl (by kernel_rfl) ?_
 repeat' (conv=>arg 2;whnf);first|refine af (by kernel_rfl) ?_|refine af (by simp[maxLen];omega) ?_|refine aA ?_ ?_|refine ah ?_|refine aj ?_|refine aG (fun h=>?_) (fun h=>?_)|exact xK (r:=.nils) (h':=[]) [] (.inr rfl) rfl rfl trivial trivial (.refl _) (.inl ⟨by simpa using h,rfl,rfl⟩)|exact xK (r:=.row 0) (h':=[.row 159 5 (l.map dH)]) [1] (.inr rfl) rfl rfl ⟨⟨rfl,rfl⟩,trivial⟩ trivial (.refl _) (.inr ⟨rfl,rfl⟩)
theorem QL [Wd] (l:List gq) (hl:l.length<=4194304):bf Tryz.prog 290 [.list 7 (l.map eK)] [] (F2 190 7 (l.map eK)):=by
 refine mq false 8 [] Tryz.func290 rfl (by kernel_rfl) ?_
 repeat' (conv=>arg 2;whnf);first|refine af (by kernel_rfl) ?_|refine af (by simp[maxLen];omega) ?_|refine aA ?_ ?_|refine ah ?_|refine aj ?_|refine aG (fun h=>?_) (fun h=>?_)|exact xK (r:=.nils) (h':=[]) [] (.inr rfl) rfl rfl trivial trivial (.refl _) (.inl ⟨by simpa using h,rfl,rfl⟩)|exact xK (r:=.row 0) (h':=[.row 190 7 (l.map eK)]) [1] (.inr rfl) rfl rfl ⟨⟨rfl,rfl⟩,trivial⟩ trivial (.refl _) (.inr ⟨rfl,rfl⟩)
end Go.Proofs.YtafomdobfmmleaaGreatDoor

/- Lemmas and contracts. -/
namespace Go.Proofs.YtafomdobfmmleaaGreatDoor
open Go.RowKit
set_option linter.unusedVariables false
set_option maxRecDepth 20000
theorem WQ {α β:Type} {l:List α} {f g:α->β} {i:Nat} {x:α} (h:l[i]?=some x):((l.take i).map f++(l.drop i).map g)[i]?=some (g x):=by
 have hl:=(List.getElem?_eq_some_iff.1 h).1
 rw[List.getElem?_append_right (by simp;omega)]
 simp only[List.length_map,List.length_take,Nat.min_eq_left (Nat.le_of_lt hl),Nat.sub_self,List.getElem?_map,List.getElem?_drop,Nat.add_zero,h,Option.map_some]
theorem Ai {α β:Type} {l:List α} {f g:α->β} {i:Nat} {x:α} (h:l[i]?=some x):((l.take i).map f++(l.drop i).map g).set i (f x)=(l.take (i+1)).map f++(l.drop (i+1)).map g:=by
 have hl:=(List.getElem?_eq_some_iff.1 h).1
 rw[List.set_append_right _ _ (by simp;omega)]
 simp only[List.length_map,List.length_take,Nat.min_eq_left (Nat.le_of_lt hl),Nat.sub_self]
 rw[List.drop_eq_getElem_cons hl,List.map_cons,List.set_cons_zero,List.take_add_one,h]
 have:l[i]=x:=(List.getElem?_eq_some_iff.1 h).2
 simp
theorem Vs {α β:Type} {l:List α} {f g:α->β} {i:Nat} {x:α} {y:β} (h:l[i]?=some x):(((l.take i).map f++(l.drop i).map g).set i y).set i (f x)=(l.take (i+1)).map f++(l.drop (i+1)).map g:=by
 rw[List.set_set];exact Ai h
theorem rB {α β:Type} (l:List α) (f g:α->β) (i:Nat):((l.take i).map f++(l.drop i).map g).length=l.length:=by
 simp only[List.length_append,List.length_map,List.length_take,List.length_drop];omega
theorem vM {α β:Type} {l:List α} {f g:α->β} {i:Nat} (h0:i<=l.length) (h:¬i<l.length):(l.take i).map f++(l.drop i).map g=l.map f:=by
 rw[List.take_of_length_le (by omega),List.drop_of_length_le (by omega)];simp
section
variable [Wd] {P:Program} {Q:Exit->S->Prop}
theorem Aj {α:Type} {l:List α} {f g:α->List D} {i:Nat} {q:Int} {c:List D->T} {x:α} (hx:l[i]?=some x) (hq:q=(i:Int)) (h:(c (g x)).ok P Q):(T.nth ((l.take i).map f++(l.drop i).map g) q c).ok P Q:=by
 subst hq
 exact kS (g x) (by omega) (by rw[Int.toNat_natCast];exact WQ hx) h
theorem zY {xs:List (List D)} {i j:Nat} {q:Int} {c:List D->T} {y:List D} (hj:j=i) (hq:q=(i:Int)) (hi:i<xs.length) (h:(c y).ok P Q):(T.nth (xs.set j y) q c).ok P Q:=by
 subst hq hj
 exact kS y (by omega) (by rw[Int.toNat_natCast,List.getElem?_set_self hi]) h
end
def B1 (s:gq):List D:=[.int .i64 s.view,.int .i64 s.seq,.int .i64 s.an,.int .i64 s.lz.key,.int .i64 s.lz.an,.own 2 (s.cN.map bu),.own 9 (s.batch.map uk)]
def kN (s:cX):List D:=[.int .i64 s.view,.int .i64 s.src,.int .i64 s.cert.seq,.int .i64 s.cert.an,.own 2 (s.cert.cN.map bu),.own 7 (s.cR.map B1),.int .i64 s.sign.key,.int .i64 s.sign.an]
def Ap (s:gH):List D:=[.int .i64 s.view,.int .i64 s.seq,.own 9 (s.batch.map uk),.int .i64 s.sign.key,.int .i64 s.sign.an]
theorem BL [Wd] (s:cX) (hs:gG.ok s):aJ Tryz.prog 244 [.agg (bW s)] (.agg (kN s)):=by
 obtain⟨vw,sr,ct,l,sg⟩:=s
 have hl:(dL oU).ok l:=hs.2.2.2.1
 have va:gV.ok ct:=hs.2.2.1
 clear hs
 have HL:l.length<=4194304:=hl.1
 refine jZ 44 [(6,⟨PT.of [(0,false),(1,false),(2,false),(3,false),(4,false),(5,false),(6,false),(7,false),(8,false),(9,true),(10,false),(11,false),(12,true)],[0,1,2,3,1012]⟩),(7,⟨PT.of [(0,false),(1,false),(2,false),(3,false),(4,false),(5,false),(6,false),(7,false),(8,false),(9,true),(10,false),(11,false),(12,true)],[0,1,2,3,1012]⟩)] Tryz.func244 rfl (by kernel_rfl) ?_
 repeat' (conv=>arg 2;whnf);first|refine af (by kernel_rfl) ?_|refine aA ?_ ?_|refine ah ?_|refine aj ?_|refine aG (fun h=>?_) (fun h=>?_)|refine ak (sj ct va) rfl (aa.refl _) ?_|refine o8 [] (QL l hl.1) (.mk' rfl trivial) (aa.refl _) rfl (fun r jR hp=>?_)
 rcases hp with⟨e,rfl,rfl⟩|⟨rfl,rfl⟩
 ·replace e:l=[]:=List.map_eq_nil_iff.1 e
  subst e
  conv=>arg 2;whnf
  refine cD (α:=Unit) (fun a=>⟨[(15,.int .i64 0),(14,.int .i64 0),(2,.ptr 1 0),(1,.ptr 0 0)],[.cells 145 [.int .i64 vw,.int .i64 sr,.int .i64 ct.seq,.int .i64 ct.an,.own 2 (ct.cN.map bu),.nils,.int .i64 sg.key,.int .i64 sg.an],.cells 145 [.int .i64 0,.int .i64 0,.int .i64 0,.int .i64 0,.nils,.nils,.int .i64 0,.int .i64 0]]⟩) (fun a=>True) (fun a=>0) () trivial (Sv.mk' [0,1] rfl ⟨⟨rfl,rfl⟩,⟨rfl,rfl⟩,trivial⟩ ⟨rfl,rfl,rfl,rfl,trivial⟩) ?_
  rintro a-
  repeat' (conv=>arg 2;whnf);first|refine af (by kernel_rfl) ?_|refine aA ?_ ?_|refine ah ?_|refine aj ?_|refine aG (fun h=>?_) (fun h=>?_)|refine bD ?_|refine bq (.inr rfl) rfl (aa.bA (by repeat' first|exact aa.nil|refine aa.cons (.refl _) ?_|refine aa.cons (.nT _) ?_)) rfl|fail
 ·conv=>arg 2;whnf
  refine cD (α:=Nat) (fun i=>⟨[(15,.int .i64 i),(14,.int .i64 (l.map eK).length),(2,.ptr 1 0),(1,.ptr 0 0)],[.cells 145 [.int .i64 vw,.int .i64 sr,.int .i64 ct.seq,.int .i64 ct.an,.own 2 (ct.cN.map bu),.row 2,.int .i64 sg.key,.int .i64 sg.an],.cells 145 [.int .i64 0,.int .i64 0,.int .i64 0,.int .i64 0,.nils,.nils,.int .i64 0,.int .i64 0],.row 190 7 ((l.take i).map B1++(l.drop i).map eK)]⟩) (fun i=>i<=l.length) (fun i=>l.length-i) 0 (Nat.zero_le _) (Sv.mk' [0,1,2] rfl ⟨⟨rfl,rfl⟩,⟨rfl,rfl⟩,⟨rfl,rfl⟩,trivial⟩ ⟨rfl,rfl,rfl,rfl,trivial⟩) ?_
  intro i (hi:i<=l.length)
  conv=>arg 2;whnf
  refine aG (fun h=>?_) (fun h=>?_)
  ·obtain⟨x,hx⟩:∃x,l[i]?=some x:=⟨_,List.getElem?_eq_getElem (by simpa using h)⟩
   have h9:=(List.getElem?_eq_some_iff.1 hx).1
   repeat' (conv=>arg 2;whnf);first|refine af (by kernel_rfl) ?_|refine aA ?_ ?_|refine ah ?_|refine aj ?_|refine af (by simp only[List.length_set,rB];omega) ?_|refine Aj hx rfl ?_|refine zY rfl rfl (by rw[rB];exact h9) ?_|refine ak (LZ x.cN (hl.2 x (List.mem_of_getElem? hx)).2.2.2.2.1.1) rfl (aa.refl _) ?_|refine ak (zR x.batch (hl.2 x (List.mem_of_getElem? hx)).2.2.2.2.2) rfl (aa.refl _) ?_|refine aP (aZ (by(try dsimp only);omega) (by(try dsimp only);omega)) ?_|refine bV (i+1) (Sv.mk' [0,1,2] rfl ⟨⟨rfl,rfl⟩,⟨rfl,rfl⟩,⟨rfl,congrArg (AO.row 190 7) (Vs hx)⟩,trivial⟩ ⟨rfl,rfl,rfl,rfl,trivial⟩) (by show i+1<=l.length;omega) (by show l.length-(i+1)<l.length-i;omega)|fail
  ·rw[vM hi (by simpa using h)]
   repeat' (conv=>arg 2;whnf);first|refine af (by kernel_rfl) ?_|refine bD ?_|refine jo [2,1002] (.inr rfl) rfl (.refl _) rfl|fail
def qG (s:aN):List D:=[.int .i64 s.kind,.int .i64 s.src,.int .i64 s.view,.int .i64 s.seq,.int .i64 s.an,.int .i64 s.aQ,.int .i64 s.time,.int .i64 s.result.err,.int .i64 s.result.offset,.own 9 (s.batch.map uk),.int .i64 s.cert.seq,.int .i64 s.cert.an,.own 2 (s.cert.cN.map bu),.own 8 (s.changes.map kN),.own 5 (s.entries.map Ap),.own 1 (s.state.map aE),.str s.av,.int .i64 s.offset,.str s.proof.av,.int .i64 s.proof.offset,.own 1 (s.proof.record.map aE),.own 5 (s.proof.headers.map eM),.int .i64 s.proof.index,.int .i64 s.proof.count,.own 1 (s.proof.path.map eY),.int .i64 s.proof.cert.seq,.int .i64 s.proof.cert.an,.own 2 (s.proof.cert.cN.map bu),.int .i64 s.sign.key,.int .i64 s.sign.an]
def pV (s:aN) (c e:D):List D:=[.int .i64 s.kind,.int .i64 s.src,.int .i64 s.view,.int .i64 s.seq,.int .i64 s.an,.int .i64 s.aQ,.int .i64 s.time,.int .i64 s.result.err,.int .i64 s.result.offset,.own 9 (s.batch.map uk),.int .i64 s.cert.seq,.int .i64 s.cert.an,.own 2 (s.cert.cN.map bu),c,e,.own 1 (s.state.map aE),.str s.av,.int .i64 s.offset,.str s.proof.av,.int .i64 s.proof.offset,.list 1 (s.proof.record.map aE),.list 5 (s.proof.headers.map eM),.int .i64 s.proof.index,.int .i64 s.proof.count,.list 1 (s.proof.path.map eY),.int .i64 s.proof.cert.seq,.int .i64 s.proof.cert.an,.list 2 (s.proof.cert.cN.map bu),.int .i64 s.sign.key,.int .i64 s.sign.an]
def pQ:List D:=[.int .i64 0,.int .i64 0,.int .i64 0,.int .i64 0,.int .i64 0,.int .i64 0,.int .i64 0,.int .i64 0,.int .i64 0,.nils,.int .i64 0,.int .i64 0,.nils,.nils,.nils,.nils,.str [],.int .i64 0,.str [],.int .i64 0,.nils,.nils,.int .i64 0,.int .i64 0,.nils,.int .i64 0,.int .i64 0,.nils,.int .i64 0,.int .i64 0]
theorem Uk [Wd] (s:aN) (hs:cr.ok s):aJ Tryz.prog 178 [.agg (aU s)] (.agg (qG s)):=by
 have hb:(dL gF).ok s.batch:=hs.2.2.2.2.2.2.2.2.1
 have va:gV.ok s.cert:=hs.2.2.2.2.2.2.2.2.2.1
 have DG:(dL gG).ok s.changes:=hs.2.2.2.2.2.2.2.2.2.2.1
 have A8:(dL jw).ok s.entries:=hs.2.2.2.2.2.2.2.2.2.2.2.1
 have tJ:s.state.length<=4194304:=hs.2.2.2.2.2.2.2.2.2.2.2.2.1
 have mE:jk.ok s.proof:=hs.2.2.2.2.2.2.2.2.2.2.2.2.2.2.2.1
 clear hs
 have HC:s.changes.length<=4194304:=DG.1
 have HE:s.entries.length<=4194304:=A8.1
 refine jZ 86 [(1,⟨PT.of [(0,false),(1,false),(3,false),(4,false),(6,false),(7,false),(2,true),(9,false),(5,true),(8,true),(10,true),(11,false),(12,true),(13,false),(14,true)],[0,1,2,3,1010,1012,1014]⟩),(2,⟨PT.of [(0,false),(1,false),(3,false),(4,false),(2,true),(6,false),(5,true),(7,true),(8,false),(9,true)],[0,1,2,3,1007,1009]⟩),(6,⟨PT.of [(0,false),(1,false),(2,false),(3,false),(4,false),(5,false),(6,false),(7,false),(8,true),(9,false),(10,true)],[0,1,2,3,1010]⟩),(11,⟨PT.of [(0,false),(1,false),(2,false),(3,false),(4,false),(5,false),(6,false),(7,false),(8,false),(9,true),(10,false),(11,false),(12,true)],[0,1,2,3,1012]⟩),(13,⟨PT.of [(0,false),(1,false),(2,false),(4,false),(5,false),(6,false),(8,false),(9,false),(10,false),(3,true),(12,false),(13,false),(7,true),(11,true),(14,true),(15,false),(16,false),(17,true),(18,false),(19,false),(20,true)],[0,1,2,3,1014,1017,1020]⟩)] Tryz.func178 rfl (by kernel_rfl) ?_
 repeat' (conv=>arg 2;whnf);first|refine af (by kernel_rfl) ?_|refine aA ?_ ?_|refine ak (zR s.batch hb) rfl (aa.refl _) ?_|refine ak (sj s.cert va) rfl (aa.refl _) ?_|refine ak (q9 s.state tJ) rfl (aa.refl _) ?_|refine o8 [] (JT s.changes DG.1) (.mk' rfl trivial) (aa.refl _) rfl (fun r jR hp=>?_)
 rcases hp with⟨yZ,rfl,rfl⟩|⟨rfl,rfl⟩
 ·skip
  repeat' (conv=>arg 2;whnf);first|refine af (by kernel_rfl) ?_|refine o8 [] (EW s.entries A8.1) (.mk' rfl trivial) (aa.refl _) rfl (fun r jR hp=>?_)
  rcases hp with⟨DR,rfl,rfl⟩|⟨rfl,rfl⟩
  ·repeat'
    (conv=>arg 2;whnf)
    first|refine af (by kernel_rfl) ?_|refine aA ?_ ?_
   conv=>arg 2;whnf
   refine cD (α:=Unit) (fun a=>⟨[(28,.int .i64 0),(27,.int .i64 0),(2,.ptr 1 0),(1,.ptr 0 0)],[.cells 59 (pV s (.nils) (.nils)),.cells 59 pQ]⟩) (fun a=>True) (fun a=>0) () trivial (Sv.mk' [0,1] rfl ⟨⟨rfl,rfl⟩,⟨rfl,rfl⟩,trivial⟩ ⟨rfl,rfl,rfl,rfl,trivial⟩) ?_
   rintro a-
   ·skip
    repeat' (conv=>arg 2;whnf);first|refine af (by kernel_rfl) ?_|refine aA ?_ ?_|refine ah ?_|refine aj ?_|refine bD ?_
    conv=>arg 2;whnf
    refine cD (α:=Unit) (fun a=>⟨[(45,.int .i64 0),(44,.int .i64 0),(2,.ptr 1 0),(1,.ptr 0 0)],[.cells 59 (pV s (.nils) (.nils)),.cells 59 pQ]⟩) (fun a=>True) (fun a=>0) () trivial (Sv.mk' [0,1] rfl ⟨⟨rfl,rfl⟩,⟨rfl,rfl⟩,trivial⟩ ⟨rfl,rfl,rfl,rfl,trivial⟩) ?_
    rintro a-
    ·skip
     repeat' (conv=>arg 2;whnf);first|refine af (by kernel_rfl) ?_|refine aA ?_ ?_|refine ah ?_|refine aj ?_|refine bD ?_|refine ak (q9 s.proof.record mE.2.2.1) rfl (aa.refl _) ?_|refine ak (w8 s.proof.headers mE.2.2.2.1.1) rfl (aa.refl _) ?_|refine ak (w9 s.proof.path mE.2.2.2.2.2.2.1.1) rfl (aa.refl _) ?_|refine ak (sj s.proof.cert mE.2.2.2.2.2.2.2) rfl (aa.refl _) ?_|refine jo [] (.inr rfl) rfl (.refl _) rfl|refine jo [] (.inr rfl) rfl (aa.bA (by unfold qG;rw[List.map_eq_nil_iff.1 DR];rw[List.map_eq_nil_iff.1 yZ];repeat' first|exact aa.nil|refine aa.cons (.refl _) ?_|refine aa.cons (.nT _) ?_)) rfl|fail
  ·repeat'
    (conv=>arg 2;whnf)
    first|refine af (by kernel_rfl) ?_|refine aA ?_ ?_
   conv=>arg 2;whnf
   refine cD (α:=Unit) (fun a=>⟨[(28,.int .i64 0),(27,.int .i64 0),(2,.ptr 1 0),(1,.ptr 0 0)],[.cells 59 (pV s (.nils) (.row 2)),.cells 59 pQ,.row 159 5 (s.entries.map dH)]⟩) (fun a=>True) (fun a=>0) () trivial (Sv.mk' [0,1,2] rfl ⟨⟨rfl,rfl⟩,⟨rfl,rfl⟩,⟨rfl,rfl⟩,trivial⟩ ⟨rfl,rfl,rfl,rfl,trivial⟩) ?_
   rintro a-
   ·skip
    repeat' (conv=>arg 2;whnf);first|refine af (by kernel_rfl) ?_|refine aA ?_ ?_|refine ah ?_|refine aj ?_|refine bD ?_
    conv=>arg 2;whnf
    refine cD (α:=Nat) (fun i=>⟨[(45,.int .i64 i),(44,.int .i64 (s.entries.map dH).length),(2,.ptr 1 0),(1,.ptr 0 0)],[.cells 59 (pV s (.nils) (.row 2)),.cells 59 pQ,.row 159 5 ((s.entries.take i).map Ap++(s.entries.drop i).map dH)]⟩) (fun i=>i<=s.entries.length) (fun i=>s.entries.length-i) 0 (Nat.zero_le _) (Sv.mk' [0,1,2] rfl ⟨⟨rfl,rfl⟩,⟨rfl,rfl⟩,⟨rfl,rfl⟩,trivial⟩ ⟨rfl,rfl,rfl,rfl,trivial⟩) ?_
    intro i (hi:i<=s.entries.length)
    conv=>arg 2;whnf
    refine aG (fun h=>?_) (fun h=>?_)
    ·obtain⟨x,hx⟩:∃x,s.entries[i]?=some x:=⟨_,List.getElem?_eq_getElem (by simpa using h)⟩
     have h9:=(List.getElem?_eq_some_iff.1 hx).1
     repeat' (conv=>arg 2;whnf);first|refine af (by kernel_rfl) ?_|refine aA ?_ ?_|refine ah ?_|refine aj ?_|refine af (by simp only[rB];omega) ?_|refine Aj hx rfl ?_|refine zY rfl rfl (by rw[rB];exact h9) ?_|refine ak (zR x.batch (A8.2 x (List.mem_of_getElem? hx)).2.2.1) rfl (aa.refl _) ?_|refine aP (aZ (by(try dsimp only);omega) (by(try dsimp only);omega)) ?_|refine bV (i+1) (Sv.mk' [0,1,2] rfl ⟨⟨rfl,rfl⟩,⟨rfl,rfl⟩,⟨rfl,congrArg (AO.row 159 5) (Ai hx)⟩,trivial⟩ ⟨rfl,rfl,rfl,rfl,trivial⟩) (by show i+1<=s.entries.length;omega) (by show s.entries.length-(i+1)<s.entries.length-i;omega)|fail
    ·rw[vM hi (by simpa using h)]
     repeat' (conv=>arg 2;whnf);first|refine af (by kernel_rfl) ?_|refine aA ?_ ?_|refine ah ?_|refine aj ?_|refine bD ?_|refine ak (q9 s.proof.record mE.2.2.1) rfl (aa.refl _) ?_|refine ak (w8 s.proof.headers mE.2.2.2.1.1) rfl (aa.refl _) ?_|refine ak (w9 s.proof.path mE.2.2.2.2.2.2.1.1) rfl (aa.refl _) ?_|refine ak (sj s.proof.cert mE.2.2.2.2.2.2.2) rfl (aa.refl _) ?_|refine jo [2,1002] (.inr rfl) rfl (.refl _) rfl|refine jo [2,1002] (.inr rfl) rfl (aa.bA (by unfold qG;rw[List.map_eq_nil_iff.1 yZ];repeat' first|exact aa.nil|refine aa.cons (.refl _) ?_|refine aa.cons (.nT _) ?_)) rfl|fail
 ·skip
  repeat' (conv=>arg 2;whnf);first|refine af (by kernel_rfl) ?_|refine o8 [] (EW s.entries A8.1) (.mk' rfl trivial) (aa.refl _) rfl (fun r jR hp=>?_)
  rcases hp with⟨DR,rfl,rfl⟩|⟨rfl,rfl⟩
  ·repeat'
    (conv=>arg 2;whnf)
    first|refine af (by kernel_rfl) ?_|refine aA ?_ ?_
   conv=>arg 2;whnf
   refine cD (α:=Nat) (fun i=>⟨[(28,.int .i64 i),(27,.int .i64 (s.changes.map bW).length),(2,.ptr 1 0),(1,.ptr 0 0)],[.cells 59 (pV s (.row 2) (.nils)),.cells 59 pQ,.row 145 8 ((s.changes.take i).map kN++(s.changes.drop i).map bW)]⟩) (fun i=>i<=s.changes.length) (fun i=>s.changes.length-i) 0 (Nat.zero_le _) (Sv.mk' [0,1,2] rfl ⟨⟨rfl,rfl⟩,⟨rfl,rfl⟩,⟨rfl,rfl⟩,trivial⟩ ⟨rfl,rfl,rfl,rfl,trivial⟩) ?_
   intro i (hi:i<=s.changes.length)
   conv=>arg 2;whnf
   refine aG (fun h=>?_) (fun h=>?_)
   ·obtain⟨x,hx⟩:∃x,s.changes[i]?=some x:=⟨_,List.getElem?_eq_getElem (by simpa using h)⟩
    have h9:=(List.getElem?_eq_some_iff.1 hx).1
    repeat' (conv=>arg 2;whnf);first|refine af (by kernel_rfl) ?_|refine aA ?_ ?_|refine ah ?_|refine aj ?_|refine af (by simp only[rB];omega) ?_|refine Aj hx rfl ?_|refine zY rfl rfl (by rw[rB];exact h9) ?_|refine ak (BL x (DG.2 x (List.mem_of_getElem? hx))) rfl (aa.refl _) ?_|refine aP (aZ (by(try dsimp only);omega) (by(try dsimp only);omega)) ?_|refine bV (i+1) (Sv.mk' [0,1,2] rfl ⟨⟨rfl,rfl⟩,⟨rfl,rfl⟩,⟨rfl,congrArg (AO.row 145 8) (Ai hx)⟩,trivial⟩ ⟨rfl,rfl,rfl,rfl,trivial⟩) (by show i+1<=s.changes.length;omega) (by show s.changes.length-(i+1)<s.changes.length-i;omega)|fail
   ·rw[vM hi (by simpa using h)]
    repeat' (conv=>arg 2;whnf);first|refine af (by kernel_rfl) ?_|refine aA ?_ ?_|refine ah ?_|refine aj ?_|refine bD ?_
    conv=>arg 2;whnf
    refine cD (α:=Unit) (fun a=>⟨[(45,.int .i64 0),(44,.int .i64 0),(2,.ptr 1 0),(1,.ptr 0 0)],[.cells 59 (pV s (.row 2) (.nils)),.cells 59 pQ,.row 145 8 (s.changes.map kN)]⟩) (fun a=>True) (fun a=>0) () trivial (Sv.mk' [0,1,2] rfl ⟨⟨rfl,rfl⟩,⟨rfl,rfl⟩,⟨rfl,rfl⟩,trivial⟩ ⟨rfl,rfl,rfl,rfl,trivial⟩) ?_
    rintro a-
    ·skip
     repeat' (conv=>arg 2;whnf);first|refine af (by kernel_rfl) ?_|refine aA ?_ ?_|refine ah ?_|refine aj ?_|refine bD ?_|refine ak (q9 s.proof.record mE.2.2.1) rfl (aa.refl _) ?_|refine ak (w8 s.proof.headers mE.2.2.2.1.1) rfl (aa.refl _) ?_|refine ak (w9 s.proof.path mE.2.2.2.2.2.2.1.1) rfl (aa.refl _) ?_|refine ak (sj s.proof.cert mE.2.2.2.2.2.2.2) rfl (aa.refl _) ?_|refine jo [2,1002] (.inr rfl) rfl (.refl _) rfl|refine jo [2,1002] (.inr rfl) rfl (aa.bA (by unfold qG;rw[List.map_eq_nil_iff.1 DR];repeat' first|exact aa.nil|refine aa.cons (.refl _) ?_|refine aa.cons (.nT _) ?_)) rfl|fail
  ·repeat'
    (conv=>arg 2;whnf)
    first|refine af (by kernel_rfl) ?_|refine aA ?_ ?_
   conv=>arg 2;whnf
   refine cD (α:=Nat) (fun i=>⟨[(28,.int .i64 i),(27,.int .i64 (s.changes.map bW).length),(2,.ptr 1 0),(1,.ptr 0 0)],[.cells 59 (pV s (.row 2) (.row 3)),.cells 59 pQ,.row 145 8 ((s.changes.take i).map kN++(s.changes.drop i).map bW),.row 159 5 (s.entries.map dH)]⟩) (fun i=>i<=s.changes.length) (fun i=>s.changes.length-i) 0 (Nat.zero_le _) (Sv.mk' [0,1,2,3] rfl ⟨⟨rfl,rfl⟩,⟨rfl,rfl⟩,⟨rfl,rfl⟩,⟨rfl,rfl⟩,trivial⟩ ⟨rfl,rfl,rfl,rfl,trivial⟩) ?_
   intro i (hi:i<=s.changes.length)
   conv=>arg 2;whnf
   refine aG (fun h=>?_) (fun h=>?_)
   ·obtain⟨x,hx⟩:∃x,s.changes[i]?=some x:=⟨_,List.getElem?_eq_getElem (by simpa using h)⟩
    have h9:=(List.getElem?_eq_some_iff.1 hx).1
    repeat' (conv=>arg 2;whnf);first|refine af (by kernel_rfl) ?_|refine aA ?_ ?_|refine ah ?_|refine aj ?_|refine af (by simp only[rB];omega) ?_|refine Aj hx rfl ?_|refine zY rfl rfl (by rw[rB];exact h9) ?_|refine ak (BL x (DG.2 x (List.mem_of_getElem? hx))) rfl (aa.refl _) ?_|refine aP (aZ (by(try dsimp only);omega) (by(try dsimp only);omega)) ?_|refine bV (i+1) (Sv.mk' [0,1,2,3] rfl ⟨⟨rfl,rfl⟩,⟨rfl,rfl⟩,⟨rfl,congrArg (AO.row 145 8) (Ai hx)⟩,⟨rfl,rfl⟩,trivial⟩ ⟨rfl,rfl,rfl,rfl,trivial⟩) (by show i+1<=s.changes.length;omega) (by show s.changes.length-(i+1)<s.changes.length-i;omega)|fail
   ·rw[vM hi (by simpa using h)]
    repeat' (conv=>arg 2;whnf);first|refine af (by kernel_rfl) ?_|refine aA ?_ ?_|refine ah ?_|refine aj ?_|refine bD ?_
    conv=>arg 2;whnf
    refine cD (α:=Nat) (fun i=>⟨[(45,.int .i64 i),(44,.int .i64 (s.entries.map dH).length),(2,.ptr 1 0),(1,.ptr 0 0)],[.cells 59 (pV s (.row 2) (.row 3)),.cells 59 pQ,.row 145 8 (s.changes.map kN),.row 159 5 ((s.entries.take i).map Ap++(s.entries.drop i).map dH)]⟩) (fun i=>i<=s.entries.length) (fun i=>s.entries.length-i) 0 (Nat.zero_le _) (Sv.mk' [0,1,2,3] rfl ⟨⟨rfl,rfl⟩,⟨rfl,rfl⟩,⟨rfl,rfl⟩,⟨rfl,rfl⟩,trivial⟩ ⟨rfl,rfl,rfl,rfl,trivial⟩) ?_
    intro i (hi:i<=s.entries.length)
    conv=>arg 2;whnf
    refine aG (fun h=>?_) (fun h=>?_)
    ·obtain⟨x,hx⟩:∃x,s.entries[i]?=some x:=⟨_,List.getElem?_eq_getElem (by simpa using h)⟩
     have h9:=(List.getElem?_eq_some_iff.1 hx).1
     repeat' (conv=>arg 2;whnf);first|refine af (by kernel_rfl) ?_|refine aA ?_ ?_|refine ah ?_|refine aj ?_|refine af (by simp only[rB];omega) ?_|refine Aj hx rfl ?_|refine zY rfl rfl (by rw[rB];exact h9) ?_|refine ak (zR x.batch (A8.2 x (List.mem_of_getElem? hx)).2.2.1) rfl (aa.refl _) ?_|refine aP (aZ (by(try dsimp only);omega) (by(try dsimp only);omega)) ?_|refine bV (i+1) (Sv.mk' [0,1,2,3] rfl ⟨⟨rfl,rfl⟩,⟨rfl,rfl⟩,⟨rfl,rfl⟩,⟨rfl,congrArg (AO.row 159 5) (Ai hx)⟩,trivial⟩ ⟨rfl,rfl,rfl,rfl,trivial⟩) (by show i+1<=s.entries.length;omega) (by show s.entries.length-(i+1)<s.entries.length-i;omega)|fail
    ·rw[vM hi (by simpa using h)]
     repeat' (conv=>arg 2;whnf);first|refine af (by kernel_rfl) ?_|refine aA ?_ ?_|refine ah ?_|refine aj ?_|refine bD ?_|refine ak (q9 s.proof.record mE.2.2.1) rfl (aa.refl _) ?_|refine ak (w8 s.proof.headers mE.2.2.2.1.1) rfl (aa.refl _) ?_|refine ak (w9 s.proof.path mE.2.2.2.2.2.2.1.1) rfl (aa.refl _) ?_|refine ak (sj s.proof.cert mE.2.2.2.2.2.2.2) rfl (aa.refl _) ?_|refine jo [2,1002,3,1003] (.inr rfl) rfl (.refl _) rfl|refine jo [2,1002,3,1003] (.inr rfl) rfl (aa.bA (by unfold qG;repeat' first|exact aa.nil|refine aa.cons (.refl _) ?_|refine aa.cons (.nT _) ?_)) rfl|fail
end Go.Proofs.YtafomdobfmmleaaGreatDoor

/- Lemmas and contracts. -/
namespace Go.Proofs.YtafomdobfmmleaaGreatDoor
open Go.RowKit
set_option linter.unusedVariables false
set_option maxRecDepth 20000
theorem FO [Wd]:fP 119 (.ptr 0 0) [] (fun s=>.agg (cI (dw s).1)) (fun s=>(dw s).2):=by
 rintro⟨b,e⟩ hs
 replace hs:b.length<=8388609:=hs
 obtain⟨k,b0,e0,q,l⟩:=Rd1.get (dK 4) (b,e)
 replace l:b0.length<=b.length:=l
 have h0:b0.length<=8388609:=by omega
 have hk:=nO q
 have:k=0\/k=1\/k=2\/k=3\/k=4:=by omega
 rcases this with rfl|rfl|rfl|rfl|rfl
 ·exact U7 b e hs q h0
 ·exact U8 b e hs q h0
 ·exact Vb b e hs q h0
 ·exact U9 b e hs q h0
 ·exact Va b e hs q h0
theorem Qp [Wd]:fP 230 (.ptr 0 0) [] (fun s=>.agg (uc (rA s).1)) (fun s=>(rA s).2):=by
 rintro⟨b,e⟩ hs
 replace hs:b.length<=8388609:=hs
 obtain⟨x,b0,e0,q0,l0⟩:=Rd1.get (dK 65536) (b,e)
 replace l0:b0.length<=b.length:=l0
 have h0:b0.length<=8388609:=by omega
 obtain⟨y,b1,e1,q1,l1⟩:=Rd1.get (dK MX) (b0,e0)
 replace l1:b1.length<=b0.length:=l1
 have h1:b1.length<=8388609:=by omega
 have n0:=nO q0
 have n1:=nO q1
 rw[uF] at n1
 have eR:rA (b,e)=if e1=0 then(⟨x,y⟩,(b1,e1)) else(ud,(b1,e1)):=by unfold rA iV bg aT bZ;simp only[q0,q1]
 have gY:e1=0->rA (b,e)=(⟨x,y⟩,(b1,e1)):=fun h=>by rw[eR,if_pos h]
 have gN:¬e1=0->rA (b,e)=(ud,(b1,e1)):=fun h=>by rw[eR,if_neg h]
 refine aF 17 [] Tryz.func230 rfl (by kernel_rfl) ?_
 repeat' (conv=>arg 2;whnf);first|refine af (by kernel_rfl) ?_|refine aA ?_ ?_|refine ah ?_|refine aj ?_|refine dJ (by decide) ?_|refine bI (by decide) ?_|refine pT (fun h=>?_) (fun hz=>?_)|refine oF (fun h=>?_) (fun h=>?_)|refine aP (aZ (by decide) (by decide)) ?_|refine aP (aZ (by omega) (by omega)) ?_|refine aC 0 (b,e) (b0,e0) (.int .u64 x) (fD 65536) hs (congrArg Prod.snd q0).symm (congrArg (fun r:Int×RS=>D.int .u64 r.1) q0).symm ⟨⟨rfl,rfl⟩,trivial⟩ (aa.refl _) rfl ?_|refine aC 0 (b0,e0) (b1,e1) (.int .u64 y) (fD MX) h0 (congrArg Prod.snd q1).symm (congrArg (fun r:Int×RS=>D.int .u64 r.1) q1).symm ⟨⟨rfl,rfl⟩,trivial⟩ (aa.refl _) rfl ?_|refine aC 0 (b1,e1) (b1,e1) (.int .i64 e1) dh h1 rfl rfl ⟨⟨rfl,rfl⟩,trivial⟩ (aa.refl _) rfl ?_|refine bE (x:=b1) (y:=e1) (d:=.agg (uc ⟨x,y⟩)) (.inr rfl) rfl ⟨⟨rfl,rfl⟩,trivial⟩ rfl (.refl _) (congrArg Prod.snd (gY h)).symm (congrArg (fun r:lT×RS=>D.agg (uc r.1)) (gY h)).symm|refine bE (x:=b1) (y:=e1) (d:=.agg (uc ud)) (.inr rfl) rfl ⟨⟨rfl,rfl⟩,trivial⟩ rfl (.refl _) (congrArg Prod.snd (gN h)).symm (congrArg (fun r:lT×RS=>D.agg (uc r.1)) (gN h)).symm|fail
theorem Vc [Wd] (bs:List UInt8) (hl:bs.length<=8388609):aJ Tryz.prog 314 [.list 1 (bs.map aE)] (.aD [.agg (Ci (kW bs).1),.int .i64 (kW bs).2]):=by
 obtain⟨b,hb⟩:∃b,b=bs:=⟨_,rfl⟩
 obtain⟨e,he⟩:∃e:Int,e=0:=⟨_,rfl⟩
 have hs:b.length<=8388609:=by rw[hb];exact hl
 obtain⟨c,b0,e0,q0,l0⟩:=Rd1.get (dK 7) (b,e)
 replace l0:b0.length<=b.length:=l0
 have h0:b0.length<=8388609:=by omega
 obtain⟨t,b1,e1,q1,l1⟩:=Rd1.get (dK MX) (b0,e0)
 replace l1:b1.length<=b0.length:=l1
 have h1:b1.length<=8388609:=by omega
 obtain⟨o,b2,e2,q2,l2⟩:=Rd1.get Gf (b1,e1)
 replace l2:b2.length<=b1.length:=l2
 have h2:b2.length<=8388609:=by omega
 subst hb he
 have n0:=nO q0
 have n1:=nO q1
 rw[uF] at n1
 obtain⟨d,hd⟩:∃d,d=gy (b2,e2):=⟨_,rfl⟩
 have eR:kW b=if d=0 then(if t=0 then(yV,80) else(⟨c,t,o⟩,0)) else(yV,d):=by unfold kW xy bg aT bZ;simp only[q0,q1,q2,<-hd]
 have gD:¬d=0->kW b=(yV,d):=fun h=>by rw[eR,if_neg h]
 have gT:d=0->t=0->kW b=(yV,80):=fun h k=>by rw[eR,if_pos h,if_pos k]
 have gY:d=0->¬t=0->kW b=(⟨c,t,o⟩,0):=fun h k=>by rw[eR,if_pos h,if_neg k]
 refine aF 31 [] Tryz.func314 rfl (by kernel_rfl) ?_
 repeat' (conv=>arg 2;whnf);first|refine af (by kernel_rfl) ?_|refine aA ?_ ?_|refine ah ?_|refine aj ?_|refine dJ (by decide) ?_|refine bI (by decide) ?_|refine oF (fun h=>?_) (fun h=>?_)|refine pT (fun k=>?_) (fun k=>?_)|refine aP (aZ (by decide) (by decide)) ?_|refine aP (aZ (by omega) (by omega)) ?_|refine aC 1 (b,0) (b0,e0) (.int .u64 c) (fD 7) hs (congrArg Prod.snd q0).symm (congrArg (fun r:Int×RS=>D.int .u64 r.1) q0).symm ⟨⟨rfl,rfl⟩,trivial⟩ (aa.refl _) rfl ?_|refine aC 1 (b0,e0) (b1,e1) (.int .u64 t) (fD MX) h0 (congrArg Prod.snd q1).symm (congrArg (fun r:Int×RS=>D.int .u64 r.1) q1).symm ⟨⟨rfl,rfl⟩,trivial⟩ (aa.refl _) rfl ?_|refine aC 1 (b1,e1) (b2,e2) (.agg (cI o)) FO h1 (congrArg Prod.snd q2).symm (congrArg (fun r:bF×RS=>D.agg (cI r.1)) q2).symm ⟨⟨rfl,rfl⟩,trivial⟩ (aa.refl _) rfl ?_|refine dx [] (vr b (by omega)) (.mk' rfl trivial) (aa.refl _) rfl ?_|refine aC 1 (b2,e2) (b2,e2) (.int .i64 d) xp h2 rfl (by rw[hd]) ⟨⟨rfl,rfl⟩,trivial⟩ (aa.refl _) rfl ?_|(rw[gY h k];refine bq (.inr rfl) rfl (.refl _) rfl)|(rw[gT h k];refine bq (.inr rfl) rfl (aa.fG (aa.cons (aa.bA (aa.cons (.refl _) (aa.cons (.refl _) (aa.cons (.refl _) (aa.cons (.refl _) (aa.cons (.refl _) (aa.cons (.refl _) (aa.cons (.nil _) .nil)))))))) (aa.cons (.refl _) .nil))) rfl)|(rw[gD h];refine bq (.inr rfl) rfl (aa.fG (aa.cons (aa.bA (aa.cons (.refl _) (aa.cons (.refl _) (aa.cons (.refl _) (aa.cons (.refl _) (aa.cons (.refl _) (aa.cons (.refl _) (aa.cons (.nil _) .nil)))))))) (aa.cons (.refl _) .nil))) rfl)|fail
end Go.Proofs.YtafomdobfmmleaaGreatDoor

/- Lemmas and contracts. -/
namespace Go.Proofs.YtafomdobfmmleaaGreatDoor
open Go.RowKit
set_option linter.unusedVariables false
set_option maxRecDepth 20000
theorem MR {α:Type} {p:RS->α×RS} {m:Nat} {b:List UInt8} {s2:RS} {x:α} (h:p (b,0)=(x,s2)):aV p (m+1) (b,0)=(x::(aV p m s2).1,(aV p m s2).2):=by
 conv=>lhs;unfold aV
 rw[if_pos rfl,h]
theorem WN {α:Type} {p:RS->α×RS} {m:Nat} {b:List UInt8} {s2:RS} {x:α} (h:p (b,0)=(x,s2)) (hb:¬s2.2=0):aV p (m+1) (b,0)=([x],s2):=by
 rw[MR h,sC _ _ _ hb]
theorem NJ [Wd] {P:Program} {Q:Exit->S->Prop} {a b:Nat} {t f:T} (h1:a<b->t.ok P Q) (h2:b<=a->f.ok P Q):(T.br (decide ((a:Int)<(b:Int))) t f).ok P Q:=⟨fun h=>h1 (by simpa using h),fun h=>h2 (by simpa using h)⟩
set_option maxHeartbeats 2000000 in
theorem QJ [Wd]:fP 278 (.ptr 0 0) [] (fun s=>.list 9 ((jW s).1.map cZ)) (fun s=>(jW s).2):=by
 rintro⟨b,e⟩ hs
 replace hs:b.length<=8388609:=hs
 obtain⟨n,b0,e0,qn,hn,l0⟩:=sw 4 (b,e)
 replace l0:b0.length<=b.length:=l0
 have h0:b0.length<=8388609:=by omega
 have q0:nR 4 (b,e)=((n:Int),(b0,e0)):=by unfold nR;rw[qn]
 obtain⟨rs,b3,e3,q3,l3⟩:=Rd1.get (Av Ka n) (b0,e0)
 replace l3:b3.length<=b0.length:=l3
 have h3:b3.length<=8388609:=by omega
 obtain⟨ef,iC⟩:∃ef:Int,eX (fZ rs) (b3,e3)=(b3,ef):=⟨(eX (fZ rs) (b3,e3)).2,Prod.ext (sy _ _) rfl⟩
 have eR:jW (b,e)=if ef=0 then(rs,(b3,ef)) else([],(b3,ef)):=by
  unfold jW iV gd bg bZ
  simp only[q0,Int.toNat_natCast,q3,iC]
 have mC:e3=0->(dL gF).ok rs:=fun he=>by
  have h:=(Nh Kb n).zm q3 he
  exact⟨by rw[h.1];omega,fun x hx=>⟨NA (h.2 x hx).1,vU (h.2 x hx).2⟩⟩
 have fu:¬e3=0->ef=e3:=fun he=>by
  have:=iC
  rw[sD _ he] at this
  exact(congrArg (fun r:RS=>r.2) this).symm
 have gY:ef=0->jW (b,e)=(rs,(b3,ef)):=fun h=>by rw[eR,if_pos h]
 have gN:¬ef=0->jW (b,e)=([],(b3,ef)):=fun h=>by rw[eR,if_neg h]
 have gE:¬e3=0->jW (b,e)=([],(b3,e3)):=fun h=>by rw[eR,fu h,if_neg h]
 refine aF 43 [(9,⟨[(0,false),(1,false),(2,false),(3,true),(4,false),(5,true),(6,true),(7,false)],[0,1]⟩)] Tryz.func278 rfl (by kernel_rfl) ?_
 repeat' (conv=>arg 2;whnf);first|refine af (by kernel_rfl) ?_|refine aA ?_ ?_|refine ah ?_|refine aj ?_|refine aC 0 (b,e) (b0,e0) (.int .u64 (n:Int)) (fD 4) hs (congrArg Prod.snd q0).symm (congrArg (fun r:Int×RS=>D.int .u64 r.1) q0).symm ⟨⟨rfl,rfl⟩,trivial⟩ (aa.refl _) rfl ?_
 conv=>arg 2;whnf
 refine cD (α:=Nat×RS×List cq) (fun a=>match a.2.2 with
  |[]=>⟨[(9,.int .u64 a.1),(8,.int .u64 (n:Int)),(3,.nils),(2,.nils),(0,.ptr 0 0)],[.cells 235 [.list 1 (a.2.1.1.map aE),.int .i64 a.2.1.2,.bool true]]⟩
  |x::l=>⟨[(9,.int .u64 a.1),(8,.int .u64 (n:Int)),(3,.row 1),(2,.nils),(0,.ptr 0 0)],[.cells 235 [.list 1 (a.2.1.1.map aE),.int .i64 a.2.1.2,.bool true],.row 183 9 ((x::l).map cZ)]⟩) (fun a=>a.1<=n/\a.2.1.1.length<=8388609/\a.2.2.length=a.1/\(rs,(b3,e3))=(a.2.2++(aV lZ (n-a.1) a.2.1).1,(aV lZ (n-a.1) a.2.1).2)) (fun a=>n-a.1) (0,(b0,e0),[]) ⟨Nat.zero_le _,h0,rfl,q3.symm⟩ (Sv.mk' [0] rfl ⟨⟨rfl,rfl⟩,trivial⟩ ⟨rfl,rfl,rfl,rfl,rfl,trivial⟩) ?_
 rintro⟨i,⟨bb,ee⟩,out⟩ ⟨hi,hl,lR,hg⟩
 replace hi:i<=n:=hi
 replace hl:bb.length<=8388609:=hl
 replace lR:out.length=i:=lR
 replace hg:(rs,(b3,e3))=(out++(aV lZ (n-i) (bb,ee)).1,(aV lZ (n-i) (bb,ee)).2):=hg
 obtain⟨x,b1,e1,q1,l1⟩:=Rd1.get (ju 1024) (bb,ee)
 replace l1:b1.length<=bb.length:=l1
 have h1:b1.length<=8388609:=by omega
 have qM:=vD q1
 obtain⟨y,k,qk⟩:∃(y:jg) (k:Int),kW x=(y,k):=⟨_,_,rfl⟩
 have qp:aJ Tryz.prog 314 [.list 1 (x.map aE)] (.aD [.agg (Ci y),.int .i64 k]):=by
  have:=Vc x (by omega)
  rw[qk] at this
  exact this
 obtain⟨sg,b2,e2,q2,l2⟩:=Rd1.get j7 (b1,k)
 replace l2:b2.length<=b1.length:=l2
 have h2:b2.length<=8388609:=by omega
 have YJ:e1=0->ee=0:=fun h=>by
  have:=(ju 1024).ok (s:=(bb,ee)) (by rw[q1];exact h)
  exact congrArg Prod.snd this
 have qs:e1=0->lZ (bb,ee)=(⟨y,sg⟩,(b2,e2)):=fun h=>by
  rw[h] at q1
  unfold lZ bg aT bZ gd
  simp only[q1,qk,U6,q2]
 have jE:i<n->e1=0->(rs,(b3,e3))=((out++[⟨y,sg⟩])++(aV lZ (n-(i+1)) (b2,e2)).1,(aV lZ (n-(i+1)) (b2,e2)).2):=fun hlt h=>by
  have e:n-i=(n-(i+1))+1:=by omega
  have hs:=qs h
  rw[YJ h] at hs hg
  rw[e,MR hs] at hg
  rw[hg]
  simp
 have qH:i<n->¬e1=0->jW (b,e)=([],(b1,e1)):=fun hlt h=>by
  have e':n-i=(n-(i+1))+1:=by omega
  have key:b3=b1/\e3=e1:=by
   by_cases he:ee=0
   ·have hs:(lZ (bb,ee)).2=(b1,e1):=by
     unfold lZ bg aT bZ gd
     simp only[q1,sD _ h]
     have h1:(fm (b1,e1)).2=(b1,e1):=by
      rw[Fz]
      unfold iV gd bg aT bZ nR
      simp only[Ca 20 (b1,e1) h,Ca MX (b1,e1) h,sD _ h,if_neg h]
     exact h1
    have jR:lZ (bb,0)=((lZ (bb,ee)).1,(b1,e1)):=by rw[<-hs,he]
    rw[e',he,WN jR h] at hg
    have:=congrArg (fun r:List cq×RS=>r.2) hg
    exact⟨congrArg Prod.fst this,congrArg Prod.snd this⟩
   ·rw[sC _ _ _ he] at hg
    have:=congrArg (fun r:List cq×RS=>r.2) hg
    have hq:fU 1024 (bb,ee)=([],(bb,ee)):=by
     unfold fU
     rw[Ca 1024 (bb,ee) he]
     exact J7 _ (bb,ee) he
    rw[hq] at q1
    have g2:=congrArg (fun r:List UInt8×RS=>r.2) q1
    exact⟨(congrArg Prod.fst this).trans (congrArg Prod.fst g2),(congrArg Prod.snd this).trans (congrArg Prod.snd g2)⟩
  obtain⟨k1,k2⟩:=key
  subst k1 k2
  exact gE h
 have cO:n<=i->rs=out/\b3=bb/\e3=ee:=fun h=>by
  rw[show n-i=0 by omega] at hg
  have hg:(rs,(b3,e3))=(out++[],(bb,ee)):=hg
  rw[List.append_nil] at hg
  cases hg
  exact⟨rfl,rfl,rfl⟩
 cases out with
 |nil=>
  conv=>arg 2;whnf
  refine NJ (fun hlt=>?_) (fun dn=>?_)
  ·replace hlt:i<n:=hlt
   repeat' (conv=>arg 2;whnf);first|refine aC 0 (bb,ee) (b1,e1) (.list 1 (x.map aE)) (BX 1024 (by decide)) hl (congrArg Prod.snd q1).symm (congrArg (fun r:List UInt8×RS=>D.list 1 (r.1.map aE)) q1).symm ⟨⟨rfl,rfl⟩,trivial⟩ (aa.refl _) rfl ?_|refine aC 0 (b1,e1) (b1,e1) (.int .i64 e1) dh h1 rfl rfl ⟨⟨rfl,rfl⟩,trivial⟩ (aa.refl _) rfl ?_|refine ak qp rfl (aa.refl _) ?_|refine aC 0 (b1,e1) (b1,k) (.aD []) (j6 k) h1 (by rw[h];rfl) rfl ⟨⟨rfl,rfl⟩,trivial⟩ (aa.refl _) rfl ?_|refine aC 0 (b1,k) (b2,e2) (.agg (bu sg)) Eh h1 (congrArg Prod.snd q2).symm (congrArg (fun r:bH×RS=>D.agg (bu r.1)) q2).symm ⟨⟨rfl,rfl⟩,trivial⟩ (aa.refl _) rfl ?_|refine aA ?_ ?_|refine ah ?_|refine aj ?_|refine oF (fun h=>?_) (fun h=>?_)|refine af (by kernel_rfl) ?_|refine af (by constructor<;>(simp only[List.length_cons,List.length_nil];decide)) ?_|refine aP (Ds (by show 0<=(i:Int)+1;omega) (by show(i:Int)+1<_;omega)) ?_|refine bV (i+1,(b2,e2),[⟨y,sg⟩]) (Sv.mk' [0,6] rfl ⟨⟨rfl,rfl⟩,⟨rfl,rfl⟩,trivial⟩ ⟨rfl,rfl,rfl,rfl,rfl,trivial⟩) ⟨hlt,h2,by show([⟨y,sg⟩]).length=i+1;simp at lR ⊢;omega,jE hlt h⟩ (by show n-(i+1)<n-i;omega)|refine fF ?_|refine bE (x:=b1) (y:=e1) (d:=.list 9 []) (.inr rfl) rfl ⟨⟨rfl,rfl⟩,trivial⟩ rfl (.nil _) (congrArg Prod.snd (qH hlt h)).symm (congrArg (fun r:List cq×RS=>D.list 9 (r.1.map cZ)) (qH hlt h)).symm|fail
  ·obtain⟨er,eb,wX⟩:=cO dn
   subst er eb wX
   repeat' (conv=>arg 2;whnf);first|refine af (by kernel_rfl) ?_|refine aA ?_ ?_|refine ah ?_|refine aj ?_|refine pT (fun h=>?_) (fun hz=>?_)|refine oF (fun h=>?_) (fun h=>?_)|refine bD ?_|refine aC 0 (b3,e3) (b3,e3) (.int .i64 e3) dh h3 rfl rfl ⟨⟨rfl,rfl⟩,trivial⟩ (aa.refl _) rfl ?_|refine ak (zN [] (mC h)) rfl (aa.cons (.nil _) .nil) ?_|refine aC 0 (b3,e3) (b3,ef) (.aD []) (j6 (fZ [])) h3 iC.symm rfl ⟨⟨rfl,rfl⟩,trivial⟩ (aa.refl _) rfl ?_|refine aC 0 (b3,ef) (b3,ef) (.int .i64 ef) dh h3 rfl rfl ⟨⟨rfl,rfl⟩,trivial⟩ (aa.refl _) rfl ?_|refine bE (x:=b3) (y:=ef) (d:=.list 9 []) (.inr rfl) rfl ⟨⟨rfl,rfl⟩,trivial⟩ rfl (.nil _) (congrArg Prod.snd (gY h)).symm (congrArg (fun r:List cq×RS=>D.list 9 (r.1.map cZ)) (gY h)).symm|refine bE (x:=b3) (y:=ef) (d:=.list 9 []) (.inr rfl) rfl ⟨⟨rfl,rfl⟩,trivial⟩ rfl (.nil _) (congrArg Prod.snd (gN h)).symm (congrArg (fun r:List cq×RS=>D.list 9 (r.1.map cZ)) (gN h)).symm|refine bE (x:=b3) (y:=e3) (d:=.list 9 []) (.inr rfl) rfl ⟨⟨rfl,rfl⟩,trivial⟩ rfl (.nil _) (congrArg Prod.snd (gE h)).symm (congrArg (fun r:List cq×RS=>D.list 9 (r.1.map cZ)) (gE h)).symm|exact absurd h hz|fail
 |cons z out=>
  conv=>arg 2;whnf
  refine NJ (fun hlt=>?_) (fun dn=>?_)
  ·replace hlt:i<n:=hlt
   repeat' (conv=>arg 2;whnf);first|refine aC 0 (bb,ee) (b1,e1) (.list 1 (x.map aE)) (BX 1024 (by decide)) hl (congrArg Prod.snd q1).symm (congrArg (fun r:List UInt8×RS=>D.list 1 (r.1.map aE)) q1).symm ⟨⟨rfl,rfl⟩,trivial⟩ (aa.refl _) rfl ?_|refine aC 0 (b1,e1) (b1,e1) (.int .i64 e1) dh h1 rfl rfl ⟨⟨rfl,rfl⟩,trivial⟩ (aa.refl _) rfl ?_|refine ak qp rfl (aa.refl _) ?_|refine aC 0 (b1,e1) (b1,k) (.aD []) (j6 k) h1 (by rw[h];rfl) rfl ⟨⟨rfl,rfl⟩,trivial⟩ (aa.refl _) rfl ?_|refine aC 0 (b1,k) (b2,e2) (.agg (bu sg)) Eh h1 (congrArg Prod.snd q2).symm (congrArg (fun r:bH×RS=>D.agg (bu r.1)) q2).symm ⟨⟨rfl,rfl⟩,trivial⟩ (aa.refl _) rfl ?_|refine aA ?_ ?_|refine ah ?_|refine aj ?_|refine oF (fun h=>?_) (fun h=>?_)|refine af (by kernel_rfl) ?_|refine af (by constructor<;>(simp only[List.length_cons,List.length_nil,List.length_map,maxLen] at lR ⊢;omega)) ?_|refine aP (Ds (by show 0<=(i:Int)+1;omega) (by show(i:Int)+1<_;omega)) ?_|refine bV (i+1,(b2,e2),((z::out)++[(⟨y,sg⟩:cq)])) (Sv.mk' [0,7] rfl ⟨⟨rfl,rfl⟩,⟨rfl,by simp;rfl⟩,trivial⟩ ⟨rfl,rfl,rfl,rfl,rfl,trivial⟩) ⟨hlt,h2,by show(((z::out)++[(⟨y,sg⟩:cq)])).length=i+1;simp at lR ⊢;omega,jE hlt h⟩ (by show n-(i+1)<n-i;omega)|refine fF ?_|refine bE (x:=b1) (y:=e1) (d:=.list 9 []) (.inr rfl) rfl ⟨⟨rfl,rfl⟩,trivial⟩ rfl (.nil _) (congrArg Prod.snd (qH hlt h)).symm (congrArg (fun r:List cq×RS=>D.list 9 (r.1.map cZ)) (qH hlt h)).symm|fail
  ·obtain⟨er,eb,wX⟩:=cO dn
   subst er eb wX
   repeat' (conv=>arg 2;whnf);first|refine af (by kernel_rfl) ?_|refine aA ?_ ?_|refine ah ?_|refine aj ?_|refine pT (fun h=>?_) (fun hz=>?_)|refine oF (fun h=>?_) (fun h=>?_)|refine bD ?_|refine aC 0 (b3,e3) (b3,e3) (.int .i64 e3) dh h3 rfl rfl ⟨⟨rfl,rfl⟩,trivial⟩ (aa.refl _) rfl ?_|refine NI [1] (zN (z::out) (mC h)) rfl (aa.refl _) rfl ?_|refine aC 0 (b3,e3) (b3,ef) (.aD []) (j6 (fZ (z::out))) h3 iC.symm rfl ⟨⟨rfl,rfl⟩,trivial⟩ (aa.refl _) rfl ?_|refine aC 0 (b3,ef) (b3,ef) (.int .i64 ef) dh h3 rfl rfl ⟨⟨rfl,rfl⟩,trivial⟩ (aa.refl _) rfl ?_|refine nK [1] (x:=b3) (y:=ef) (d:=.list 9 ((z::out).map cZ)) (.inr rfl) rfl ⟨⟨rfl,rfl⟩,trivial⟩ rfl (.refl _) (congrArg Prod.snd (gY h)).symm (congrArg (fun r:List cq×RS=>D.list 9 (r.1.map cZ)) (gY h)).symm|refine bE (x:=b3) (y:=ef) (d:=.list 9 []) (.inr rfl) rfl ⟨⟨rfl,rfl⟩,trivial⟩ rfl (.nil _) (congrArg Prod.snd (gN h)).symm (congrArg (fun r:List cq×RS=>D.list 9 (r.1.map cZ)) (gN h)).symm|refine bE (x:=b3) (y:=e3) (d:=.list 9 []) (.inr rfl) rfl ⟨⟨rfl,rfl⟩,trivial⟩ rfl (.nil _) (congrArg Prod.snd (gE h)).symm (congrArg (fun r:List cq×RS=>D.list 9 (r.1.map cZ)) (gE h)).symm|exact absurd h hz|fail
end Go.Proofs.YtafomdobfmmleaaGreatDoor

/- Lemmas and contracts. -/
namespace Go.Proofs.YtafomdobfmmleaaGreatDoor
open Go.RowKit
set_option linter.unusedVariables false
set_option maxRecDepth 20000
theorem Tw:Rd1 uD:=nD j7 13
theorem Cc [Wd]:fP 224 (.agg [.ptr 0 0]) [] (fun s=>.list 9 ((jW s).1.map cZ)) (fun s=>(jW s).2):=by
 intro s hs
 refine aF 6 [] Tryz.func224 rfl (by kernel_rfl) ?_
 repeat' (conv=>arg 2;whnf);first|refine af (by kernel_rfl) ?_|refine aA ?_ ?_|refine ah ?_|refine aj ?_|refine aC 0 s (jW s).2 (.list 9 ((jW s).1.map cZ)) QJ hs rfl rfl ⟨⟨rfl,rfl⟩,trivial⟩ (aa.refl _) rfl ?_|refine bE (d:=.list 9 ((jW s).1.map cZ)) (.inr rfl) rfl ⟨⟨rfl,rfl⟩,trivial⟩ rfl (.refl _) rfl rfl
theorem Tx [Wd]:fP 315 (.agg [.ptr 0 0]) [] (fun s=>.list 2 ((uD s).1.map bu)) (fun s=>(uD s).2):=by
 intro s hs
 refine aF 5 [] Tryz.func315 rfl (by kernel_rfl) ?_
 repeat' (conv=>arg 2;whnf);first|refine af (by kernel_rfl) ?_|refine aA ?_ ?_|refine ah ?_|refine aj ?_|refine aC 0 s (uD s).2 (.list 2 ((uD s).1.map bu)) (Jw 13 (by decide) (by decide)) hs rfl rfl ⟨⟨rfl,rfl⟩,trivial⟩ (aa.refl _) rfl ?_|refine bE (d:=.list 2 ((uD s).1.map bu)) (.inr rfl) rfl ⟨⟨rfl,rfl⟩,trivial⟩ rfl (.refl _) rfl rfl
theorem LX [Wd]:fP 286 (.agg [.ptr 0 0]) [] (fun s=>.int .i64 ((bP 0) s).1) (fun s=>((bP 0) s).2):=by
 intro s hs
 refine aF 5 [] Tryz.func286 rfl (by kernel_rfl) ?_
 repeat' (conv=>arg 2;whnf);first|refine af (by kernel_rfl) ?_|refine aA ?_ ?_|refine ah ?_|refine aj ?_|refine aC 0 s ((bP 0) s).2 (.int .i64 ((bP 0) s).1) (so 0) hs rfl rfl ⟨⟨rfl,rfl⟩,trivial⟩ (aa.refl _) rfl ?_|refine bE (d:=.int .i64 ((bP 0) s).1) (.inr rfl) rfl ⟨⟨rfl,rfl⟩,trivial⟩ rfl (.refl _) rfl rfl
theorem Jt [Wd]:fP 280 (.agg [.ptr 0 0]) [] (fun s=>.agg (eK (jN s).1)) (fun s=>(jN s).2):=by
 rintro⟨b,e⟩ hs
 replace hs:b.length<=8388609:=hs
 obtain⟨v,b0,e0,q0,l0⟩:=Rd1.get (cY 0) (b,e)
 replace l0:b0.length<=b.length:=l0
 have h0:b0.length<=8388609:=by omega
 obtain⟨n,b1,e1,q1,l1⟩:=Rd1.get (cY 1) (b0,e0)
 replace l1:b1.length<=b0.length:=l1
 have h1:b1.length<=8388609:=by omega
 obtain⟨d,b2,e2,q2,l2⟩:=Rd1.get (cY 1) (b1,e1)
 replace l2:b2.length<=b1.length:=l2
 have h2:b2.length<=8388609:=by omega
 obtain⟨f,b3,e3,q3,l3⟩:=Rd1.get j7 (b2,e2)
 replace l3:b3.length<=b2.length:=l3
 have h3:b3.length<=8388609:=by omega
 obtain⟨g,b4,e4,q4,l4⟩:=Rd1.get Tw (b3,e3)
 replace l4:b4.length<=b3.length:=l4
 have h4:b4.length<=8388609:=by omega
 obtain⟨t,b5,e5,q5,l5⟩:=Rd1.get tU (b4,e4)
 replace l5:b5.length<=b4.length:=l5
 have h5:b5.length<=8388609:=by omega
 have eR:jN (b,e)=(⟨v,n,d,f,g,t⟩,(b5,e5)):=by unfold jN bg aT bZ;simp only[q0,q1,q2,q3,q4,q5]
 refine aF 23 [] Tryz.func280 rfl (by kernel_rfl) ?_
 repeat' (conv=>arg 2;whnf);first|refine af (by kernel_rfl) ?_|refine aA ?_ ?_|refine ah ?_|refine aj ?_|refine aC 0 (b,e) (b0,e0) (.int .i64 v) (kA 0) hs (congrArg Prod.snd q0).symm (congrArg (fun r:Int×RS=>D.int .i64 r.1) q0).symm ⟨⟨rfl,rfl⟩,trivial⟩ (aa.refl _) rfl ?_|refine aC 0 (b0,e0) (b1,e1) (.int .i64 n) (kA 1) h0 (congrArg Prod.snd q1).symm (congrArg (fun r:Int×RS=>D.int .i64 r.1) q1).symm ⟨⟨rfl,rfl⟩,trivial⟩ (aa.refl _) rfl ?_|refine aC 0 (b1,e1) (b2,e2) (.int .i64 d) (so 1) h1 (congrArg Prod.snd q2).symm (congrArg (fun r:Int×RS=>D.int .i64 r.1) q2).symm ⟨⟨rfl,rfl⟩,trivial⟩ (aa.refl _) rfl ?_|refine aC 0 (b2,e2) (b3,e3) (.agg (bu f)) oY h2 (congrArg Prod.snd q3).symm (congrArg (fun r:bH×RS=>D.agg (bu r.1)) q3).symm ⟨⟨rfl,rfl⟩,trivial⟩ (aa.refl _) rfl ?_|refine aC 0 (b3,e3) (b4,e4) (.list 2 (g.map bu)) Tx h3 (congrArg Prod.snd q4).symm (congrArg (fun r:List bH×RS=>D.list 2 (r.1.map bu)) q4).symm ⟨⟨rfl,rfl⟩,trivial⟩ (aa.refl _) rfl ?_|refine aC 0 (b4,e4) (b5,e5) (.list 9 (t.map cZ)) Cc h4 (congrArg Prod.snd q5).symm (congrArg (fun r:List cq×RS=>D.list 9 (r.1.map cZ)) q5).symm ⟨⟨rfl,rfl⟩,trivial⟩ (aa.refl _) rfl ?_|refine bE (d:=.agg (eK (⟨v,n,d,f,g,t⟩))) (.inr rfl) rfl ⟨⟨rfl,rfl⟩,trivial⟩ rfl (.refl _) (congrArg Prod.snd eR).symm (congrArg (fun r:gq×RS=>D.agg (eK r.1)) eR).symm
set_option maxHeartbeats 1000000 in
theorem PB [Wd] (aq:Int) (p8:0<=aq) (hm:aq<=4096):fP 279 (.agg [.ptr 0 0]) [.int .i64 aq,.fn 280 0 []] (fun s=>.list 7 ((dR jN aq s).1.map eK)) (fun s=>(dR jN aq s).2):=by
 intro s0 hs
 obtain⟨N,b0,e0,en,qN,hN,wC⟩:=vi aq p8 s0
 have eL:dR jN aq s0=aV jN N.toNat (b0,e0):=by unfold dR;rw[en]
 refine aF 29 [] Tryz.func279 rfl (by kernel_rfl) ?_
 repeat' (conv=>arg 2;whnf);first|refine af (by kernel_rfl) ?_|refine aC 0 s0 (b0,e0) (.int .i64 N) (vu aq) hs (congrArg Prod.snd en).symm (congrArg (fun r:Int×RS=>D.int .i64 r.1) en).symm ⟨⟨rfl,rfl⟩,trivial⟩ (aa.refl _) rfl ?_
 conv=>arg 2;whnf
 refine cD (α:=Int×RS×List gq) (fun a=>match a.2.2 with
  |[]=>⟨[(8,.int .i64 a.1),(7,.nils),(3,.ptr 1 0),(2,.fn 280 0 [])],[.cells 235 [.list 1 (a.2.1.1.map aE),.int .i64 a.2.1.2,.bool true],.cells 239 [.ptr 0 0]]⟩
  |x::l=>⟨[(8,.int .i64 a.1),(7,.row 2),(3,.ptr 1 0),(2,.fn 280 0 [])],[.cells 235 [.list 1 (a.2.1.1.map aE),.int .i64 a.2.1.2,.bool true],.cells 239 [.ptr 0 0],.row 190 7 ((x::l).map eK)]⟩) (fun a=>0<=a.1/\a.1<=4096/\a.2.1.1.length<=8388609/\a.2.2.length+a.1.toNat<=4096/\aV jN N.toNat (b0,e0)=(a.2.2++(aV jN a.1.toNat a.2.1).1,(aV jN a.1.toNat a.2.1).2)) (fun a=>a.1.toNat) (N,(b0,e0),[]) ⟨qN,by omega,by show b0.length<=_;omega,by simp;omega,rfl⟩ (Sv.mk' [0,1] rfl ⟨⟨rfl,rfl⟩,⟨rfl,rfl⟩,trivial⟩ ⟨rfl,rfl,rfl,rfl,trivial⟩) ?_
 rintro⟨n,⟨b,e⟩,out⟩ ⟨h0,h1,hl,ho,hg⟩
 replace h0:0<=n:=h0
 replace h1:n<=4096:=h1
 replace hl:b.length<=8388609:=hl
 replace ho:out.length+n.toNat<=4096:=ho
 replace hg:aV jN N.toNat (b0,e0)=(out++(aV jN n.toNat (b,e)).1,(aV jN n.toNat (b,e)).2):=hg
 obtain⟨x,b2,e2,ep⟩:∃(x:gq) (b2:List UInt8) (e2:Int),jN (b,e)=(x,(b2,e2)):=⟨_,_,_,rfl⟩
 have kX:b2.length<=8388609:=by
  have h:=FA.len (b,e)
  rw[ep] at h
  exact Nat.le_trans h hl
 have cO:(n<=0\/¬e=0)->dR jN aq s0=(out,(b,e)):=fun h=>by
  rw[eL,hg]
  rcases h with h|h
  ·rw[show n.toNat=0 by omega];simp[aV]
  ·rw[sC _ _ _ h];simp
 have jE:0<n->e=0->aV jN N.toNat (b0,e0)=((out++[x])++(aV jN (n-1).toNat (b2,e2)).1,(aV jN (n-1).toNat (b2,e2)).2):=fun hn h=>by
  rw[hg,xq _ hn h,ep]
  simp
 cases out with
 |nil=>
  conv=>arg 2;whnf
  refine aG (fun hn=>?_) (fun hn=>?_)
  ·replace hn:0<n:=by simpa using hn
   repeat' (conv=>arg 2;whnf);first|refine aC 0 (b,e) (b,e) (.int .i64 e) dh hl rfl rfl ⟨⟨rfl,rfl⟩,trivial⟩ (aa.refl _) rfl ?_|refine aA ?_ ?_|refine ah ?_|refine aj ?_|refine aG (fun h=>?_) (fun h=>?_)|refine aC 0 (b,e) (b2,e2) (.agg (eK x)) Jt hl (congrArg Prod.snd ep).symm (congrArg (fun r:gq×RS=>D.agg (eK r.1)) ep).symm ⟨⟨rfl,rfl⟩,trivial⟩ (aa.refl _) rfl ?_|refine af (by constructor<;>(simp only[List.length_cons,List.length_nil];decide)) ?_|refine aP (aZ (by show _<=n-1;omega) (by show n-1<=_;omega)) ?_|refine bV (n-1,(b2,e2),[x]) (Sv.mk' [0,1,4] rfl ⟨⟨rfl,rfl⟩,⟨rfl,rfl⟩,⟨rfl,rfl⟩,trivial⟩ ⟨rfl,rfl,rfl,rfl,trivial⟩) ⟨by show 0<=n-1;omega,by show n-1<=4096;omega,kX,by show([x]).length+(n-1).toNat<=4096;simp at ho ⊢;omega,jE hn (by simpa using h)⟩ (by show(n-1).toNat<n.toNat;omega)|refine bD ?_|refine bE (d:=.list 7 []) (.inr rfl) rfl ⟨⟨rfl,rfl⟩,trivial⟩ rfl (.nil _) (congrArg Prod.snd (cO (.inr (by simpa using h)))).symm (congrArg (fun r:List gq×RS=>D.list 7 (r.1.map eK)) (cO (.inr (by simpa using h)))).symm
  ·replace hn:n<=0:=by simpa using hn
   repeat' (conv=>arg 2;whnf);first|refine aC 0 (b,e) (b,e) (.int .i64 e) dh hl rfl rfl ⟨⟨rfl,rfl⟩,trivial⟩ (aa.refl _) rfl ?_|refine aA ?_ ?_|refine ah ?_|refine aj ?_|refine aG (fun h=>?_) (fun h=>?_)|refine bD ?_|refine bE (d:=.list 7 []) (.inr rfl) rfl ⟨⟨rfl,rfl⟩,trivial⟩ rfl (.nil _) (congrArg Prod.snd (cO (.inl hn))).symm (congrArg (fun r:List gq×RS=>D.list 7 (r.1.map eK)) (cO (.inl hn))).symm
 |cons y out=>
  conv=>arg 2;whnf
  refine aG (fun hn=>?_) (fun hn=>?_)
  ·replace hn:0<n:=by simpa using hn
   repeat' (conv=>arg 2;whnf);first|refine aC 0 (b,e) (b,e) (.int .i64 e) dh hl rfl rfl ⟨⟨rfl,rfl⟩,trivial⟩ (aa.refl _) rfl ?_|refine aA ?_ ?_|refine ah ?_|refine aj ?_|refine aG (fun h=>?_) (fun h=>?_)|refine aC 0 (b,e) (b2,e2) (.agg (eK x)) Jt hl (congrArg Prod.snd ep).symm (congrArg (fun r:gq×RS=>D.agg (eK r.1)) ep).symm ⟨⟨rfl,rfl⟩,trivial⟩ (aa.refl _) rfl ?_|refine af (by constructor<;>(simp only[List.length_cons,List.length_nil,List.length_map,maxLen] at ho ⊢;omega)) ?_|refine aP (aZ (by show _<=n-1;omega) (by show n-1<=_;omega)) ?_|refine bV (n-1,(b2,e2),(y::out)++[x]) (Sv.mk' [0,1,5] rfl ⟨⟨rfl,rfl⟩,⟨rfl,rfl⟩,⟨rfl,by simp;rfl⟩,trivial⟩ ⟨rfl,rfl,rfl,rfl,trivial⟩) ⟨by show 0<=n-1;omega,by show n-1<=4096;omega,kX,by show((y::out)++[x]).length+(n-1).toNat<=4096;simp at ho ⊢;omega,jE hn (by simpa using h)⟩ (by show(n-1).toNat<n.toNat;omega)|refine bD ?_|refine nK [2] (d:=.list 7 ((y::out).map eK)) (.inr rfl) rfl ⟨⟨rfl,rfl⟩,trivial⟩ rfl (.refl _) (congrArg Prod.snd (cO (.inr (by simpa using h)))).symm (congrArg (fun r:List gq×RS=>D.list 7 (r.1.map eK)) (cO (.inr (by simpa using h)))).symm
  ·replace hn:n<=0:=by simpa using hn
   repeat' (conv=>arg 2;whnf);first|refine aC 0 (b,e) (b,e) (.int .i64 e) dh hl rfl rfl ⟨⟨rfl,rfl⟩,trivial⟩ (aa.refl _) rfl ?_|refine aA ?_ ?_|refine ah ?_|refine aj ?_|refine aG (fun h=>?_) (fun h=>?_)|refine bD ?_|refine nK [2] (d:=.list 7 ((y::out).map eK)) (.inr rfl) rfl ⟨⟨rfl,rfl⟩,trivial⟩ rfl (.refl _) (congrArg Prod.snd (cO (.inl hn))).symm (congrArg (fun r:List gq×RS=>D.list 7 (r.1.map eK)) (cO (.inl hn))).symm
theorem ED [Wd]:fP 232 (.agg [.ptr 0 0]) [] (fun s=>.agg (bW (iY s).1)) (fun s=>(iY s).2):=by
 rintro⟨b,e⟩ hs
 replace hs:b.length<=8388609:=hs
 obtain⟨v,b0,e0,q0,l0⟩:=Rd1.get (cY 1) (b,e)
 replace l0:b0.length<=b.length:=l0
 have h0:b0.length<=8388609:=by omega
 obtain⟨r,b1,e1,q1,l1⟩:=Rd1.get (dK 12) (b0,e0)
 replace l1:b1.length<=b0.length:=l1
 have h1:b1.length<=8388609:=by omega
 obtain⟨c,b2,e2,q2,l2⟩:=Rd1.get xz (b1,e1)
 replace l2:b2.length<=b1.length:=l2
 have h2:b2.length<=8388609:=by omega
 obtain⟨a,b3,e3,q3,l3⟩:=Rd1.get (nD FA 8) (b2,e2)
 replace l3:b3.length<=b2.length:=l3
 have h3:b3.length<=8388609:=by omega
 obtain⟨g,b4,e4,q4,l4⟩:=Rd1.get j7 (b3,e3)
 replace l4:b4.length<=b3.length:=l4
 have h4:b4.length<=8388609:=by omega
 have eR:iY (b,e)=(⟨v,r,c,a,g⟩,(b4,e4)):=by unfold iY bg aT bZ;simp only[q0,q1,q2,q3,q4]
 refine aF 20 [] Tryz.func232 rfl (by kernel_rfl) ?_
 repeat' (conv=>arg 2;whnf);first|refine af (by kernel_rfl) ?_|refine aA ?_ ?_|refine ah ?_|refine aj ?_|refine aC 0 (b,e) (b0,e0) (.int .i64 v) (kA 1) hs (congrArg Prod.snd q0).symm (congrArg (fun r:Int×RS=>D.int .i64 r.1) q0).symm ⟨⟨rfl,rfl⟩,trivial⟩ (aa.refl _) rfl ?_|refine aC 0 (b0,e0) (b1,e1) (.int .i64 r) tO h0 (congrArg Prod.snd q1).symm (congrArg (fun r:Int×RS=>D.int .i64 r.1) q1).symm ⟨⟨rfl,rfl⟩,trivial⟩ (aa.refl _) rfl ?_|refine aC 0 (b1,e1) (b2,e2) (.agg (mh c)) Ff h1 (congrArg Prod.snd q2).symm (congrArg (fun r:gU×RS=>D.agg (mh r.1)) q2).symm ⟨⟨rfl,rfl⟩,trivial⟩ (aa.refl _) rfl ?_|refine aC 0 (b2,e2) (b3,e3) (.list 7 (a.map eK)) (PB 8 (by decide) (by decide)) h2 (congrArg Prod.snd q3).symm (congrArg (fun r:List gq×RS=>D.list 7 (r.1.map eK)) q3).symm ⟨⟨rfl,rfl⟩,trivial⟩ (aa.refl _) rfl ?_|refine aC 0 (b3,e3) (b4,e4) (.agg (bu g)) oY h3 (congrArg Prod.snd q4).symm (congrArg (fun r:bH×RS=>D.agg (bu r.1)) q4).symm ⟨⟨rfl,rfl⟩,trivial⟩ (aa.refl _) rfl ?_|refine bE (d:=.agg (bW (⟨v,r,c,a,g⟩))) (.inr rfl) rfl ⟨⟨rfl,rfl⟩,trivial⟩ rfl (.refl _) (congrArg Prod.snd eR).symm (congrArg (fun r:cX×RS=>D.agg (bW r.1)) eR).symm
set_option maxHeartbeats 1000000 in
theorem Qq [Wd] (aq:Int) (p8:0<=aq) (hm:aq<=4096):fP 233 (.agg [.ptr 0 0]) [.int .i64 aq,.fn 232 0 []] (fun s=>.list 8 ((dR iY aq s).1.map bW)) (fun s=>(dR iY aq s).2):=by
 intro s0 hs
 obtain⟨N,b0,e0,en,qN,hN,wC⟩:=vi aq p8 s0
 have eL:dR iY aq s0=aV iY N.toNat (b0,e0):=by unfold dR;rw[en]
 refine aF 29 [] Tryz.func233 rfl (by kernel_rfl) ?_
 repeat' (conv=>arg 2;whnf);first|refine af (by kernel_rfl) ?_|refine aC 0 s0 (b0,e0) (.int .i64 N) (vu aq) hs (congrArg Prod.snd en).symm (congrArg (fun r:Int×RS=>D.int .i64 r.1) en).symm ⟨⟨rfl,rfl⟩,trivial⟩ (aa.refl _) rfl ?_
 conv=>arg 2;whnf
 refine cD (α:=Int×RS×List cX) (fun a=>match a.2.2 with
  |[]=>⟨[(8,.int .i64 a.1),(7,.nils),(3,.ptr 1 0),(2,.fn 232 0 [])],[.cells 235 [.list 1 (a.2.1.1.map aE),.int .i64 a.2.1.2,.bool true],.cells 239 [.ptr 0 0]]⟩
  |x::l=>⟨[(8,.int .i64 a.1),(7,.row 2),(3,.ptr 1 0),(2,.fn 232 0 [])],[.cells 235 [.list 1 (a.2.1.1.map aE),.int .i64 a.2.1.2,.bool true],.cells 239 [.ptr 0 0],.row 145 8 ((x::l).map bW)]⟩) (fun a=>0<=a.1/\a.1<=4096/\a.2.1.1.length<=8388609/\a.2.2.length+a.1.toNat<=4096/\aV iY N.toNat (b0,e0)=(a.2.2++(aV iY a.1.toNat a.2.1).1,(aV iY a.1.toNat a.2.1).2)) (fun a=>a.1.toNat) (N,(b0,e0),[]) ⟨qN,by omega,by show b0.length<=_;omega,by simp;omega,rfl⟩ (Sv.mk' [0,1] rfl ⟨⟨rfl,rfl⟩,⟨rfl,rfl⟩,trivial⟩ ⟨rfl,rfl,rfl,rfl,trivial⟩) ?_
 rintro⟨n,⟨b,e⟩,out⟩ ⟨h0,h1,hl,ho,hg⟩
 replace h0:0<=n:=h0
 replace h1:n<=4096:=h1
 replace hl:b.length<=8388609:=hl
 replace ho:out.length+n.toNat<=4096:=ho
 replace hg:aV iY N.toNat (b0,e0)=(out++(aV iY n.toNat (b,e)).1,(aV iY n.toNat (b,e)).2):=hg
 obtain⟨x,b2,e2,ep⟩:∃(x:cX) (b2:List UInt8) (e2:Int),iY (b,e)=(x,(b2,e2)):=⟨_,_,_,rfl⟩
 have kX:b2.length<=8388609:=by
  have h:=Ah.len (b,e)
  rw[ep] at h
  exact Nat.le_trans h hl
 have cO:(n<=0\/¬e=0)->dR iY aq s0=(out,(b,e)):=fun h=>by
  rw[eL,hg]
  rcases h with h|h
  ·rw[show n.toNat=0 by omega];simp[aV]
  ·rw[sC _ _ _ h];simp
 have jE:0<n->e=0->aV iY N.toNat (b0,e0)=((out++[x])++(aV iY (n-1).toNat (b2,e2)).1,(aV iY (n-1).toNat (b2,e2)).2):=fun hn h=>by
  rw[hg,xq _ hn h,ep]
  simp
 cases out with
 |nil=>
  conv=>arg 2;whnf
  refine aG (fun hn=>?_) (fun hn=>?_)
  ·replace hn:0<n:=by simpa using hn
   repeat' (conv=>arg 2;whnf);first|refine aC 0 (b,e) (b,e) (.int .i64 e) dh hl rfl rfl ⟨⟨rfl,rfl⟩,trivial⟩ (aa.refl _) rfl ?_|refine aA ?_ ?_|refine ah ?_|refine aj ?_|refine aG (fun h=>?_) (fun h=>?_)|refine aC 0 (b,e) (b2,e2) (.agg (bW x)) ED hl (congrArg Prod.snd ep).symm (congrArg (fun r:cX×RS=>D.agg (bW r.1)) ep).symm ⟨⟨rfl,rfl⟩,trivial⟩ (aa.refl _) rfl ?_|refine af (by constructor<;>(simp only[List.length_cons,List.length_nil];decide)) ?_|refine aP (aZ (by show _<=n-1;omega) (by show n-1<=_;omega)) ?_|refine bV (n-1,(b2,e2),[x]) (Sv.mk' [0,1,4] rfl ⟨⟨rfl,rfl⟩,⟨rfl,rfl⟩,⟨rfl,rfl⟩,trivial⟩ ⟨rfl,rfl,rfl,rfl,trivial⟩) ⟨by show 0<=n-1;omega,by show n-1<=4096;omega,kX,by show([x]).length+(n-1).toNat<=4096;simp at ho ⊢;omega,jE hn (by simpa using h)⟩ (by show(n-1).toNat<n.toNat;omega)|refine bD ?_|refine bE (d:=.list 8 []) (.inr rfl) rfl ⟨⟨rfl,rfl⟩,trivial⟩ rfl (.nil _) (congrArg Prod.snd (cO (.inr (by simpa using h)))).symm (congrArg (fun r:List cX×RS=>D.list 8 (r.1.map bW)) (cO (.inr (by simpa using h)))).symm
  ·replace hn:n<=0:=by simpa using hn
   repeat' (conv=>arg 2;whnf);first|refine aC 0 (b,e) (b,e) (.int .i64 e) dh hl rfl rfl ⟨⟨rfl,rfl⟩,trivial⟩ (aa.refl _) rfl ?_|refine aA ?_ ?_|refine ah ?_|refine aj ?_|refine aG (fun h=>?_) (fun h=>?_)|refine bD ?_|refine bE (d:=.list 8 []) (.inr rfl) rfl ⟨⟨rfl,rfl⟩,trivial⟩ rfl (.nil _) (congrArg Prod.snd (cO (.inl hn))).symm (congrArg (fun r:List cX×RS=>D.list 8 (r.1.map bW)) (cO (.inl hn))).symm
 |cons y out=>
  conv=>arg 2;whnf
  refine aG (fun hn=>?_) (fun hn=>?_)
  ·replace hn:0<n:=by simpa using hn
   repeat' (conv=>arg 2;whnf);first|refine aC 0 (b,e) (b,e) (.int .i64 e) dh hl rfl rfl ⟨⟨rfl,rfl⟩,trivial⟩ (aa.refl _) rfl ?_|refine aA ?_ ?_|refine ah ?_|refine aj ?_|refine aG (fun h=>?_) (fun h=>?_)|refine aC 0 (b,e) (b2,e2) (.agg (bW x)) ED hl (congrArg Prod.snd ep).symm (congrArg (fun r:cX×RS=>D.agg (bW r.1)) ep).symm ⟨⟨rfl,rfl⟩,trivial⟩ (aa.refl _) rfl ?_|refine af (by constructor<;>(simp only[List.length_cons,List.length_nil,List.length_map,maxLen] at ho ⊢;omega)) ?_|refine aP (aZ (by show _<=n-1;omega) (by show n-1<=_;omega)) ?_|refine bV (n-1,(b2,e2),(y::out)++[x]) (Sv.mk' [0,1,5] rfl ⟨⟨rfl,rfl⟩,⟨rfl,rfl⟩,⟨rfl,by simp;rfl⟩,trivial⟩ ⟨rfl,rfl,rfl,rfl,trivial⟩) ⟨by show 0<=n-1;omega,by show n-1<=4096;omega,kX,by show((y::out)++[x]).length+(n-1).toNat<=4096;simp at ho ⊢;omega,jE hn (by simpa using h)⟩ (by show(n-1).toNat<n.toNat;omega)|refine bD ?_|refine nK [2] (d:=.list 8 ((y::out).map bW)) (.inr rfl) rfl ⟨⟨rfl,rfl⟩,trivial⟩ rfl (.refl _) (congrArg Prod.snd (cO (.inr (by simpa using h)))).symm (congrArg (fun r:List cX×RS=>D.list 8 (r.1.map bW)) (cO (.inr (by simpa using h)))).symm
  ·replace hn:n<=0:=by simpa using hn
   repeat' (conv=>arg 2;whnf);first|refine aC 0 (b,e) (b,e) (.int .i64 e) dh hl rfl rfl ⟨⟨rfl,rfl⟩,trivial⟩ (aa.refl _) rfl ?_|refine aA ?_ ?_|refine ah ?_|refine aj ?_|refine aG (fun h=>?_) (fun h=>?_)|refine bD ?_|refine nK [2] (d:=.list 8 ((y::out).map bW)) (.inr rfl) rfl ⟨⟨rfl,rfl⟩,trivial⟩ rfl (.refl _) (congrArg Prod.snd (cO (.inl hn))).symm (congrArg (fun r:List cX×RS=>D.list 8 (r.1.map bW)) (cO (.inl hn))).symm
theorem KW [Wd]:fP 235 (.agg [.ptr 0 0]) [] (fun s=>.agg (dH (jB s).1)) (fun s=>(jB s).2):=by
 rintro⟨b,e⟩ hs
 replace hs:b.length<=8388609:=hs
 obtain⟨v,b0,e0,q0,l0⟩:=Rd1.get (cY 0) (b,e)
 replace l0:b0.length<=b.length:=l0
 have h0:b0.length<=8388609:=by omega
 obtain⟨n,b1,e1,q1,l1⟩:=Rd1.get (cY 1) (b0,e0)
 replace l1:b1.length<=b0.length:=l1
 have h1:b1.length<=8388609:=by omega
 obtain⟨t,b2,e2,q2,l2⟩:=Rd1.get tU (b1,e1)
 replace l2:b2.length<=b1.length:=l2
 have h2:b2.length<=8388609:=by omega
 obtain⟨g,b3,e3,q3,l3⟩:=Rd1.get j7 (b2,e2)
 replace l3:b3.length<=b2.length:=l3
 have h3:b3.length<=8388609:=by omega
 have eR:jB (b,e)=(⟨v,n,t,g⟩,(b3,e3)):=by unfold jB bg aT bZ;simp only[q0,q1,q2,q3]
 refine aF 17 [] Tryz.func235 rfl (by kernel_rfl) ?_
 repeat' (conv=>arg 2;whnf);first|refine af (by kernel_rfl) ?_|refine aA ?_ ?_|refine ah ?_|refine aj ?_|refine aC 0 (b,e) (b0,e0) (.int .i64 v) (kA 0) hs (congrArg Prod.snd q0).symm (congrArg (fun r:Int×RS=>D.int .i64 r.1) q0).symm ⟨⟨rfl,rfl⟩,trivial⟩ (aa.refl _) rfl ?_|refine aC 0 (b0,e0) (b1,e1) (.int .i64 n) (kA 1) h0 (congrArg Prod.snd q1).symm (congrArg (fun r:Int×RS=>D.int .i64 r.1) q1).symm ⟨⟨rfl,rfl⟩,trivial⟩ (aa.refl _) rfl ?_|refine aC 0 (b1,e1) (b2,e2) (.list 9 (t.map cZ)) Cc h1 (congrArg Prod.snd q2).symm (congrArg (fun r:List cq×RS=>D.list 9 (r.1.map cZ)) q2).symm ⟨⟨rfl,rfl⟩,trivial⟩ (aa.refl _) rfl ?_|refine aC 0 (b2,e2) (b3,e3) (.agg (bu g)) oY h2 (congrArg Prod.snd q3).symm (congrArg (fun r:bH×RS=>D.agg (bu r.1)) q3).symm ⟨⟨rfl,rfl⟩,trivial⟩ (aa.refl _) rfl ?_|refine bE (d:=.agg (dH (⟨v,n,t,g⟩))) (.inr rfl) rfl ⟨⟨rfl,rfl⟩,trivial⟩ rfl (.refl _) (congrArg Prod.snd eR).symm (congrArg (fun r:gH×RS=>D.agg (dH r.1)) eR).symm
set_option maxHeartbeats 1000000 in
theorem QK [Wd] (aq:Int) (p8:0<=aq) (hm:aq<=4096):fP 234 (.agg [.ptr 0 0]) [.int .i64 aq,.fn 235 0 []] (fun s=>.list 5 ((dR jB aq s).1.map dH)) (fun s=>(dR jB aq s).2):=by
 intro s0 hs
 obtain⟨N,b0,e0,en,qN,hN,wC⟩:=vi aq p8 s0
 have eL:dR jB aq s0=aV jB N.toNat (b0,e0):=by unfold dR;rw[en]
 refine aF 29 [] Tryz.func234 rfl (by kernel_rfl) ?_
 repeat' (conv=>arg 2;whnf);first|refine af (by kernel_rfl) ?_|refine aC 0 s0 (b0,e0) (.int .i64 N) (vu aq) hs (congrArg Prod.snd en).symm (congrArg (fun r:Int×RS=>D.int .i64 r.1) en).symm ⟨⟨rfl,rfl⟩,trivial⟩ (aa.refl _) rfl ?_
 conv=>arg 2;whnf
 refine cD (α:=Int×RS×List gH) (fun a=>match a.2.2 with
  |[]=>⟨[(8,.int .i64 a.1),(7,.nils),(3,.ptr 1 0),(2,.fn 235 0 [])],[.cells 235 [.list 1 (a.2.1.1.map aE),.int .i64 a.2.1.2,.bool true],.cells 239 [.ptr 0 0]]⟩
  |x::l=>⟨[(8,.int .i64 a.1),(7,.row 2),(3,.ptr 1 0),(2,.fn 235 0 [])],[.cells 235 [.list 1 (a.2.1.1.map aE),.int .i64 a.2.1.2,.bool true],.cells 239 [.ptr 0 0],.row 159 5 ((x::l).map dH)]⟩) (fun a=>0<=a.1/\a.1<=4096/\a.2.1.1.length<=8388609/\a.2.2.length+a.1.toNat<=4096/\aV jB N.toNat (b0,e0)=(a.2.2++(aV jB a.1.toNat a.2.1).1,(aV jB a.1.toNat a.2.1).2)) (fun a=>a.1.toNat) (N,(b0,e0),[]) ⟨qN,by omega,by show b0.length<=_;omega,by simp;omega,rfl⟩ (Sv.mk' [0,1] rfl ⟨⟨rfl,rfl⟩,⟨rfl,rfl⟩,trivial⟩ ⟨rfl,rfl,rfl,rfl,trivial⟩) ?_
 rintro⟨n,⟨b,e⟩,out⟩ ⟨h0,h1,hl,ho,hg⟩
 replace h0:0<=n:=h0
 replace h1:n<=4096:=h1
 replace hl:b.length<=8388609:=hl
 replace ho:out.length+n.toNat<=4096:=ho
 replace hg:aV jB N.toNat (b0,e0)=(out++(aV jB n.toNat (b,e)).1,(aV jB n.toNat (b,e)).2):=hg
 obtain⟨x,b2,e2,ep⟩:∃(x:gH) (b2:List UInt8) (e2:Int),jB (b,e)=(x,(b2,e2)):=⟨_,_,_,rfl⟩
 have kX:b2.length<=8388609:=by
  have h:=E9.len (b,e)
  rw[ep] at h
  exact Nat.le_trans h hl
 have cO:(n<=0\/¬e=0)->dR jB aq s0=(out,(b,e)):=fun h=>by
  rw[eL,hg]
  rcases h with h|h
  ·rw[show n.toNat=0 by omega];simp[aV]
  ·rw[sC _ _ _ h];simp
 have jE:0<n->e=0->aV jB N.toNat (b0,e0)=((out++[x])++(aV jB (n-1).toNat (b2,e2)).1,(aV jB (n-1).toNat (b2,e2)).2):=fun hn h=>by
  rw[hg,xq _ hn h,ep]
  simp
 cases out with
 |nil=>
  conv=>arg 2;whnf
  refine aG (fun hn=>?_) (fun hn=>?_)
  ·replace hn:0<n:=by simpa using hn
   repeat' (conv=>arg 2;whnf);first|refine aC 0 (b,e) (b,e) (.int .i64 e) dh hl rfl rfl ⟨⟨rfl,rfl⟩,trivial⟩ (aa.refl _) rfl ?_|refine aA ?_ ?_|refine ah ?_|refine aj ?_|refine aG (fun h=>?_) (fun h=>?_)|refine aC 0 (b,e) (b2,e2) (.agg (dH x)) KW hl (congrArg Prod.snd ep).symm (congrArg (fun r:gH×RS=>D.agg (dH r.1)) ep).symm ⟨⟨rfl,rfl⟩,trivial⟩ (aa.refl _) rfl ?_|refine af (by constructor<;>(simp only[List.length_cons,List.length_nil];decide)) ?_|refine aP (aZ (by show _<=n-1;omega) (by show n-1<=_;omega)) ?_|refine bV (n-1,(b2,e2),[x]) (Sv.mk' [0,1,4] rfl ⟨⟨rfl,rfl⟩,⟨rfl,rfl⟩,⟨rfl,rfl⟩,trivial⟩ ⟨rfl,rfl,rfl,rfl,trivial⟩) ⟨by show 0<=n-1;omega,by show n-1<=4096;omega,kX,by show([x]).length+(n-1).toNat<=4096;simp at ho ⊢;omega,jE hn (by simpa using h)⟩ (by show(n-1).toNat<n.toNat;omega)|refine bD ?_|refine bE (d:=.list 5 []) (.inr rfl) rfl ⟨⟨rfl,rfl⟩,trivial⟩ rfl (.nil _) (congrArg Prod.snd (cO (.inr (by simpa using h)))).symm (congrArg (fun r:List gH×RS=>D.list 5 (r.1.map dH)) (cO (.inr (by simpa using h)))).symm
  ·replace hn:n<=0:=by simpa using hn
   repeat' (conv=>arg 2;whnf);first|refine aC 0 (b,e) (b,e) (.int .i64 e) dh hl rfl rfl ⟨⟨rfl,rfl⟩,trivial⟩ (aa.refl _) rfl ?_|refine aA ?_ ?_|refine ah ?_|refine aj ?_|refine aG (fun h=>?_) (fun h=>?_)|refine bD ?_|refine bE (d:=.list 5 []) (.inr rfl) rfl ⟨⟨rfl,rfl⟩,trivial⟩ rfl (.nil _) (congrArg Prod.snd (cO (.inl hn))).symm (congrArg (fun r:List gH×RS=>D.list 5 (r.1.map dH)) (cO (.inl hn))).symm
 |cons y out=>
  conv=>arg 2;whnf
  refine aG (fun hn=>?_) (fun hn=>?_)
  ·replace hn:0<n:=by simpa using hn
   repeat' (conv=>arg 2;whnf);first|refine aC 0 (b,e) (b,e) (.int .i64 e) dh hl rfl rfl ⟨⟨rfl,rfl⟩,trivial⟩ (aa.refl _) rfl ?_|refine aA ?_ ?_|refine ah ?_|refine aj ?_|refine aG (fun h=>?_) (fun h=>?_)|refine aC 0 (b,e) (b2,e2) (.agg (dH x)) KW hl (congrArg Prod.snd ep).symm (congrArg (fun r:gH×RS=>D.agg (dH r.1)) ep).symm ⟨⟨rfl,rfl⟩,trivial⟩ (aa.refl _) rfl ?_|refine af (by constructor<;>(simp only[List.length_cons,List.length_nil,List.length_map,maxLen] at ho ⊢;omega)) ?_|refine aP (aZ (by show _<=n-1;omega) (by show n-1<=_;omega)) ?_|refine bV (n-1,(b2,e2),(y::out)++[x]) (Sv.mk' [0,1,5] rfl ⟨⟨rfl,rfl⟩,⟨rfl,rfl⟩,⟨rfl,by simp;rfl⟩,trivial⟩ ⟨rfl,rfl,rfl,rfl,trivial⟩) ⟨by show 0<=n-1;omega,by show n-1<=4096;omega,kX,by show((y::out)++[x]).length+(n-1).toNat<=4096;simp at ho ⊢;omega,jE hn (by simpa using h)⟩ (by show(n-1).toNat<n.toNat;omega)|refine bD ?_|refine nK [2] (d:=.list 5 ((y::out).map dH)) (.inr rfl) rfl ⟨⟨rfl,rfl⟩,trivial⟩ rfl (.refl _) (congrArg Prod.snd (cO (.inr (by simpa using h)))).symm (congrArg (fun r:List gH×RS=>D.list 5 (r.1.map dH)) (cO (.inr (by simpa using h)))).symm
  ·replace hn:n<=0:=by simpa using hn
   repeat' (conv=>arg 2;whnf);first|refine aC 0 (b,e) (b,e) (.int .i64 e) dh hl rfl rfl ⟨⟨rfl,rfl⟩,trivial⟩ (aa.refl _) rfl ?_|refine aA ?_ ?_|refine ah ?_|refine aj ?_|refine aG (fun h=>?_) (fun h=>?_)|refine bD ?_|refine nK [2] (d:=.list 5 ((y::out).map dH)) (.inr rfl) rfl ⟨⟨rfl,rfl⟩,trivial⟩ rfl (.refl _) (congrArg Prod.snd (cO (.inl hn))).symm (congrArg (fun r:List gH×RS=>D.list 5 (r.1.map dH)) (cO (.inl hn))).symm
theorem Ke [Wd]:fP 284 (.agg [.ptr 0 0]) [] (fun s=>.agg (eM (jO s).1)) (fun s=>(jO s).2):=by
 rintro⟨b,e⟩ hs
 replace hs:b.length<=8388609:=hs
 obtain⟨v,b0,e0,q0,l0⟩:=Rd1.get (cY 1) (b,e)
 replace l0:b0.length<=b.length:=l0
 have h0:b0.length<=8388609:=by omega
 obtain⟨p,b1,e1,q1,l1⟩:=Rd1.get (cY 0) (b0,e0)
 replace l1:b1.length<=b0.length:=l1
 have h1:b1.length<=8388609:=by omega
 obtain⟨t,b2,e2,q2,l2⟩:=Rd1.get (cY 0) (b1,e1)
 replace l2:b2.length<=b1.length:=l2
 have h2:b2.length<=8388609:=by omega
 obtain⟨r,b3,e3,q3,l3⟩:=Rd1.get (cY 0) (b2,e2)
 replace l3:b3.length<=b2.length:=l3
 have h3:b3.length<=8388609:=by omega
 obtain⟨u,b4,e4,q4,l4⟩:=Rd1.get (cY 0) (b3,e3)
 replace l4:b4.length<=b3.length:=l4
 have h4:b4.length<=8388609:=by omega
 have eR:jO (b,e)=(⟨v,p,t,r,u⟩,(b4,e4)):=by unfold jO bg aT bZ;simp only[q0,q1,q2,q3,q4]
 refine aF 20 [] Tryz.func284 rfl (by kernel_rfl) ?_
 repeat' (conv=>arg 2;whnf);first|refine af (by kernel_rfl) ?_|refine aA ?_ ?_|refine ah ?_|refine aj ?_|refine aC 0 (b,e) (b0,e0) (.int .i64 v) (kA 1) hs (congrArg Prod.snd q0).symm (congrArg (fun r:Int×RS=>D.int .i64 r.1) q0).symm ⟨⟨rfl,rfl⟩,trivial⟩ (aa.refl _) rfl ?_|refine aC 0 (b0,e0) (b1,e1) (.int .i64 p) (so 0) h0 (congrArg Prod.snd q1).symm (congrArg (fun r:Int×RS=>D.int .i64 r.1) q1).symm ⟨⟨rfl,rfl⟩,trivial⟩ (aa.refl _) rfl ?_|refine aC 0 (b1,e1) (b2,e2) (.int .i64 t) (so 0) h1 (congrArg Prod.snd q2).symm (congrArg (fun r:Int×RS=>D.int .i64 r.1) q2).symm ⟨⟨rfl,rfl⟩,trivial⟩ (aa.refl _) rfl ?_|refine aC 0 (b2,e2) (b3,e3) (.int .i64 r) (so 0) h2 (congrArg Prod.snd q3).symm (congrArg (fun r:Int×RS=>D.int .i64 r.1) q3).symm ⟨⟨rfl,rfl⟩,trivial⟩ (aa.refl _) rfl ?_|refine aC 0 (b3,e3) (b4,e4) (.int .i64 u) (so 0) h3 (congrArg Prod.snd q4).symm (congrArg (fun r:Int×RS=>D.int .i64 r.1) q4).symm ⟨⟨rfl,rfl⟩,trivial⟩ (aa.refl _) rfl ?_|refine bE (d:=.agg (eM (⟨v,p,t,r,u⟩))) (.inr rfl) rfl ⟨⟨rfl,rfl⟩,trivial⟩ rfl (.refl _) (congrArg Prod.snd eR).symm (congrArg (fun r:iS×RS=>D.agg (eM r.1)) eR).symm
set_option maxHeartbeats 1000000 in
theorem Qr [Wd] (aq:Int) (p8:0<=aq) (hm:aq<=4096):fP 283 (.agg [.ptr 0 0]) [.int .i64 aq,.fn 284 0 []] (fun s=>.list 5 ((dR jO aq s).1.map eM)) (fun s=>(dR jO aq s).2):=by
 intro s0 hs
 obtain⟨N,b0,e0,en,qN,hN,wC⟩:=vi aq p8 s0
 have eL:dR jO aq s0=aV jO N.toNat (b0,e0):=by unfold dR;rw[en]
 refine aF 29 [] Tryz.func283 rfl (by kernel_rfl) ?_
 repeat' (conv=>arg 2;whnf);first|refine af (by kernel_rfl) ?_|refine aC 0 s0 (b0,e0) (.int .i64 N) (vu aq) hs (congrArg Prod.snd en).symm (congrArg (fun r:Int×RS=>D.int .i64 r.1) en).symm ⟨⟨rfl,rfl⟩,trivial⟩ (aa.refl _) rfl ?_
 conv=>arg 2;whnf
 refine cD (α:=Int×RS×List iS) (fun a=>match a.2.2 with
  |[]=>⟨[(8,.int .i64 a.1),(7,.nils),(3,.ptr 1 0),(2,.fn 284 0 [])],[.cells 235 [.list 1 (a.2.1.1.map aE),.int .i64 a.2.1.2,.bool true],.cells 239 [.ptr 0 0]]⟩
  |x::l=>⟨[(8,.int .i64 a.1),(7,.row 2),(3,.ptr 1 0),(2,.fn 284 0 [])],[.cells 235 [.list 1 (a.2.1.1.map aE),.int .i64 a.2.1.2,.bool true],.cells 239 [.ptr 0 0],.row 187 5 ((x::l).map eM)]⟩) (fun a=>0<=a.1/\a.1<=4096/\a.2.1.1.length<=8388609/\a.2.2.length+a.1.toNat<=4096/\aV jO N.toNat (b0,e0)=(a.2.2++(aV jO a.1.toNat a.2.1).1,(aV jO a.1.toNat a.2.1).2)) (fun a=>a.1.toNat) (N,(b0,e0),[]) ⟨qN,by omega,by show b0.length<=_;omega,by simp;omega,rfl⟩ (Sv.mk' [0,1] rfl ⟨⟨rfl,rfl⟩,⟨rfl,rfl⟩,trivial⟩ ⟨rfl,rfl,rfl,rfl,trivial⟩) ?_
 rintro⟨n,⟨b,e⟩,out⟩ ⟨h0,h1,hl,ho,hg⟩
 replace h0:0<=n:=h0
 replace h1:n<=4096:=h1
 replace hl:b.length<=8388609:=hl
 replace ho:out.length+n.toNat<=4096:=ho
 replace hg:aV jO N.toNat (b0,e0)=(out++(aV jO n.toNat (b,e)).1,(aV jO n.toNat (b,e)).2):=hg
 obtain⟨x,b2,e2,ep⟩:∃(x:iS) (b2:List UInt8) (e2:Int),jO (b,e)=(x,(b2,e2)):=⟨_,_,_,rfl⟩
 have kX:b2.length<=8388609:=by
  have h:=FB.len (b,e)
  rw[ep] at h
  exact Nat.le_trans h hl
 have cO:(n<=0\/¬e=0)->dR jO aq s0=(out,(b,e)):=fun h=>by
  rw[eL,hg]
  rcases h with h|h
  ·rw[show n.toNat=0 by omega];simp[aV]
  ·rw[sC _ _ _ h];simp
 have jE:0<n->e=0->aV jO N.toNat (b0,e0)=((out++[x])++(aV jO (n-1).toNat (b2,e2)).1,(aV jO (n-1).toNat (b2,e2)).2):=fun hn h=>by
  rw[hg,xq _ hn h,ep]
  simp
 cases out with
 |nil=>
  conv=>arg 2;whnf
  refine aG (fun hn=>?_) (fun hn=>?_)
  ·replace hn:0<n:=by simpa using hn
   repeat' (conv=>arg 2;whnf);first|refine aC 0 (b,e) (b,e) (.int .i64 e) dh hl rfl rfl ⟨⟨rfl,rfl⟩,trivial⟩ (aa.refl _) rfl ?_|refine aA ?_ ?_|refine ah ?_|refine aj ?_|refine aG (fun h=>?_) (fun h=>?_)|refine aC 0 (b,e) (b2,e2) (.agg (eM x)) Ke hl (congrArg Prod.snd ep).symm (congrArg (fun r:iS×RS=>D.agg (eM r.1)) ep).symm ⟨⟨rfl,rfl⟩,trivial⟩ (aa.refl _) rfl ?_|refine af (by constructor<;>(simp only[List.length_cons,List.length_nil];decide)) ?_|refine aP (aZ (by show _<=n-1;omega) (by show n-1<=_;omega)) ?_|refine bV (n-1,(b2,e2),[x]) (Sv.mk' [0,1,4] rfl ⟨⟨rfl,rfl⟩,⟨rfl,rfl⟩,⟨rfl,rfl⟩,trivial⟩ ⟨rfl,rfl,rfl,rfl,trivial⟩) ⟨by show 0<=n-1;omega,by show n-1<=4096;omega,kX,by show([x]).length+(n-1).toNat<=4096;simp at ho ⊢;omega,jE hn (by simpa using h)⟩ (by show(n-1).toNat<n.toNat;omega)|refine bD ?_|refine bE (d:=.list 5 []) (.inr rfl) rfl ⟨⟨rfl,rfl⟩,trivial⟩ rfl (.nil _) (congrArg Prod.snd (cO (.inr (by simpa using h)))).symm (congrArg (fun r:List iS×RS=>D.list 5 (r.1.map eM)) (cO (.inr (by simpa using h)))).symm
  ·replace hn:n<=0:=by simpa using hn
   repeat' (conv=>arg 2;whnf);first|refine aC 0 (b,e) (b,e) (.int .i64 e) dh hl rfl rfl ⟨⟨rfl,rfl⟩,trivial⟩ (aa.refl _) rfl ?_|refine aA ?_ ?_|refine ah ?_|refine aj ?_|refine aG (fun h=>?_) (fun h=>?_)|refine bD ?_|refine bE (d:=.list 5 []) (.inr rfl) rfl ⟨⟨rfl,rfl⟩,trivial⟩ rfl (.nil _) (congrArg Prod.snd (cO (.inl hn))).symm (congrArg (fun r:List iS×RS=>D.list 5 (r.1.map eM)) (cO (.inl hn))).symm
 |cons y out=>
  conv=>arg 2;whnf
  refine aG (fun hn=>?_) (fun hn=>?_)
  ·replace hn:0<n:=by simpa using hn
   repeat' (conv=>arg 2;whnf);first|refine aC 0 (b,e) (b,e) (.int .i64 e) dh hl rfl rfl ⟨⟨rfl,rfl⟩,trivial⟩ (aa.refl _) rfl ?_|refine aA ?_ ?_|refine ah ?_|refine aj ?_|refine aG (fun h=>?_) (fun h=>?_)|refine aC 0 (b,e) (b2,e2) (.agg (eM x)) Ke hl (congrArg Prod.snd ep).symm (congrArg (fun r:iS×RS=>D.agg (eM r.1)) ep).symm ⟨⟨rfl,rfl⟩,trivial⟩ (aa.refl _) rfl ?_|refine af (by constructor<;>(simp only[List.length_cons,List.length_nil,List.length_map,maxLen] at ho ⊢;omega)) ?_|refine aP (aZ (by show _<=n-1;omega) (by show n-1<=_;omega)) ?_|refine bV (n-1,(b2,e2),(y::out)++[x]) (Sv.mk' [0,1,5] rfl ⟨⟨rfl,rfl⟩,⟨rfl,rfl⟩,⟨rfl,by simp;rfl⟩,trivial⟩ ⟨rfl,rfl,rfl,rfl,trivial⟩) ⟨by show 0<=n-1;omega,by show n-1<=4096;omega,kX,by show((y::out)++[x]).length+(n-1).toNat<=4096;simp at ho ⊢;omega,jE hn (by simpa using h)⟩ (by show(n-1).toNat<n.toNat;omega)|refine bD ?_|refine nK [2] (d:=.list 5 ((y::out).map eM)) (.inr rfl) rfl ⟨⟨rfl,rfl⟩,trivial⟩ rfl (.refl _) (congrArg Prod.snd (cO (.inr (by simpa using h)))).symm (congrArg (fun r:List iS×RS=>D.list 5 (r.1.map eM)) (cO (.inr (by simpa using h)))).symm
  ·replace hn:n<=0:=by simpa using hn
   repeat' (conv=>arg 2;whnf);first|refine aC 0 (b,e) (b,e) (.int .i64 e) dh hl rfl rfl ⟨⟨rfl,rfl⟩,trivial⟩ (aa.refl _) rfl ?_|refine aA ?_ ?_|refine ah ?_|refine aj ?_|refine aG (fun h=>?_) (fun h=>?_)|refine bD ?_|refine nK [2] (d:=.list 5 ((y::out).map eM)) (.inr rfl) rfl ⟨⟨rfl,rfl⟩,trivial⟩ rfl (.refl _) (congrArg Prod.snd (cO (.inl hn))).symm (congrArg (fun r:List iS×RS=>D.list 5 (r.1.map eM)) (cO (.inl hn))).symm
set_option maxHeartbeats 1000000 in
theorem Qs [Wd] (aq:Int) (p8:0<=aq) (hm:aq<=4096):fP 285 (.agg [.ptr 0 0]) [.int .i64 aq,.fn 286 0 []] (fun s=>.list 1 ((dR (bP 0) aq s).1.map eY)) (fun s=>(dR (bP 0) aq s).2):=by
 intro s0 hs
 obtain⟨N,b0,e0,en,qN,hN,wC⟩:=vi aq p8 s0
 have eL:dR (bP 0) aq s0=aV (bP 0) N.toNat (b0,e0):=by unfold dR;rw[en]
 refine aF 29 [] Tryz.func285 rfl (by kernel_rfl) ?_
 repeat' (conv=>arg 2;whnf);first|refine af (by kernel_rfl) ?_|refine aC 0 s0 (b0,e0) (.int .i64 N) (vu aq) hs (congrArg Prod.snd en).symm (congrArg (fun r:Int×RS=>D.int .i64 r.1) en).symm ⟨⟨rfl,rfl⟩,trivial⟩ (aa.refl _) rfl ?_
 conv=>arg 2;whnf
 refine cD (α:=Int×RS×List Int) (fun a=>match a.2.2 with
  |[]=>⟨[(8,.int .i64 a.1),(7,.nils),(3,.ptr 1 0),(2,.fn 286 0 [])],[.cells 235 [.list 1 (a.2.1.1.map aE),.int .i64 a.2.1.2,.bool true],.cells 239 [.ptr 0 0]]⟩
  |x::l=>⟨[(8,.int .i64 a.1),(7,.row 2),(3,.ptr 1 0),(2,.fn 286 0 [])],[.cells 235 [.list 1 (a.2.1.1.map aE),.int .i64 a.2.1.2,.bool true],.cells 239 [.ptr 0 0],.row 41 1 ((x::l).map eY)]⟩) (fun a=>0<=a.1/\a.1<=4096/\a.2.1.1.length<=8388609/\a.2.2.length+a.1.toNat<=4096/\aV (bP 0) N.toNat (b0,e0)=(a.2.2++(aV (bP 0) a.1.toNat a.2.1).1,(aV (bP 0) a.1.toNat a.2.1).2)) (fun a=>a.1.toNat) (N,(b0,e0),[]) ⟨qN,by omega,by show b0.length<=_;omega,by simp;omega,rfl⟩ (Sv.mk' [0,1] rfl ⟨⟨rfl,rfl⟩,⟨rfl,rfl⟩,trivial⟩ ⟨rfl,rfl,rfl,rfl,trivial⟩) ?_
 rintro⟨n,⟨b,e⟩,out⟩ ⟨h0,h1,hl,ho,hg⟩
 replace h0:0<=n:=h0
 replace h1:n<=4096:=h1
 replace hl:b.length<=8388609:=hl
 replace ho:out.length+n.toNat<=4096:=ho
 replace hg:aV (bP 0) N.toNat (b0,e0)=(out++(aV (bP 0) n.toNat (b,e)).1,(aV (bP 0) n.toNat (b,e)).2):=hg
 obtain⟨x,b2,e2,ep⟩:∃(x:Int) (b2:List UInt8) (e2:Int),(bP 0) (b,e)=(x,(b2,e2)):=⟨_,_,_,rfl⟩
 have kX:b2.length<=8388609:=by
  have h:=(cY 0).len (b,e)
  rw[ep] at h
  exact Nat.le_trans h hl
 have cO:(n<=0\/¬e=0)->dR (bP 0) aq s0=(out,(b,e)):=fun h=>by
  rw[eL,hg]
  rcases h with h|h
  ·rw[show n.toNat=0 by omega];simp[aV]
  ·rw[sC _ _ _ h];simp
 have jE:0<n->e=0->aV (bP 0) N.toNat (b0,e0)=((out++[x])++(aV (bP 0) (n-1).toNat (b2,e2)).1,(aV (bP 0) (n-1).toNat (b2,e2)).2):=fun hn h=>by
  rw[hg,xq _ hn h,ep]
  simp
 cases out with
 |nil=>
  conv=>arg 2;whnf
  refine aG (fun hn=>?_) (fun hn=>?_)
  ·replace hn:0<n:=by simpa using hn
   repeat' (conv=>arg 2;whnf);first|refine aC 0 (b,e) (b,e) (.int .i64 e) dh hl rfl rfl ⟨⟨rfl,rfl⟩,trivial⟩ (aa.refl _) rfl ?_|refine aA ?_ ?_|refine ah ?_|refine aj ?_|refine aG (fun h=>?_) (fun h=>?_)|refine aC 0 (b,e) (b2,e2) (.int .i64 x) LX hl (congrArg Prod.snd ep).symm (congrArg (fun r:Int×RS=>D.int .i64 r.1) ep).symm ⟨⟨rfl,rfl⟩,trivial⟩ (aa.refl _) rfl ?_|refine af (by constructor<;>(simp only[List.length_cons,List.length_nil];decide)) ?_|refine aP (aZ (by show _<=n-1;omega) (by show n-1<=_;omega)) ?_|refine bV (n-1,(b2,e2),[x]) (Sv.mk' [0,1,4] rfl ⟨⟨rfl,rfl⟩,⟨rfl,rfl⟩,⟨rfl,rfl⟩,trivial⟩ ⟨rfl,rfl,rfl,rfl,trivial⟩) ⟨by show 0<=n-1;omega,by show n-1<=4096;omega,kX,by show([x]).length+(n-1).toNat<=4096;simp at ho ⊢;omega,jE hn (by simpa using h)⟩ (by show(n-1).toNat<n.toNat;omega)|refine bD ?_|refine bE (d:=.list 1 []) (.inr rfl) rfl ⟨⟨rfl,rfl⟩,trivial⟩ rfl (.nil _) (congrArg Prod.snd (cO (.inr (by simpa using h)))).symm (congrArg (fun r:List Int×RS=>D.list 1 (r.1.map eY)) (cO (.inr (by simpa using h)))).symm
  ·replace hn:n<=0:=by simpa using hn
   repeat' (conv=>arg 2;whnf);first|refine aC 0 (b,e) (b,e) (.int .i64 e) dh hl rfl rfl ⟨⟨rfl,rfl⟩,trivial⟩ (aa.refl _) rfl ?_|refine aA ?_ ?_|refine ah ?_|refine aj ?_|refine aG (fun h=>?_) (fun h=>?_)|refine bD ?_|refine bE (d:=.list 1 []) (.inr rfl) rfl ⟨⟨rfl,rfl⟩,trivial⟩ rfl (.nil _) (congrArg Prod.snd (cO (.inl hn))).symm (congrArg (fun r:List Int×RS=>D.list 1 (r.1.map eY)) (cO (.inl hn))).symm
 |cons y out=>
  conv=>arg 2;whnf
  refine aG (fun hn=>?_) (fun hn=>?_)
  ·replace hn:0<n:=by simpa using hn
   repeat' (conv=>arg 2;whnf);first|refine aC 0 (b,e) (b,e) (.int .i64 e) dh hl rfl rfl ⟨⟨rfl,rfl⟩,trivial⟩ (aa.refl _) rfl ?_|refine aA ?_ ?_|refine ah ?_|refine aj ?_|refine aG (fun h=>?_) (fun h=>?_)|refine aC 0 (b,e) (b2,e2) (.int .i64 x) LX hl (congrArg Prod.snd ep).symm (congrArg (fun r:Int×RS=>D.int .i64 r.1) ep).symm ⟨⟨rfl,rfl⟩,trivial⟩ (aa.refl _) rfl ?_|refine af (by constructor<;>(simp only[List.length_cons,List.length_nil,List.length_map,maxLen] at ho ⊢;omega)) ?_|refine aP (aZ (by show _<=n-1;omega) (by show n-1<=_;omega)) ?_|refine bV (n-1,(b2,e2),(y::out)++[x]) (Sv.mk' [0,1,5] rfl ⟨⟨rfl,rfl⟩,⟨rfl,rfl⟩,⟨rfl,by simp;rfl⟩,trivial⟩ ⟨rfl,rfl,rfl,rfl,trivial⟩) ⟨by show 0<=n-1;omega,by show n-1<=4096;omega,kX,by show((y::out)++[x]).length+(n-1).toNat<=4096;simp at ho ⊢;omega,jE hn (by simpa using h)⟩ (by show(n-1).toNat<n.toNat;omega)|refine bD ?_|refine nK [2] (d:=.list 1 ((y::out).map eY)) (.inr rfl) rfl ⟨⟨rfl,rfl⟩,trivial⟩ rfl (.refl _) (congrArg Prod.snd (cO (.inr (by simpa using h)))).symm (congrArg (fun r:List Int×RS=>D.list 1 (r.1.map eY)) (cO (.inr (by simpa using h)))).symm
  ·replace hn:n<=0:=by simpa using hn
   repeat' (conv=>arg 2;whnf);first|refine aC 0 (b,e) (b,e) (.int .i64 e) dh hl rfl rfl ⟨⟨rfl,rfl⟩,trivial⟩ (aa.refl _) rfl ?_|refine aA ?_ ?_|refine ah ?_|refine aj ?_|refine aG (fun h=>?_) (fun h=>?_)|refine bD ?_|refine nK [2] (d:=.list 1 ((y::out).map eY)) (.inr rfl) rfl ⟨⟨rfl,rfl⟩,trivial⟩ rfl (.refl _) (congrArg Prod.snd (cO (.inl hn))).symm (congrArg (fun r:List Int×RS=>D.list 1 (r.1.map eY)) (cO (.inl hn))).symm
end Go.Proofs.YtafomdobfmmleaaGreatDoor

/- Lemmas and contracts. -/
namespace Go.Proofs.YtafomdobfmmleaaGreatDoor
open Go.RowKit
set_option linter.unusedVariables false
set_option maxRecDepth 20000
theorem Nk [Wd] {P:Program} {Q:Exit->S->Prop} {e:Int} {t f:T} (h1:e=0->t.ok P Q) (h2:¬e=0->f.ok P Q):(T.br ((e==0)==true) t f).ok P Q:=⟨fun h=>h1 (by simpa using h),fun h=>h2 (by simpa using h)⟩
theorem LY [Wd]:fP 237 (.agg [.ptr 0 0]) [] (fun s=>.str (pS s).1) (fun s=>(pS s).2):=by
 rintro⟨b,e⟩ hs
 replace hs:b.length<=8388609:=hs
 obtain⟨x,b0,e0,q0,l0⟩:=Rd1.get (ju 64) (b,e)
 replace l0:b0.length<=b.length:=l0
 have h0:b0.length<=8388609:=by omega
 have hx:=vD q0
 have eR:pS (b,e)=(x,eX (nN x) (b0,e0)):=by unfold pS gd;simp only[q0]
 have gC:¬e0=0->pS (b,e)=(x,(b0,e0)):=fun h=>by rw[eR,sD _ h]
 cases hn:dQ x
 ·have qn:aJ Tryz.prog 27 [.str x] (.bool false):=by
   have:=F4 x (by omega)
   rwa [hn] at this
  have gA:e0=0->pS (b,e)=(x,(b0,61)):=fun h=>by
   rw[eR,h]
   unfold nN
   rw[hn]
   rfl
  refine aF 21 [] Tryz.func237 rfl (by kernel_rfl) ?_
  repeat' (conv=>arg 2;whnf);first|refine af (by kernel_rfl) ?_|refine aA ?_ ?_|refine ah ?_|refine aj ?_|refine Nk (fun h=>?_) (fun hz=>?_)|refine pT (fun h=>?_) (fun hz=>?_)|refine kO _ rfl ?_|refine af (by omega) ?_|refine aC 0 (b,e) (b0,e0) (.list 1 (x.map aE)) q8 hs (congrArg Prod.snd q0).symm (congrArg (fun r:List UInt8×RS=>D.list 1 (r.1.map aE)) q0).symm ⟨⟨rfl,rfl⟩,trivial⟩ (aa.refl _) rfl ?_|refine aC 0 (b0,e0) (b0,e0) (.int .i64 e0) dh h0 rfl rfl ⟨⟨rfl,rfl⟩,trivial⟩ (aa.refl _) rfl ?_|refine ak qn rfl (aa.refl _) ?_|refine aC 0 (b0,e0) (b0,61) (.aD []) (j6 61) h0 (by rw[h];rfl) rfl ⟨⟨rfl,rfl⟩,trivial⟩ (aa.refl _) rfl ?_|refine bE (x:=b0) (y:=61) (d:=.str x) (.inr rfl) rfl ⟨⟨rfl,rfl⟩,trivial⟩ rfl (.refl _) (congrArg Prod.snd (gA h)).symm (congrArg (fun r:List UInt8×RS=>D.str r.1) (gA h)).symm|(subst h;refine bE (x:=b0) (y:=0) (d:=.str x) (.inr rfl) rfl ⟨⟨rfl,rfl⟩,trivial⟩ rfl (.refl _) (congrArg Prod.snd (gA rfl)).symm (congrArg (fun r:List UInt8×RS=>D.str r.1) (gA rfl)).symm)|refine bE (x:=b0) (y:=e0) (d:=.str x) (.inr rfl) rfl ⟨⟨rfl,rfl⟩,trivial⟩ rfl (.refl _) (congrArg Prod.snd (gC hz)).symm (congrArg (fun r:List UInt8×RS=>D.str r.1) (gC hz)).symm|fail
 ·have qn:aJ Tryz.prog 27 [.str x] (.bool true):=by
   have:=F4 x (by omega)
   rwa [hn] at this
  have gA:e0=0->pS (b,e)=(x,(b0,0)):=fun h=>by
   rw[eR,h]
   unfold nN
   rw[hn]
   rfl
  refine aF 21 [] Tryz.func237 rfl (by kernel_rfl) ?_
  repeat' (conv=>arg 2;whnf);first|refine af (by kernel_rfl) ?_|refine aA ?_ ?_|refine ah ?_|refine aj ?_|refine Nk (fun h=>?_) (fun hz=>?_)|refine pT (fun h=>?_) (fun hz=>?_)|refine kO _ rfl ?_|refine af (by omega) ?_|refine aC 0 (b,e) (b0,e0) (.list 1 (x.map aE)) q8 hs (congrArg Prod.snd q0).symm (congrArg (fun r:List UInt8×RS=>D.list 1 (r.1.map aE)) q0).symm ⟨⟨rfl,rfl⟩,trivial⟩ (aa.refl _) rfl ?_|refine aC 0 (b0,e0) (b0,e0) (.int .i64 e0) dh h0 rfl rfl ⟨⟨rfl,rfl⟩,trivial⟩ (aa.refl _) rfl ?_|refine ak qn rfl (aa.refl _) ?_|refine aC 0 (b0,e0) (b0,61) (.aD []) (j6 61) h0 (by rw[h];rfl) rfl ⟨⟨rfl,rfl⟩,trivial⟩ (aa.refl _) rfl ?_|refine bE (x:=b0) (y:=61) (d:=.str x) (.inr rfl) rfl ⟨⟨rfl,rfl⟩,trivial⟩ rfl (.refl _) (congrArg Prod.snd (gA h)).symm (congrArg (fun r:List UInt8×RS=>D.str r.1) (gA h)).symm|(subst h;refine bE (x:=b0) (y:=0) (d:=.str x) (.inr rfl) rfl ⟨⟨rfl,rfl⟩,trivial⟩ rfl (.refl _) (congrArg Prod.snd (gA rfl)).symm (congrArg (fun r:List UInt8×RS=>D.str r.1) (gA rfl)).symm)|refine bE (x:=b0) (y:=e0) (d:=.str x) (.inr rfl) rfl ⟨⟨rfl,rfl⟩,trivial⟩ rfl (.refl _) (congrArg Prod.snd (gC hz)).symm (congrArg (fun r:List UInt8×RS=>D.str r.1) (gC hz)).symm|fail
theorem Tz [Wd]:fP 238 (.agg [.ptr 0 0]) [] (fun s=>.agg (j8 (uE s).1)) (fun s=>(uE s).2):=by
 rintro⟨b,e⟩ hs
 replace hs:b.length<=8388609:=hs
 obtain⟨t,b0,e0,q0,l0⟩:=Rd1.get Cy (b,e)
 replace l0:b0.length<=b.length:=l0
 have h0:b0.length<=8388609:=by omega
 obtain⟨f,b1,e1,q1,l1⟩:=Rd1.get (cY 0) (b0,e0)
 replace l1:b1.length<=b0.length:=l1
 have h1:b1.length<=8388609:=by omega
 obtain⟨c,b2,e2,q2,l2⟩:=Rd1.get (ju 64) (b1,e1)
 replace l2:b2.length<=b1.length:=l2
 have h2:b2.length<=8388609:=by omega
 obtain⟨hd,b3,e3,q3,l3⟩:=Rd1.get (nD FB 64) (b2,e2)
 replace l3:b3.length<=b2.length:=l3
 have h3:b3.length<=8388609:=by omega
 obtain⟨i,b4,e4,q4,l4⟩:=Rd1.get (cY 0) (b3,e3)
 replace l4:b4.length<=b3.length:=l4
 have h4:b4.length<=8388609:=by omega
 obtain⟨n,b5,e5,q5,l5⟩:=Rd1.get (Cw 16) (b4,e4)
 replace l5:b5.length<=b4.length:=l5
 have h5:b5.length<=8388609:=by omega
 obtain⟨em,BJ⟩:∃em:Int,jX (decide (i<n)) (b5,e5)=(b5,em):=⟨(jX (decide (i<n)) (b5,e5)).2,Prod.ext (zA _ _) rfl⟩
 obtain⟨l,b6,e6,q6,l6⟩:=Rd1.get (nD (cY 0) 8) (b5,em)
 replace l6:b6.length<=b5.length:=l6
 have h6:b6.length<=8388609:=by omega
 obtain⟨k,b7,e7,q7,l7⟩:=Rd1.get xz (b6,e6)
 replace l7:b7.length<=b6.length:=l7
 have h7:b7.length<=8388609:=by omega
 have Hl:eX (if i<n then 0 else 100) (b5,e5)=(b5,em):=by
  rw[<-BJ,Cv]
  congr 1
  by_cases h:i<n<;>simp[h]
 have eR:uE (b,e)=(⟨t,f,c,hd,i,n,l,k⟩,(b7,e7)):=by unfold uE bg aT bZ gd;simp only[q0,q1,q2,q3,q4,q5,Hl,q6,q7]
 refine aF 37 [] Tryz.func238 rfl (by kernel_rfl) ?_
 repeat' (conv=>arg 2;whnf);first|refine af (by kernel_rfl) ?_|refine aA ?_ ?_|refine ah ?_|refine aj ?_|refine aP (aZ (by omega) (by omega)) ?_|refine aC 0 (b,e) (b0,e0) (.str t) LY hs (congrArg Prod.snd q0).symm (congrArg (fun r:List UInt8×RS=>D.str r.1) q0).symm ⟨⟨rfl,rfl⟩,trivial⟩ (aa.refl _) rfl ?_|refine aC 0 (b0,e0) (b1,e1) (.int .i64 f) (kA 0) h0 (congrArg Prod.snd q1).symm (congrArg (fun r:Int×RS=>D.int .i64 r.1) q1).symm ⟨⟨rfl,rfl⟩,trivial⟩ (aa.refl _) rfl ?_|refine aC 0 (b1,e1) (b2,e2) (.list 1 (c.map aE)) q8 h1 (congrArg Prod.snd q2).symm (congrArg (fun r:List UInt8×RS=>D.list 1 (r.1.map aE)) q2).symm ⟨⟨rfl,rfl⟩,trivial⟩ (aa.refl _) rfl ?_|refine aC 0 (b2,e2) (b3,e3) (.list 5 (hd.map eM)) (Qr 64 (by decide) (by decide)) h2 (congrArg Prod.snd q3).symm (congrArg (fun r:List iS×RS=>D.list 5 (r.1.map eM)) q3).symm ⟨⟨rfl,rfl⟩,trivial⟩ (aa.refl _) rfl ?_|refine aC 0 (b3,e3) (b4,e4) (.int .i64 i) (kA 0) h3 (congrArg Prod.snd q4).symm (congrArg (fun r:Int×RS=>D.int .i64 r.1) q4).symm ⟨⟨rfl,rfl⟩,trivial⟩ (aa.refl _) rfl ?_|refine aC 0 (b4,e4) (b5,e5) (.int .i64 n) (vu 16) h4 (congrArg Prod.snd q5).symm (congrArg (fun r:Int×RS=>D.int .i64 r.1) q5).symm ⟨⟨rfl,rfl⟩,trivial⟩ (aa.refl _) rfl ?_|refine aC 0 (b5,e5) (b5,em) (.aD []) (Cj (decide (i<n))) h5 BJ.symm rfl ⟨⟨rfl,rfl⟩,trivial⟩ (aa.refl _) rfl ?_|refine aC 0 (b5,em) (b6,e6) (.list 1 (l.map eY)) (Qs 8 (by decide) (by decide)) h5 (congrArg Prod.snd q6).symm (congrArg (fun r:List Int×RS=>D.list 1 (r.1.map eY)) q6).symm ⟨⟨rfl,rfl⟩,trivial⟩ (aa.refl _) rfl ?_|refine aC 0 (b6,e6) (b7,e7) (.agg (mh k)) Ff h6 (congrArg Prod.snd q7).symm (congrArg (fun r:gU×RS=>D.agg (mh r.1)) q7).symm ⟨⟨rfl,rfl⟩,trivial⟩ (aa.refl _) rfl ?_|refine bE (d:=.agg (j8 (⟨t,f,c,hd,i,n,l,k⟩))) (.inr rfl) rfl ⟨⟨rfl,rfl⟩,trivial⟩ rfl (.refl _) (congrArg Prod.snd eR).symm (congrArg (fun r:jL×RS=>D.agg (j8 r.1)) eR).symm
theorem FE [Wd] (kd:Int) (b:List UInt8) (e:Int) (hs:b.length<=8388609) {r v n d:Int} {b3:List UInt8} {e3:Int} (q:rH (b,e)=((r,v,n,d),(b3,e3))):bf Tryz.prog 226 [.agg [.ptr 0 0],.ptr 1 0] [.cells 235 [.list 1 (b.map aE),.int .i64 e,.bool true],.cells 59 [.int .i64 kd,.int .i64 0,.int .i64 0,.int .i64 0,.int .i64 0,.int .i64 0,.int .i64 0,.int .i64 0,.int .i64 0,.nils,.int .i64 0,.int .i64 0,.nils,.nils,.nils,.nils,.str [],.int .i64 0,.str [],.int .i64 0,.nils,.nils,.int .i64 0,.int .i64 0,.nils,.int .i64 0,.int .i64 0,.nils,.int .i64 0,.int .i64 0]] (fun r' h=>r'=.aD []/\h=[.cells 235 [.list 1 (b3.map aE),.int .i64 e3,.bool true],.cells 59 [.int .i64 kd,.int .i64 r,.int .i64 v,.int .i64 n,.int .i64 d,.int .i64 0,.int .i64 0,.int .i64 0,.int .i64 0,.nils,.int .i64 0,.int .i64 0,.nils,.nils,.nils,.nils,.str [],.int .i64 0,.str [],.int .i64 0,.nils,.nils,.int .i64 0,.int .i64 0,.nils,.int .i64 0,.int .i64 0,.nils,.int .i64 0,.int .i64 0]]):=by
 obtain⟨r',c0,e0,q0,l0⟩:=Rd1.get (dK 12) (b,e)
 replace l0:c0.length<=b.length:=l0
 have h0:c0.length<=8388609:=by omega
 obtain⟨v',c1,e1,q1,l1⟩:=Rd1.get (cY 0) (c0,e0)
 replace l1:c1.length<=c0.length:=l1
 have h1:c1.length<=8388609:=by omega
 obtain⟨n',c2,e2,q2,l2⟩:=Rd1.get (cY 1) (c1,e1)
 replace l2:c2.length<=c1.length:=l2
 have h2:c2.length<=8388609:=by omega
 obtain⟨d',c3,e3,q3,l3⟩:=Rd1.get (cY 1) (c2,e2)
 replace l3:c3.length<=c2.length:=l3
 have h3:c3.length<=8388609:=by omega
 unfold rH aT bZ at q
 simp only[q0,q1,q2,q3] at q
 cases q
 refine aF 24 [] Tryz.func226 rfl (by kernel_rfl) ?_
 repeat' (conv=>arg 2;whnf);first|refine af (by kernel_rfl) ?_|refine aA ?_ ?_|refine ah ?_|refine aj ?_|refine aC 0 (b,e) (c0,e0) (.int .i64 r) tO hs (congrArg Prod.snd q0).symm (congrArg (fun r:Int×RS=>D.int .i64 r.1) q0).symm ⟨⟨rfl,rfl⟩,trivial⟩ (aa.refl _) rfl ?_|refine aC 0 (c0,e0) (c1,e1) (.int .i64 v) (kA 0) h0 (congrArg Prod.snd q1).symm (congrArg (fun r:Int×RS=>D.int .i64 r.1) q1).symm ⟨⟨rfl,rfl⟩,trivial⟩ (aa.refl _) rfl ?_|refine aC 0 (c1,e1) (c2,e2) (.int .i64 n) (kA 1) h1 (congrArg Prod.snd q2).symm (congrArg (fun r:Int×RS=>D.int .i64 r.1) q2).symm ⟨⟨rfl,rfl⟩,trivial⟩ (aa.refl _) rfl ?_|refine aC 0 (c2,e2) (b3,e3) (.int .i64 d) (so 1) h2 (congrArg Prod.snd q3).symm (congrArg (fun r:Int×RS=>D.int .i64 r.1) q3).symm ⟨⟨rfl,rfl⟩,trivial⟩ (aa.refl _) rfl ?_|refine mL [0,1] (.inl rfl) rfl rfl ⟨⟨rfl,rfl⟩,⟨rfl,rfl⟩,trivial⟩ ⟨⟨rfl,rfl⟩,⟨rfl,rfl⟩,trivial⟩ (.refl _)
end Go.Proofs.YtafomdobfmmleaaGreatDoor
