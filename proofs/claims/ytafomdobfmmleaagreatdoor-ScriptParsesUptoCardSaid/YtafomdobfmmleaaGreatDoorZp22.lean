/- Lemmas and contracts, part 22. -/
import Derived.Test.YtafomdobfmmleaaGreatDoorZp21
import Derived.Lib.IndexBytes
import Derived.Deep.RegionLaw
import Derived.Deep.QuietTactic
import Derived.BigQuiet
namespace Go.Proofs.YtafomdobfmmleaaGreatDoor
set_option linter.unusedVariables false
open Go.RowKit
open Go.Proofs.Tryz
set_option maxRecDepth 20000
set_option maxHeartbeats 20000000
noncomputable def agi {α:Type} (p:α->Prop):Option α:=by
 classical exact if h:∃a,p a then some (Classical.choose h) else none
theorem agh {α:Type} {p:α->Prop} {a:α} (h:agi p=some a):p a:=by
 classical
 unfold agi at h
 split at h
 ·rename_i hh
  injection h with h
  subst h
  exact Classical.choose_spec hh
 ·cases h
theorem ago {α:Type} {p:α->Prop} (h:agi p=none):∀a,¬p a:=by
 classical
 unfold agi at h
 split at h
 ·cases h
 ·rename_i hh
  exact fun a ha=>hh ⟨a,ha⟩
noncomputable def agc (l:List UInt8):Option sW:=agi (agl l)
noncomputable def agd (l:List UInt8):Option bK:=agi (fE l)
abbrev Ip:=(sW×List bK)×Int×Int
def afY (n e:Int):Ip:=((afU,[]),n,e)
noncomputable def scan:List UInt8->List UInt8->Nat->sW->List bK->Ip
 |[],cur,n,s,l=>if cur≠[]\/n=0 then(if 4096<=l.length then afY ((n:Int)+1) 3 else afY ((n:Int)+1) 270) else((s,l),0,0)
 |c::r,cur,n,s,l=>if c=10 then
   (if n=0 then(match agc cur with|none=>afY 1 270|some s'=>scan r [] 1 s' l)
    else if 4096<=l.length then afY ((n:Int)+1) 3 else match agd cur with|none=>afY ((n:Int)+1) 270|some a=>scan r [] (n+1) s (l++[a]))
  else scan r (cur++[c]) n s l
theorem agz:∀(x t cur:List UInt8) (n:Nat) (s:sW) (l:List bK),(10:UInt8)∉x->scan (x++t) cur n s l=scan t (cur++x) n s l
 |[],t,cur,n,s,l,_=>by simp
 |c::x,t,cur,n,s,l,h=>by
  have hc:¬c=10:=fun e=>h (by rw[e];exact List.mem_cons_self)
  rw[List.cons_append,scan,if_neg hc,agz x t _ n s l (fun k=>h (List.mem_cons_of_mem _ k))]
  simp
theorem agI {x r:List UInt8} (n:Nat) (s:sW) (l:List bK) (h:(10:UInt8)∉x):scan (x++10::r) [] n s l=
 (if n=0 then(match agc x with|none=>afY 1 270|some s'=>scan r [] 1 s' l)
   else if 4096<=l.length then afY ((n:Int)+1) 3 else match agd x with|none=>afY ((n:Int)+1) 270|some a=>scan r [] (n+1) s (l++[a])):=by
 rw[agz x _ _ n s l h,scan,if_pos rfl,List.nil_append]
theorem agJ {x:List UInt8} (n:Nat) (s:sW) (l:List bK) (h:(10:UInt8)∉x) (h1:x≠[]\/n=0):scan x [] n s l=(if 4096<=l.length then afY ((n:Int)+1) 3 else afY ((n:Int)+1) 270):=by
 have:=agz x [] [] n s l h
 rw[List.append_nil] at this
 rw[this,scan,List.nil_append,if_pos h1]
theorem agK (s:List UInt8):(∃x r,s=x++10::r/\(10:UInt8)∉x/\Lib.cut s [10]=(x,r,true))\/((10:UInt8)∉s/\Lib.cut s [10]=(s,[],false)):=by
 have h1:=Lib.index_one s 10
 have h0:=Lib.index_ge s [10]
 by_cases h:Lib.index s [10]=-1
 ·refine .inr ⟨fun hm=>?_,?_⟩
  ·obtain⟨k,hk⟩:=List.getElem?_of_mem hm
   exact Lib.indexByte_none (h1▸h) k hk
  ·unfold Lib.cut
   rw[if_neg (by omega)]
 ·obtain⟨o,ho⟩:∃o:Nat,Lib.index s [10]=o:=⟨(Lib.index s [10]).toNat,by omega⟩
  obtain⟨k1,k2⟩:=Lib.indexByte_some (h1▸ho)
  have hlt:=(List.getElem?_eq_some_iff.1 k1).1
  refine .inl ⟨s.take o,s.drop (o+1),?_,fun hm=>?_,?_⟩
  ·conv=>lhs;rw[<-List.take_append_drop o s]
   rw[List.drop_eq_getElem_cons hlt,(List.getElem?_eq_some_iff.1 k1).2]
  ·obtain⟨k,hk⟩:=List.getElem?_of_mem hm
   rw[List.getElem?_take] at hk
   split at hk
   ·rename_i ZX;exact k2 k ZX hk
   ·cases hk
  ·unfold Lib.cut
   rw[ho,if_pos (by omega)]
   rfl
def yL:D->Bool
 |.bool _=>true
 |.int _ _=>true
 |.str _=>true
 |_=>false
theorem Jz [Old] {I I':Nat->Prop} {g g':bH} {w w':World} {v:Value} {d:D} (hb:yL d=true) (h:Vr I g w v d):Vr I' g' w' v d:=by
 cases d<;>first|(cases hb;done)|skip
 all_goals
  cases h with
  |rd h=>
   cases h
   first|exact .rd (.bool _)|exact .rd (.int _ _)|exact .rd (.str _)
theorem BY [Wd] {P:Program} {Q:Exit->S->Prop} {f:FuncId} {ar bR:List D} {h:List AO} {c:D->List AO->T} {r:D} (fz:List Nat) (hF:aq P f ar r) (hp:ga.pl ar=true) (hc:aa (D.dj.fl h fz bR) ar) (hb:yL r=true) (k:(c r h).ok P Q):(T.call f bR h c).ok P Q:=by
 refine⟨fun r' h'=>r'=r/\h'=h,⟨hF.1,fun w I g vs hW hd ha=>?_⟩,fun r' h' ⟨e1,e2⟩=>by subst e1 e2;exact k⟩
 have hv:cJ (fun b=>I b\/gM fz g h b) g w vs (D.dj.fl h fz bR):=by
  rw[rF]
  refine⟨by rw[List.length_map];exact ha.1,fun i v d h1 h2=>?_⟩
  rw[List.getElem?_map] at h2
  cases hq:bR[i]? with
  |none=>rw[hq] at h2;cases h2
  |some d0=>
   rw[hq] at h2
   injection h2 with h2
   subst h2
   exact(ha.2 i v d0 h1 hq).dj hd (Wd.aI hW) (fun _ h=>.inl h) (fun _ h=>.inr h)
 have oY:=ur (hc.ok hv) hp
 have oV:Den (fun b=>I b\/gM fz g h b) [] w []:=⟨rfl,fun b hb=>hb.elim (hd.aG b) (fun ho=>hd.lt ho.owned),fun o ao p h1=>by simp at h1,fun o ao p b h1=>by simp at h1,fun o o' ao cA p p' b h1=>by simp at h1⟩
 refine(hF.2 w _ [] vs (Wd.cl hW (fun _ _=>rfl) (fun _ h=>.inl h)) oV oY.Ay).mono ?_
 have fu:∀b,¬dF [] [] b:=by rintro b ⟨o,ao,p,q1,_⟩;simp at q1
 rintro e w' (⟨v,I',mV,r0,h0,rfl,⟨rfl,rfl⟩,mU,rZ,hx,i1,i2,ow,ck⟩|⟨ch,rfl,hp,hx⟩)
 case inr=>exact .inr ⟨ch,rfl,hp,hx.mono (fun x _ ho=>absurd ho (fu x))⟩
 have kZ:Ext (fun _=>False) w w':=hx.mono (fun b _ hb=>fu b hb)
 exact .inl ⟨v,I,g,r0,h,rfl,⟨rfl,rfl⟩,⟨hd.ext kZ (fun _ _=>id) (fun _ _=>id),kZ.mono (fun _ _ h=>h.elim),fun _ h=>h,fun _ h=>.inl h,fun _ _ h=>h,fun _ _ _=>rfl,fun o ao p b ho h1 _ h3=>⟨ao,h1,h3⟩,fun o ao p b ho h1 _ _=>by have:=(List.getElem?_eq_some_iff.1 h1).1;omega⟩,Jz hb rZ⟩
theorem ade [Wd] {P:Program} {Q:Exit->S->Prop} {f:FuncId} {ar bR:List D} {h:List AO} {t:TypeId} {cs ds:List D} {c:D->List AO->T} {R:D->Prop} (fz:List Nat) (p:Nat) (ho:h[p]?=some (.cells t cs)) (hz:fz.elem p=false) (um:aa (D.dj.fl h fz cs) ds) (hp:ga.pl ds=true) (hF:bC P f ar [.cells t ds] (fun r h'=>R r)) (hc:aa bR (D.bO.rl [p] ar)) (hM:(jT h bR).elem p=true) (hb:∀r,R r->yL r=true) (k:∀r,R r->(c r (h.set p .gone)).ok P Q):(T.call f bR h c).ok P Q:=by
 have Em:p∈jT h bR:=by simpa using hM
 have oT:p∉fz:=by simpa using hz
 refine⟨fun r' h'=>R r'/\h'=h.set p .gone,⟨hF.1,fun w I g vs hW hd ha=>?_⟩,fun r' h' ⟨e1,e2⟩=>by subst e2;exact k r' e1⟩
 have iK:p<h.length:=(List.getElem?_eq_some_iff.1 ho).1
 obtain⟨q,hg⟩:∃q,g[p]?=some q:=⟨_,List.getElem?_eq_getElem (by rw[hd.len];exact iK)⟩
 obtain⟨b,us,L3,D2,kP,h1⟩:=hd.obj p _ _ ho hg
 have L4:∀x,I x->(I x\/gM fz g h x):=fun _ h=>.inl h
 have hA:∀b,Old.A b->I b:=Wd.aI hW
 have Ax:cJ (fun x=>I x\/gM fz g h x) g w us ds:=um.ok (by
  rw[rF]
  refine⟨by rw[List.length_map];exact kP.1,fun i v d h1 h2=>?_⟩
  rw[List.getElem?_map] at h2
  cases hq:cs[i]? with
  |none=>rw[hq] at h2;cases h2
  |some d0=>
   rw[hq] at h2
   injection h2 with h2
   subst h2
   exact(kP.2 i v d0 h1 hq).dj hd hA L4 (fun _ h=>.inr h))
 have Hu:AO.owns q (.cells t cs) b:=by rw[L3];rfl
 have Tg:¬(I b\/gM fz g h b):=by
  rintro(e|⟨o',cA,p',hm,q1,q2,q3⟩)
  ·exact hd.own p _ _ b ho hg Hu e
  ·have:=hd.sep p o' _ cA _ p' b ho q1 hg q2 Hu q3
   subst this
   exact oT hm
 have hσ:∀(i o:Nat),[p][i]?=some o->[q][i]?=g[o]?:=by
  intro i o e
  cases i with
  |zero=>simp at e;subst e;simp[hg]
  |succ i=>simp at e
 have eV:∀x,dF [q] [.cells t ds] x->x=b:=by
  rintro x ⟨o,ao,q',e1,e2,e3⟩
  cases o with
  |succ o=>simp at e1
  |zero=>
   simp at e1 e2
   subst e1 e2
   rw[L3] at e3
   injection e3 with e3
   exact e3.symm
 have LY:Den (fun x=>I x\/gM fz g h x) [q] w [.cells t ds]:=by
  refine⟨rfl,fun x hx=>hx.elim (hd.aG x) (fun e=>hd.lt e.owned),fun o ao q' e1 e2=>?_,fun o ao q' x e1 e2 e3 hx=>?_,fun o o' ao cA q q' x e1 y5 e2 y6 e3 L5=>?_⟩
  ·cases o with
   |succ o=>simp at e1
   |zero=>
    simp at e1 e2
    subst e1 e2
    exact⟨b,us,L3,D2,(ur Ax hp).Ay,h1⟩
  ·have:=eV x ⟨o,ao,q',e1,e2,e3⟩
   subst this
   exact Tg hx
  ·cases o with
   |succ o=>simp at e1
   |zero=>cases o' with
    |succ o=>simp at y5
    |zero=>rfl
 have Ui:cJ (fun x=>I x\/gM fz g h x) [q] w vs ar:=(hc.ok (ha.mono L4 (fun _ _ h=>h))).down hσ
 refine(hF.2 w _ [q] vs (Wd.cl hW (fun _ _=>rfl) L4) LY Ui).mono ?_
 have xS:∀x,x=b->gM (jT h bR) g h x:=by rintro x rfl;exact⟨p,_,_,Em,ho,hg,Hu⟩
 rintro e w' (⟨v,I',mV,r0,h0,rfl,hR,mU,rZ,hx,i1,i2,ow,ck⟩|⟨ch,rfl,hp,hx⟩)
 case inr=>exact .inr ⟨ch,rfl,hp,hx.mono (fun x _ ho=>xS x (eV x ho))⟩
 have kZ:Ext (fun x=>x=b) w w':=hx.mono (fun x _ ho=>eV x ho)
 have key:∀{i:Nat} {ao:AO},(h.set p .gone)[i]?=some ao->(h[i]?=some ao/\i≠p)\/ao=.gone:=by
  intro i ao hi
  rw[List.getElem?_set] at hi
  split at hi
  ·injection hi with e
   exact .inr e.symm
  ·rename_i cu
   exact .inl ⟨hi,fun e=>cu e.symm⟩
 have Az:∀x,dF g (h.set p .gone) x->¬x=b:=by
  rintro x ⟨o,ao,q',e1,e2,e3⟩ rfl
  rcases key e1 with⟨k1,k2⟩|rfl
  ·exact k2 (hd.sep o p _ _ _ _ x k1 ho e2 hg e3 Hu)
  ·exact e3.elim
 refine .inl ⟨v,I,g,r0,h.set p .gone,rfl,⟨hR,rfl⟩,⟨(hd.drop p).ext kZ (fun x hI (e:x=b)=>Tg (.inl (by rw[<-e];exact hI))) Az,kZ.mono (fun x _ (e:x=b)=>xS x e),fun _ h=>h,fun _ h=>.inl h,fun _ _ h=>h,fun o _ hn=>?_,fun o ao q' x _ e1 e2 e3=>?_,fun o ao q' x hl e1 _ _=>?_⟩,Jz (hb _ hR) rZ⟩
 ·rw[List.getElem?_set,if_neg (fun (e:p=o)=>hn (by rw[<-e];exact Em))]
 ·rcases key e1 with⟨k1,_⟩|rfl
  ·exact⟨ao,k1,e3⟩
  ·exact e3.elim
 ·have:=(List.getElem?_eq_some_iff.1 e1).1
  rw[List.length_set] at this
  omega
theorem QE:∀(r:List UInt8) (a:Nat),a<=r.foldl (fun n c=>n*10+(c.toNat-48)) a
 |[],a=>Nat.le_refl _
 |c::r,a=>Nat.le_trans (by omega) (QE r (a*10+(c.toNat-48)))
theorem XT {l:List UInt8} {i:Nat} {c:UInt8} (h:l[i]?=some c):sO (l.take i)*10<=sO l:=by
 have hi:=(List.getElem?_eq_some_iff.1 h).1
 have e:l=l.take i++l[i]::l.drop (i+1):=by rw[<-List.drop_eq_getElem_cons hi,List.take_append_drop]
 conv=>rhs;rw[e]
 unfold sO
 rw[List.foldl_append,List.foldl_cons]
 exact Nat.le_trans (by omega) (QE _ _)
theorem VN {l:List UInt8} {i:Nat} {c:UInt8} (h:l[i]?=some c):sO (l.take (i+1))=sO (l.take i)*10+(c.toNat-48):=by
 rw[List.take_add_one,h]
 exact NL _ _
theorem zu (n:Int):-9223372036854775808<=IntKind.i64.wrap n/\IntKind.i64.wrap n<=9223372036854775807:=by
 have e:IntKind.i64.wrap n=if 9223372036854775808<=n%18446744073709551616 then n%18446744073709551616-18446744073709551616 else n%18446744073709551616:=by simp[IntKind.wrap,IntKind.bits,IntKind.signed]
 rw[e]
 split<;>omega
theorem QF {m:Int} (h:-9223372036854775808<=m/\m<=9223372036854775807):(0<=m->IntKind.i64.wrap (m.natAbs:Int)=m)/\(m<0->IntKind.i64.wrap (-(IntKind.i64.wrap (m.natAbs:Int)))=m):=by
 have e:∀n,IntKind.i64.wrap n=if 9223372036854775808<=n%18446744073709551616 then n%18446744073709551616-18446744073709551616 else n%18446744073709551616:=fun n=>by simp[IntKind.wrap,IntKind.bits,IntKind.signed]
 constructor
 ·intro h0
  rw[e]
  split<;>omega
 ·intro h0
  rw[e,e]
  split<;>split<;>omega
def yU (d:List UInt8) (i n:Nat):Prop:=i<=d.length/\n=sO (d.take i)/\n<=11529215046068469769
def Cb (s d:List UInt8):Prop:=∀m:Int,-9223372036854775808<=m/\m<=9223372036854775807->s=Lib.itoa m->d=Lib.decDigits m.natAbs
theorem Cb.bad {s d:List UInt8} (h:Cb s d) {i n:Nat} {c:UInt8} (hn:yU d i n) (hc:d[i]?=some c) (hb:¬(48<=c.toNat/\c.toNat<=57/\n<=1152921504606846976)) {m:Int} (hm:-9223372036854775808<=m/\m<=9223372036854775807) (e:s=Lib.itoa m):False:=by
 have hd:=h m hm e
 have h1:=CP m.natAbs c (by rw[<-hd];exact List.mem_of_getElem? hc)
 have h2:=XT hc
 rw[hd,Ir,<-hd,<-hn.2.1] at h2
 exact hb ⟨h1.1,h1.2,by omega⟩
theorem yU.next {d:List UInt8} {i n:Nat} {c:UInt8} (h:yU d i n) (hc:d[i]?=some c) (hb:48<=c.toNat/\c.toNat<=57/\n<=1152921504606846976):yU d (i+1) (10*n+(c.toNat-48)):=
 ⟨by have:=(List.getElem?_eq_some_iff.1 hc).1;omega,by rw[VN hc,<-h.2.1];omega,by omega⟩
theorem ZC {r:List UInt8}:Cb (45::r) r/\∀m:Int,45::r=Lib.itoa m->m<0:=by
 have key:∀m:Int,45::r=Lib.itoa m->m<0/\r=Lib.decDigits m.natAbs:=fun m e=>by
  unfold Lib.itoa at e
  split at e
  ·rename_i h
   injection e with _ e
   exact⟨h,e⟩
  ·have:=CP m.toNat 45 (by rw[<-e];simp)
   exact absurd this.1 (by decide)
 exact⟨fun m _ e=>(key m e).2,fun m e=>(key m e).1⟩
theorem ZD {s:List UInt8} (h:∀r,s≠45::r):Cb s s/\∀m:Int,s=Lib.itoa m->0<=m:=by
 have key:∀m:Int,s=Lib.itoa m->0<=m/\s=Lib.decDigits m.natAbs:=fun m e=>by
  unfold Lib.itoa at e
  split at e
  ·exact absurd e (h _)
  ·exact⟨by omega,by rw[e];congr 1;omega⟩
 exact⟨fun m _ e=>(key m e).2,fun m e=>(key m e).1⟩
def Ll (s:List UInt8) (r:D):Prop:=∃n b,(-9223372036854775808<=n/\n<=9223372036854775807)/\r=.aj [.int .i64 n,.bool b]/\∀m:Int,-9223372036854775808<=m/\m<=9223372036854775807->s=Lib.itoa m->n=m
theorem aec [Wd] {P:Program} {Q:Exit->S->Prop} {b:Bool} {t f:T} (hb:b=true) (h:t.ok P Q):(bT b t f).ok P Q:=by subst hb;exact h
theorem aed [Wd] {P:Program} {Q:Exit->S->Prop} {b:Bool} {t f:T} (hb:b=false) (h:f.ok P Q):(bT b t f).ok P Q:=by subst hb;exact h
theorem G4 {n:Int} (h0:0<=n) (h1:n<=18446744073709551615):IntKind.u64.wrap n=n:=by
 simp[IntKind.wrap,IntKind.bits,IntKind.signed]
 omega
theorem uk {n:Int} (h0:0<=n) (h1:n<=255):IntKind.u8.wrap n=n:=by
 simp[IntKind.wrap,IntKind.bits,IntKind.signed]
 omega
theorem Wy [Wd] (iT:Ag) (c:UInt8) (r s:List UInt8) (hs:c::r=s) (hl:s.length<=4194304):bC prog 39 [.str s] [] (fun r h=>Ll s r/\h=[]):=by
 refine ak 59 [] func39 ?_
 have pY:0<s.length:=by rw[<-hs];simp
 have h0:s[0]?=some c:=by rw[<-hs];rfl
 have Ub:decide ((s.length:Int)>0)=true:=by simp;omega
 repeat' (conv=>arg 2;whnf);first|(exfalso;rw[Ub] at h;simp at h;done)|refine dK c (by omega) (by simpa using h0) ?_|refine aT (by constructor<;>(try constructor)<;>omega) ?_|apply an<;>intro h
 ·have Ct:=h
  have hw:Cb s r/\∀m:Int,s=Lib.itoa m->m<0:=by
   have hc:c=45:=UInt8.toNat_inj.1 (by have h5:c.toNat=45:=(by simp at h;omega);rw[h5];rfl)
   rw[<-hs,hc]
   exact ZC
  clear h
  have LL:r.length<=4194304:=by rw[<-hs] at hl;simp at hl;omega
  conv=>arg 2;whnf
  refine bE (α:=Nat×Nat) (fun a=>⟨[(7,.int .i64 a.1),(6,.int .u64 a.2),(5,.str r),(4,.bool (bif true then(c.toNat:Int)==45 else false)),(3,.bool false),(2,.int .i64 0),(0,.str s)],[]⟩) (fun a=>yU r a.1 a.2) (fun a=>r.length-a.1) (0,0) ⟨Nat.zero_le _,rfl,by decide⟩ (Sv.mk' [] rfl trivial ⟨rfl,rfl,(by show D.str _=D.str _;rw[<-hs];simp),rfl,rfl,rfl,rfl,trivial⟩) ?_
  rintro⟨i,n⟩ hJ
  replace hJ:yU r i n:=hJ
  have hi:=hJ.1
  have El:=hJ.2.2
  rcases Nat.lt_or_ge i r.length with hlt|dm
  ·obtain⟨x,hx⟩:∃x,r[i]?=some x:=⟨_,List.getElem?_eq_getElem hlt⟩
   have nC:=x.toNat_lt
   by_cases hb:48<=x.toNat/\x.toNat<=57/\n<=1152921504606846976
   ·have hN:=hJ.next hx hb
    have Lm:IntKind.u64.wrap (10*(n:Int))=10*(n:Int):=G4 (by omega) (by omega)
    obtain⟨g1,g2,g3⟩:=hb
    repeat' (conv=>arg 2;whnf);first|(exfalso;simp at h;omega)|refine dK x (by omega) (by simpa using hx) ?_|apply an<;>intro h|refine bZ (by(try dsimp only);omega) ?_|refine bw (G4 (by(try dsimp only);omega) (by(try dsimp only);omega)) ?_|refine bw (uk (by(try dsimp only);omega) (by(try dsimp only);omega)) ?_|refine aZ (i+1,10*n+(x.toNat-48)) (Sv.mk' [] rfl trivial ⟨rfl,(by show D.int _ _=D.int _ _;congr 1;(try dsimp only);rw[Lm];omega),rfl,rfl,rfl,rfl,rfl,trivial⟩) hN (by show r.length-(i+1)<r.length-i;omega)
   ·have rU:x.toNat<48\/(48<=x.toNat/\57<x.toNat)\/(48<=x.toNat/\x.toNat<=57/\1152921504606846976<n):=by omega
    rcases rU with rU|rU|rU
    all_goals repeat' (conv=>arg 2;whnf);first|(exfalso;simp at h;omega)|refine dK x (by omega) (by simpa using hx) ?_|apply an<;>intro h|refine eG ?_|exact bf (r:=.aj [.int .i64 0,.bool false]) (h':=[]) [] (.inr rfl) rfl rfl trivial trivial (.refl _) ⟨⟨0,false,by decide,rfl,fun m hm e=>(hw.1.bad hJ hx hb hm e).elim⟩,rfl⟩
  ·have hN:n=sO r:=by rw[hJ.2.1,List.take_of_length_le dm]
   repeat' (conv=>arg 2;whnf);first|(exfalso;simp at h;omega)|refine aec Ct ?_|apply an<;>intro h|refine lD ?_|refine okF (iT _ (zu _)) ?_|exact bf (r:=.aj [.int .i64 (IntKind.i64.wrap _),.bool _]) (h':=[]) [] (.inr rfl) rfl rfl trivial trivial (.refl _) ⟨⟨_,_,zu _,rfl,fun m hm e=>by have hd:=hw.1 m hm e;have hv:n=m.natAbs:=(by rw[hN,hd,Ir]);subst hv;exact(by have q:=(QF hm).2 (hw.2 m e);rw[<-Int.zero_sub] at q;exact q)⟩,rfl⟩
 ·have Ct:=h
  have hw:Cb s s/\∀m:Int,s=Lib.itoa m->0<=m:=by
   have cu:∀q,s≠45::q:=fun q e=>by rw[<-hs] at e;injection e with e _;subst e;simp at h
   exact(ZD cu)
  clear h
  have LL:s.length<=4194304:=by exact hl
  conv=>arg 2;whnf
  refine bE (α:=Nat×Nat) (fun a=>⟨[(7,.int .i64 a.1),(6,.int .u64 a.2),(5,.str s),(4,.bool (bif true then(c.toNat:Int)==45 else false)),(3,.bool false),(2,.int .i64 0),(0,.str s)],[]⟩) (fun a=>yU s a.1 a.2) (fun a=>s.length-a.1) (0,0) ⟨Nat.zero_le _,rfl,by decide⟩ (Sv.aK []) ?_
  rintro⟨i,n⟩ hJ
  replace hJ:yU s i n:=hJ
  have hi:=hJ.1
  have El:=hJ.2.2
  rcases Nat.lt_or_ge i s.length with hlt|dm
  ·obtain⟨x,hx⟩:∃x,s[i]?=some x:=⟨_,List.getElem?_eq_getElem hlt⟩
   have nC:=x.toNat_lt
   by_cases hb:48<=x.toNat/\x.toNat<=57/\n<=1152921504606846976
   ·have hN:=hJ.next hx hb
    have Lm:IntKind.u64.wrap (10*(n:Int))=10*(n:Int):=G4 (by omega) (by omega)
    obtain⟨g1,g2,g3⟩:=hb
    repeat' (conv=>arg 2;whnf);first|(exfalso;simp at h;omega)|refine dK x (by omega) (by simpa using hx) ?_|apply an<;>intro h|refine bZ (by(try dsimp only);omega) ?_|refine bw (G4 (by(try dsimp only);omega) (by(try dsimp only);omega)) ?_|refine bw (uk (by(try dsimp only);omega) (by(try dsimp only);omega)) ?_|refine aZ (i+1,10*n+(x.toNat-48)) (Sv.mk' [] rfl trivial ⟨rfl,(by show D.int _ _=D.int _ _;congr 1;(try dsimp only);rw[Lm];omega),rfl,rfl,rfl,rfl,rfl,trivial⟩) hN (by show s.length-(i+1)<s.length-i;omega)
   ·have rU:x.toNat<48\/(48<=x.toNat/\57<x.toNat)\/(48<=x.toNat/\x.toNat<=57/\1152921504606846976<n):=by omega
    rcases rU with rU|rU|rU
    all_goals repeat' (conv=>arg 2;whnf);first|(exfalso;simp at h;omega)|refine dK x (by omega) (by simpa using hx) ?_|apply an<;>intro h|refine eG ?_|exact bf (r:=.aj [.int .i64 0,.bool false]) (h':=[]) [] (.inr rfl) rfl rfl trivial trivial (.refl _) ⟨⟨0,false,by decide,rfl,fun m hm e=>(hw.1.bad hJ hx hb hm e).elim⟩,rfl⟩
  ·have hN:n=sO s:=by rw[hJ.2.1,List.take_of_length_le dm]
   repeat' (conv=>arg 2;whnf);first|(exfalso;simp at h;omega)|refine aed Ct ?_|apply an<;>intro h|refine okF (iT _ (zu _)) ?_|exact bf (r:=.aj [.int .i64 (IntKind.i64.wrap _),.bool _]) (h':=[]) [] (.inr rfl) rfl rfl trivial trivial (.refl _) ⟨⟨_,_,zu _,rfl,fun m hm e=>by have hd:=hw.1 m hm e;have hv:n=m.natAbs:=(by rw[hN,hd,Ir]);subst hv;exact(QF hm).1 (hw.2 m e)⟩,rfl⟩
theorem abB (m:Int):Lib.itoa m≠[]:=by
 unfold Lib.itoa
 split
 ·simp
 ·exact I8 _
theorem Wz [Wd] (iT:Ag):bC prog 39 [.str []] [] (fun r h=>Ll [] r/\h=[]):=by
 refine ak 59 [] func39 ?_
 repeat' (conv=>arg 2;whnf);first|refine okF (iT _ (zu _)) ?_|refine bE (α:=Unit) (fun a=>⟨[(7,.int .i64 0),(6,.int .u64 0),(5,.str []),(4,.bool false),(3,.bool false),(2,.int .i64 0),(0,.str [])],[]⟩) (fun a=>True) (fun a=>0) () trivial (Sv.aK []) (fun _ _=>?_)|exact bf (r:=.aj [.int .i64 (IntKind.i64.wrap _),.bool _]) (h':=[]) [] (.inr rfl) rfl rfl trivial trivial (.refl _) ⟨⟨_,_,zu _,rfl,fun m hm e=>absurd e.symm (abB m)⟩,rfl⟩
theorem pz [Wd] (iT:Ag) (s:List UInt8) (hl:s.length<=4194304):bC prog 39 [.str s] [] (fun r h=>Ll s r/\h=[]):=by
 cases s with
 |nil=>exact Wz iT
 |cons c r=>exact Wy iT c r _ rfl hl
section
open Go.RowKit Go.Deep
theorem N3:∀r:List UInt8,r.length%2=1->pO r=none
 |[],h=>by simp at h
 |[_],_=>rfl
 |x::y::r,h=>by
  simp only[List.length_cons] at h
  simp only[pO]
  rw[N3 r (by omega)]
  split<;>rfl
theorem Ht (h l:Nat) (hh:h<16) (hl:l<16):bits BinOp.or IntKind.u8 ((h:Int)*16) (l:Int)=((16*h+l:Nat):Int):=by
 have h':∀x:Fin 16,∀y:Fin 16,bits BinOp.or IntKind.u8 ((x.val:Int)*16) (y.val:Int)=((16*x.val+y.val:Nat):Int):=by decide+kernel
 exact h' ⟨h,hh⟩ ⟨l,hl⟩
theorem WA {r:List UInt8} {q:Nat} {a b:UInt8} (ha:r[2*q]?=some a) (hb:r[2*q+1]?=some b):r.drop (2*q)=a::b::r.drop (2*(q+1)):=by
 obtain⟨h1,h2⟩:=List.getElem?_eq_some_iff.1 ha
 obtain⟨h3,h4⟩:=List.getElem?_eq_some_iff.1 hb
 rw[List.drop_eq_getElem_cons h1,h2,List.drop_eq_getElem_cons h3,h4]
 rfl
end
theorem OD (c:Nat):(48<=c/\c<=57/\aQ c=c-48)\/(97<=c/\c<=102/\aQ c=c-87)\/(¬(48<=c/\c<=57)/\¬(97<=c/\c<=102)/\aQ c=16):=by
 unfold aQ
 split
 ·rename_i h;exact .inl ⟨h.1,h.2,rfl⟩
 ·rename_i h
  split
  ·rename_i k;exact .inr (.inl ⟨k.1,k.2,rfl⟩)
  ·rename_i k;exact .inr (.inr ⟨h,k,rfl⟩)
theorem kS [Wd] (c:UInt8):aq prog 40 [.int .u8 (c.toNat:Int)] (.int .u8 (aQ c.toNat:Int)):=by
 have hc:=c.toNat_lt
 have hd:=OD c.toNat
 generalize aQ c.toNat=d at*
 generalize c.toNat=x at*
 have hx:(x<48)\/(48<=x/\x<=57)\/(57<x/\x<97)\/(97<=x/\x<=102)\/102<x:=by omega
 rcases hx with hx|hx|hx|hx|hx
 all_goals
  have LY:(d:Int)=if(48<=x/\x<=57) then(x:Int)-48 else if(97<=x/\x<=102) then(x:Int)-97+10 else 16:=by split<;>(try split)<;>omega
  refine ak 22 [] func40 ?_
  repeat' (conv=>arg 2;whnf);first|(exfalso;simp at h;omega)|apply an<;>intro h|refine bw (uk (by omega) (by omega)) ?_|(refine cF ?_;rw[LY];(first|rw[if_pos (by omega)]|rw[if_neg (by omega),if_pos (by omega)]|rw[if_neg (by omega),if_neg (by omega)]);done)
theorem sA [Wd] (c:UInt8):aq prog 41 [.int .u8 (c.toNat:Int)] (.aj [.int .u8 (if aQ c.toNat<16 then(aQ c.toNat:Int) else 0),.bool (decide (aQ c.toNat<16))]):=by
 have hc:=c.toNat_lt
 have hd:=OD c.toNat
 generalize aQ c.toNat=d at*
 generalize c.toNat=x at*
 have hx:(x<48)\/(48<=x/\x<=57)\/(57<x/\x<97)\/(97<=x/\x<=102)\/102<x:=by omega
 rcases hx with hx|hx|hx|hx|hx
 all_goals
  refine ak 21 [] func41 ?_
  repeat' (conv=>arg 2;whnf);first|(exfalso;simp at h;omega)|apply an<;>intro h|refine bw (uk (by omega) (by omega)) ?_|(refine j5 rfl (Co.of_eq ?_);show D.aj [.int .u8 _,.bool _]=D.aj [.int .u8 _,.bool _];(first|rw[if_pos (by omega),decide_eq_true (by omega)]|rw[if_neg (by omega),decide_eq_false (by omega)]);congr 3;omega)|(refine j5 rfl (Co.of_eq ?_);show D.aj [.int .u8 _,.bool _]=D.aj [.int .u8 _,.bool _];(first|rw[if_pos (by omega),decide_eq_true (by omega)]|rw[if_neg (by omega),decide_eq_false (by omega)]);done)
def tF (s:List UInt8):D:=match dU s with
 |some bs=>.aj [.list 1 (bs.map af),.bool true]
 |none=>.aj [.nils,.bool false]
def nA (r:List UInt8) (q:Nat) (out:List UInt8):Prop:=2*q<=r.length/\out.length=q/\pO r=(pO (r.drop (2*q))).map (out++·)
theorem nA.zero (r:List UInt8):nA r 0 []:=⟨by omega,rfl,by simp⟩
theorem Px {r:List UInt8} {q:Nat} {a b:UInt8} (ha:r[2*q]?=some a) (hb:r[2*q+1]?=some b):r.drop (2*q)=a::b::r.drop (2*(q+1)):=WA ha hb
theorem nA.next {r:List UInt8} {q:Nat} {out:List UInt8} {a b:UInt8} (h:nA r q out) (ha:r[2*q]?=some a) (hb:r[2*q+1]?=some b) (h1:aQ a.toNat<16) (h2:aQ b.toNat<16):nA r (q+1) (out++[UInt8.ofNat (16*aQ a.toNat+aQ b.toNat)]):=by
 have hl:=(List.getElem?_eq_some_iff.1 hb).1
 refine⟨by omega,by simp[h.2.1],?_⟩
 rw[h.2.2,Px ha hb]
 simp only[pO]
 rw[if_pos ⟨h1,h2⟩,Option.map_map]
 congr 1
 funext l
 simp
theorem nA.bad {r:List UInt8} {q:Nat} {out:List UInt8} {a b:UInt8} (h:nA r q out) (ha:r[2*q]?=some a) (hb:r[2*q+1]?=some b) (h1:¬(aQ a.toNat<16/\aQ b.toNat<16)):pO r=none:=by
 rw[h.2.2,Px ha hb]
 simp only[pO]
 rw[if_neg h1]
 rfl
theorem nA.fin {r:List UInt8} {q:Nat} {out:List UInt8} (h:nA r q out) (hq:r.length<=2*q):pO r=some out:=by
 rw[h.2.2,List.drop_of_length_le hq]
 simp[pO]
theorem Fg {s bs:List UInt8} (h:dU s=some bs):tF s=.aj [.list 1 (bs.map af),.bool true]:=by unfold tF;rw[h]
theorem vF {s:List UInt8} (h:dU s=none):tF s=.aj [.nils,.bool false]:=by unfold tF;rw[h]
theorem Jy {s:List UInt8} (h:s.length%2=0):dU s=none:=by
 cases s with
 |nil=>rfl
 |cons x r=>
  simp only[dU]
  split
  ·exact N3 r (by simp at h;omega)
  ·rfl
theorem J5 (d:D):Co (.aj [.nils,d]) (.aj [.list 1 [],d]):=.aj _ _ rfl (fun i a b h1 h2=>by
 match i with
 |0=>simp at h1 h2;subst h1 h2;exact .nil 1
 |1=>simp at h1 h2;subst h1 h2;exact .refl _
 |i+2=>simp at h1)
theorem Vd [Wd] (s:List UInt8) (hl:s.length<=4194304) (he:s.length%2=0):aq prog 13 [.str s] (.aj [.nils,.bool false]):=by
 have hr:((s.length:Int).tmod 2)=0:=by rw[Int.tmod_eq_emod_of_nonneg (by omega)];omega
 refine kK false 54 [] func13 ?_
 repeat' (conv=>arg 2;whnf);first|refine aT (by decide) ?_|(exfalso;simp[hr] at h;done)|exact cg|apply an<;>intro h
theorem Ve [Wd] (s:List UInt8) (x:UInt8) (hl:s.length<=4194304) (he:s.length%2=1) (hx:s[0]?=some x) (Ln:x≠120):aq prog 13 [.str s] (.aj [.nils,.bool false]):=by
 have hr:((s.length:Int).tmod 2)=1:=by rw[Int.tmod_eq_emod_of_nonneg (by omega)];omega
 have Ek:¬(x.toNat=120):=fun e=>Ln (UInt8.toNat_inj.1 (by rw[e];rfl))
 refine kK false 54 [] func13 ?_
 repeat' (conv=>arg 2;whnf);first|refine aT (by decide) ?_|refine dK x (by omega) (by simpa using hx) ?_|(exfalso;simp[hr] at h;done)|(exfalso;simp[hr] at h;exact Ek (by omega))|exact cg|apply an<;>intro h
theorem Vf [Wd] (r:List UInt8) (hl:(120::r).length<=4194304) (he:r.length%2=0):aq prog 13 [.str (120::r)] (tF (120::r)):=by
 have hlen:(120::r).length=r.length+1:=rfl
 have hr:(((120::r:List UInt8).length:Int).tmod 2)=1:=by rw[Int.tmod_eq_emod_of_nonneg (by omega)];omega
 refine kK false 54 [] func13 ?_
 repeat' (conv=>arg 2;whnf);first|refine aT (by decide) ?_|refine dK 120 (by omega) rfl ?_|(exfalso;rw[hr] at h;revert h;decide)|apply an<;>intro h
 ·refine bE (α:=Nat×List UInt8) (fun a=>match a.2 with
   |[]=>⟨[(5,.int .i64 ((1+2*a.1:Nat):Int)),(4,.nils),(3,.bool false),(2,.nils),(0,.str (120::r))],[]⟩
   |x::k=>⟨[(5,.int .i64 ((1+2*a.1:Nat):Int)),(4,.row 0),(3,.bool false),(2,.nils),(0,.str (120::r))],[.row 5 1 ((x::k).map af)]⟩) (fun a=>nA r a.1 a.2) (fun a=>r.length-a.1) (0,[]) (nA.zero r) (Sv.aK []) ?_
  rintro⟨q,out⟩ hJ
  replace hJ:nA r q out:=hJ
  have ho:=hJ.2.1
  have hq:=hJ.1
  cases out with
  |nil=>
   rcases Nat.lt_or_ge (2*q) r.length with hlt|dm
   ·obtain⟨a,ha⟩:∃a,r[2*q]?=some a:=⟨_,List.getElem?_eq_getElem hlt⟩
    obtain⟨b,hb⟩:∃b,r[2*q+1]?=some b:=⟨_,List.getElem?_eq_getElem (by omega)⟩
    have sa:(120::r)[1+2*q]?=some a:=by rw[Nat.add_comm];exact ha
    have sb:(120::r)[1+2*q+1]?=some b:=by rw[show 1+2*q+1=(2*q+1)+1 by omega];exact hb
    have Av:=a.toNat_lt
    have dJ:=b.toNat_lt
    by_cases g:aQ a.toNat<16/\aQ b.toNat<16
    ·have HA:aq prog 41 [.int .u8 (a.toNat:Int)] (.aj [.int .u8 (aQ a.toNat:Int),.bool true]):=by
      have:=sA a
      rw[if_pos g.1,decide_eq_true g.1] at this
      exact this
     have HB:aq prog 41 [.int .u8 (b.toNat:Int)] (.aj [.int .u8 (aQ b.toNat:Int),.bool true]):=by
      have:=sA b
      rw[if_pos g.2,decide_eq_true g.2] at this
      exact this
     have hN:=hJ.next ha hb g.1 g.2
     have hv:((UInt8.ofNat (16*aQ a.toNat+aQ b.toNat)).toNat:Int)=16*(aQ a.toNat:Int)+(aQ b.toNat:Int):=by rw[UInt8.toNat_ofNat'];omega
     have xD:IntKind.u8.wrap ((aQ a.toNat:Int)*16)=(aQ a.toNat:Int)*16:=uk (by omega) (by omega)
     have uZ:af (UInt8.ofNat (16*aQ a.toNat+aQ b.toNat))=[.int .u8 ((aQ a.toNat:Int)*16+(aQ b.toNat:Int))]:=by unfold af;rw[hv,Int.mul_comm]
     repeat' (conv=>arg 2;whnf);first|(exfalso;simp at h;omega)|refine dK a (Int.natCast_nonneg _) sa ?_|refine dK b (by(try dsimp only);omega) sb ?_|refine okF HA ?_|refine okF HB ?_|refine bZ (by(try dsimp only);omega) ?_|refine bw (uk (by(try dsimp only);omega) (by(try dsimp only);omega)) ?_|refine aT (by constructor<;>(simp only[List.length_cons,List.length_nil,maxLen] at ho ⊢;omega)) ?_|apply an<;>intro h|refine aZ (q+1,[UInt8.ofNat (16*aQ a.toNat+aQ b.toNat)]) (Sv.mk' [1] rfl ⟨⟨rfl,by show AO.row _ 1 ([]++[[D.int .u8 ((aQ a.toNat:Int)*16+(aQ b.toNat:Int))]])=AO.row _ 1 (List.map af [UInt8.ofNat (16*aQ a.toNat+aQ b.toNat)]);rw[List.map_cons,uZ];rfl⟩,trivial⟩ ⟨(by show D.int _ _=D.int _ _;exact congrArg (D.int _) (by(try dsimp only);omega)),rfl,rfl,rfl,rfl,trivial⟩) hN (by show r.length-(q+1)<r.length-q;omega)
    ·have hN:=hJ.bad ha hb g
     rw[vF (show dU (120::r)=none by simp only[dU,if_true];exact hN)]
     rcases(show ¬aQ a.toNat<16\/(aQ a.toNat<16/\¬aQ b.toNat<16) by omega) with g1|g1
     ·skip
      have HA:aq prog 41 [.int .u8 (a.toNat:Int)] (.aj [.int .u8 0,.bool false]):=by
       have:=sA a
       rw[if_neg g1,decide_eq_false g1] at this
       exact this
      have HB:=sA b
      repeat' (conv=>arg 2;whnf);first|(exfalso;simp at h;omega)|refine dK a (Int.natCast_nonneg _) sa ?_|refine dK b (by(try dsimp only);omega) sb ?_|refine okF HA ?_|refine okF HB ?_|refine bZ (by(try dsimp only);omega) ?_|refine eG ?_|exact cg|apply an<;>intro h
     ·skip
      have HA:aq prog 41 [.int .u8 (a.toNat:Int)] (.aj [.int .u8 (aQ a.toNat:Int),.bool true]):=by
       have:=sA a
       rw[if_pos g1.1,decide_eq_true g1.1] at this
       exact this
      have HB:aq prog 41 [.int .u8 (b.toNat:Int)] (.aj [.int .u8 0,.bool false]):=by
       have:=sA b
       rw[if_neg g1.2,decide_eq_false g1.2] at this
       exact this
      repeat' (conv=>arg 2;whnf);first|(exfalso;simp at h;omega)|refine dK a (Int.natCast_nonneg _) sa ?_|refine dK b (by(try dsimp only);omega) sb ?_|refine okF HA ?_|refine okF HB ?_|refine bZ (by(try dsimp only);omega) ?_|refine eG ?_|exact cg|apply an<;>intro h
   ·have hN:=hJ.fin dm
    rw[Fg (show dU (120::r)=some [] by simp only[dU,if_true];exact hN)]
    repeat' (conv=>arg 2;whnf);first|(exfalso;simp at h;omega)|refine bq ?_|exact j5 rfl (J5 _)|apply an<;>intro h
  |cons z out=>
   rcases Nat.lt_or_ge (2*q) r.length with hlt|dm
   ·obtain⟨a,ha⟩:∃a,r[2*q]?=some a:=⟨_,List.getElem?_eq_getElem hlt⟩
    obtain⟨b,hb⟩:∃b,r[2*q+1]?=some b:=⟨_,List.getElem?_eq_getElem (by omega)⟩
    have sa:(120::r)[1+2*q]?=some a:=by rw[Nat.add_comm];exact ha
    have sb:(120::r)[1+2*q+1]?=some b:=by rw[show 1+2*q+1=(2*q+1)+1 by omega];exact hb
    have Av:=a.toNat_lt
    have dJ:=b.toNat_lt
    by_cases g:aQ a.toNat<16/\aQ b.toNat<16
    ·have HA:aq prog 41 [.int .u8 (a.toNat:Int)] (.aj [.int .u8 (aQ a.toNat:Int),.bool true]):=by
      have:=sA a
      rw[if_pos g.1,decide_eq_true g.1] at this
      exact this
     have HB:aq prog 41 [.int .u8 (b.toNat:Int)] (.aj [.int .u8 (aQ b.toNat:Int),.bool true]):=by
      have:=sA b
      rw[if_pos g.2,decide_eq_true g.2] at this
      exact this
     have hN:=hJ.next ha hb g.1 g.2
     have hv:((UInt8.ofNat (16*aQ a.toNat+aQ b.toNat)).toNat:Int)=16*(aQ a.toNat:Int)+(aQ b.toNat:Int):=by rw[UInt8.toNat_ofNat'];omega
     have xD:IntKind.u8.wrap ((aQ a.toNat:Int)*16)=(aQ a.toNat:Int)*16:=uk (by omega) (by omega)
     have uZ:af (UInt8.ofNat (16*aQ a.toNat+aQ b.toNat))=[.int .u8 ((aQ a.toNat:Int)*16+(aQ b.toNat:Int))]:=by unfold af;rw[hv,Int.mul_comm]
     repeat' (conv=>arg 2;whnf);first|(exfalso;simp at h;omega)|refine dK a (Int.natCast_nonneg _) sa ?_|refine dK b (by(try dsimp only);omega) sb ?_|refine okF HA ?_|refine okF HB ?_|refine bZ (by(try dsimp only);omega) ?_|refine bw (uk (by(try dsimp only);omega) (by(try dsimp only);omega)) ?_|refine aT (by constructor<;>(simp only[List.length_cons,List.length_nil,List.length_map,maxLen] at ho ⊢;omega)) ?_|apply an<;>intro h|refine aZ (q+1,(z::out)++[UInt8.ofNat (16*aQ a.toNat+aQ b.toNat)]) (Sv.mk' [2] rfl ⟨⟨rfl,by show AO.row _ 1 ((z::out).map af++[[D.int .u8 ((aQ a.toNat:Int)*16+(aQ b.toNat:Int))]])=AO.row _ 1 (List.map af ((z::out)++[UInt8.ofNat (16*aQ a.toNat+aQ b.toNat)]));simp only[List.map_append,List.map_cons,List.map_nil,uZ]⟩,trivial⟩ ⟨(by show D.int _ _=D.int _ _;exact congrArg (D.int _) (by(try dsimp only);omega)),rfl,rfl,rfl,rfl,trivial⟩) hN (by show r.length-(q+1)<r.length-q;omega)
    ·have hN:=hJ.bad ha hb g
     rw[vF (show dU (120::r)=none by simp only[dU,if_true];exact hN)]
     rcases(show ¬aQ a.toNat<16\/(aQ a.toNat<16/\¬aQ b.toNat<16) by omega) with g1|g1
     ·skip
      have HA:aq prog 41 [.int .u8 (a.toNat:Int)] (.aj [.int .u8 0,.bool false]):=by
       have:=sA a
       rw[if_neg g1,decide_eq_false g1] at this
       exact this
      have HB:=sA b
      repeat' (conv=>arg 2;whnf);first|(exfalso;simp at h;omega)|refine dK a (Int.natCast_nonneg _) sa ?_|refine dK b (by(try dsimp only);omega) sb ?_|refine okF HA ?_|refine okF HB ?_|refine bZ (by(try dsimp only);omega) ?_|refine eG ?_|exact cg|apply an<;>intro h
     ·skip
      have HA:aq prog 41 [.int .u8 (a.toNat:Int)] (.aj [.int .u8 (aQ a.toNat:Int),.bool true]):=by
       have:=sA a
       rw[if_pos g1.1,decide_eq_true g1.1] at this
       exact this
      have HB:aq prog 41 [.int .u8 (b.toNat:Int)] (.aj [.int .u8 0,.bool false]):=by
       have:=sA b
       rw[if_neg g1.2,decide_eq_false g1.2] at this
       exact this
      repeat' (conv=>arg 2;whnf);first|(exfalso;simp at h;omega)|refine dK a (Int.natCast_nonneg _) sa ?_|refine dK b (by(try dsimp only);omega) sb ?_|refine okF HA ?_|refine okF HB ?_|refine bZ (by(try dsimp only);omega) ?_|refine eG ?_|exact cg|apply an<;>intro h
   ·have hN:=hJ.fin dm
    rw[Fg (show dU (120::r)=some (z::out) by simp only[dU,if_true];exact hN)]
    repeat' (conv=>arg 2;whnf);first|(exfalso;simp at h;omega)|refine bq ?_|exact mE [0] (.inr rfl) rfl (.refl _) rfl|apply an<;>intro h
def KX:List (Nat×tE):=[(7,⟨[(0,false),(1,false),(2,false),(4,false),(5,false),(6,false),(7,false),(3,true),(8,true),(9,false),(10,false)],[]⟩)]
theorem Ny [Wd] (s:List UInt8) (hl:s.length<=4194304) (he:s.length%2=0):aq prog 12 [.str s] (.aj [.nils,.bool false]):=by
 have hr:((s.length:Int).tmod 2)=0:=by rw[Int.tmod_eq_emod_of_nonneg (by omega)];omega
 refine kK false 46 KX func12 ?_
 repeat' (conv=>arg 2;whnf);first|refine aT (by decide) ?_|(exfalso;simp[hr] at h;done)|exact cg|apply an<;>intro h
theorem Nz [Wd] (s:List UInt8) (x:UInt8) (hl:s.length<=4194304) (he:s.length%2=1) (hx:s[0]?=some x) (Ln:x≠120):aq prog 12 [.str s] (.aj [.nils,.bool false]):=by
 have hr:((s.length:Int).tmod 2)=1:=by rw[Int.tmod_eq_emod_of_nonneg (by omega)];omega
 have Ek:¬(x.toNat=120):=fun e=>Ln (UInt8.toNat_inj.1 (by rw[e];rfl))
 refine kK false 46 KX func12 ?_
 repeat' (conv=>arg 2;whnf);first|refine aT (by decide) ?_|refine dK x (by omega) (by simpa using hx) ?_|(exfalso;simp[hr] at h;done)|(exfalso;simp[hr] at h;exact Ek (by omega))|exact cg|apply an<;>intro h
theorem Vg [Wd] (r:List UInt8) (hl:(120::r).length<=4194304) (he:r.length%2=0):aq prog 12 [.str (120::r)] (tF (120::r)):=by
 have hlen:(120::r).length=r.length+1:=rfl
 have hr:(((120::r:List UInt8).length:Int).tmod 2)=1:=by rw[Int.tmod_eq_emod_of_nonneg (by omega)];omega
 refine kK false 46 KX func12 ?_
 repeat' (conv=>arg 2;whnf);first|refine aT (by decide) ?_|refine dK 120 (by omega) rfl ?_|(exfalso;rw[hr] at h;revert h;decide)|apply an<;>intro h
 ·refine bE (α:=Nat×List UInt8) (fun a=>match a.2 with
   |[]=>⟨[(5,.int .i64 ((1+2*a.1:Nat):Int)),(4,.nils),(3,.bool false),(2,.nils),(0,.str (120::r))],[]⟩
   |x::k=>⟨[(5,.int .i64 ((1+2*a.1:Nat):Int)),(4,.row 0),(3,.bool false),(2,.nils),(0,.str (120::r))],[.row 5 1 ((x::k).map af)]⟩) (fun a=>nA r a.1 a.2) (fun a=>r.length-a.1) (0,[]) (nA.zero r) (Sv.aK []) ?_
  rintro⟨q,out⟩ hJ
  replace hJ:nA r q out:=hJ
  have ho:=hJ.2.1
  have hq:=hJ.1
  cases out with
  |nil=>
   rcases Nat.lt_or_ge (2*q) r.length with hlt|dm
   ·obtain⟨a,ha⟩:∃a,r[2*q]?=some a:=⟨_,List.getElem?_eq_getElem hlt⟩
    obtain⟨b,hb⟩:∃b,r[2*q+1]?=some b:=⟨_,List.getElem?_eq_getElem (by omega)⟩
    have sa:(120::r)[1+2*q]?=some a:=by rw[Nat.add_comm];exact ha
    have sb:(120::r)[1+2*q+1]?=some b:=by rw[show 1+2*q+1=(2*q+1)+1 by omega];exact hb
    have Av:=a.toNat_lt
    have dJ:=b.toNat_lt
    by_cases g:aQ a.toNat<16/\aQ b.toNat<16
    ·have HA:=kS a
     have HB:=kS b
     have hN:=hJ.next ha hb g.1 g.2
     have hv:((UInt8.ofNat (16*aQ a.toNat+aQ b.toNat)).toNat:Int)=16*(aQ a.toNat:Int)+(aQ b.toNat:Int):=by rw[UInt8.toNat_ofNat'];omega
     have xD:IntKind.u8.wrap ((aQ a.toNat:Int)*16)=(aQ a.toNat:Int)*16:=uk (by omega) (by omega)
     have uZ:af (UInt8.ofNat (16*aQ a.toNat+aQ b.toNat))=[.int .u8 (bits BinOp.or IntKind.u8 (IntKind.u8.wrap ((aQ a.toNat:Int)*2^min (Int.toNat 4) IntKind.u8.bits)) (aQ b.toNat:Int))]:=by unfold af;rw[hv,show(2:Int)^min (Int.toNat 4) IntKind.u8.bits=16 from by decide,xD,Ht _ _ g.1 g.2];rfl
     repeat' (conv=>arg 2;whnf);first|(exfalso;simp at h;omega)|refine dK a (Int.natCast_nonneg _) sa ?_|refine dK b (by(try dsimp only);omega) sb ?_|refine okF HA ?_|refine okF HB ?_|refine bZ (by(try dsimp only);omega) ?_|refine aT (by constructor<;>(simp only[List.length_cons,List.length_nil,maxLen] at ho ⊢;omega)) ?_|apply an<;>intro h|refine aZ (q+1,[UInt8.ofNat (16*aQ a.toNat+aQ b.toNat)]) (Sv.mk' [1] rfl ⟨⟨rfl,by show AO.row _ 1 ([]++[[D.int .u8 (bits BinOp.or IntKind.u8 (IntKind.u8.wrap ((aQ a.toNat:Int)*2^min (Int.toNat 4) IntKind.u8.bits)) (aQ b.toNat:Int))]])=AO.row _ 1 (List.map af [UInt8.ofNat (16*aQ a.toNat+aQ b.toNat)]);rw[List.map_cons,uZ];rfl⟩,trivial⟩ ⟨(by show D.int _ _=D.int _ _;exact congrArg (D.int _) (by(try dsimp only);omega)),rfl,rfl,rfl,rfl,trivial⟩) hN (by show r.length-(q+1)<r.length-q;omega)
    ·have hN:=hJ.bad ha hb g
     rw[vF (show dU (120::r)=none by simp only[dU,if_true];exact hN)]
     rcases(show ¬aQ a.toNat<16\/(aQ a.toNat<16/\¬aQ b.toNat<16) by omega) with g1|g1
     ·skip
      have HA:=kS a
      have HB:=kS b
      repeat' (conv=>arg 2;whnf);first|(exfalso;simp at h;omega)|refine dK a (Int.natCast_nonneg _) sa ?_|refine dK b (by(try dsimp only);omega) sb ?_|refine okF HA ?_|refine okF HB ?_|refine bZ (by(try dsimp only);omega) ?_|refine eG ?_|exact cg|apply an<;>intro h
     ·skip
      have HA:=kS a
      have HB:=kS b
      repeat' (conv=>arg 2;whnf);first|(exfalso;simp at h;omega)|refine dK a (Int.natCast_nonneg _) sa ?_|refine dK b (by(try dsimp only);omega) sb ?_|refine okF HA ?_|refine okF HB ?_|refine bZ (by(try dsimp only);omega) ?_|refine eG ?_|exact cg|apply an<;>intro h
   ·have hN:=hJ.fin dm
    rw[Fg (show dU (120::r)=some [] by simp only[dU,if_true];exact hN)]
    repeat' (conv=>arg 2;whnf);first|(exfalso;simp at h;omega)|refine bq ?_|exact j5 rfl (J5 _)|apply an<;>intro h
  |cons z out=>
   rcases Nat.lt_or_ge (2*q) r.length with hlt|dm
   ·obtain⟨a,ha⟩:∃a,r[2*q]?=some a:=⟨_,List.getElem?_eq_getElem hlt⟩
    obtain⟨b,hb⟩:∃b,r[2*q+1]?=some b:=⟨_,List.getElem?_eq_getElem (by omega)⟩
    have sa:(120::r)[1+2*q]?=some a:=by rw[Nat.add_comm];exact ha
    have sb:(120::r)[1+2*q+1]?=some b:=by rw[show 1+2*q+1=(2*q+1)+1 by omega];exact hb
    have Av:=a.toNat_lt
    have dJ:=b.toNat_lt
    by_cases g:aQ a.toNat<16/\aQ b.toNat<16
    ·have HA:=kS a
     have HB:=kS b
     have hN:=hJ.next ha hb g.1 g.2
     have hv:((UInt8.ofNat (16*aQ a.toNat+aQ b.toNat)).toNat:Int)=16*(aQ a.toNat:Int)+(aQ b.toNat:Int):=by rw[UInt8.toNat_ofNat'];omega
     have xD:IntKind.u8.wrap ((aQ a.toNat:Int)*16)=(aQ a.toNat:Int)*16:=uk (by omega) (by omega)
     have uZ:af (UInt8.ofNat (16*aQ a.toNat+aQ b.toNat))=[.int .u8 (bits BinOp.or IntKind.u8 (IntKind.u8.wrap ((aQ a.toNat:Int)*2^min (Int.toNat 4) IntKind.u8.bits)) (aQ b.toNat:Int))]:=by unfold af;rw[hv,show(2:Int)^min (Int.toNat 4) IntKind.u8.bits=16 from by decide,xD,Ht _ _ g.1 g.2];rfl
     repeat' (conv=>arg 2;whnf);first|(exfalso;simp at h;omega)|refine dK a (Int.natCast_nonneg _) sa ?_|refine dK b (by(try dsimp only);omega) sb ?_|refine okF HA ?_|refine okF HB ?_|refine bZ (by(try dsimp only);omega) ?_|refine aT (by constructor<;>(simp only[List.length_cons,List.length_nil,List.length_map,maxLen] at ho ⊢;omega)) ?_|apply an<;>intro h|refine aZ (q+1,(z::out)++[UInt8.ofNat (16*aQ a.toNat+aQ b.toNat)]) (Sv.mk' [2] rfl ⟨⟨rfl,by show AO.row _ 1 ((z::out).map af++[[D.int .u8 (bits BinOp.or IntKind.u8 (IntKind.u8.wrap ((aQ a.toNat:Int)*2^min (Int.toNat 4) IntKind.u8.bits)) (aQ b.toNat:Int))]])=AO.row _ 1 (List.map af ((z::out)++[UInt8.ofNat (16*aQ a.toNat+aQ b.toNat)]));simp only[List.map_append,List.map_cons,List.map_nil,uZ]⟩,trivial⟩ ⟨(by show D.int _ _=D.int _ _;exact congrArg (D.int _) (by(try dsimp only);omega)),rfl,rfl,rfl,rfl,trivial⟩) hN (by show r.length-(q+1)<r.length-q;omega)
    ·have hN:=hJ.bad ha hb g
     rw[vF (show dU (120::r)=none by simp only[dU,if_true];exact hN)]
     rcases(show ¬aQ a.toNat<16\/(aQ a.toNat<16/\¬aQ b.toNat<16) by omega) with g1|g1
     ·skip
      have HA:=kS a
      have HB:=kS b
      repeat' (conv=>arg 2;whnf);first|(exfalso;simp at h;omega)|refine dK a (Int.natCast_nonneg _) sa ?_|refine dK b (by(try dsimp only);omega) sb ?_|refine okF HA ?_|refine okF HB ?_|refine bZ (by(try dsimp only);omega) ?_|refine eG ?_|exact cg|apply an<;>intro h
     ·skip
      have HA:=kS a
      have HB:=kS b
      repeat' (conv=>arg 2;whnf);first|(exfalso;simp at h;omega)|refine dK a (Int.natCast_nonneg _) sa ?_|refine dK b (by(try dsimp only);omega) sb ?_|refine okF HA ?_|refine okF HB ?_|refine bZ (by(try dsimp only);omega) ?_|refine eG ?_|exact cg|apply an<;>intro h
   ·have hN:=hJ.fin dm
    rw[Fg (show dU (120::r)=some (z::out) by simp only[dU,if_true];exact hN)]
    repeat' (conv=>arg 2;whnf);first|(exfalso;simp at h;omega)|refine bq ?_|exact mE [0] (.inr rfl) rfl (.refl _) rfl|apply an<;>intro h
theorem VO [Wd] (s:List UInt8) (hl:s.length<=4194304):aq prog 13 [.str s] (tF s):=by
 by_cases he:s.length%2=0
 ·rw[vF (Jy he)]
  exact Vd s hl he
 ·match s,he with
  |x::r,he=>
   by_cases h:x=120
   ·subst h
    exact Vf r hl (by simp at he;omega)
   ·rw[vF (by simp only[dU];rw[if_neg h])]
    exact Ve _ x hl (by omega) rfl h
theorem VP [Wd] (s:List UInt8) (hl:s.length<=4194304):aq prog 12 [.str s] (tF s):=by
 by_cases he:s.length%2=0
 ·rw[vF (Jy he)]
  exact Ny s hl he
 ·match s,he with
  |x::r,he=>
   by_cases h:x=120
   ·subst h
    exact Vg r hl (by simp at he;omega)
   ·rw[vF (by simp only[dU];rw[if_neg h])]
    exact Nz _ x hl (by omega) rfl h
theorem QG (x:UInt8):(0:Int)<=(x.toNat:Int).fdiv (2^min (Int.toNat 4) IntKind.u8.bits)/\digits[((x.toNat:Int).fdiv (2^min (Int.toNat 4) IntKind.u8.bits)).toNat]?=some (kX (x.toNat/16)):=by
 have hx:=x.toNat_lt
 rw[show(2:Int)^min (Int.toNat 4) IntKind.u8.bits=16 from by decide,Int.fdiv_eq_ediv_of_nonneg _ (by decide)]
 have e:((x.toNat:Int)/16).toNat=x.toNat/16:=by omega
 rw[e]
 exact⟨by omega,Fc _ (by omega)⟩
theorem QH (x:UInt8):(0:Int)<=bits BinOp.and IntKind.u8 (x.toNat:Int) 15/\digits[(bits BinOp.and IntKind.u8 (x.toNat:Int) 15).toNat]?=some (kX (x.toNat%16)):=by
 have hx:=x.toNat_lt
 rw[aee _ hx]
 exact⟨by omega,Fc _ (by omega)⟩
theorem DB [Wd] (b:List UInt8) (hl:b.length<=50000000):aq prog 14 [.list 1 (b.map af)] (.str (gw b)):=by
 refine kK false 25 [(5,⟨[(0,false),(1,false),(2,false),(3,false),(4,false),(5,false),(6,false),(7,true),(8,true),(9,false)],[0]⟩)] func14 ?_
 repeat' (conv=>arg 2;whnf);first|refine aY ?_
 refine bE (α:=Nat×List (List D)) (fun a=>⟨[(9,.int .i64 a.1),(8,.int .i64 (b.map af).length),(7,.list 1 (b.map af)),(3,.row 0),(2,.str []),(0,.list 1 (b.map af))],[.row 5 1 a.2]⟩) (fun a=>a.1<=b.length/\a.2=(qR (b.take a.1)).map af) (fun a=>b.length-a.1) (0,[[.int .u8 120]]) ⟨Nat.zero_le _,rfl⟩ (Sv.aK [0]) ?_
 rintro⟨q,xs⟩ ⟨hq,he⟩
 replace hq:q<=b.length:=hq
 replace he:xs=(qR (b.take q)).map af:=he
 have nC:xs.length<=100000001:=by
  have:=yB (b.take q)
  have:(b.take q).length<=q:=by rw[List.length_take];omega
  rw[he,List.length_map]
  omega
 repeat' (conv=>arg 2;whnf);first|refine aT (by decide) ?_|refine aT ⟨(by simp[maxLen];omega),(by simp;omega)⟩ ?_|apply an<;>intro h|refine cK (l:=b) (by simp at h;omega) (fun x hx=>?_)|refine dK _ (QG x).1 (QG x).2 ?_|refine dK _ (QH x).1 (QH x).2 ?_|refine bZ (by simp at h hq;omega) ?_|refine aZ (q+1,xs++[[.int .u8 ((kX (x.toNat/16)).toNat:Int)],[.int .u8 ((kX (x.toNat%16)).toNat:Int)]]) (Sv.aK [2]) ⟨by have:=(List.getElem?_eq_some_iff.1 hx).1;show q+1<=b.length;omega,by show xs++_=_;rw[Qu hx,he]⟩ (by have:=(List.getElem?_eq_some_iff.1 hx).1;show b.length-(q+1)<b.length-q;omega)|refine bq ?_|refine j8 (gw b) (by rw[he,show b.take q=b from List.take_of_length_le (by simp at h;omega)];rfl) ?_|refine aT (Su hl) ?_|refine cg
def yV (s:List UInt8):D->List AO->Prop:=fun r h=>match dU s with
 |none=>r=.aj [.nils,.bool false]/\h=[]
 |some []=>r=.aj [.nils,.bool true]/\h=[]
 |some (x::k)=>r=.aj [.row 0,.bool true]/\h=[.row 5 1 ((x::k).map af)]
theorem CY {s:List UInt8} (h:dU s=none):yV s=fun r h=>r=.aj [.nils,.bool false]/\h=[]:=by unfold yV;rw[h]
theorem PA {s:List UInt8} (h:dU s=some []):yV s=fun r h=>r=.aj [.nils,.bool true]/\h=[]:=by unfold yV;rw[h]
theorem OG {s:List UInt8} {x:UInt8} {k:List UInt8} (h:dU s=some (x::k)):yV s=fun r h=>r=.aj [.row 0,.bool true]/\h=[.row 5 1 ((x::k).map af)]:=by unfold yV;rw[h]
theorem UR [Wd] (r:List UInt8) (hl:(120::r).length<=4194304) (he:r.length%2=0):bC prog 12 [.str (120::r)] [] (yV (120::r)):=by
 have hlen:(120::r).length=r.length+1:=rfl
 have hr:(((120::r:List UInt8).length:Int).tmod 2)=1:=by rw[Int.tmod_eq_emod_of_nonneg (by omega)];omega
 refine kK false 46 [(7,⟨[(0,false),(1,false),(2,false),(4,false),(5,false),(6,false),(7,false),(3,true),(8,true),(9,false),(10,false)],[]⟩)] func12 ?_
 repeat' (conv=>arg 2;whnf);first|refine aT (by decide) ?_|refine dK 120 (by omega) rfl ?_|(exfalso;rw[hr] at h;revert h;decide)|apply an<;>intro h
 ·refine bE (α:=Nat×List UInt8) (fun a=>match a.2 with
   |[]=>⟨[(5,.int .i64 ((1+2*a.1:Nat):Int)),(4,.nils),(3,.bool false),(2,.nils),(0,.str (120::r))],[]⟩
   |x::k=>⟨[(5,.int .i64 ((1+2*a.1:Nat):Int)),(4,.row 0),(3,.bool false),(2,.nils),(0,.str (120::r))],[.row 5 1 ((x::k).map af)]⟩) (fun a=>nA r a.1 a.2) (fun a=>r.length-a.1) (0,[]) (nA.zero r) (Sv.aK []) ?_
  rintro⟨q,out⟩ hJ
  replace hJ:nA r q out:=hJ
  have ho:=hJ.2.1
  have hq:=hJ.1
  cases out with
  |nil=>
   rcases Nat.lt_or_ge (2*q) r.length with hlt|dm
   ·obtain⟨a,ha⟩:∃a,r[2*q]?=some a:=⟨_,List.getElem?_eq_getElem hlt⟩
    obtain⟨b,hb⟩:∃b,r[2*q+1]?=some b:=⟨_,List.getElem?_eq_getElem (by omega)⟩
    have sa:(120::r)[1+2*q]?=some a:=by rw[Nat.add_comm];exact ha
    have sb:(120::r)[1+2*q+1]?=some b:=by rw[show 1+2*q+1=(2*q+1)+1 by omega];exact hb
    have Av:=a.toNat_lt
    have dJ:=b.toNat_lt
    by_cases g:aQ a.toNat<16/\aQ b.toNat<16
    ·have HA:=kS a
     have HB:=kS b
     have hN:=hJ.next ha hb g.1 g.2
     have hv:((UInt8.ofNat (16*aQ a.toNat+aQ b.toNat)).toNat:Int)=16*(aQ a.toNat:Int)+(aQ b.toNat:Int):=by rw[UInt8.toNat_ofNat'];omega
     have xD:IntKind.u8.wrap ((aQ a.toNat:Int)*16)=(aQ a.toNat:Int)*16:=uk (by omega) (by omega)
     have uZ:af (UInt8.ofNat (16*aQ a.toNat+aQ b.toNat))=[.int .u8 (bits BinOp.or IntKind.u8 (IntKind.u8.wrap ((aQ a.toNat:Int)*2^min (Int.toNat 4) IntKind.u8.bits)) (aQ b.toNat:Int))]:=by unfold af;rw[hv,show(2:Int)^min (Int.toNat 4) IntKind.u8.bits=16 from by decide,xD,Ht _ _ g.1 g.2];rfl
     repeat' (conv=>arg 2;whnf);first|(exfalso;simp at h;omega)|refine dK a (Int.natCast_nonneg _) sa ?_|refine dK b (by(try dsimp only);omega) sb ?_|refine okF HA ?_|refine okF HB ?_|refine bZ (by(try dsimp only);omega) ?_|refine aT (by constructor<;>(simp only[List.length_cons,List.length_nil,maxLen] at ho ⊢;omega)) ?_|apply an<;>intro h|refine aZ (q+1,[UInt8.ofNat (16*aQ a.toNat+aQ b.toNat)]) (Sv.mk' [1] rfl ⟨⟨rfl,by show AO.row _ 1 ([]++[[D.int .u8 (bits BinOp.or IntKind.u8 (IntKind.u8.wrap ((aQ a.toNat:Int)*2^min (Int.toNat 4) IntKind.u8.bits)) (aQ b.toNat:Int))]])=AO.row _ 1 (List.map af [UInt8.ofNat (16*aQ a.toNat+aQ b.toNat)]);rw[List.map_cons,uZ];rfl⟩,trivial⟩ ⟨(by show D.int _ _=D.int _ _;exact congrArg (D.int _) (by(try dsimp only);omega)),rfl,rfl,rfl,rfl,trivial⟩) hN (by show r.length-(q+1)<r.length-q;omega)
    ·have hN:=hJ.bad ha hb g
     rw[CY (show dU (120::r)=none by simp only[dU,if_true];exact hN)]
     rcases(show ¬aQ a.toNat<16\/(aQ a.toNat<16/\¬aQ b.toNat<16) by omega) with g1|g1
     ·skip
      have HA:=kS a
      have HB:=kS b
      repeat' (conv=>arg 2;whnf);first|(exfalso;simp at h;omega)|refine dK a (Int.natCast_nonneg _) sa ?_|refine dK b (by(try dsimp only);omega) sb ?_|refine okF HA ?_|refine okF HB ?_|refine bZ (by(try dsimp only);omega) ?_|refine eG ?_|exact cg|apply an<;>intro h
     ·skip
      have HA:=kS a
      have HB:=kS b
      repeat' (conv=>arg 2;whnf);first|(exfalso;simp at h;omega)|refine dK a (Int.natCast_nonneg _) sa ?_|refine dK b (by(try dsimp only);omega) sb ?_|refine okF HA ?_|refine okF HB ?_|refine bZ (by(try dsimp only);omega) ?_|refine eG ?_|exact cg|apply an<;>intro h
   ·have hN:=hJ.fin dm
    rw[PA (show dU (120::r)=some [] by simp only[dU,if_true];exact hN)]
    repeat' (conv=>arg 2;whnf);first|(exfalso;simp at h;omega)|refine bq ?_|exact cg|apply an<;>intro h
  |cons z out=>
   rcases Nat.lt_or_ge (2*q) r.length with hlt|dm
   ·obtain⟨a,ha⟩:∃a,r[2*q]?=some a:=⟨_,List.getElem?_eq_getElem hlt⟩
    obtain⟨b,hb⟩:∃b,r[2*q+1]?=some b:=⟨_,List.getElem?_eq_getElem (by omega)⟩
    have sa:(120::r)[1+2*q]?=some a:=by rw[Nat.add_comm];exact ha
    have sb:(120::r)[1+2*q+1]?=some b:=by rw[show 1+2*q+1=(2*q+1)+1 by omega];exact hb
    have Av:=a.toNat_lt
    have dJ:=b.toNat_lt
    by_cases g:aQ a.toNat<16/\aQ b.toNat<16
    ·have HA:=kS a
     have HB:=kS b
     have hN:=hJ.next ha hb g.1 g.2
     have hv:((UInt8.ofNat (16*aQ a.toNat+aQ b.toNat)).toNat:Int)=16*(aQ a.toNat:Int)+(aQ b.toNat:Int):=by rw[UInt8.toNat_ofNat'];omega
     have xD:IntKind.u8.wrap ((aQ a.toNat:Int)*16)=(aQ a.toNat:Int)*16:=uk (by omega) (by omega)
     have uZ:af (UInt8.ofNat (16*aQ a.toNat+aQ b.toNat))=[.int .u8 (bits BinOp.or IntKind.u8 (IntKind.u8.wrap ((aQ a.toNat:Int)*2^min (Int.toNat 4) IntKind.u8.bits)) (aQ b.toNat:Int))]:=by unfold af;rw[hv,show(2:Int)^min (Int.toNat 4) IntKind.u8.bits=16 from by decide,xD,Ht _ _ g.1 g.2];rfl
     repeat' (conv=>arg 2;whnf);first|(exfalso;simp at h;omega)|refine dK a (Int.natCast_nonneg _) sa ?_|refine dK b (by(try dsimp only);omega) sb ?_|refine okF HA ?_|refine okF HB ?_|refine bZ (by(try dsimp only);omega) ?_|refine aT (by constructor<;>(simp only[List.length_cons,List.length_nil,List.length_map,maxLen] at ho ⊢;omega)) ?_|apply an<;>intro h|refine aZ (q+1,(z::out)++[UInt8.ofNat (16*aQ a.toNat+aQ b.toNat)]) (Sv.mk' [2] rfl ⟨⟨rfl,by show AO.row _ 1 ((z::out).map af++[[D.int .u8 (bits BinOp.or IntKind.u8 (IntKind.u8.wrap ((aQ a.toNat:Int)*2^min (Int.toNat 4) IntKind.u8.bits)) (aQ b.toNat:Int))]])=AO.row _ 1 (List.map af ((z::out)++[UInt8.ofNat (16*aQ a.toNat+aQ b.toNat)]));simp only[List.map_append,List.map_cons,List.map_nil,uZ]⟩,trivial⟩ ⟨(by show D.int _ _=D.int _ _;exact congrArg (D.int _) (by(try dsimp only);omega)),rfl,rfl,rfl,rfl,trivial⟩) hN (by show r.length-(q+1)<r.length-q;omega)
    ·have hN:=hJ.bad ha hb g
     rw[CY (show dU (120::r)=none by simp only[dU,if_true];exact hN)]
     rcases(show ¬aQ a.toNat<16\/(aQ a.toNat<16/\¬aQ b.toNat<16) by omega) with g1|g1
     ·skip
      have HA:=kS a
      have HB:=kS b
      repeat' (conv=>arg 2;whnf);first|(exfalso;simp at h;omega)|refine dK a (Int.natCast_nonneg _) sa ?_|refine dK b (by(try dsimp only);omega) sb ?_|refine okF HA ?_|refine okF HB ?_|refine bZ (by(try dsimp only);omega) ?_|refine eG ?_|exact cg|apply an<;>intro h
     ·skip
      have HA:=kS a
      have HB:=kS b
      repeat' (conv=>arg 2;whnf);first|(exfalso;simp at h;omega)|refine dK a (Int.natCast_nonneg _) sa ?_|refine dK b (by(try dsimp only);omega) sb ?_|refine okF HA ?_|refine okF HB ?_|refine bZ (by(try dsimp only);omega) ?_|refine eG ?_|exact cg|apply an<;>intro h
   ·have hN:=hJ.fin dm
    rw[OG (show dU (120::r)=some (z::out) by simp only[dU,if_true];exact hN)]
    repeat' (conv=>arg 2;whnf);first|(exfalso;simp at h;omega)|refine bq ?_|exact mL (r:=.aj [.row 0,.bool true]) (h':=[.row 5 1 ((z::out).map af)]) [0] (.inr rfl) rfl rfl ⟨⟨rfl,rfl⟩,trivial⟩ trivial (.refl _)|apply an<;>intro h
theorem Vj [Wd] (s:List UInt8) (hl:s.length<=4194304):bC prog 12 [.str s] [] (yV s):=by
 by_cases he:s.length%2=0
 ·rw[CY (Jy he)]
  exact Ny s hl he
 ·match s,he with
  |x::r,he=>
   by_cases h:x=120
   ·subst h
    exact UR r hl (by simp at he;omega)
   ·rw[CY (by simp only[dU];rw[if_neg h])]
    exact Nz _ x hl (by omega) rfl h
abbrev Am [Wd] {α:Type} (f:FuncId) (p:lW α) (R:α->D):Prop:=∀ws,kO ws->(p ws=none->Wd.kY rq)->bC prog f [.ptr 0 0] (fj ws) (fun r h=>∃x rest,p ws=some (x,rest)/\r=R x/\h=fj rest)
theorem lB [Wd] (b:Bool) (hp:b=false->Wd.kY rq):bC prog 35 [.bool b] [] (fun r h=>(b=true/\r=.aj [])/\h=[]):=by
 cases b
 ·exact DA (hp rfl) false
 ·refine⟨Gl.1,fun w I g vs hW hd ha=>(Gl.2 w I g vs hW hd ha).mono ?_⟩
  rintro e w' (⟨v,I',g',r,h',e1,⟨e2,e3⟩,k⟩|k)
  ·exact .inl ⟨v,I',g',r,h',e1,⟨⟨rfl,e2⟩,e3⟩,k⟩
  ·exact .inr k
theorem KB [Wd]:Am 36 (tH some) D.str:=by
 intro ws hw hp
 cases ws with
 |nil=>
  refine ak 26 [] func36 ?_
  repeat' (conv=>arg 2;whnf);first|(refine eI (DA (hp rfl) _) rfl (aa.refl _) ?_;rintro r ⟨hr,rfl⟩)|(exfalso;simp[cW] at hr;done)
 |cons s rest=>
  have h:=Rx s rest (by have:=hw.1;simp at this;omega)
  refine⟨h.1,fun w I g vs hW hd ha=>(h.2 w I g vs hW hd ha).mono ?_⟩
  rintro e w' (⟨v,I',g',r,h',e1,⟨e2,e3⟩,k⟩|k)
  ·exact .inl ⟨v,I',g',r,h',e1,⟨s,rest,rfl,e2,e3⟩,k⟩
  ·exact .inr k
theorem kO.one {α:Type} {p:List UInt8->Option α} {ws r:List (List UInt8)} {x:α} (h:kO ws) (e:tH p ws=some (x,r)):kO r:=by
 cases ws with
 |nil=>cases e
 |cons s r'=>
  simp only[tH,Option.map_eq_some_iff] at e
  obtain⟨y,_,e⟩:=e
  injection e with _ e2
  subst e2
  exact h.tail
def GW:List (Nat×tE):=[(19,⟨[(0,false),(1,false),(2,false),(6,false),(7,false),(3,true),(4,false),(5,false),(8,true),(9,false),(10,false),(11,false)],[]⟩)]
theorem wZ (a:bK):gh.ok a=(dI.ok a.kind/\dI.ok a.bA/\dI.ok a.num/\fD.ok a.op/\dY.ok a.bytes/\bh.ok a.msg/\dB.ok a.jN):=rfl
theorem BJ:fD.ok za:=by
 simp[fD,dM,dP,dI,dS,dY,dL,za]
theorem BV:dY.ok []:=by simp[dY]
theorem Lh {n:Int} (h:-9223372036854775808<=n/\n<=9223372036854775807):dI.ok n:=h
theorem Qw {a:bK} (ha:gh.ok a):gh.ok (nv a):=by
 rw[wZ] at ha
 obtain⟨b1,b2,b3,b4,b5,b6,b7⟩:=ha
 have z:∀k:Int,dI.ok k->gh.ok {aR with kind:=k}:=fun k hk=>by rw[wZ];exact⟨hk,Lh (n:=0) (by omega),Lh (n:=0) (by omega),BJ,BV,vS,trivial⟩
 have iz:dI.ok 0:=Lh (by omega)
 unfold nv
 repeat' split
 ·rw[wZ];exact⟨b1,iz,b3,BJ,BV,vS,trivial⟩
 ·rw[wZ];exact⟨b1,b2,iz,BJ,BV,vS,trivial⟩
 ·rw[wZ];exact⟨b1,b2,iz,b4,BV,vS,trivial⟩
 ·rw[wZ];exact⟨b1,b2,b3,BJ,BV,vS,trivial⟩
 ·rw[wZ];exact⟨b1,iz,iz,BJ,b5,vS,trivial⟩
 ·rw[wZ];exact⟨b1,b2,iz,BJ,BV,b6,trivial⟩
 ·exact z _ b1
 ·exact z 0 iz
theorem Jv {m:aD} (hm:bh.ok m):(cI m).key<=9223372036854775807/\(cI m).ah<=9223372036854775807:=by
 have hs:∀s:bJ,iO.ok s->s.key<=9223372036854775807/\s.ah<=9223372036854775807:=fun s h=>⟨h.1.2,h.2.2⟩
 rw[ym] at hm
 obtain⟨h1,h2,h3,h4,h5,h6,h7,h8,h9,kN,iG,rR,rS,tT,tU,nW,tV⟩:=hm
 unfold cI
 split
 ·split
  ·rename_i c hc
   have h:=iG.2 c (by rw[hc];simp)
   rw[Ba] at h
   exact hs _ h.2.2.2.2
  ·exact hs _ tV
 ·exact hs _ tV
theorem yC (b:List UInt8):(gw b).length<=1+2*b.length:=yB b
theorem Zv [Wd] (a:bK) (hk:¬(1<=a.kind/\a.kind<=12)):aq prog 18 [.agg (cr a)] (.aj [.str [],.int .i64 1]):=by
 refine ak 137 GW func18 ?_
 repeat' (conv=>arg 2;whnf);first|refine an (fun h=>by exfalso;simp at h;omega) (fun h=>?_)|refine okF (Zu a hk) ?_|refine cg
open Classical in
noncomputable def xq (a:bK):D:=if kH a then .aj [.str (j0 a),.int .i64 0] else .aj [.str [],.int .i64 1]
theorem zP {a:bK} (h:kH a):xq a=.aj [.str (j0 a),.int .i64 0]:=by unfold xq;rw[if_pos h]
theorem w6 {a:bK} (h:¬kH a):xq a=.aj [.str [],.int .i64 1]:=by unfold xq;rw[if_neg h]
theorem abp [Wd] {m:aD} (hm:bh.ok m) (hw:qt m):aq prog 45 [.agg (aC m)] (.aj [.str (gw (aO m)++[32]++nu (cI m)),.bool true])/\(gw (aO m)).length<=2200000/\(nu (cI m)).length<=41:=by
 have ho:=Jv hm
 have hi:=(Bk m).1 hw
 have l1:=so (nG (oA (wY.1 hi.1).1))
 rw[wM] at l1
 have q1:=yC (aO m)
 have e1:=kV (cI m).key.toNat (by omega)
 have e2:=kV (cI m).ah.toNat (by omega)
 have q2:=yC (enc (cI m).key.toNat++enc (cI m).ah.toNat)
 rw[List.length_append] at q2
 have q3:(nu (cI m)).length<=41:=by unfold nu;omega
 exact⟨VJ m hm hw ho,by omega,q3⟩
theorem Qx [Wd] (iT:Ag) (a:bK) (ha:gh.ok a):aq prog 18 [.agg (cr a)] (xq a):=by
 by_cases hk:1<=a.kind/\a.kind<=12
 case neg=>
  rw[w6 (fun h=>hk h.1.1)]
  exact Zv a hk
 have hw:=Qv a hk
 have hO:=ha
 have hx:=Qw ha
 rw[wZ] at ha
 obtain⟨_,b2,b3,b4,b5,b6,_⟩:=ha
 replace b2:-9223372036854775808<=a.bA/\a.bA<=9223372036854775807:=b2
 replace b3:-9223372036854775808<=a.num/\a.num<=9223372036854775807:=b3
 replace b5:a.bytes.length<=4194304:=b5
 have cw:=Wj a.op b4
 by_cases yZ:a.kind=6/\¬bS a.op=0
 ·rw[w6 (fun h=>yZ.2 (h.1.2.1 yZ.1))]
  rw[if_neg yZ.2] at cw
  obtain⟨k,w,n,o,b,m,s⟩:=a
  obtain⟨rfl,h0⟩:k=6/\¬bS o=0:=yZ
  refine ak 137 GW func18 ?_
  repeat' (conv=>arg 2;whnf);first|refine okF hw ?_|refine okF cw ?_|refine okF (iT w b2) ?_|apply an<;>intro h|refine cg|(exfalso;simp[h0] at*;done)
 by_cases DZ:a.kind=11/\¬qt a.msg
 ·rw[w6 (fun h=>DZ.2 (h.1.2.2 DZ.1))]
  obtain⟨k,w,n,o,b,m,s⟩:=a
  obtain⟨rfl,h0⟩:k=11/\¬qt m:=DZ
  have Cq:aq prog 45 [.agg (aC m)] (.aj [.str [],.bool false]):=by
   by_cases hB:ig (eu m)=0
   ·exact VI m b6 hB h0
   ·exact VH m b6 hB
  refine ak 137 GW func18 ?_
  repeat' (conv=>arg 2;whnf);first|refine okF hw ?_|refine okF Cq ?_|refine cg
 have h6:a.kind=6->bS a.op=0:=fun e=>Classical.byContradiction fun q=>yZ ⟨e,q⟩
 have iG:a.kind=11->qt a.msg:=fun e=>Classical.byContradiction fun q=>DZ ⟨e,q⟩
 have hy:cx a (nv a)=true->xq a=.aj [.str (j0 a),.int .i64 0]:=fun h=>zP ⟨⟨hk,h6,iG⟩,kU.1 h⟩
 have hn:cx a (nv a)=false->xq a=.aj [.str [],.int .i64 1]:=fun h=>w6 (fun hl=>by rw[zz hl.2] at h;cases h)
 generalize xq a=r at*
 have i1:=Lib.itoa_length_le a.bA b2.1 b2.2
 have i2:=Lib.itoa_length_le a.num b3.1 b3.2
 have hm:=fun e=>abp b6 (iG e)
 have g1:a.kind=11->(gw (aO a.msg)).length<=2200000/\(nu (cI a.msg)).length<=41:=fun e=>(hm e).2
 have q5:=yC a.bytes
 have hb:a.kind=6->aq prog 44 [.agg (cC a.op)] (.aj [.list 1 ((iy a.op).map af),.int .i64 0]):=fun e=>by rw[if_pos (h6 e)] at cw;exact cw
 have g6:a.kind=6->(iy a.op).length<=1000:=fun e=>zo (h6 e)
 have q6:=yC (iy a.op)
 have hh:a.kind=6->aq prog 15 [.list 1 ((iy a.op).map af)] (.str (gw (iy a.op))):=fun e=>Gg (iy a.op) (by have:=g6 e;omega)
 clear cw yZ DZ
 obtain⟨k,w,n,o,b,m,s⟩:=a
 dsimp only at*
 have hc:k=1\/k=2\/k=3\/k=4\/k=5\/k=6\/k=7\/k=8\/k=9\/k=10\/k=11\/k=12:=by omega
 clear hk h6 iG
 rcases hc with rfl|rfl|rfl|rfl|rfl|rfl|rfl|rfl|rfl|rfl|rfl|rfl<;>cases s
 all_goals
  refine ak 137 GW func18 ?_
  repeat' (conv=>arg 2;whnf);first|refine an (b:=!cx _ (nv _)) (fun hE=>?_) (fun hE=>?_)|refine okF hw ?_|refine okF (iT n b3) ?_|refine okF (iT w b2) ?_|refine okF (hb rfl) ?_|refine okF (hh rfl) ?_|refine okF (Gg b (by omega)) ?_|refine okF (hm rfl).1 ?_|refine iU (Kq _ _ hO hx) (.cons (.refl _) (.cons .z .nil)) ?_|refine aT (by simp[pZ,pF,pQ,pG,pR,pM,mR,pS,nL,pN,nP,mP,nQ];omega) ?_|(obtain rfl:=hy (by simpa using hE);refine Sw (.inr rfl) rfl ?_ rfl;simp[j0,jf,pX,kW,ny];done)|(obtain rfl:=hn (by simpa using hE);refine cg)
theorem yg [Wd]:gz 227 (.agg [.ptr 0 0]) [] (fun s=>.int .i64 (nR 12 s).1) (fun s=>(nR 12 s).2):=by
 intro s hs
 have h1:=yp 12 s
 refine ak 7 [] func227 ?_
 repeat' (conv=>arg 2;whnf);first|refine gJ ?_|refine cE 0 s (cy 12 s).2 (.int .u64 ((cy 12 s).1:Int)) (gF 12) hs rfl rfl ?_|refine mQ (d:=.int .i64 ((cy 12 s).1:Int)) (.inr rfl) rfl ⟨⟨rfl,rfl⟩,trivial⟩ rfl (.refl _) rfl rfl
theorem Ol [Wd]:gz 229 (.agg [.ptr 0 0]) [] (fun s=>.int .i64 (nR 7 s).1) (fun s=>(nR 7 s).2):=by
 intro s hs
 have h1:=yp 7 s
 refine ak 7 [] func229 ?_
 repeat' (conv=>arg 2;whnf);first|refine gJ ?_|refine cE 0 s (cy 7 s).2 (.int .u64 ((cy 7 s).1:Int)) (gF 7) hs rfl rfl ?_|refine mQ (d:=.int .i64 ((cy 7 s).1:Int)) (.inr rfl) rfl ⟨⟨rfl,rfl⟩,trivial⟩ rfl (.refl _) rfl rfl
theorem Cd.CN {α:Type} {p:RS->α×RS} {ok:α->Prop} {b:α->List UInt8} (h:Cd p ok b) {s:RS} {x:α} {b1:List UInt8} {e1:Int} (q:p s=(x,(b1,e1))) (he:e1=0):ok x:=by
 have e2:=h.toRd1.ok (s:=s) (by rw[q];exact he)
 rw[e2] at q
 have h1:=(h.back s.1 (by rw[q];exact he)).1
 rw[q] at h1
 exact h1
theorem vH [Wd]:gz 172 (.ptr 0 0) [.int .i64 64] (fun s=>.list 1 ((fB 64 s).1.map af)) (fun s=>(fB 64 s).2):=Fe 64 (by decide)
theorem qN {most:Nat} {s:RS} {n:Int} {r:RS} (h:nR most s=(n,r)):0<=n/\n<=most:=by
 have h1:=yp most s
 have h2:((cy most s).1:Int)=n:=congrArg Prod.fst h
 omega
theorem zM {most:Nat} {s:RS} {x:List UInt8} {r:RS} (h:fB most s=(x,r)):x.length<=most:=by
 obtain⟨y,b,e,hy,_,h2⟩:=VL most s
 rw[h] at hy
 cases hy
 exact h2
theorem xx [Wd] {P:Program} {Q:Exit->S->Prop} {e:Int} {t f:T} (h1:e=0->t.ok P Q) (h2:¬e=0->f.ok P Q):(bT (e==0) t f).ok P Q:=an (fun h=>h1 (by simpa using h)) (fun h=>h2 (by simpa using h))
theorem rJ [Wd] {P:Program} {Q:Exit->S->Prop} {e:Int} {t f:T} (h1:¬e=0->t.ok P Q) (h2:e=0->f.ok P Q):(bT (e !=0) t f).ok P Q:=an (fun h=>h1 (by simpa using h)) (fun h=>h2 (by simpa using h))
theorem aaA (k:Int) {b:List UInt8}:fF k (b,0)=(b,k):=rfl
theorem wU (k:Int) {b:List UInt8} {e:Int} (h:¬e=0):fF k (b,e)=(b,e):=if_neg h
theorem aaB [Wd] (b:List UInt8) (e:Int) (hs:b.length<=8388609) {b0:List UInt8} {e0:Int} (q:nR 4 (b,e)=(0,(b0,e0))) (h0:b0.length<=8388609):bC prog 119 [.ptr 0 0] (dn (b,e)) (fun r h=>r=.agg (cC (eF (b,e)).1)/\h=dn (eF (b,e)).2):=by
 have eB:lP 0 (b0,e0)=(⟨0,[],[],0,[]⟩,(b0,e0)):=by unfold lP;simp[qM]
 obtain⟨o,ho⟩:∃o:bt,o=⟨0,[],[],0,[]⟩:=⟨_,rfl⟩
 obtain⟨ef,jV⟩:∃ef:Int,fF (bS o) (b0,e0)=(b0,ef):=⟨(fF (bS o) (b0,e0)).2,Prod.ext (wS _ _) rfl⟩
 have eR:eF (b,e)=if ef=0 then(o,(b0,ef)) else(za,(b0,ef)):=by
  unfold eF jR fZ bN cN
  simp only[q,eB,<-ho,jV]
 have fN:e0=0->fD.ok o:=fun he=>by
  rw[ho]
  exact BQ ((Bh 0 (by decide)).CN eB he) (by decide)
 have fu:¬e0=0->ef=e0:=fun he=>by
  have:=jV
  rw[wU _ he] at this
  exact(congrArg (fun r:RS=>r.2) this).symm
 have gY:ef=0->eF (b,e)=(o,(b0,ef)):=fun h=>by rw[eR,if_pos h]
 have gN:¬ef=0->eF (b,e)=(za,(b0,ef)):=fun h=>by rw[eR,if_neg h]
 have gE:¬e0=0->eF (b,e)=(za,(b0,e0)):=fun h=>by rw[eR,fu h,if_neg h]
 refine ak 59 [] func119 ?_
 repeat' (conv=>arg 2;whnf);first|refine xx (fun h=>?_) (fun hz=>?_)|refine rJ (fun h=>?_) (fun h=>?_)|refine aX 0 (fun x=>D.int .u64 x) q (gF 4) hs ?_|refine bZ (by decide) ?_|refine cE 0 (b0,e0) (b0,e0) (.int .i64 e0) fY h0 rfl rfl ?_|refine iQ (sC o (fN h)) rfl (aa.cons (by rw[ho];exact aa.eU (aa.cons (.refl _) (aa.cons (.refl _) (aa.cons (.refl _) (aa.cons (.refl _) (aa.cons (.nil _) .nil)))))) .nil) ?_|refine cE 0 (b0,e0) (b0,ef) (.aj []) (mJ (bS o)) h0 jV.symm rfl ?_|refine cE 0 (b0,ef) (b0,ef) (.int .i64 ef) fY h0 rfl rfl ?_|refine cU (k:=fun x=>D.agg (cC x)) rfl (gY h) (by rw[ho];exact aa.eU (aa.cons (.refl _) (aa.cons (.refl _) (aa.cons (.refl _) (aa.cons (.refl _) (aa.cons (.nil _) .nil))))))|refine cU (k:=fun x=>D.agg (cC x)) rfl (gN h) .z|refine cU (k:=fun x=>D.agg (cC x)) rfl (gE h) .z|exact absurd h hz
theorem aaC [Wd] (b:List UInt8) (e:Int) (hs:b.length<=8388609) {b0:List UInt8} {e0:Int} (q:nR 4 (b,e)=(1,(b0,e0))) (h0:b0.length<=8388609):bC prog 119 [.ptr 0 0] (dn (b,e)) (fun r h=>r=.agg (cC (eF (b,e)).1)/\h=dn (eF (b,e)).2):=by
 obtain⟨t,b1,e1,q1,l1⟩:=Rd1.get (iB 64) (b0,e0)
 replace l1:b1.length<=b0.length:=l1
 have h1:b1.length<=8388609:=by omega
 have mT:=zM q1
 have eB:lP 1 (b0,e0)=(⟨1,t,[],0,[]⟩,(b1,e1)):=by unfold lP;simp[bN,q1]
 obtain⟨o,ho⟩:∃o:bt,o=⟨1,t,[],0,[]⟩:=⟨_,rfl⟩
 obtain⟨ef,jV⟩:∃ef:Int,fF (bS o) (b1,e1)=(b1,ef):=⟨(fF (bS o) (b1,e1)).2,Prod.ext (wS _ _) rfl⟩
 have eR:eF (b,e)=if ef=0 then(o,(b1,ef)) else(za,(b1,ef)):=by
  unfold eF jR fZ bN cN
  simp only[q,eB,<-ho,jV]
 have fN:e1=0->fD.ok o:=fun he=>by
  rw[ho]
  exact BQ ((Bh 1 (by decide)).CN eB he) (by decide)
 have fu:¬e1=0->ef=e1:=fun he=>by
  have:=jV
  rw[wU _ he] at this
  exact(congrArg (fun r:RS=>r.2) this).symm
 have gY:ef=0->eF (b,e)=(o,(b1,ef)):=fun h=>by rw[eR,if_pos h]
 have gN:¬ef=0->eF (b,e)=(za,(b1,ef)):=fun h=>by rw[eR,if_neg h]
 have gE:¬e1=0->eF (b,e)=(za,(b1,e1)):=fun h=>by rw[eR,fu h,if_neg h]
 refine ak 59 [] func119 ?_
 repeat' (conv=>arg 2;whnf);first|refine xx (fun h=>?_) (fun hz=>?_)|refine rJ (fun h=>?_) (fun h=>?_)|refine aX 0 (fun x=>D.int .u64 x) q (gF 4) hs ?_|refine bZ (by decide) ?_|refine j8 _ rfl ?_|refine aT (by omega) ?_|refine aX 0 (fun x=>D.list 1 (List.map af x)) q1 vH h0 ?_|refine cE 0 (b1,e1) (b1,e1) (.int .i64 e1) fY h1 rfl rfl ?_|refine iQ (sC o (fN h)) rfl (aa.cons (by rw[ho];exact aa.eU (aa.cons (.refl _) (aa.cons (.refl _) (aa.cons (.refl _) (aa.cons (.refl _) (aa.cons (.nil _) .nil)))))) .nil) ?_|refine cE 0 (b1,e1) (b1,ef) (.aj []) (mJ (bS o)) h1 jV.symm rfl ?_|refine cE 0 (b1,ef) (b1,ef) (.int .i64 ef) fY h1 rfl rfl ?_|refine cU (k:=fun x=>D.agg (cC x)) rfl (gY h) (by rw[ho];exact aa.eU (aa.cons (.refl _) (aa.cons (.refl _) (aa.cons (.refl _) (aa.cons (.refl _) (aa.cons (.nil _) .nil))))))|refine cU (k:=fun x=>D.agg (cC x)) rfl (gN h) .z|refine cU (k:=fun x=>D.agg (cC x)) rfl (gE h) .z|exact absurd h hz
theorem aaD [Wd] (b:List UInt8) (e:Int) (hs:b.length<=8388609) {b0:List UInt8} {e0:Int} (q:nR 4 (b,e)=(3,(b0,e0))) (h0:b0.length<=8388609):bC prog 119 [.ptr 0 0] (dn (b,e)) (fun r h=>r=.agg (cC (eF (b,e)).1)/\h=dn (eF (b,e)).2):=by
 obtain⟨t,b1,e1,q1,l1⟩:=Rd1.get (iB 64) (b0,e0)
 replace l1:b1.length<=b0.length:=l1
 have h1:b1.length<=8388609:=by omega
 obtain⟨g,b2,e2,q2,l2⟩:=Rd1.get (iB 64) (b1,e1)
 replace l2:b2.length<=b1.length:=l2
 have h2:b2.length<=8388609:=by omega
 obtain⟨n,b3,e3,q3,l3⟩:=Rd1.get (dD MX) (b2,e2)
 replace l3:b3.length<=b2.length:=l3
 have h3:b3.length<=8388609:=by omega
 have hn:=qN q3
 rw[yK] at hn
 have mT:=zM q1
 have eJ:=zM q2
 have eB:lP 3 (b0,e0)=(⟨3,t,g,n,[]⟩,(b3,e3)):=by unfold lP;simp[bN,bg,cN,q1,q2,q3]
 obtain⟨o,ho⟩:∃o:bt,o=⟨3,t,g,n,[]⟩:=⟨_,rfl⟩
 obtain⟨ef,jV⟩:∃ef:Int,fF (bS o) (b3,e3)=(b3,ef):=⟨(fF (bS o) (b3,e3)).2,Prod.ext (wS _ _) rfl⟩
 have eR:eF (b,e)=if ef=0 then(o,(b3,ef)) else(za,(b3,ef)):=by
  unfold eF jR fZ bN cN
  simp only[q,eB,<-ho,jV]
 have fN:e3=0->fD.ok o:=fun he=>by
  rw[ho]
  exact BQ ((Bh 3 (by decide)).CN eB he) (by decide)
 have fu:¬e3=0->ef=e3:=fun he=>by
  have:=jV
  rw[wU _ he] at this
  exact(congrArg (fun r:RS=>r.2) this).symm
 have gY:ef=0->eF (b,e)=(o,(b3,ef)):=fun h=>by rw[eR,if_pos h]
 have gN:¬ef=0->eF (b,e)=(za,(b3,ef)):=fun h=>by rw[eR,if_neg h]
 have gE:¬e3=0->eF (b,e)=(za,(b3,e3)):=fun h=>by rw[eR,fu h,if_neg h]
 refine ak 59 [] func119 ?_
 repeat' (conv=>arg 2;whnf);first|refine xx (fun h=>?_) (fun hz=>?_)|refine rJ (fun h=>?_) (fun h=>?_)|refine aX 0 (fun x=>D.int .u64 x) q (gF 4) hs ?_|refine bZ (by decide) ?_|refine gJ ?_|refine j8 _ rfl ?_|refine aT (by omega) ?_|refine aX 0 (fun x=>D.list 1 (List.map af x)) q1 vH h0 ?_|refine aX 0 (fun x=>D.list 1 (List.map af x)) q2 vH h1 ?_|refine aX 0 (fun x=>D.int .u64 x) q3 (gF MX) h2 ?_|refine cE 0 (b3,e3) (b3,e3) (.int .i64 e3) fY h3 rfl rfl ?_|refine iQ (sC o (fN h)) rfl (aa.cons (by rw[ho];exact aa.eU (aa.cons (.refl _) (aa.cons (.refl _) (aa.cons (.refl _) (aa.cons (.refl _) (aa.cons (.nil _) .nil)))))) .nil) ?_|refine cE 0 (b3,e3) (b3,ef) (.aj []) (mJ (bS o)) h3 jV.symm rfl ?_|refine cE 0 (b3,ef) (b3,ef) (.int .i64 ef) fY h3 rfl rfl ?_|refine cU (k:=fun x=>D.agg (cC x)) rfl (gY h) (by rw[ho];exact aa.eU (aa.cons (.refl _) (aa.cons (.refl _) (aa.cons (.refl _) (aa.cons (.refl _) (aa.cons (.nil _) .nil))))))|refine cU (k:=fun x=>D.agg (cC x)) rfl (gN h) .z|refine cU (k:=fun x=>D.agg (cC x)) rfl (gE h) .z|exact absurd h hz
theorem aaE [Wd] (b:List UInt8) (e:Int) (hs:b.length<=8388609) {b0:List UInt8} {e0:Int} (q:nR 4 (b,e)=(4,(b0,e0))) (h0:b0.length<=8388609):bC prog 119 [.ptr 0 0] (dn (b,e)) (fun r h=>r=.agg (cC (eF (b,e)).1)/\h=dn (eF (b,e)).2):=by
 obtain⟨t,b1,e1,q1,l1⟩:=Rd1.get (iB 64) (b0,e0)
 replace l1:b1.length<=b0.length:=l1
 have h1:b1.length<=8388609:=by omega
 obtain⟨n,b2,e2,q2,l2⟩:=Rd1.get (dD MX) (b1,e1)
 replace l2:b2.length<=b1.length:=l2
 have h2:b2.length<=8388609:=by omega
 have hn:=qN q2
 rw[yK] at hn
 have mT:=zM q1
 have eB:lP 4 (b0,e0)=(⟨4,t,[],n,[]⟩,(b2,e2)):=by unfold lP;simp[bN,bg,cN,q1,q2]
 obtain⟨o,ho⟩:∃o:bt,o=⟨4,t,[],n,[]⟩:=⟨_,rfl⟩
 obtain⟨ef,jV⟩:∃ef:Int,fF (bS o) (b2,e2)=(b2,ef):=⟨(fF (bS o) (b2,e2)).2,Prod.ext (wS _ _) rfl⟩
 have eR:eF (b,e)=if ef=0 then(o,(b2,ef)) else(za,(b2,ef)):=by
  unfold eF jR fZ bN cN
  simp only[q,eB,<-ho,jV]
 have fN:e2=0->fD.ok o:=fun he=>by
  rw[ho]
  exact BQ ((Bh 4 (by decide)).CN eB he) (by decide)
 have fu:¬e2=0->ef=e2:=fun he=>by
  have:=jV
  rw[wU _ he] at this
  exact(congrArg (fun r:RS=>r.2) this).symm
 have gY:ef=0->eF (b,e)=(o,(b2,ef)):=fun h=>by rw[eR,if_pos h]
 have gN:¬ef=0->eF (b,e)=(za,(b2,ef)):=fun h=>by rw[eR,if_neg h]
 have gE:¬e2=0->eF (b,e)=(za,(b2,e2)):=fun h=>by rw[eR,fu h,if_neg h]
 refine ak 59 [] func119 ?_
 repeat' (conv=>arg 2;whnf);first|refine xx (fun h=>?_) (fun hz=>?_)|refine rJ (fun h=>?_) (fun h=>?_)|refine aX 0 (fun x=>D.int .u64 x) q (gF 4) hs ?_|refine bZ (by decide) ?_|refine gJ ?_|refine j8 _ rfl ?_|refine aT (by omega) ?_|refine aX 0 (fun x=>D.list 1 (List.map af x)) q1 vH h0 ?_|refine aX 0 (fun x=>D.int .u64 x) q2 (gF MX) h1 ?_|refine cE 0 (b2,e2) (b2,e2) (.int .i64 e2) fY h2 rfl rfl ?_|refine iQ (sC o (fN h)) rfl (aa.cons (by rw[ho];exact aa.eU (aa.cons (.refl _) (aa.cons (.refl _) (aa.cons (.refl _) (aa.cons (.refl _) (aa.cons (.nil _) .nil)))))) .nil) ?_|refine cE 0 (b2,e2) (b2,ef) (.aj []) (mJ (bS o)) h2 jV.symm rfl ?_|refine cE 0 (b2,ef) (b2,ef) (.int .i64 ef) fY h2 rfl rfl ?_|refine cU (k:=fun x=>D.agg (cC x)) rfl (gY h) (by rw[ho];exact aa.eU (aa.cons (.refl _) (aa.cons (.refl _) (aa.cons (.refl _) (aa.cons (.refl _) (aa.cons (.nil _) .nil))))))|refine cU (k:=fun x=>D.agg (cC x)) rfl (gN h) .z|refine cU (k:=fun x=>D.agg (cC x)) rfl (gE h) .z|exact absurd h hz
theorem Yp {α:Type} {p:RS->α×RS} {m:Nat} {s s2:RS} {x:α} (h:p s=(x,s2)):dG p (m+1) s=(x::(dG p m s2).1,(dG p m s2).2):=by
 show bN _ (bg p (dG p m)) s=_
 unfold bN bg cN
 rw[h]
theorem aaF [Wd] (b:List UInt8) (e:Int) (hs:b.length<=8388609) {b0:List UInt8} {e0:Int} (q:nR 4 (b,e)=(2,(b0,e0))) (h0:b0.length<=8388609):bC prog 119 [.ptr 0 0] (dn (b,e)) (fun r h=>r=.agg (cC (eF (b,e)).1)/\h=dn (eF (b,e)).2):=by
 obtain⟨t,b1,e1,q1,l1⟩:=Rd1.get (iB 64) (b0,e0)
 replace l1:b1.length<=b0.length:=l1
 have h1:b1.length<=8388609:=by omega
 have mT:=zM q1
 obtain⟨n,b2,e2,qn,hn,l2⟩:=wR 4 (b1,e1)
 replace l2:b2.length<=b1.length:=l2
 have h2:b2.length<=8388609:=by omega
 have q2:nR 4 (b1,e1)=((n:Int),(b2,e2)):=by unfold nR;rw[qn]
 obtain⟨rs,b3,e3,q3,l3⟩:=Rd1.get (w7 (iB 64) n) (b2,e2)
 replace l3:b3.length<=b2.length:=l3
 have h3:b3.length<=8388609:=by omega
 have eB:lP 2 (b0,e0)=(⟨2,t,[],0,rs⟩,(b3,e3)):=by unfold lP;simp[bN,bg,cN,q1,q2,q3]
 obtain⟨o,ho⟩:∃o:bt,o=⟨2,t,[],0,rs⟩:=⟨_,rfl⟩
 obtain⟨ef,jV⟩:∃ef:Int,fF (bS o) (b3,e3)=(b3,ef):=⟨(fF (bS o) (b3,e3)).2,Prod.ext (wS _ _) rfl⟩
 have eR:eF (b,e)=if ef=0 then(o,(b3,ef)) else(za,(b3,ef)):=by
  unfold eF jR fZ bN cN
  simp only[q,eB,<-ho,jV]
 have fN:e3=0->fD.ok o:=fun he=>by
  rw[ho]
  exact BQ ((Bh 2 (by decide)).CN eB he) (by decide)
 have fu:¬e3=0->ef=e3:=fun he=>by
  have:=jV
  rw[wU _ he] at this
  exact(congrArg (fun r:RS=>r.2) this).symm
 have gY:ef=0->eF (b,e)=(o,(b3,ef)):=fun h=>by rw[eR,if_pos h]
 have gN:¬ef=0->eF (b,e)=(za,(b3,ef)):=fun h=>by rw[eR,if_neg h]
 have gE:¬e3=0->eF (b,e)=(za,(b3,e3)):=fun h=>by rw[eR,fu h,if_neg h]
 refine iV 59 [(8,⟨(.one 0 false (.one 2 false (.alt 1 (.one 3 true (.one 4 true (.one 5 true (.one 6 false (.one 7 true .done))))) (.one 3 true (.alt 1 (.one 4 true (.one 5 true (.one 6 false (.one 7 true .done)))) (.one 4 true (.one 1 true (.one 5 true (.one 6 false (.one 7 true .done)))))))))),[0,2,3]⟩)] func119 ?_
 repeat' (conv=>arg 2;whnf);first|refine aX 0 (fun x=>D.int .u64 x) q (gF 4) hs ?_|refine bZ (by decide) ?_|refine j8 _ rfl ?_|refine aT (by omega) ?_|refine aX 0 (fun x=>D.list 1 (List.map af x)) q1 vH h0 ?_|refine aX 0 (fun x=>D.int .u64 x) q2 (gF 4) h1 ?_
 conv=>arg 2;whnf
 refine bE (α:=Nat×RS×List (List UInt8)) (fun a=>match a.2.2 with
  |[]=>⟨[(21,.int .u64 a.1),(20,.int .u64 (n:Int)),(3,.ptr 2 0),(2,.ptr 1 0),(0,.ptr 0 0)],[.cells 235 [.list 1 (a.2.1.1.map af),.int .i64 a.2.1.2,.bool true],.cells 40 [.int .i64 0,.str [],.str [],.int .i64 0,.nils],.cells 40 [.int .i64 2,.str t,.str [],.int .i64 0,.nils]]⟩
  |x::l=>⟨[(21,.int .u64 a.1),(20,.int .u64 (n:Int)),(3,.ptr 2 0),(2,.ptr 1 0),(0,.ptr 0 0)],[.cells 235 [.list 1 (a.2.1.1.map af),.int .i64 a.2.1.2,.bool true],.cells 40 [.int .i64 0,.str [],.str [],.int .i64 0,.nils],.cells 40 [.int .i64 2,.str t,.str [],.int .i64 0,.row 3],.row 51 1 ((x::l).map gS)]⟩) (fun a=>a.1<=n/\a.2.1.1.length<=8388609/\a.2.2.length=a.1/\(rs,(b3,e3))=(a.2.2++(dG (fB 64) (n-a.1) a.2.1).1,(dG (fB 64) (n-a.1) a.2.1).2)) (fun a=>n-a.1) (0,(b2,e2),[]) ⟨Nat.zero_le _,h2,rfl,q3.symm⟩ (Sv.aK [0,1,3]) ?_
 rintro⟨i,⟨bb,ee⟩,out⟩ ⟨hi,hl,oz,hg⟩
 replace hi:i<=n:=hi
 replace hl:bb.length<=8388609:=hl
 replace oz:out.length=i:=oz
 replace hg:(rs,(b3,e3))=(out++(dG (fB 64) (n-i) (bb,ee)).1,(dG (fB 64) (n-i) (bb,ee)).2):=hg
 obtain⟨x,bx,ex,qx,lx⟩:=Rd1.get (iB 64) (bb,ee)
 replace lx:bx.length<=bb.length:=lx
 have hx:bx.length<=8388609:=by omega
 have lG:i<n->(rs,(b3,e3))=((out++[x])++(dG (fB 64) (n-(i+1)) (bx,ex)).1,(dG (fB 64) (n-(i+1)) (bx,ex)).2):=fun hlt=>by
  have e:n-i=(n-(i+1))+1:=by omega
  rw[e,Yp qx] at hg
  rw[hg]
  simp
 have iq:n<=i->rs=out/\b3=bb/\e3=ee:=fun h=>by
  rw[show n-i=0 by omega] at hg
  have hg:(rs,(b3,e3))=(out++[],(bb,ee)):=hg
  rw[List.append_nil] at hg
  cases hg
  exact⟨rfl,rfl,rfl⟩
 cases out with
 |nil=>
  conv=>arg 2;whnf
  refine Lc (fun hlt=>?_) (fun dm=>?_)
  ·replace hlt:i<n:=hlt
   repeat' (conv=>arg 2;whnf);first|refine aX 0 (fun x=>D.list 1 (List.map af x)) qx vH hl ?_|refine aV ?_ ?_|refine aT (by constructor<;>(simp only[List.length_cons,List.length_nil];decide)) ?_|refine bw (G0 (by show 0<=(i:Int)+1;omega) (by show(i:Int)+1<_;omega)) ?_|refine aZ (i+1,(bx,ex),[x]) (Sv.aK [0,1,2,4]) ⟨hlt,hx,by show([x]).length=i+1;simp at oz ⊢;omega,lG hlt⟩ (by show n-(i+1)<n-i;omega)
  ·obtain⟨er,eb,A7⟩:=iq dm
   subst er eb A7
   repeat' (conv=>arg 2;whnf);first|refine xx (fun h=>?_) (fun hz=>?_)|refine rJ (fun h=>?_) (fun h=>?_)|refine bq ?_|refine cE 0 (b3,e3) (b3,e3) (.int .i64 e3) fY h3 rfl rfl ?_|refine iQ (sC o (fN h)) rfl (aa.cons (by rw[ho];exact aa.eU (aa.cons (.refl _) (aa.cons (.refl _) (aa.cons (.refl _) (aa.cons (.refl _) (aa.cons (.nil _) .nil)))))) .nil) ?_|refine cE 0 (b3,e3) (b3,ef) (.aj []) (mJ (bS o)) h3 jV.symm rfl ?_|refine cE 0 (b3,ef) (b3,ef) (.int .i64 ef) fY h3 rfl rfl ?_|refine cU (k:=fun x=>D.agg (cC x)) rfl (gY h) (by rw[ho];exact aa.eU (aa.cons (.refl _) (aa.cons (.refl _) (aa.cons (.refl _) (aa.cons (.refl _) (aa.cons (.nil _) .nil))))))|refine cU (k:=fun x=>D.agg (cC x)) rfl (gN h) .z|refine cU (k:=fun x=>D.agg (cC x)) rfl (gE h) .z|exact absurd h hz
 |cons y out=>
  conv=>arg 2;whnf
  refine Lc (fun hlt=>?_) (fun dm=>?_)
  ·replace hlt:i<n:=hlt
   repeat' (conv=>arg 2;whnf);first|refine aX 0 (fun x=>D.list 1 (List.map af x)) qx vH hl ?_|refine aV ?_ ?_|refine aT (by constructor<;>(simp only[List.length_cons,List.length_nil,List.length_map,maxLen] at oz ⊢;omega)) ?_|refine bw (G0 (by show 0<=(i:Int)+1;omega) (by show(i:Int)+1<_;omega)) ?_|refine aZ (i+1,(bx,ex),(y::out)++[x]) (Sv.mk' [0,1,2,5] rfl ⟨⟨rfl,rfl⟩,⟨rfl,rfl⟩,⟨rfl,rfl⟩,⟨rfl,by simp;rfl⟩,trivial⟩ ⟨rfl,rfl,rfl,rfl,rfl,trivial⟩) ⟨hlt,hx,by show((y::out)++[x]).length=i+1;simp at oz ⊢;omega,lG hlt⟩ (by show n-(i+1)<n-i;omega)
  ·obtain⟨er,eb,A7⟩:=iq dm
   subst er eb A7
   repeat' (conv=>arg 2;whnf);first|refine xx (fun h=>?_) (fun hz=>?_)|refine rJ (fun h=>?_) (fun h=>?_)|refine bq ?_|refine cE 0 (b3,e3) (b3,e3) (.int .i64 e3) fY h3 rfl rfl ?_|refine BY [3] (sC o (fN h)) rfl (by rw[ho];exact aa.refl _) rfl ?_|refine cE 0 (b3,e3) (b3,ef) (.aj []) (mJ (bS o)) h3 jV.symm rfl ?_|refine cE 0 (b3,ef) (b3,ef) (.int .i64 ef) fY h3 rfl rfl ?_|refine qD (k:=fun x=>D.agg (cC x)) [3] rfl (gY h) (by rw[ho];exact .refl _)|refine cU (k:=fun x=>D.agg (cC x)) rfl (gN h) .z|refine cU (k:=fun x=>D.agg (cC x)) rfl (gE h) .z|exact absurd h hz
theorem abI [Wd] (ws:List (List UInt8)) (hl:(kW ws).length<=140737488355328) (hn:ws.length<=140737488355328):aq prog 28 [.list 1 (cW ws),.str [32]] (.str (kW ws)):=
 bC.old (v:=.string (aA (kW ws))) (fun _ _=>.str _) (by kernel_rfl) (fun w I vs hv=>by
  obtain⟨v,u,rfl,h1,h2⟩:=hv.Dk
  cases h2
  generalize hx:cW ws=xs at h1
  cases h1 with
  |list A c _ l _ U dH iL hm fI hlen hA h1 hU=>
   subst hx
   have Cv:l=ws.length:=by rw[dH];simp[cW]
   subst Cv
   by_cases h0:0<ws.length
   ·obtain⟨g,off,rfl,hg,hI,fH⟩:=hA h0
    have hj:(ws.map aA).map (fun x=>x.data.toList)=ws:=by
     rw[List.map_map]
     conv=>rhs;rw[<-List.map_id ws]
     refine List.map_congr_left fun x _=>?_
     simp[aA]
    have rV:∀j x,(ws.map aA)[j]?=some x->w.cell? ⟨g,off+j,none⟩=some (.string x):=fun j x hx=>by
     rw[List.getElem?_map] at hx
     obtain⟨y,hy,rfl⟩:=Option.map_eq_some_iff.1 hx
     have e1:(cW ws)[j]?=some [.str y]:=by simp[cW,hy]
     have e2:=fH j [.str y] 0 (.str y) e1 rfl
     have e3:=hU j [.str y] 0 (.str y) e1 rfl
     simp only[Nat.mul_one,Nat.add_zero] at e2
     rw[e2]
     generalize U j 0=u at e3
     cases e3
     rfl
    have:=Tryz.strings_Join g off c (ws.map aA) (aA [32]) w rV hg (by simpa using hn) (by simpa using iL) (by rw[hj];rw[show(aA [32]).data.toList=[32] from rfl,join_eq];exact hl)
    rw[hj,show(aA [32]).data.toList=[32] from rfl,join_eq] at this
    simpa[aA] using this
   ·have hz:ws=[]:=List.eq_nil_of_length_eq_zero (by omega)
    subst hz
    refine(Tryz.strings_Join_none A c (aA [32]) w).mono ?_
    rintro e w' ⟨rfl,rfl⟩
    exact⟨rfl,Below.refl _ _⟩) rfl
theorem adb [Wd] (bs:List UInt8) (o:bt) (ho:fD.ok o) (hl:bs.length+200000000<=aL):aq prog 108 [.list 1 (bs.map af),.agg (cC o)] (.list 1 ((bs++if bS o=0 then iy o else[]).map af)):=Py bs o ho hl
theorem XV [Wd] (o:bt) (ho:fD.ok o) (h0:bS o=0):aq prog 66 [.agg (cC o)] (.aj [.list 1 ((iy o).map af),.int .i64 0]):=by
 have l1:=zo h0
 have hp:=adb [] o ho (by simp[aL])
 rw[if_pos h0,List.nil_append] at hp
 have hc:=sC o ho
 rw[h0] at hc
 refine ak 12 [] func66 ?_
 repeat' (conv=>arg 2;whnf);first|refine okF (hc) ?_|refine iQ hp rfl (aa.cons (Co.nil _) (.refl _)) ?_|refine cg
theorem XW [Wd] (o:bt) (ho:fD.ok o) (h0:¬bS o=0):aq prog 66 [.agg (cC o)] (.aj [.nils,.int .i64 (bS o)]):=by
 have hc:=sC o ho
 refine ak 12 [] func66 ?_
 repeat' (conv=>arg 2;whnf);first|refine okF (hc) ?_|apply an<;>intro h|refine cg|(exfalso;simp[h0] at*;done)
theorem KA [Wd] (m:aD):aq prog 110 [.agg (aC m)] (.agg (bL (cI m))):=by
 by_cases h7:m.kind=7
 ·by_cases hc:m.changes.length=1
  ·obtain⟨c,hc⟩:=sM hc
   have e:cI m=c.sign:=by unfold cI;rw[if_pos h7,hc]
   rw[e]
   refine ak 19 [] func110 ?_
   repeat' (conv=>arg 2;whnf);first|apply an<;>intro h|refine eT (bU c) (by decide) (by simp[hc]) ?_|refine cg|(exfalso;simp_all;done)
  ·have e:cI m=m.sign:=by
    unfold cI
    rw[if_pos h7]
    split
    ·rename_i c rV;rw[rV] at hc;exact absurd rfl hc
    ·rfl
   rw[e]
   refine ak 19 [] func110 ?_
   repeat' (conv=>arg 2;whnf);first|apply an<;>intro h|refine cg|(exfalso;simp at*;omega)
 ·have e:cI m=m.sign:=by unfold cI;rw[if_neg h7]
  rw[e]
  refine ak 19 [] func110 ?_
  repeat' (conv=>arg 2;whnf);first|apply an<;>intro h|refine cg|(exfalso;simp_all;done)
theorem CX [Wd] (k:Int):aq prog 111 [.int .i64 k] (.bool (!mO k)):=by
 refine ak 9 [] func111 ?_
 repeat' (conv=>arg 2;whnf);first|apply an<;>intro h|(refine cL ?_;simp_all [mO];done)
def KZ:List (Nat×mD):=[(5,⟨PT.of [(0,false),(1,false),(2,false),(4,false),(5,false),(6,false),(3,true),(7,true),(8,false)],[2]⟩)]
theorem WC [Wd] (m:aD) (hm:bh.ok m) (hB:¬ig (eu m)=0):aq prog 67 [.agg (aC m)] (.aj [.nils,.bool false]):=by
 have hu:=IA m hm
 unfold uR at hu
 rw[if_neg hB] at hu
 have hS:=KA m
 refine iV 62 KZ func67 ?_
 repeat' (conv=>arg 2;whnf);first|apply an<;>intro h|refine okF hu ?_|refine okF hS ?_|refine okF (CX m.kind) ?_|refine cg|(exfalso;simp_all;done)
theorem WD [Wd] (m:aD) (hm:bh.ok m) (hB:ig (eu m)=0) (hw:¬qt m):aq prog 67 [.agg (aC m)] (.aj [.nils,.bool false]):=by
 rw[Bk] at hw
 have hu:=IA m hm
 unfold uR at hu
 rw[if_pos hB] at hu
 have hS:=KA m
 generalize cI m=s at*
 replace hw:=fun h=>hw ⟨hB,h⟩
 refine iV 62 KZ func67 ?_
 repeat' (conv=>arg 2;whnf);first|apply an<;>intro h|refine okF hu ?_|refine okF hS ?_|refine okF (CX m.kind) ?_|refine cg|(exfalso;simp_all;done)
theorem WE [Wd] (m:aD) (hm:bh.ok m) (hw:qt m) (hb:((cI m).key<=9223372036854775807)/\(cI m).ah<=9223372036854775807):aq prog 67 [.agg (aC m)] (.aj [.list 1 (cW (ny m)),.bool true]):=by
 have hi:=(Bk m).1 hw
 obtain⟨hB,w1,w2,w3,w4⟩:=hi
 have hu:=IA m hm
 unfold uR at hu
 rw[if_pos hB] at hu
 have hS:=KA m
 have l1:=so (nG (oA (wY.1 hB).1))
 rw[wM] at l1
 rw[show ny m=[gw (aO m),nu (cI m)] from rfl]
 generalize cI m=s at*
 have e1:aJ s.key=enc s.key.toNat:=eK w1 (by omega)
 have e2:aJ s.ah=enc s.ah.toNat:=eK w2 (by omega)
 rw[show nu s=gw ([]++aJ s.key++aJ s.ah) from by simp[nu,e1,e2]]
 have p1:=fG s.key
 have p2:=fG s.ah
 have l2:([]++aJ s.key++aJ s.ah).length<=20:=by simp only[List.length_append,List.length_nil];omega
 have q1:(gw (aO m)).length<=2000001:=by have:=yB (aO m);show(qR (aO m)).length<=_;omega
 have q2:(gw ([]++aJ s.key++aJ s.ah)).length<=41:=by have:=yB ([]++aJ s.key++aJ s.ah);show(qR _).length<=_;omega
 have cm:([]++aJ s.key).length+100<=aL:=Nat.le_trans (Nat.add_le_add_right (show([]++aJ s.key).length<=10 from p1) 100) (by decide)
 refine iV 62 KZ func67 ?_
 repeat' (conv=>arg 2;whnf);first|apply an<;>intro h|refine okF hu ?_|refine okF hS ?_|refine okF (CX m.kind) ?_|refine lD ?_|refine okF (DB (aO m) (by omega)) ?_|refine iQ (sj [] (s.key) (by simp[aL])) rfl (aa.cons (Co.nil _) (.refl _)) ?_|refine okF (sj _ s.ah cm) ?_|refine okF (DB _ (Nat.le_trans l2 (by decide))) ?_|refine cg|(exfalso;simp_all;done)|(exfalso;simp_all;omega)
def DC:List (Nat×mD):=[(1,⟨PT.of [(0,false),(1,false),(3,false),(4,false),(2,true),(5,true),(6,false),(7,false)],[1]⟩),(17,⟨(.one 0 false (.one 1 false (.one 2 false (.one 5 false (.one 6 false (.one 3 true (.alt 4 (.one 7 true (.one 8 false (.one 9 false .done))) (.one 7 true (.one 4 true (.one 8 false (.one 9 false .done))))))))))),[1,1007]⟩),(26,⟨(.one 0 false (.one 1 false (.one 2 false (.one 3 false (.one 4 false (.one 5 false (.one 6 false (.one 7 true (.alt 8 (.one 9 true (.one 10 false (.one 11 false .done))) (.one 9 true (.one 8 true (.one 10 false (.one 11 false .done))))))))))))),[1,1009]⟩),(33,⟨PT.of [(0,false),(1,false),(2,false),(4,false),(6,false),(3,true),(5,true),(7,true),(8,false),(9,false)],[1,1005,1007]⟩)]
theorem XX [Wd] (iT:yE) (a:bK) (ha:gh.ok a) (h0:¬bS a.op=0):aq prog 42 [.agg (cr {a with kind:=6})] (.aj [.agg (cr (⟨6,a.bA,0,a.op,[],aE,false⟩:bK)),.list 1 (cW [mR,Lib.itoa a.bA,gw []]),.bool false]):=by
 have b2:-9223372036854775808<=a.bA/\a.bA<=9223372036854775807:=ha.2.1
 have b3:-9223372036854775808<=a.num/\a.num<=9223372036854775807:=ha.2.2.1
 have b5:a.bytes.length<=4194304:=ha.2.2.2.2.1
 have hb:=XW a.op ha.2.2.2.1 h0
 have he:(bS a.op==0)=false:=by simpa using h0
 refine iV 141 DC func42 ?_
 repeat' (conv=>arg 2;whnf);first|refine aV ?_ ?_|refine okF (iT a.num b3) ?_|refine okF (iT a.bA b2) ?_|refine okF (hb) ?_|refine iQ (DB [] (by simp)) rfl (aa.cons (Co.nil _) .nil) ?_|(rw[he];refine j5 rfl (aa.oO (aa.cons (aa.eU ?_) (aa.refl _)));(repeat' (first|exact aa.nil|exact Co.refl _|exact Co.nil _|refine aa.cons ?_ ?_));done)
theorem ZI [Wd] (iT:yE) (a:bK) (ha:gh.ok a) (hk:¬(1<=a.kind/\a.kind<=12)):aq prog 42 [.agg (cr a)] (.aj [.agg (cr aR),.list 1 (cW []),.bool false]):=by
 have b2:-9223372036854775808<=a.bA/\a.bA<=9223372036854775807:=ha.2.1
 have b3:-9223372036854775808<=a.num/\a.num<=9223372036854775807:=ha.2.2.1
 have b5:a.bytes.length<=4194304:=ha.2.2.2.2.1
 refine iV 141 DC func42 ?_
 repeat' (conv=>arg 2;whnf);first|refine okF (iT a.num b3) ?_|refine okF (iT a.bA b2) ?_|refine bB (by simp;omega) ?_|(refine qB (.inr rfl) rfl (aa.oO (aa.cons (aa.eU ?_) (aa.cons (Co.nil _) (aa.refl _)))) rfl;(repeat' (first|exact aa.nil|exact Co.refl _|exact Co.nil _|refine aa.cons ?_ ?_));done)
theorem abJ [Wd] (iT:yE) (a:bK) (ha:gh.ok a):∃(ws:List (List UInt8)) (b:Bool),aq prog 42 [.agg (cr a)] (.aj [.agg (cr (nv a)),.list 1 (cW ws),.bool b])/\(zX a->b=true/\ws=jf a)/\(¬zX a->b=false):=by
 have b2:-9223372036854775808<=a.bA/\a.bA<=9223372036854775807:=ha.2.1
 have b3:-9223372036854775808<=a.num/\a.num<=9223372036854775807:=ha.2.2.1
 have b4:=ha.2.2.2.1
 have b5:a.bytes.length<=4194304:=ha.2.2.2.2.1
 have b6:=ha.2.2.2.2.2.1
 by_cases hk:1<=a.kind/\a.kind<=12
 case neg=>
  have ek:nv a=aR:=by unfold nv;rw[if_neg (by omega),if_neg (by omega),if_neg (by omega),if_neg (by omega),if_neg (by omega),if_neg (by omega),if_neg (by omega)]
  have t:=ZI iT a ha hk
  rw[<-ek] at t
  exact⟨_,_,t,fun h=>absurd h.1 hk,fun _=>rfl⟩
 by_cases ok:zX a
 ·have hb:a.kind=6->aq prog 66 [.agg (cC a.op)] (.aj [.list 1 ((iy a.op).map af),.int .i64 0]):=fun e=>XV a.op b4 (ok.2.1 e)
  have hh:a.kind=6->aq prog 14 [.list 1 ((iy a.op).map af)] (.str (gw (iy a.op))):=fun e=>DB (iy a.op) (by have:=zo (ok.2.1 e);omega)
  have hm:=fun e=>WE a.msg b6 (ok.2.2 e) (Jv b6)
  refine⟨jf a,true,?_,fun _=>⟨rfl,rfl⟩,fun h=>absurd ok h⟩
  obtain⟨k,w,n,o,b,m,s⟩:=a
  dsimp only at*
  have hc:k=11\/k=1\/k=2\/k=3\/k=4\/k=5\/k=6\/k=7\/k=8\/k=9\/k=10\/k=12:=by omega
  clear hk ok
  rcases hc with rfl|rfl|rfl|rfl|rfl|rfl|rfl|rfl|rfl|rfl|rfl|rfl
  case inl=>
   cases s
   all_goals
    refine DX false 141 DC func42 ?_
    repeat' (conv=>arg 2;whnf);first|refine okF (iT n b3) ?_|refine okF (iT w b2) ?_|refine okF (hm rfl) ?_|refine aT (by simp[maxLen,ny,cW];done) ?_|(refine mE [4] (.inr rfl) rfl (aa.oO (aa.cons (aa.eU ?_) (aa.refl _))) rfl;(repeat' (first|exact aa.nil|exact Co.refl _|exact Co.nil _|refine aa.cons ?_ ?_));done)
  all_goals
   refine iV 141 DC func42 ?_
   repeat' (conv=>arg 2;whnf);first|refine aV ?_ ?_|refine okF (iT n b3) ?_|refine okF (iT w b2) ?_|refine okF (hb rfl) ?_|refine okF (hh rfl) ?_|refine okF (DB b (by omega)) ?_|(refine j5 rfl (aa.oO (aa.cons (aa.eU ?_) (aa.refl _)));(repeat' (first|exact aa.nil|exact Co.refl _|exact Co.nil _|refine aa.cons ?_ ?_));done)
 ·by_cases e6:a.kind=6/\¬bS a.op=0
  ·have ek:nv a=(⟨6,a.bA,0,a.op,[],aE,false⟩:bK):=by simp[nv,e6.1,aR]
   have t:=XX iT a ha e6.2
   rw[abn e6.1,<-ek] at t
   exact⟨_,_,t,fun h=>absurd h ok,fun _=>rfl⟩
  obtain⟨oU,hw⟩:a.kind=11/\¬qt a.msg:=Classical.byContradiction fun q=>ok ⟨hk,fun e=>Classical.byContradiction fun z=>e6 ⟨e,z⟩,fun e=>Classical.byContradiction fun z=>q ⟨e,z⟩⟩
  have hm:aq prog 67 [.agg (aC a.msg)] (.aj [.nils,.bool false]):=by
   by_cases hB:ig (eu a.msg)=0
   ·exact WD a.msg b6 hB hw
   ·exact WC a.msg b6 hB
  refine⟨[pZ 11 a.jN,Lib.itoa a.bA],false,?_,fun h=>absurd h ok,fun _=>rfl⟩
  obtain⟨k,w,n,o,b,m,s⟩:=a
  obtain rfl:k=11:=oU
  cases s
  all_goals
   refine DX false 141 DC func42 ?_
   repeat' (conv=>arg 2;whnf);first|refine okF (iT n b3) ?_|refine okF (iT w b2) ?_|refine okF hm ?_|refine aT (by simp[maxLen];done) ?_|(refine mE [4] (.inr rfl) rfl (aa.oO (aa.cons (aa.eU ?_) (aa.refl _))) rfl;(repeat' (first|exact aa.nil|exact Co.refl _|exact Co.nil _|refine aa.cons ?_ ?_));done)
theorem Pz:∀ws:List (List UInt8),(kW ws).length<=(ws.map fun w=>w.length+1).sum
 |[]=>Nat.le_refl _
 |[x]=>by simp[kW]
 |x::y::r=>by
  have:=Pz (y::r)
  rw[show kW (x::y::r)=x++32::kW (y::r) from rfl,List.length_append,List.length_cons,List.map_cons,List.sum_cons]
  omega
theorem Uh (n:Nat) (s:Bool):(pZ n s).length<=7:=by
 unfold pZ
 split<;>first|decide|(cases s<;>decide)
theorem OF {a:bK} (ha:gh.ok a) (h:zX a):(kW (jf a)).length<=140737488355328/\(jf a).length<=140737488355328:=by
 have b2:-9223372036854775808<=a.bA/\a.bA<=9223372036854775807:=ha.2.1
 have b3:-9223372036854775808<=a.num/\a.num<=9223372036854775807:=ha.2.2.1
 have b5:a.bytes.length<=4194304:=ha.2.2.2.2.1
 have i1:=Lib.itoa_length_le a.bA b2.1 b2.2
 have i2:=Lib.itoa_length_le a.num b3.1 b3.2
 have k7:=Uh a.kind.toNat a.jN
 have q1:=yC a.bytes
 have o1:a.kind=6->(gw (iy a.op)).length<=100000000:=fun e=>by
  have:=zo (h.2.1 e)
  have:=yC (iy a.op)
  omega
 have m1:a.kind=11->(gw (aO a.msg)).length<=100000000/\(nu (cI a.msg)).length<=41:=fun e=>by
  have hw:=h.2.2 e
  have ho:(cI a.msg).key<=9223372036854775807/\(cI a.msg).ah<=9223372036854775807:=Jv ha.2.2.2.2.2.1
  have hi:=(Bk a.msg).1 hw
  have l1:=so (nG (oA (wY.1 hi.1).1))
  rw[wM] at l1
  have q1:=yC (aO a.msg)
  have e1:=kV (cI a.msg).key.toNat (by omega)
  have e2:=kV (cI a.msg).ah.toNat (by omega)
  have q2:=yC (enc (cI a.msg).key.toNat++enc (cI a.msg).ah.toNat)
  rw[List.length_append] at q2
  exact⟨by omega,by unfold nu;omega⟩
 have hj:=Pz (jf a)
 have key:((jf a).map fun w=>w.length+1).sum<=140737488355328/\(jf a).length<=140737488355328:=by
  unfold jf pX
  repeat' split
  all_goals simp only[ny,List.map_cons,List.map_nil,List.sum_cons,List.sum_nil,List.length_cons,List.length_nil];constructor<;>omega
 exact⟨Nat.le_trans hj key.1,key.2⟩
theorem J7 [Wd] (iT:yE) (a:bK) (ha:gh.ok a):aq prog 17 [.agg (cr a)] (xq a):=by
 obtain⟨ws,b,hk,hY,hN⟩:=abJ iT a ha
 have hs:=JZ a (nv a) ha (Qw ha)
 by_cases h:kH a
 ·obtain⟨rfl,rfl⟩:=hY h.1
  have hj:=abI (jf a) (OF ha h.1).1 (OF ha h.1).2
  rw[zz h.2] at hs
  rw[zP h]
  refine ak 23 [] func17 ?_
  repeat' (conv=>arg 2;whnf);first|refine okF hk ?_|refine okF hs ?_|refine okF hj ?_|refine cg
 ·rw[w6 h]
  have hz:b=true->cx a (nv a)=false:=fun e=>Bi fun e2=>h ⟨Classical.byContradiction fun n=>(by rw[hN n] at e;cases e),e2⟩
  refine ak 23 [] func17 ?_
  repeat' (conv=>arg 2;whnf);first|refine okF hk ?_|refine okF hs ?_|apply an<;>intro h|refine cg|(exfalso;simp_all;done)
theorem vM [Wd] (l:List UInt8) (hl:l.length<=4194304):aq prog 153 [.list 1 (l.map af)] (.own 1 (l.map af)):=by
 refine kK false 8 [] func153 ?_
 repeat'
  (conv=>arg 2;whnf)
  first
  |refine aT (by simp[maxLen];omega) ?_
  |refine aV ?_ ?_
  |apply an<;>intro h
  |(have e:l=[]:=by simpa using h
    subst e
    refine j5 rfl (.rO _))
  |refine mE [1,1001] (.inr rfl) rfl (.refl _) rfl
theorem Qj [Wd] (l:List bJ) (hl:l.length<=4194304):aq prog 289 [.list 2 (l.map bL)] (.own 2 (l.map bL)):=by
 refine kK false 8 [] func289 ?_
 repeat'
  (conv=>arg 2;whnf)
  first
  |refine aT (by simp[maxLen];omega) ?_
  |refine aV ?_ ?_
  |apply an<;>intro h
  |(have e:l=[]:=by simpa using h
    subst e
    refine j5 rfl (.rO _))
  |refine mE [1,1001] (.inr rfl) rfl (.refl _) rfl
theorem Bf [Wd] (l:List j7) (hl:l.length<=4194304):aq prog 245 [.list 5 (l.map eO)] (.own 5 (l.map eO)):=by
 refine kK false 8 [] func245 ?_
 repeat'
  (conv=>arg 2;whnf)
  first
  |refine aT (by simp[maxLen];omega) ?_
  |refine aV ?_ ?_
  |apply an<;>intro h
  |(have e:l=[]:=by simpa using h
    subst e
    refine j5 rfl (.rO _))
  |refine mE [1,1001] (.inr rfl) rfl (.refl _) rfl
theorem Bg [Wd] (l:List Int) (hl:l.length<=4194304):aq prog 246 [.list 1 (l.map eD)] (.own 1 (l.map eD)):=by
 refine kK false 8 [] func246 ?_
 repeat'
  (conv=>arg 2;whnf)
  first
  |refine aT (by simp[maxLen];omega) ?_
  |refine aV ?_ ?_
  |apply an<;>intro h
  |(have e:l=[]:=by simpa using h
    subst e
    refine j5 rfl (.rO _))
  |refine mE [1,1001] (.inr rfl) rfl (.refl _) rfl
theorem Gc {α:Type} {l:List α} {i:Nat} {x:α} (hx:l[i]?=some x) {k:List α} (hk:k=l.take i):k++[x]=l.take (i+1):=by
 rw[List.take_add_one,hx,hk];rfl
theorem FX {α:Type} {l k:List α} {i:Nat} (hk:k=l.take i) (h:¬i<l.length):k=l:=by
 rw[hk,List.take_of_length_le (by omega)]
def D3 (b:List UInt8):List D:=[.own 1 (b.map af)]
def oOp (s:bt):List D:=[.int .i64 s.kind,.str s.av,.str s.group,.int .i64 s.offset,.own 1 (s.records.map D3)]
def yu (s:bX):List D:=[.int .i64 s.request.bD,.int .i64 s.request.time,.int .i64 s.request.op.kind,.str s.request.op.av,.str s.request.op.group,.int .i64 s.request.op.offset,.own 1 (s.request.op.records.map D3),.int .i64 s.sign.key,.int .i64 s.sign.ah]
theorem Qk [Wd] (o:bt) (ho:fD.ok o):aq prog 288 [.agg (cC o)] (.agg (oOp o)):=by
 obtain⟨k0,t0,g0,o0,r⟩:=o
 have hl:(dL dY).ok r:=ho.2.2.2.2
 clear ho
 have HL:r.length<=4194304:=hl.1
 refine ak 22 [] func288 ?_
 conv=>arg 2;whnf
 refine bE (α:=Nat×List (List UInt8)) (fun a=>match a.2 with
  |[]=>⟨[(9,.int .i64 a.1),(8,.int .i64 (r.map gS).length),(7,.list 1 (r.map gS)),(3,.nils),(2,.ptr 1 0),(1,.ptr 0 0)],[.cells 40 [.int .i64 k0,.str t0,.str g0,.int .i64 o0,.list 1 (r.map gS)],.cells 40 [.int .i64 0,.str [],.str [],.int .i64 0,.nils]]⟩
  |x::k=>⟨[(9,.int .i64 a.1),(8,.int .i64 (r.map gS).length),(7,.list 1 (r.map gS)),(3,.row 2),(2,.ptr 1 0),(1,.ptr 0 0)],[.cells 40 [.int .i64 k0,.str t0,.str g0,.int .i64 o0,.list 1 (r.map gS)],.cells 40 [.int .i64 0,.str [],.str [],.int .i64 0,.nils],.row 51 1 ((x::k).map D3)]⟩) (fun a=>a.1<=r.length/\a.2=r.take a.1) (fun a=>r.length-a.1) (0,[]) ⟨Nat.zero_le _,rfl⟩ (Sv.aK [0,1]) ?_
 rintro⟨i,out⟩ ⟨hi,ho⟩
 replace hi:i<=r.length:=hi
 replace ho:out=r.take i:=ho
 have oz:out.length=i:=by rw[ho,List.length_take];omega
 cases out with
 |nil=>
  repeat'
   (conv=>arg 2;whnf)
   first
   |apply an<;>intro h
   |refine cK (l:=r) (by simp at h;omega) (fun x (hx:r[i]?=some x)=>?_)
   |refine okF (vM x (hl.2 x (List.mem_of_getElem? hx))) ?_
   |refine aT (by have:=(List.getElem?_eq_some_iff.1 hx).1;constructor<;>(simp only[List.length_cons,List.length_nil,maxLen] at oz ⊢;omega)) ?_
   |refine bw (cj (by(try dsimp only);omega) (by have h9:=(List.getElem?_eq_some_iff.1 hx).1;(try dsimp only);omega)) ?_
   |refine aZ (i+1,([x]:List ((List UInt8)))) (Sv.aK [0,1,2]) ⟨by have:=(List.getElem?_eq_some_iff.1 hx).1;show i+1<=r.length;omega,Gc hx ho⟩ (by have:=(List.getElem?_eq_some_iff.1 hx).1;show r.length-(i+1)<r.length-i;omega)
   |refine bq ?_
   |(have e:=FX ho (by simp at h;omega)
     subst e
     refine j5 rfl (aa.eU (by repeat' first|exact aa.nil|refine aa.cons (.refl _) ?_|refine aa.cons (.rO _) ?_)))
 |cons z out=>
  repeat'
   (conv=>arg 2;whnf)
   first
   |apply an<;>intro h
   |refine cK (l:=r) (by simp at h;omega) (fun x (hx:r[i]?=some x)=>?_)
   |refine okF (vM x (hl.2 x (List.mem_of_getElem? hx))) ?_
   |refine aT (by have:=(List.getElem?_eq_some_iff.1 hx).1;constructor<;>(simp only[List.length_cons,List.length_nil,List.length_map,maxLen] at oz ⊢;omega)) ?_
   |refine bw (cj (by(try dsimp only);omega) (by have h9:=(List.getElem?_eq_some_iff.1 hx).1;(try dsimp only);omega)) ?_
   |refine aZ (i+1,((z::out)++[(x:(List UInt8))])) (Sv.mk' [0,1,3] rfl ⟨⟨rfl,rfl⟩,⟨rfl,rfl⟩,⟨rfl,by simp;rfl⟩,trivial⟩ ⟨rfl,rfl,rfl,rfl,rfl,rfl,trivial⟩) ⟨by have:=(List.getElem?_eq_some_iff.1 hx).1;show i+1<=r.length;omega,Gc hx ho⟩ (by have:=(List.getElem?_eq_some_iff.1 hx).1;show r.length-(i+1)<r.length-i;omega)
   |refine bq ?_
   |(have e:=FX ho (by simp at h;omega)
     subst e
     refine mE [2,1002] (.inr rfl) rfl (.refl _) rfl)
theorem Da [Wd] (l:List bX) (hs:(dL fX).ok l):aq prog 240 [.list 9 (l.map bI)] (.own 9 (l.map yu)):=by
 have hl:=hs
 have HL:l.length<=4194304:=hl.1
 refine ak 24 [] func240 ?_
 conv=>arg 2;whnf
 refine bE (α:=Nat×List bX) (fun a=>match a.2 with
  |[]=>⟨[(8,.int .i64 a.1),(7,.int .i64 (l.map bI).length),(6,.list 9 (l.map bI)),(3,.nils),(2,.nils)],[]⟩
  |x::k=>⟨[(8,.int .i64 a.1),(7,.int .i64 (l.map bI).length),(6,.list 9 (l.map bI)),(3,.row 0),(2,.nils)],[.row 183 9 ((x::k).map yu)]⟩) (fun a=>a.1<=l.length/\a.2=l.take a.1) (fun a=>l.length-a.1) (0,[]) ⟨Nat.zero_le _,rfl⟩ (Sv.aK []) ?_
 rintro⟨i,out⟩ ⟨hi,ho⟩
 replace hi:i<=l.length:=hi
 replace ho:out=l.take i:=ho
 have oz:out.length=i:=by rw[ho,List.length_take];omega
 cases out with
 |nil=>
  repeat'
   (conv=>arg 2;whnf)
   first
   |apply an<;>intro h
   |refine cK (l:=l) (by simp at h;omega) (fun x (hx:l[i]?=some x)=>?_)
   |refine okF (Qk x.request.op (hl.2 x (List.mem_of_getElem? hx)).1.2.2) ?_
   |refine aT (by have:=(List.getElem?_eq_some_iff.1 hx).1;constructor<;>(simp only[List.length_cons,List.length_nil,maxLen] at oz ⊢;omega)) ?_
   |refine bw (cj (by(try dsimp only);omega) (by have h9:=(List.getElem?_eq_some_iff.1 hx).1;(try dsimp only);omega)) ?_
   |refine aZ (i+1,([x]:List (bX))) (Sv.aK [1]) ⟨by have:=(List.getElem?_eq_some_iff.1 hx).1;show i+1<=l.length;omega,Gc hx ho⟩ (by have:=(List.getElem?_eq_some_iff.1 hx).1;show l.length-(i+1)<l.length-i;omega)
   |refine bq ?_
   |(have e:=FX ho (by simp at h;omega)
     subst e
     refine j5 rfl (.rO _))
 |cons z out=>
  repeat'
   (conv=>arg 2;whnf)
   first
   |apply an<;>intro h
   |refine cK (l:=l) (by simp at h;omega) (fun x (hx:l[i]?=some x)=>?_)
   |refine okF (Qk x.request.op (hl.2 x (List.mem_of_getElem? hx)).1.2.2) ?_
   |refine aT (by have:=(List.getElem?_eq_some_iff.1 hx).1;constructor<;>(simp only[List.length_cons,List.length_nil,List.length_map,maxLen] at oz ⊢;omega)) ?_
   |refine bw (cj (by(try dsimp only);omega) (by have h9:=(List.getElem?_eq_some_iff.1 hx).1;(try dsimp only);omega)) ?_
   |refine aZ (i+1,((z::out)++[(x:bX)])) (Sv.mk' [2] rfl ⟨⟨rfl,by simp;rfl⟩,trivial⟩ ⟨rfl,rfl,rfl,rfl,rfl,trivial⟩) ⟨by have:=(List.getElem?_eq_some_iff.1 hx).1;show i+1<=l.length;omega,Gc hx ho⟩ (by have:=(List.getElem?_eq_some_iff.1 hx).1;show l.length-(i+1)<l.length-i;omega)
   |refine bq ?_
   |(have e:=FX ho (by simp at h;omega)
     subst e
     refine mE [0,1000] (.inr rfl) rfl (.refl _) rfl)
def afb (s:gX):List D:=[.int .i64 s.seq,.int .i64 s.ah,.own 2 (s.cM.map bL)]
theorem wL [Wd] (s:gX) (hs:je.ok s):aq prog 241 [.agg (mj s)] (.agg (afb s)):=by
 refine ak 8 [] func241 ?_
 repeat' (conv=>arg 2;whnf);first|refine okF (Qj s.cM hs.2.2.1) ?_|refine cg
theorem pH [Wd] {P:Program} {Q:Exit->S->Prop} {f:FuncId} {ar bR:List D} {hs hb:List AO} {c:D->List AO->T} {cZ:D->List AO->Prop} (σ:List Nat) (hF:bC P f ar hs cZ) (V:View σ hb hs) (hc:aa bR (D.bO.rl σ ar)) (hM:(σ.all fun o=>(jT hb bR).elem o)=true) (k:∀r kD,cZ r kD->(c (r.bO (mz hb σ hs kD)) (lK hb σ hs kD)).ok P Q):(T.call f bR hb c).ok P Q:=
 ⟨_,hF.aL V hc (fun o ho=>by have:=List.all_eq_true.1 hM o ho;simpa using this),fun r' h' ⟨r0,h0,hp,e3,e4⟩=>by subst e3 e4;exact k r0 h0 hp⟩
theorem BG [Wd] {P:Program} {tb:TT} {rs:List ResultVar} {e:Exit} {s:S} {h:List AO} {r:D} {h':List AO} {ds:List D} {cZ:D->List AO->Prop} (σ:List Nat) (he:e=.normal\/e=.ret) (hr:iD tb s rs=some ds) (hn:nodupB σ=true) (hv:jF s.h σ σ h') (hk:tg 0 h σ h') (iw:Co (lI ds) (r.bO σ)) (hp:cZ r h'):
 (T.leaf e s).ok P (Lf tb rs h cZ):=
 ⟨he,[],ds,by rw[zQ];exact hr,σ,r,_,h',by rw[zQ];exact .mk' hn hv,iw,rfl,fun o t cs h1=>by have:=Bv hk o t cs h1;simpa using this,hp⟩
def Ko (t n:Nat) (xs:List (List D)) (r:D) (h':List AO):Prop:=(xs=[]/\r=.nils/\h'=[])\/(r=.row 0/\h'=[.row t n xs])
theorem Ob [Wd] (l:List cX) (hl:l.length<=4194304):bC prog 242 [.list 8 (l.map bU)] [] (Ko 145 8 (l.map bU)):=by
 refine kK false 8 [] func242 ?_
 repeat' (conv=>arg 2;whnf);first|refine aT (by simp[maxLen];omega) ?_|refine aV ?_ ?_|apply an<;>intro h|exact BG (r:=.nils) (h':=[]) [] (.inr rfl) rfl rfl trivial trivial (.refl _) (.inl ⟨by simpa using h,rfl,rfl⟩)|exact BG (r:=.row 0) (h':=[.row 145 8 (l.map bU)]) [1] (.inr rfl) rfl rfl ⟨⟨rfl,rfl⟩,trivial⟩ trivial (.refl _) (.inr ⟨rfl,rfl⟩)
theorem Jd [Wd] (l:List gq) (hl:l.length<=4194304):bC prog 243 [.list 5 (l.map dV)] [] (Ko 159 5 (l.map dV)):=by
 refine kK false 8 [] func243 ?_
 repeat' (conv=>arg 2;whnf);first|refine aT (by simp[maxLen];omega) ?_|refine aV ?_ ?_|apply an<;>intro h|exact BG (r:=.nils) (h':=[]) [] (.inr rfl) rfl rfl trivial trivial (.refl _) (.inl ⟨by simpa using h,rfl,rfl⟩)|exact BG (r:=.row 0) (h':=[.row 159 5 (l.map dV)]) [1] (.inr rfl) rfl rfl ⟨⟨rfl,rfl⟩,trivial⟩ trivial (.refl _) (.inr ⟨rfl,rfl⟩)
theorem Vt [Wd] (l:List jt) (hl:l.length<=4194304):bC prog 290 [.list 7 (l.map fk)] [] (Ko 190 7 (l.map fk)):=by
 refine kK false 8 [] func290 ?_
 repeat' (conv=>arg 2;whnf);first|refine aT (by simp[maxLen];omega) ?_|refine aV ?_ ?_|apply an<;>intro h|exact BG (r:=.nils) (h':=[]) [] (.inr rfl) rfl rfl trivial trivial (.refl _) (.inl ⟨by simpa using h,rfl,rfl⟩)|exact BG (r:=.row 0) (h':=[.row 190 7 (l.map fk)]) [1] (.inr rfl) rfl rfl ⟨⟨rfl,rfl⟩,trivial⟩ trivial (.refl _) (.inr ⟨rfl,rfl⟩)
section
theorem acK {α β:Type} {l:List α} {f g:α->β} {i:Nat} {x:α} (h:l[i]?=some x):((l.take i).map f++(l.drop i).map g)[i]?=some (g x):=by
 have hl:=(List.getElem?_eq_some_iff.1 h).1
 rw[List.getElem?_append_right (by simp;omega)]
 simp only[List.length_map,List.length_take,Nat.min_eq_left (Nat.le_of_lt hl),Nat.sub_self,List.getElem?_map,List.getElem?_drop,Nat.add_zero,h,Option.map_some]
theorem Du {α β:Type} {l:List α} {f g:α->β} {i:Nat} {x:α} (h:l[i]?=some x):((l.take i).map f++(l.drop i).map g).set i (f x)=(l.take (i+1)).map f++(l.drop (i+1)).map g:=by
 have hl:=(List.getElem?_eq_some_iff.1 h).1
 rw[List.set_append_right _ _ (by simp;omega)]
 simp only[List.length_map,List.length_take,Nat.min_eq_left (Nat.le_of_lt hl),Nat.sub_self]
 rw[List.drop_eq_getElem_cons hl,List.map_cons,List.set_cons_zero,List.take_add_one,h]
 have:l[i]=x:=(List.getElem?_eq_some_iff.1 h).2
 simp
theorem aaV {α β:Type} {l:List α} {f g:α->β} {i:Nat} {x:α} {y:β} (h:l[i]?=some x):(((l.take i).map f++(l.drop i).map g).set i y).set i (f x)=(l.take (i+1)).map f++(l.drop (i+1)).map g:=by
 rw[List.set_set];exact Du h
theorem BH {α β:Type} (l:List α) (f g:α->β) (i:Nat):((l.take i).map f++(l.drop i).map g).length=l.length:=by
 simp only[List.length_append,List.length_map,List.length_take,List.length_drop];omega
theorem zS {α β:Type} {l:List α} {f g:α->β} {i:Nat} (h0:i<=l.length) (h:¬i<l.length):(l.take i).map f++(l.drop i).map g=l.map f:=by
 rw[List.take_of_length_le (by omega),List.drop_of_length_le (by omega)];simp
section
variable [Wd] {P:Program} {Q:Exit->S->Prop}
theorem Dv {α:Type} {l:List α} {f g:α->List D} {i:Nat} {q:Int} {c:List D->T} {x:α} (hx:l[i]?=some x) (hq:q=(i:Int)) (h:(c (g x)).ok P Q):(T.nth ((l.take i).map f++(l.drop i).map g) q c).ok P Q:=by
 subst hq
 exact eT (g x) (by omega) (by rw[Int.toNat_natCast];exact acK hx) h
theorem aaW {xs:List (List D)} {i j:Nat} {q:Int} {c:List D->T} {y:List D} (hj:j=i) (hq:q=(i:Int)) (hi:i<xs.length) (h:(c y).ok P Q):(T.nth (xs.set j y) q c).ok P Q:=by
 subst hq hj
 exact eT y (by omega) (by rw[Int.toNat_natCast,List.getElem?_set_self hi]) h
end
def Fw (s:jt):List D:=[.int .i64 s.view,.int .i64 s.seq,.int .i64 s.ah,.int .i64 s.kG.key,.int .i64 s.kG.ah,.own 2 (s.cM.map bL),.own 9 (s.batch.map yu)]
def nh (s:cX):List D:=[.int .i64 s.view,.int .i64 s.src,.int .i64 s.cert.seq,.int .i64 s.cert.ah,.own 2 (s.cert.cM.map bL),.own 7 (s.cD.map Fw),.int .i64 s.sign.key,.int .i64 s.sign.ah]
def DF (s:gq):List D:=[.int .i64 s.view,.int .i64 s.seq,.own 9 (s.batch.map yu),.int .i64 s.sign.key,.int .i64 s.sign.ah]
theorem EU [Wd] (s:cX) (hs:fP.ok s):aq prog 244 [.agg (bU s)] (.agg (nh s)):=by
 obtain⟨vw,sr,ct,l,sg⟩:=s
 have hl:(dL oC).ok l:=hs.2.2.2.1
 have Nn:je.ok ct:=hs.2.2.1
 clear hs
 have HL:l.length<=4194304:=hl.1
 refine iV 44 [(6,⟨PT.of [(0,false),(1,false),(2,false),(3,false),(4,false),(5,false),(6,false),(7,false),(8,false),(9,true),(10,false),(11,false),(12,true)],[0,1,2,3,1012]⟩),(7,⟨PT.of [(0,false),(1,false),(2,false),(3,false),(4,false),(5,false),(6,false),(7,false),(8,false),(9,true),(10,false),(11,false),(12,true)],[0,1,2,3,1012]⟩)] func244 ?_
 repeat' (conv=>arg 2;whnf);first|refine okF (wL ct Nn) ?_|refine pH [] (Vt l hl.1) (.mk' rfl trivial) (aa.refl _) rfl (fun r kD hp=>?_)
 rcases hp with⟨e,rfl,rfl⟩|⟨rfl,rfl⟩
 ·replace e:l=[]:=List.map_eq_nil_iff.1 e
  subst e
  conv=>arg 2;whnf
  refine bE (α:=Unit) (fun a=>⟨[(15,.int .i64 0),(14,.int .i64 0),(2,.ptr 1 0),(1,.ptr 0 0)],[.cells 145 [.int .i64 vw,.int .i64 sr,.int .i64 ct.seq,.int .i64 ct.ah,.own 2 (ct.cM.map bL),.nils,.int .i64 sg.key,.int .i64 sg.ah],.cells 145 [.int .i64 0,.int .i64 0,.int .i64 0,.int .i64 0,.nils,.nils,.int .i64 0,.int .i64 0]]⟩) (fun a=>True) (fun a=>0) () trivial (Sv.aK [0,1]) ?_
  rintro a-
  repeat' (conv=>arg 2;whnf);first|refine bq ?_|refine j5 rfl (aa.eU (by repeat' first|exact aa.nil|refine aa.cons (.refl _) ?_|refine aa.cons (.rO _) ?_))
 ·conv=>arg 2;whnf
  refine bE (α:=Nat) (fun i=>⟨[(15,.int .i64 i),(14,.int .i64 (l.map fk).length),(2,.ptr 1 0),(1,.ptr 0 0)],[.cells 145 [.int .i64 vw,.int .i64 sr,.int .i64 ct.seq,.int .i64 ct.ah,.own 2 (ct.cM.map bL),.row 2,.int .i64 sg.key,.int .i64 sg.ah],.cells 145 [.int .i64 0,.int .i64 0,.int .i64 0,.int .i64 0,.nils,.nils,.int .i64 0,.int .i64 0],.row 190 7 ((l.take i).map Fw++(l.drop i).map fk)]⟩) (fun i=>i<=l.length) (fun i=>l.length-i) 0 (Nat.zero_le _) (Sv.aK [0,1,2]) ?_
  intro i (hi:i<=l.length)
  conv=>arg 2;whnf
  apply an<;>intro h
  ·obtain⟨x,hx⟩:∃x,l[i]?=some x:=⟨_,List.getElem?_eq_getElem (by simpa using h)⟩
   have h9:=(List.getElem?_eq_some_iff.1 hx).1
   repeat' (conv=>arg 2;whnf);first|refine aY ?_|refine aT (by simp only[List.length_set,BH];omega) ?_|refine Dv hx rfl ?_|refine aaW rfl rfl (by rw[BH];exact h9) ?_|refine okF (Qj x.cM (hl.2 x (List.mem_of_getElem? hx)).2.2.2.2.1.1) ?_|refine okF (Da x.batch (hl.2 x (List.mem_of_getElem? hx)).2.2.2.2.2) ?_|refine bZ (by(try dsimp only);omega) ?_|refine aZ (i+1) (Sv.mk' [0,1,2] rfl ⟨⟨rfl,rfl⟩,⟨rfl,rfl⟩,⟨rfl,congrArg (AO.row 190 7) (aaV hx)⟩,trivial⟩ ⟨rfl,rfl,rfl,rfl,trivial⟩) (by show i+1<=l.length;omega) (by show l.length-(i+1)<l.length-i;omega)
  ·rw[zS hi (by simpa using h)]
   repeat' (conv=>arg 2;whnf);first|refine bq ?_|refine mE [2,1002] (.inr rfl) rfl (.refl _) rfl
def wv (s:aD):List D:=[.int .i64 s.kind,.int .i64 s.src,.int .i64 s.view,.int .i64 s.seq,.int .i64 s.ah,.int .i64 s.bD,.int .i64 s.time,.int .i64 s.result.err,.int .i64 s.result.offset,.own 9 (s.batch.map yu),.int .i64 s.cert.seq,.int .i64 s.cert.ah,.own 2 (s.cert.cM.map bL),.own 8 (s.changes.map nh),.own 5 (s.entries.map DF),.own 1 (s.state.map af),.str s.av,.int .i64 s.offset,.str s.proof.av,.int .i64 s.proof.offset,.own 1 (s.proof.record.map af),.own 5 (s.proof.headers.map eO),.int .i64 s.proof.index,.int .i64 s.proof.count,.own 1 (s.proof.path.map eD),.int .i64 s.proof.cert.seq,.int .i64 s.proof.cert.ah,.own 2 (s.proof.cert.cM.map bL),.int .i64 s.sign.key,.int .i64 s.sign.ah]
def tK (s:aD) (c e:D):List D:=[.int .i64 s.kind,.int .i64 s.src,.int .i64 s.view,.int .i64 s.seq,.int .i64 s.ah,.int .i64 s.bD,.int .i64 s.time,.int .i64 s.result.err,.int .i64 s.result.offset,.own 9 (s.batch.map yu),.int .i64 s.cert.seq,.int .i64 s.cert.ah,.own 2 (s.cert.cM.map bL),c,e,.own 1 (s.state.map af),.str s.av,.int .i64 s.offset,.str s.proof.av,.int .i64 s.proof.offset,.list 1 (s.proof.record.map af),.list 5 (s.proof.headers.map eO),.int .i64 s.proof.index,.int .i64 s.proof.count,.list 1 (s.proof.path.map eD),.int .i64 s.proof.cert.seq,.int .i64 s.proof.cert.ah,.list 2 (s.proof.cert.cM.map bL),.int .i64 s.sign.key,.int .i64 s.sign.ah]
def tq:List D:=[.int .i64 0,.int .i64 0,.int .i64 0,.int .i64 0,.int .i64 0,.int .i64 0,.int .i64 0,.int .i64 0,.int .i64 0,.nils,.int .i64 0,.int .i64 0,.nils,.nils,.nils,.nils,.str [],.int .i64 0,.str [],.int .i64 0,.nils,.nils,.int .i64 0,.int .i64 0,.nils,.int .i64 0,.int .i64 0,.nils,.int .i64 0,.int .i64 0]
theorem ZQ [Wd] (s:aD) (hs:bh.ok s):aq prog 178 [.agg (aC s)] (.agg (wv s)):=by
 have hb:(dL fX).ok s.batch:=hs.2.2.2.2.2.2.2.2.1
 have Nn:je.ok s.cert:=hs.2.2.2.2.2.2.2.2.2.1
 have Hl:(dL fP).ok s.changes:=hs.2.2.2.2.2.2.2.2.2.2.1
 have Ed:(dL jx).ok s.entries:=hs.2.2.2.2.2.2.2.2.2.2.2.1
 have vu:s.state.length<=4194304:=hs.2.2.2.2.2.2.2.2.2.2.2.2.1
 have pg:jY.ok s.proof:=hs.2.2.2.2.2.2.2.2.2.2.2.2.2.2.2.1
 clear hs
 have HC:s.changes.length<=4194304:=Hl.1
 have HE:s.entries.length<=4194304:=Ed.1
 refine iV 86 [(1,⟨PT.of [(0,false),(1,false),(3,false),(4,false),(6,false),(7,false),(2,true),(9,false),(5,true),(8,true),(10,true),(11,false),(12,true),(13,false),(14,true)],[0,1,2,3,1010,1012,1014]⟩),(2,⟨PT.of [(0,false),(1,false),(3,false),(4,false),(2,true),(6,false),(5,true),(7,true),(8,false),(9,true)],[0,1,2,3,1007,1009]⟩),(6,⟨PT.of [(0,false),(1,false),(2,false),(3,false),(4,false),(5,false),(6,false),(7,false),(8,true),(9,false),(10,true)],[0,1,2,3,1010]⟩),(11,⟨PT.of [(0,false),(1,false),(2,false),(3,false),(4,false),(5,false),(6,false),(7,false),(8,false),(9,true),(10,false),(11,false),(12,true)],[0,1,2,3,1012]⟩),(13,⟨PT.of [(0,false),(1,false),(2,false),(4,false),(5,false),(6,false),(8,false),(9,false),(10,false),(3,true),(12,false),(13,false),(7,true),(11,true),(14,true),(15,false),(16,false),(17,true),(18,false),(19,false),(20,true)],[0,1,2,3,1014,1017,1020]⟩)] func178 ?_
 repeat' (conv=>arg 2;whnf);first|refine aY ?_|refine okF (Da s.batch hb) ?_|refine okF (wL s.cert Nn) ?_|refine okF (vM s.state vu) ?_|refine pH [] (Ob s.changes Hl.1) (.mk' rfl trivial) (aa.refl _) rfl (fun r kD hp=>?_)
 rcases hp with⟨Cz,rfl,rfl⟩|⟨rfl,rfl⟩
 ·skip
  repeat' (conv=>arg 2;whnf);first|refine pH [] (Jd s.entries Ed.1) (.mk' rfl trivial) (aa.refl _) rfl (fun r kD hp=>?_)
  rcases hp with⟨Hx,rfl,rfl⟩|⟨rfl,rfl⟩
  ·repeat'
    (conv=>arg 2;whnf)
    first|refine aY ?_|refine aV ?_ ?_
   conv=>arg 2;whnf
   refine bE (α:=Unit) (fun a=>⟨[(28,.int .i64 0),(27,.int .i64 0),(2,.ptr 1 0),(1,.ptr 0 0)],[.cells 59 (tK s (.nils) (.nils)),.cells 59 tq]⟩) (fun a=>True) (fun a=>0) () trivial (Sv.aK [0,1]) ?_
   rintro a-
   ·skip
    repeat' (conv=>arg 2;whnf);first|refine bq ?_
    conv=>arg 2;whnf
    refine bE (α:=Unit) (fun a=>⟨[(45,.int .i64 0),(44,.int .i64 0),(2,.ptr 1 0),(1,.ptr 0 0)],[.cells 59 (tK s (.nils) (.nils)),.cells 59 tq]⟩) (fun a=>True) (fun a=>0) () trivial (Sv.aK [0,1]) ?_
    rintro a-
    ·skip
     repeat' (conv=>arg 2;whnf);first|refine aY ?_|refine okF (vM s.proof.record pg.2.2.1) ?_|refine okF (Bf s.proof.headers pg.2.2.2.1.1) ?_|refine okF (Bg s.proof.path pg.2.2.2.2.2.2.1.1) ?_|refine okF (wL s.proof.cert pg.2.2.2.2.2.2.2) ?_|refine mE [] (.inr rfl) rfl (aa.eU (by unfold wv;rw[List.map_eq_nil_iff.1 Hx];rw[List.map_eq_nil_iff.1 Cz];repeat' first|exact aa.nil|refine aa.cons (.refl _) ?_|refine aa.cons (.rO _) ?_)) rfl
  ·repeat'
    (conv=>arg 2;whnf)
    first|refine aY ?_|refine aV ?_ ?_
   conv=>arg 2;whnf
   refine bE (α:=Unit) (fun a=>⟨[(28,.int .i64 0),(27,.int .i64 0),(2,.ptr 1 0),(1,.ptr 0 0)],[.cells 59 (tK s (.nils) (.row 2)),.cells 59 tq,.row 159 5 (s.entries.map dV)]⟩) (fun a=>True) (fun a=>0) () trivial (Sv.aK [0,1,2]) ?_
   rintro a-
   ·skip
    repeat' (conv=>arg 2;whnf);first|refine bq ?_
    conv=>arg 2;whnf
    refine bE (α:=Nat) (fun i=>⟨[(45,.int .i64 i),(44,.int .i64 (s.entries.map dV).length),(2,.ptr 1 0),(1,.ptr 0 0)],[.cells 59 (tK s (.nils) (.row 2)),.cells 59 tq,.row 159 5 ((s.entries.take i).map DF++(s.entries.drop i).map dV)]⟩) (fun i=>i<=s.entries.length) (fun i=>s.entries.length-i) 0 (Nat.zero_le _) (Sv.aK [0,1,2]) ?_
    intro i (hi:i<=s.entries.length)
    conv=>arg 2;whnf
    apply an<;>intro h
    ·obtain⟨x,hx⟩:∃x,s.entries[i]?=some x:=⟨_,List.getElem?_eq_getElem (by simpa using h)⟩
     have h9:=(List.getElem?_eq_some_iff.1 hx).1
     repeat' (conv=>arg 2;whnf);first|refine aY ?_|refine aT (by simp only[BH];omega) ?_|refine Dv hx rfl ?_|refine okF (Da x.batch (Ed.2 x (List.mem_of_getElem? hx)).2.2.1) ?_|refine bZ (by(try dsimp only);omega) ?_|refine aZ (i+1) (Sv.mk' [0,1,2] rfl ⟨⟨rfl,rfl⟩,⟨rfl,rfl⟩,⟨rfl,congrArg (AO.row 159 5) (Du hx)⟩,trivial⟩ ⟨rfl,rfl,rfl,rfl,trivial⟩) (by show i+1<=s.entries.length;omega) (by show s.entries.length-(i+1)<s.entries.length-i;omega)
    ·rw[zS hi (by simpa using h)]
     repeat' (conv=>arg 2;whnf);first|refine aY ?_|refine okF (vM s.proof.record pg.2.2.1) ?_|refine okF (Bf s.proof.headers pg.2.2.2.1.1) ?_|refine okF (Bg s.proof.path pg.2.2.2.2.2.2.1.1) ?_|refine okF (wL s.proof.cert pg.2.2.2.2.2.2.2) ?_|refine mE [2,1002] (.inr rfl) rfl (aa.eU (by unfold wv;rw[List.map_eq_nil_iff.1 Cz];repeat' first|exact aa.nil|refine aa.cons (.refl _) ?_|refine aa.cons (.rO _) ?_)) rfl
 ·skip
  repeat' (conv=>arg 2;whnf);first|refine pH [] (Jd s.entries Ed.1) (.mk' rfl trivial) (aa.refl _) rfl (fun r kD hp=>?_)
  rcases hp with⟨Hx,rfl,rfl⟩|⟨rfl,rfl⟩
  ·repeat'
    (conv=>arg 2;whnf)
    first|refine aY ?_|refine aV ?_ ?_
   conv=>arg 2;whnf
   refine bE (α:=Nat) (fun i=>⟨[(28,.int .i64 i),(27,.int .i64 (s.changes.map bU).length),(2,.ptr 1 0),(1,.ptr 0 0)],[.cells 59 (tK s (.row 2) (.nils)),.cells 59 tq,.row 145 8 ((s.changes.take i).map nh++(s.changes.drop i).map bU)]⟩) (fun i=>i<=s.changes.length) (fun i=>s.changes.length-i) 0 (Nat.zero_le _) (Sv.aK [0,1,2]) ?_
   intro i (hi:i<=s.changes.length)
   conv=>arg 2;whnf
   apply an<;>intro h
   ·obtain⟨x,hx⟩:∃x,s.changes[i]?=some x:=⟨_,List.getElem?_eq_getElem (by simpa using h)⟩
    have h9:=(List.getElem?_eq_some_iff.1 hx).1
    repeat' (conv=>arg 2;whnf);first|refine aY ?_|refine aT (by simp only[BH];omega) ?_|refine Dv hx rfl ?_|refine okF (EU x (Hl.2 x (List.mem_of_getElem? hx))) ?_|refine bZ (by(try dsimp only);omega) ?_|refine aZ (i+1) (Sv.mk' [0,1,2] rfl ⟨⟨rfl,rfl⟩,⟨rfl,rfl⟩,⟨rfl,congrArg (AO.row 145 8) (Du hx)⟩,trivial⟩ ⟨rfl,rfl,rfl,rfl,trivial⟩) (by show i+1<=s.changes.length;omega) (by show s.changes.length-(i+1)<s.changes.length-i;omega)
   ·rw[zS hi (by simpa using h)]
    repeat' (conv=>arg 2;whnf);first|refine bq ?_
    conv=>arg 2;whnf
    refine bE (α:=Unit) (fun a=>⟨[(45,.int .i64 0),(44,.int .i64 0),(2,.ptr 1 0),(1,.ptr 0 0)],[.cells 59 (tK s (.row 2) (.nils)),.cells 59 tq,.row 145 8 (s.changes.map nh)]⟩) (fun a=>True) (fun a=>0) () trivial (Sv.aK [0,1,2]) ?_
    rintro a-
    ·skip
     repeat' (conv=>arg 2;whnf);first|refine aY ?_|refine okF (vM s.proof.record pg.2.2.1) ?_|refine okF (Bf s.proof.headers pg.2.2.2.1.1) ?_|refine okF (Bg s.proof.path pg.2.2.2.2.2.2.1.1) ?_|refine okF (wL s.proof.cert pg.2.2.2.2.2.2.2) ?_|refine mE [2,1002] (.inr rfl) rfl (aa.eU (by unfold wv;rw[List.map_eq_nil_iff.1 Hx];repeat' first|exact aa.nil|refine aa.cons (.refl _) ?_|refine aa.cons (.rO _) ?_)) rfl
  ·repeat'
    (conv=>arg 2;whnf)
    first|refine aY ?_|refine aV ?_ ?_
   conv=>arg 2;whnf
   refine bE (α:=Nat) (fun i=>⟨[(28,.int .i64 i),(27,.int .i64 (s.changes.map bU).length),(2,.ptr 1 0),(1,.ptr 0 0)],[.cells 59 (tK s (.row 2) (.row 3)),.cells 59 tq,.row 145 8 ((s.changes.take i).map nh++(s.changes.drop i).map bU),.row 159 5 (s.entries.map dV)]⟩) (fun i=>i<=s.changes.length) (fun i=>s.changes.length-i) 0 (Nat.zero_le _) (Sv.aK [0,1,2,3]) ?_
   intro i (hi:i<=s.changes.length)
   conv=>arg 2;whnf
   apply an<;>intro h
   ·obtain⟨x,hx⟩:∃x,s.changes[i]?=some x:=⟨_,List.getElem?_eq_getElem (by simpa using h)⟩
    have h9:=(List.getElem?_eq_some_iff.1 hx).1
    repeat' (conv=>arg 2;whnf);first|refine aY ?_|refine aT (by simp only[BH];omega) ?_|refine Dv hx rfl ?_|refine okF (EU x (Hl.2 x (List.mem_of_getElem? hx))) ?_|refine bZ (by(try dsimp only);omega) ?_|refine aZ (i+1) (Sv.mk' [0,1,2,3] rfl ⟨⟨rfl,rfl⟩,⟨rfl,rfl⟩,⟨rfl,congrArg (AO.row 145 8) (Du hx)⟩,⟨rfl,rfl⟩,trivial⟩ ⟨rfl,rfl,rfl,rfl,trivial⟩) (by show i+1<=s.changes.length;omega) (by show s.changes.length-(i+1)<s.changes.length-i;omega)
   ·rw[zS hi (by simpa using h)]
    repeat' (conv=>arg 2;whnf);first|refine bq ?_
    conv=>arg 2;whnf
    refine bE (α:=Nat) (fun i=>⟨[(45,.int .i64 i),(44,.int .i64 (s.entries.map dV).length),(2,.ptr 1 0),(1,.ptr 0 0)],[.cells 59 (tK s (.row 2) (.row 3)),.cells 59 tq,.row 145 8 (s.changes.map nh),.row 159 5 ((s.entries.take i).map DF++(s.entries.drop i).map dV)]⟩) (fun i=>i<=s.entries.length) (fun i=>s.entries.length-i) 0 (Nat.zero_le _) (Sv.aK [0,1,2,3]) ?_
    intro i (hi:i<=s.entries.length)
    conv=>arg 2;whnf
    apply an<;>intro h
    ·obtain⟨x,hx⟩:∃x,s.entries[i]?=some x:=⟨_,List.getElem?_eq_getElem (by simpa using h)⟩
     have h9:=(List.getElem?_eq_some_iff.1 hx).1
     repeat' (conv=>arg 2;whnf);first|refine aY ?_|refine aT (by simp only[BH];omega) ?_|refine Dv hx rfl ?_|refine okF (Da x.batch (Ed.2 x (List.mem_of_getElem? hx)).2.2.1) ?_|refine bZ (by(try dsimp only);omega) ?_|refine aZ (i+1) (Sv.mk' [0,1,2,3] rfl ⟨⟨rfl,rfl⟩,⟨rfl,rfl⟩,⟨rfl,rfl⟩,⟨rfl,congrArg (AO.row 159 5) (Du hx)⟩,trivial⟩ ⟨rfl,rfl,rfl,rfl,trivial⟩) (by show i+1<=s.entries.length;omega) (by show s.entries.length-(i+1)<s.entries.length-i;omega)
    ·rw[zS hi (by simpa using h)]
     repeat' (conv=>arg 2;whnf);first|refine aY ?_|refine okF (vM s.proof.record pg.2.2.1) ?_|refine okF (Bf s.proof.headers pg.2.2.2.1.1) ?_|refine okF (Bg s.proof.path pg.2.2.2.2.2.2.1.1) ?_|refine okF (wL s.proof.cert pg.2.2.2.2.2.2.2) ?_|refine mE [2,1002,3,1003] (.inr rfl) rfl (.refl _) rfl
end
theorem J9 [Wd]:gz 119 (.ptr 0 0) [] (fun s=>.agg (cC (eF s).1)) (fun s=>(eF s).2):=by
 rintro⟨b,e⟩ hs
 replace hs:b.length<=8388609:=hs
 obtain⟨k,b0,e0,q,l⟩:=Rd1.get (dD 4) (b,e)
 replace l:b0.length<=b.length:=l
 have h0:b0.length<=8388609:=by omega
 have hk:=qN q
 have:k=0\/k=1\/k=2\/k=3\/k=4:=by omega
 rcases this with rfl|rfl|rfl|rfl|rfl
 ·exact aaB b e hs q h0
 ·exact aaC b e hs q h0
 ·exact aaF b e hs q h0
 ·exact aaD b e hs q h0
 ·exact aaE b e hs q h0
theorem U0 [Wd]:gz 230 (.ptr 0 0) [] (fun s=>.agg (wV (rz s).1)) (fun s=>(rz s).2):=by
 rintro⟨b,e⟩ hs
 replace hs:b.length<=8388609:=hs
 obtain⟨x,b0,e0,q0,l0⟩:=Rd1.get (dD 65536) (b,e)
 replace l0:b0.length<=b.length:=l0
 have h0:b0.length<=8388609:=by omega
 obtain⟨y,b1,e1,q1,l1⟩:=Rd1.get (dD MX) (b0,e0)
 replace l1:b1.length<=b0.length:=l1
 have h1:b1.length<=8388609:=by omega
 have n0:=qN q0
 have n1:=qN q1
 rw[yK] at n1
 have eR:rz (b,e)=if e1=0 then(⟨x,y⟩,(b1,e1)) else(me,(b1,e1)):=by unfold rz jR bN bg cN;simp only[q0,q1]
 have gY:e1=0->rz (b,e)=(⟨x,y⟩,(b1,e1)):=fun h=>by rw[eR,if_pos h]
 have gN:¬e1=0->rz (b,e)=(me,(b1,e1)):=fun h=>by rw[eR,if_neg h]
 refine ak 17 [] func230 ?_
 repeat' (conv=>arg 2;whnf);first|refine rJ (fun h=>?_) (fun h=>?_)|refine gJ ?_|refine aX 0 (fun x=>D.int .u64 x) q0 (gF 65536) hs ?_|refine aX 0 (fun x=>D.int .u64 x) q1 (gF MX) h0 ?_|refine cE 0 (b1,e1) (b1,e1) (.int .i64 e1) fY h1 rfl rfl ?_|refine cU (k:=fun x=>D.agg (wV x)) rfl (gY h) (.refl _)|refine cU (k:=fun x=>D.agg (wV x)) rfl (gN h) (.refl _)
theorem aaG [Wd] (bs:List UInt8) (hl:bs.length<=8388609):aq prog 314 [.list 1 (bs.map af)] (.aj [.agg (sw (jm bs).1),.int .i64 (jm bs).2]):=by
 obtain⟨b,hb⟩:∃b,b=bs:=⟨_,rfl⟩
 obtain⟨e,he⟩:∃e:Int,e=0:=⟨_,rfl⟩
 have hs:b.length<=8388609:=by rw[hb];exact hl
 obtain⟨c,b0,e0,q0,l0⟩:=Rd1.get (dD 7) (b,e)
 replace l0:b0.length<=b.length:=l0
 have h0:b0.length<=8388609:=by omega
 obtain⟨t,b1,e1,q1,l1⟩:=Rd1.get (dD MX) (b0,e0)
 replace l1:b1.length<=b0.length:=l1
 have h1:b1.length<=8388609:=by omega
 obtain⟨o,b2,e2,q2,l2⟩:=Rd1.get DE (b1,e1)
 replace l2:b2.length<=b1.length:=l2
 have h2:b2.length<=8388609:=by omega
 subst hb he
 have n0:=qN q0
 have n1:=qN q1
 rw[yK] at n1
 obtain⟨d,hd⟩:∃d,d=dA (b2,e2):=⟨_,rfl⟩
 have eR:jm b=if d=0 then(if t=0 then(wu,80) else(⟨c,t,o⟩,0)) else(wu,d):=by unfold jm vL bN bg cN;simp only[q0,q1,q2,<-hd]
 have gD:¬d=0->jm b=(wu,d):=fun h=>by rw[eR,if_neg h]
 have gT:d=0->t=0->jm b=(wu,80):=fun h k=>by rw[eR,if_pos h,if_pos k]
 have gY:d=0->¬t=0->jm b=(⟨c,t,o⟩,0):=fun h k=>by rw[eR,if_pos h,if_neg k]
 refine ak 31 [] func314 ?_
 repeat' (conv=>arg 2;whnf);first|refine rJ (fun h=>?_) (fun h=>?_)|refine xx (fun k=>?_) (fun k=>?_)|refine gJ ?_|refine aX 1 (fun x=>D.int .u64 x) q0 (gF 7) hs ?_|refine aX 1 (fun x=>D.int .u64 x) q1 (gF MX) h0 ?_|refine aX 1 (fun x=>D.agg (cC x)) q2 J9 h1 ?_|refine cV [] (zC b (by omega)) ?_|refine cE 1 (b2,e2) (b2,e2) (.int .i64 d) Bt h2 rfl (by rw[hd]) ?_|(rw[gY h k];refine cg)|(rw[gT h k];refine qB (.inr rfl) rfl (aa.oO (aa.cons (aa.eU (aa.cons (.refl _) (aa.cons (.refl _) (aa.cons (.refl _) (aa.cons (.refl _) (aa.cons (.refl _) (aa.cons (.refl _) (aa.cons (.nil _) .nil)))))))) (aa.cons (.refl _) .nil))) rfl)|(rw[gD h];refine qB (.inr rfl) rfl (aa.oO (aa.cons (aa.eU (aa.cons (.refl _) (aa.cons (.refl _) (aa.cons (.refl _) (aa.cons (.refl _) (aa.cons (.refl _) (aa.cons (.refl _) (aa.cons (.nil _) .nil)))))))) (aa.cons (.refl _) .nil))) rfl)
theorem Rm {α:Type} {p:RS->α×RS} {m:Nat} {b:List UInt8} {s2:RS} {x:α} (h:p (b,0)=(x,s2)):aP p (m+1) (b,0)=(x::(aP p m s2).1,(aP p m s2).2):=by
 conv=>lhs;unfold aP
 rw[if_pos rfl,h]
theorem acI {α:Type} {p:RS->α×RS} {m:Nat} {b:List UInt8} {s2:RS} {x:α} (h:p (b,0)=(x,s2)) (hb:¬s2.2=0):aP p (m+1) (b,0)=([x],s2):=by
 rw[Rm h,vJ _ _ _ hb]
theorem Sq [Wd] {P:Program} {Q:Exit->S->Prop} {a b:Nat} {t f:T} (h1:a<b->t.ok P Q) (h2:b<=a->f.ok P Q):(bT (decide ((a:Int)<(b:Int))) t f).ok P Q:=an (fun h=>h1 (by simpa using h)) (fun h=>h2 (by simpa using h))
theorem Vq [Wd]:gz 278 (.ptr 0 0) [] (fun s=>.list 9 ((jZ s).1.map bI)) (fun s=>(jZ s).2):=by
 rintro⟨b,e⟩ hs
 replace hs:b.length<=8388609:=hs
 obtain⟨n,b0,e0,qn,hn,l0⟩:=wR 4 (b,e)
 replace l0:b0.length<=b.length:=l0
 have h0:b0.length<=8388609:=by omega
 have q0:nR 4 (b,e)=((n:Int),(b0,e0)):=by unfold nR;rw[qn]
 obtain⟨rs,b3,e3,q3,l3⟩:=Rd1.get (uB oB n) (b0,e0)
 replace l3:b3.length<=b0.length:=l3
 have h3:b3.length<=8388609:=by omega
 obtain⟨ef,jV⟩:∃ef:Int,fF (fA rs) (b3,e3)=(b3,ef):=⟨(fF (fA rs) (b3,e3)).2,Prod.ext (wS _ _) rfl⟩
 have eR:jZ (b,e)=if ef=0 then(rs,(b3,ef)) else([],(b3,ef)):=by
  unfold jZ jR fZ bN cN
  simp only[q0,Int.toNat_natCast,q3,jV]
 have fN:e3=0->(dL fX).ok rs:=fun he=>by
  have h:=(RT Ok n).CN q3 he
  exact⟨by rw[h.1];omega,fun x hx=>⟨Sj (h.2 x hx).1,Ab (h.2 x hx).2⟩⟩
 have fu:¬e3=0->ef=e3:=fun he=>by
  have:=jV
  rw[wU _ he] at this
  exact(congrArg (fun r:RS=>r.2) this).symm
 have gY:ef=0->jZ (b,e)=(rs,(b3,ef)):=fun h=>by rw[eR,if_pos h]
 have gN:¬ef=0->jZ (b,e)=([],(b3,ef)):=fun h=>by rw[eR,if_neg h]
 have gE:¬e3=0->jZ (b,e)=([],(b3,e3)):=fun h=>by rw[eR,fu h,if_neg h]
 refine ak 43 [(9,⟨[(0,false),(1,false),(2,false),(3,true),(4,false),(5,true),(6,true),(7,false)],[0,1]⟩)] func278 ?_
 repeat' (conv=>arg 2;whnf);first|refine aX 0 (fun x=>D.int .u64 x) q0 (gF 4) hs ?_
 conv=>arg 2;whnf
 refine bE (α:=Nat×RS×List bX) (fun a=>match a.2.2 with
  |[]=>⟨[(9,.int .u64 a.1),(8,.int .u64 (n:Int)),(3,.nils),(2,.nils),(0,.ptr 0 0)],[.cells 235 [.list 1 (a.2.1.1.map af),.int .i64 a.2.1.2,.bool true]]⟩
  |x::l=>⟨[(9,.int .u64 a.1),(8,.int .u64 (n:Int)),(3,.row 1),(2,.nils),(0,.ptr 0 0)],[.cells 235 [.list 1 (a.2.1.1.map af),.int .i64 a.2.1.2,.bool true],.row 183 9 ((x::l).map bI)]⟩) (fun a=>a.1<=n/\a.2.1.1.length<=8388609/\a.2.2.length=a.1/\(rs,(b3,e3))=(a.2.2++(aP jj (n-a.1) a.2.1).1,(aP jj (n-a.1) a.2.1).2)) (fun a=>n-a.1) (0,(b0,e0),[]) ⟨Nat.zero_le _,h0,rfl,q3.symm⟩ (Sv.aK [0]) ?_
 rintro⟨i,⟨bb,ee⟩,out⟩ ⟨hi,hl,oz,hg⟩
 replace hi:i<=n:=hi
 replace hl:bb.length<=8388609:=hl
 replace oz:out.length=i:=oz
 replace hg:(rs,(b3,e3))=(out++(aP jj (n-i) (bb,ee)).1,(aP jj (n-i) (bb,ee)).2):=hg
 obtain⟨x,b1,e1,q1,l1⟩:=Rd1.get (iB 1024) (bb,ee)
 replace l1:b1.length<=bb.length:=l1
 have h1:b1.length<=8388609:=by omega
 have nC:=zM q1
 obtain⟨y,k,qk⟩:∃(y:ju) (k:Int),jm x=(y,k):=⟨_,_,rfl⟩
 have qp:aq prog 314 [.list 1 (x.map af)] (.aj [.agg (sw y),.int .i64 k]):=by
  have:=aaG x (by omega)
  rw[qk] at this
  exact this
 obtain⟨sg,b2,e2,q2,l2⟩:=Rd1.get eM (b1,k)
 replace l2:b2.length<=b1.length:=l2
 have h2:b2.length<=8388609:=by omega
 have afa:e1=0->ee=0:=fun h=>by
  have:=(iB 1024).ok (s:=(bb,ee)) (by rw[q1];exact h)
  exact congrArg Prod.snd this
 have qs:e1=0->jj (bb,ee)=(⟨y,sg⟩,(b2,e2)):=fun h=>by
  rw[h] at q1
  unfold jj bN bg cN fZ
  simp only[q1,qk,aaA,q2]
 have lG:i<n->e1=0->(rs,(b3,e3))=((out++[⟨y,sg⟩])++(aP jj (n-(i+1)) (b2,e2)).1,(aP jj (n-(i+1)) (b2,e2)).2):=fun hlt h=>by
  have e:n-i=(n-(i+1))+1:=by omega
  have hs:=qs h
  rw[afa h] at hs hg
  rw[e,Rm hs] at hg
  rw[hg]
  simp
 have tJ:i<n->¬e1=0->jZ (b,e)=([],(b1,e1)):=fun hlt h=>by
  have e':n-i=(n-(i+1))+1:=by omega
  have key:b3=b1/\e3=e1:=by
   by_cases he:ee=0
   ·have hs:(jj (bb,ee)).2=(b1,e1):=by
     unfold jj bN bg cN fZ
     simp only[q1,wU _ h]
     have h1:(cO (b1,e1)).2=(b1,e1):=by
      rw[FN]
      unfold jR fZ bN bg cN nR
      simp only[Bl 20 (b1,e1) h,Bl MX (b1,e1) h,wU _ h,if_neg h]
     exact h1
    have kD:jj (bb,0)=((jj (bb,ee)).1,(b1,e1)):=by rw[<-hs,he]
    rw[e',he,acI kD h] at hg
    have:=congrArg (fun r:List bX×RS=>r.2) hg
    exact⟨congrArg Prod.fst this,congrArg Prod.snd this⟩
   ·rw[vJ _ _ _ he] at hg
    have:=congrArg (fun r:List bX×RS=>r.2) hg
    have hq:fB 1024 (bb,ee)=([],(bb,ee)):=by
     unfold fB
     rw[Bl 1024 (bb,ee) he]
     exact Oj _ (bb,ee) he
    rw[hq] at q1
    have g2:=congrArg (fun r:List UInt8×RS=>r.2) q1
    exact⟨(congrArg Prod.fst this).trans (congrArg Prod.fst g2),(congrArg Prod.snd this).trans (congrArg Prod.snd g2)⟩
  obtain⟨k1,k2⟩:=key
  subst k1 k2
  exact gE h
 have iq:n<=i->rs=out/\b3=bb/\e3=ee:=fun h=>by
  rw[show n-i=0 by omega] at hg
  have hg:(rs,(b3,e3))=(out++[],(bb,ee)):=hg
  rw[List.append_nil] at hg
  cases hg
  exact⟨rfl,rfl,rfl⟩
 cases out with
 |nil=>
  conv=>arg 2;whnf
  refine Sq (fun hlt=>?_) (fun dm=>?_)
  ·replace hlt:i<n:=hlt
   repeat' (conv=>arg 2;whnf);first|refine aX 0 (fun x=>D.list 1 (List.map af x)) q1 (Fe 1024 (by decide)) hl ?_|refine cE 0 (b1,e1) (b1,e1) (.int .i64 e1) fY h1 rfl rfl ?_|refine okF qp ?_|refine cE 0 (b1,e1) (b1,k) (.aj []) (mJ k) h1 (by rw[h];rfl) rfl ?_|refine aX 0 (fun x=>D.agg (bL x)) q2 It h1 ?_|refine rJ (fun h=>?_) (fun h=>?_)|refine aT (by constructor<;>(simp only[List.length_cons,List.length_nil];decide)) ?_|refine bw (G0 (by show 0<=(i:Int)+1;omega) (by show(i:Int)+1<_;omega)) ?_|refine aZ (i+1,(b2,e2),[⟨y,sg⟩]) (Sv.aK [0,6]) ⟨hlt,h2,by show([⟨y,sg⟩]).length=i+1;simp at oz ⊢;omega,lG hlt h⟩ (by show n-(i+1)<n-i;omega)|refine eG ?_|refine cU (k:=fun x=>D.list 9 (List.map bI x)) rfl (tJ hlt h) (.nil _)
  ·obtain⟨er,eb,A7⟩:=iq dm
   subst er eb A7
   repeat' (conv=>arg 2;whnf);first|refine xx (fun h=>?_) (fun hz=>?_)|refine rJ (fun h=>?_) (fun h=>?_)|refine bq ?_|refine cE 0 (b3,e3) (b3,e3) (.int .i64 e3) fY h3 rfl rfl ?_|refine iQ (C7 [] (fN h)) rfl (aa.cons (.nil _) .nil) ?_|refine cE 0 (b3,e3) (b3,ef) (.aj []) (mJ (fA [])) h3 jV.symm rfl ?_|refine cE 0 (b3,ef) (b3,ef) (.int .i64 ef) fY h3 rfl rfl ?_|refine cU (k:=fun x=>D.list 9 (List.map bI x)) rfl (gY h) (.nil _)|refine cU (k:=fun x=>D.list 9 (List.map bI x)) rfl (gN h) (.nil _)|refine cU (k:=fun x=>D.list 9 (List.map bI x)) rfl (gE h) (.nil _)|exact absurd h hz
 |cons z out=>
  conv=>arg 2;whnf
  refine Sq (fun hlt=>?_) (fun dm=>?_)
  ·replace hlt:i<n:=hlt
   repeat' (conv=>arg 2;whnf);first|refine aX 0 (fun x=>D.list 1 (List.map af x)) q1 (Fe 1024 (by decide)) hl ?_|refine cE 0 (b1,e1) (b1,e1) (.int .i64 e1) fY h1 rfl rfl ?_|refine okF qp ?_|refine cE 0 (b1,e1) (b1,k) (.aj []) (mJ k) h1 (by rw[h];rfl) rfl ?_|refine aX 0 (fun x=>D.agg (bL x)) q2 It h1 ?_|refine rJ (fun h=>?_) (fun h=>?_)|refine aT (by constructor<;>(simp only[List.length_cons,List.length_nil,List.length_map,maxLen] at oz ⊢;omega)) ?_|refine bw (G0 (by show 0<=(i:Int)+1;omega) (by show(i:Int)+1<_;omega)) ?_|refine aZ (i+1,(b2,e2),((z::out)++[(⟨y,sg⟩:bX)])) (Sv.mk' [0,7] rfl ⟨⟨rfl,rfl⟩,⟨rfl,by simp;rfl⟩,trivial⟩ ⟨rfl,rfl,rfl,rfl,rfl,trivial⟩) ⟨hlt,h2,by show(((z::out)++[(⟨y,sg⟩:bX)])).length=i+1;simp at oz ⊢;omega,lG hlt h⟩ (by show n-(i+1)<n-i;omega)|refine eG ?_|refine cU (k:=fun x=>D.list 9 (List.map bI x)) rfl (tJ hlt h) (.nil _)
  ·obtain⟨er,eb,A7⟩:=iq dm
   subst er eb A7
   repeat' (conv=>arg 2;whnf);first|refine xx (fun h=>?_) (fun hz=>?_)|refine rJ (fun h=>?_) (fun h=>?_)|refine bq ?_|refine cE 0 (b3,e3) (b3,e3) (.int .i64 e3) fY h3 rfl rfl ?_|refine BY [1] (C7 (z::out) (fN h)) rfl (aa.refl _) rfl ?_|refine cE 0 (b3,e3) (b3,ef) (.aj []) (mJ (fA (z::out))) h3 jV.symm rfl ?_|refine cE 0 (b3,ef) (b3,ef) (.int .i64 ef) fY h3 rfl rfl ?_|refine qD (k:=fun x=>D.list 9 (List.map bI x)) [1] rfl (gY h) (.refl _)|refine cU (k:=fun x=>D.list 9 (List.map bI x)) rfl (gN h) (.nil _)|refine cU (k:=fun x=>D.list 9 (List.map bI x)) rfl (gE h) (.nil _)|exact absurd h hz
theorem Bm:Rd1 uC:=jL eM 13
theorem FC [Wd]:gz 224 (.agg [.ptr 0 0]) [] (fun s=>.list 9 ((jZ s).1.map bI)) (fun s=>(jZ s).2):=by
 intro s hs
 refine ak 6 [] func224 ?_
 repeat' (conv=>arg 2;whnf);first|refine cE 0 s (jZ s).2 (.list 9 ((jZ s).1.map bI)) Vq hs rfl rfl ?_|refine mQ (d:=.list 9 ((jZ s).1.map bI)) (.inr rfl) rfl ⟨⟨rfl,rfl⟩,trivial⟩ rfl (.refl _) rfl rfl
theorem YF [Wd]:gz 315 (.agg [.ptr 0 0]) [] (fun s=>.list 2 ((uC s).1.map bL)) (fun s=>(uC s).2):=by
 intro s hs
 refine ak 5 [] func315 ?_
 repeat' (conv=>arg 2;whnf);first|refine cE 0 s (uC s).2 (.list 2 ((uC s).1.map bL)) (NK 13 (by decide) (by decide)) hs rfl rfl ?_|refine mQ (d:=.list 2 ((uC s).1.map bL)) (.inr rfl) rfl ⟨⟨rfl,rfl⟩,trivial⟩ rfl (.refl _) rfl rfl
theorem Qh [Wd]:gz 286 (.agg [.ptr 0 0]) [] (fun s=>.int .i64 ((bF 0) s).1) (fun s=>((bF 0) s).2):=by
 intro s hs
 refine ak 5 [] func286 ?_
 repeat' (conv=>arg 2;whnf);first|refine cE 0 s ((bF 0) s).2 (.int .i64 ((bF 0) s).1) (wP 0) hs rfl rfl ?_|refine mQ (d:=.int .i64 ((bF 0) s).1) (.inr rfl) rfl ⟨⟨rfl,rfl⟩,trivial⟩ rfl (.refl _) rfl rfl
theorem NF [Wd]:gz 280 (.agg [.ptr 0 0]) [] (fun s=>.agg (fk (jB s).1)) (fun s=>(jB s).2):=by
 rintro⟨b,e⟩ hs
 replace hs:b.length<=8388609:=hs
 obtain⟨v,b0,e0,q0,l0⟩:=Rd1.get (bV 0) (b,e)
 replace l0:b0.length<=b.length:=l0
 have h0:b0.length<=8388609:=by omega
 obtain⟨n,b1,e1,q1,l1⟩:=Rd1.get (bV 1) (b0,e0)
 replace l1:b1.length<=b0.length:=l1
 have h1:b1.length<=8388609:=by omega
 obtain⟨d,b2,e2,q2,l2⟩:=Rd1.get (bV 1) (b1,e1)
 replace l2:b2.length<=b1.length:=l2
 have h2:b2.length<=8388609:=by omega
 obtain⟨f,b3,e3,q3,l3⟩:=Rd1.get eM (b2,e2)
 replace l3:b3.length<=b2.length:=l3
 have h3:b3.length<=8388609:=by omega
 obtain⟨g,b4,e4,q4,l4⟩:=Rd1.get Bm (b3,e3)
 replace l4:b4.length<=b3.length:=l4
 have h4:b4.length<=8388609:=by omega
 obtain⟨t,b5,e5,q5,l5⟩:=Rd1.get oD (b4,e4)
 replace l5:b5.length<=b4.length:=l5
 have h5:b5.length<=8388609:=by omega
 have eR:jB (b,e)=(⟨v,n,d,f,g,t⟩,(b5,e5)):=by unfold jB bN bg cN;simp only[q0,q1,q2,q3,q4,q5]
 refine ak 23 [] func280 ?_
 repeat' (conv=>arg 2;whnf);first|refine aX 0 (fun x=>D.int .i64 x) q0 (mK 0) hs ?_|refine aX 0 (fun x=>D.int .i64 x) q1 (mK 1) h0 ?_|refine aX 0 (fun x=>D.int .i64 x) q2 (wP 1) h1 ?_|refine aX 0 (fun x=>D.agg (bL x)) q3 sy h2 ?_|refine aX 0 (fun x=>D.list 2 (List.map bL x)) q4 YF h3 ?_|refine aX 0 (fun x=>D.list 9 (List.map bI x)) q5 FC h4 ?_|refine cU (k:=fun x=>D.agg (fk x)) rfl eR (.refl _)
theorem UC [Wd] (most:Int) (uf:0<=most) (hm:most<=4096):gz 279 (.agg [.ptr 0 0]) [.int .i64 most,.fn 280 0 []] (fun s=>.list 7 ((cY jB most s).1.map fk)) (fun s=>(cY jB most s).2):=by
 intro s0 hs
 obtain⟨N,b0,e0,en,rW,hN,uV⟩:=zl most uf s0
 have eL:cY jB most s0=aP jB N.toNat (b0,e0):=by unfold cY;rw[en]
 refine ak 29 [] func279 ?_
 repeat' (conv=>arg 2;whnf);first|refine aX 0 (fun x=>D.int .i64 x) en (zE most) hs ?_
 conv=>arg 2;whnf
 refine bE (α:=Int×RS×List jt) (fun a=>match a.2.2 with
  |[]=>⟨[(8,.int .i64 a.1),(7,.nils),(3,.ptr 1 0),(2,.fn 280 0 [])],[.cells 235 [.list 1 (a.2.1.1.map af),.int .i64 a.2.1.2,.bool true],.cells 239 [.ptr 0 0]]⟩
  |x::l=>⟨[(8,.int .i64 a.1),(7,.row 2),(3,.ptr 1 0),(2,.fn 280 0 [])],[.cells 235 [.list 1 (a.2.1.1.map af),.int .i64 a.2.1.2,.bool true],.cells 239 [.ptr 0 0],.row 190 7 ((x::l).map fk)]⟩) (fun a=>0<=a.1/\a.1<=4096/\a.2.1.1.length<=8388609/\a.2.2.length+a.1.toNat<=4096/\aP jB N.toNat (b0,e0)=(a.2.2++(aP jB a.1.toNat a.2.1).1,(aP jB a.1.toNat a.2.1).2)) (fun a=>a.1.toNat) (N,(b0,e0),[]) ⟨rW,by omega,by show b0.length<=_;omega,by simp;omega,rfl⟩ (Sv.aK [0,1]) ?_
 rintro⟨n,⟨b,e⟩,out⟩ ⟨h0,h1,hl,ho,hg⟩
 replace h0:0<=n:=h0
 replace h1:n<=4096:=h1
 replace hl:b.length<=8388609:=hl
 replace ho:out.length+n.toNat<=4096:=ho
 replace hg:aP jB N.toNat (b0,e0)=(out++(aP jB n.toNat (b,e)).1,(aP jB n.toNat (b,e)).2):=hg
 obtain⟨x,b2,e2,ep⟩:∃(x:jt) (b2:List UInt8) (e2:Int),jB (b,e)=(x,(b2,e2)):=⟨_,_,_,rfl⟩
 have oo:b2.length<=8388609:=by
  have h:=uv.len (b,e)
  rw[ep] at h
  exact Nat.le_trans h hl
 have iq:(n<=0\/¬e=0)->cY jB most s0=(out,(b,e)):=fun h=>by
  rw[eL,hg]
  rcases h with h|h
  ·rw[show n.toNat=0 by omega];simp[aP]
  ·rw[vJ _ _ _ h];simp
 have lG:0<n->e=0->aP jB N.toNat (b0,e0)=((out++[x])++(aP jB (n-1).toNat (b2,e2)).1,(aP jB (n-1).toNat (b2,e2)).2):=fun hn h=>by
  rw[hg,Bu _ hn h,ep]
  simp
 cases out with
 |nil=>
  conv=>arg 2;whnf
  refine an (fun hn=>?_) (fun hn=>?_)
  ·replace hn:0<n:=by simpa using hn
   repeat' (conv=>arg 2;whnf);first|refine cE 0 (b,e) (b,e) (.int .i64 e) fY hl rfl rfl ?_|apply an<;>intro h|refine aX 0 (fun x=>D.agg (fk x)) ep NF hl ?_|refine aT (by constructor<;>(simp only[List.length_cons,List.length_nil];decide)) ?_|refine bw (cj (by show _<=n-1;omega) (by show n-1<=_;omega)) ?_|refine aZ (n-1,(b2,e2),[x]) (Sv.aK [0,1,4]) ⟨by show 0<=n-1;omega,by show n-1<=4096;omega,oo,by show([x]).length+(n-1).toNat<=4096;simp at ho ⊢;omega,lG hn (by simpa using h)⟩ (by show(n-1).toNat<n.toNat;omega)|refine bq ?_|refine cU (k:=fun x=>D.list 7 (List.map fk x)) rfl (iq (.inr (by simpa using h))) (.nil _)
  ·replace hn:n<=0:=by simpa using hn
   repeat' (conv=>arg 2;whnf);first|refine bq ?_|refine cU (k:=fun x=>D.list 7 (List.map fk x)) rfl (iq (.inl hn)) (.nil _)
 |cons y out=>
  conv=>arg 2;whnf
  refine an (fun hn=>?_) (fun hn=>?_)
  ·replace hn:0<n:=by simpa using hn
   repeat' (conv=>arg 2;whnf);first|refine cE 0 (b,e) (b,e) (.int .i64 e) fY hl rfl rfl ?_|apply an<;>intro h|refine aX 0 (fun x=>D.agg (fk x)) ep NF hl ?_|refine aT (by constructor<;>(simp only[List.length_cons,List.length_nil,List.length_map,maxLen] at ho ⊢;omega)) ?_|refine bw (cj (by show _<=n-1;omega) (by show n-1<=_;omega)) ?_|refine aZ (n-1,(b2,e2),(y::out)++[x]) (Sv.mk' [0,1,5] rfl ⟨⟨rfl,rfl⟩,⟨rfl,rfl⟩,⟨rfl,by simp;rfl⟩,trivial⟩ ⟨rfl,rfl,rfl,rfl,trivial⟩) ⟨by show 0<=n-1;omega,by show n-1<=4096;omega,oo,by show((y::out)++[x]).length+(n-1).toNat<=4096;simp at ho ⊢;omega,lG hn (by simpa using h)⟩ (by show(n-1).toNat<n.toNat;omega)|refine bq ?_|refine qD (k:=fun x=>D.list 7 (List.map fk x)) [2] rfl (iq (.inr (by simpa using h))) (.refl _)
  ·replace hn:n<=0:=by simpa using hn
   repeat' (conv=>arg 2;whnf);first|refine bq ?_|refine qD (k:=fun x=>D.list 7 (List.map fk x)) [2] rfl (iq (.inl hn)) (.refl _)
theorem IS [Wd]:gz 232 (.agg [.ptr 0 0]) [] (fun s=>.agg (bU (iE s).1)) (fun s=>(iE s).2):=by
 rintro⟨b,e⟩ hs
 replace hs:b.length<=8388609:=hs
 obtain⟨v,b0,e0,q0,l0⟩:=Rd1.get (bV 1) (b,e)
 replace l0:b0.length<=b.length:=l0
 have h0:b0.length<=8388609:=by omega
 obtain⟨r,b1,e1,q1,l1⟩:=Rd1.get (dD 12) (b0,e0)
 replace l1:b1.length<=b0.length:=l1
 have h1:b1.length<=8388609:=by omega
 obtain⟨c,b2,e2,q2,l2⟩:=Rd1.get uw (b1,e1)
 replace l2:b2.length<=b1.length:=l2
 have h2:b2.length<=8388609:=by omega
 obtain⟨a,b3,e3,q3,l3⟩:=Rd1.get (jL uv 8) (b2,e2)
 replace l3:b3.length<=b2.length:=l3
 have h3:b3.length<=8388609:=by omega
 obtain⟨g,b4,e4,q4,l4⟩:=Rd1.get eM (b3,e3)
 replace l4:b4.length<=b3.length:=l4
 have h4:b4.length<=8388609:=by omega
 have eR:iE (b,e)=(⟨v,r,c,a,g⟩,(b4,e4)):=by unfold iE bN bg cN;simp only[q0,q1,q2,q3,q4]
 refine ak 20 [] func232 ?_
 repeat' (conv=>arg 2;whnf);first|refine aX 0 (fun x=>D.int .i64 x) q0 (mK 1) hs ?_|refine aX 0 (fun x=>D.int .i64 x) q1 yg h0 ?_|refine aX 0 (fun x=>D.agg (mj x)) q2 Jw h1 ?_|refine aX 0 (fun x=>D.list 7 (List.map fk x)) q3 (UC 8 (by decide) (by decide)) h2 ?_|refine aX 0 (fun x=>D.agg (bL x)) q4 sy h3 ?_|refine cU (k:=fun x=>D.agg (bU x)) rfl eR (.refl _)
theorem U1 [Wd] (most:Int) (uf:0<=most) (hm:most<=4096):gz 233 (.agg [.ptr 0 0]) [.int .i64 most,.fn 232 0 []] (fun s=>.list 8 ((cY iE most s).1.map bU)) (fun s=>(cY iE most s).2):=by
 intro s0 hs
 obtain⟨N,b0,e0,en,rW,hN,uV⟩:=zl most uf s0
 have eL:cY iE most s0=aP iE N.toNat (b0,e0):=by unfold cY;rw[en]
 refine ak 29 [] func233 ?_
 repeat' (conv=>arg 2;whnf);first|refine aX 0 (fun x=>D.int .i64 x) en (zE most) hs ?_
 conv=>arg 2;whnf
 refine bE (α:=Int×RS×List cX) (fun a=>match a.2.2 with
  |[]=>⟨[(8,.int .i64 a.1),(7,.nils),(3,.ptr 1 0),(2,.fn 232 0 [])],[.cells 235 [.list 1 (a.2.1.1.map af),.int .i64 a.2.1.2,.bool true],.cells 239 [.ptr 0 0]]⟩
  |x::l=>⟨[(8,.int .i64 a.1),(7,.row 2),(3,.ptr 1 0),(2,.fn 232 0 [])],[.cells 235 [.list 1 (a.2.1.1.map af),.int .i64 a.2.1.2,.bool true],.cells 239 [.ptr 0 0],.row 145 8 ((x::l).map bU)]⟩) (fun a=>0<=a.1/\a.1<=4096/\a.2.1.1.length<=8388609/\a.2.2.length+a.1.toNat<=4096/\aP iE N.toNat (b0,e0)=(a.2.2++(aP iE a.1.toNat a.2.1).1,(aP iE a.1.toNat a.2.1).2)) (fun a=>a.1.toNat) (N,(b0,e0),[]) ⟨rW,by omega,by show b0.length<=_;omega,by simp;omega,rfl⟩ (Sv.aK [0,1]) ?_
 rintro⟨n,⟨b,e⟩,out⟩ ⟨h0,h1,hl,ho,hg⟩
 replace h0:0<=n:=h0
 replace h1:n<=4096:=h1
 replace hl:b.length<=8388609:=hl
 replace ho:out.length+n.toNat<=4096:=ho
 replace hg:aP iE N.toNat (b0,e0)=(out++(aP iE n.toNat (b,e)).1,(aP iE n.toNat (b,e)).2):=hg
 obtain⟨x,b2,e2,ep⟩:∃(x:cX) (b2:List UInt8) (e2:Int),iE (b,e)=(x,(b2,e2)):=⟨_,_,_,rfl⟩
 have oo:b2.length<=8388609:=by
  have h:=sI.len (b,e)
  rw[ep] at h
  exact Nat.le_trans h hl
 have iq:(n<=0\/¬e=0)->cY iE most s0=(out,(b,e)):=fun h=>by
  rw[eL,hg]
  rcases h with h|h
  ·rw[show n.toNat=0 by omega];simp[aP]
  ·rw[vJ _ _ _ h];simp
 have lG:0<n->e=0->aP iE N.toNat (b0,e0)=((out++[x])++(aP iE (n-1).toNat (b2,e2)).1,(aP iE (n-1).toNat (b2,e2)).2):=fun hn h=>by
  rw[hg,Bu _ hn h,ep]
  simp
 cases out with
 |nil=>
  conv=>arg 2;whnf
  refine an (fun hn=>?_) (fun hn=>?_)
  ·replace hn:0<n:=by simpa using hn
   repeat' (conv=>arg 2;whnf);first|refine cE 0 (b,e) (b,e) (.int .i64 e) fY hl rfl rfl ?_|apply an<;>intro h|refine aX 0 (fun x=>D.agg (bU x)) ep IS hl ?_|refine aT (by constructor<;>(simp only[List.length_cons,List.length_nil];decide)) ?_|refine bw (cj (by show _<=n-1;omega) (by show n-1<=_;omega)) ?_|refine aZ (n-1,(b2,e2),[x]) (Sv.aK [0,1,4]) ⟨by show 0<=n-1;omega,by show n-1<=4096;omega,oo,by show([x]).length+(n-1).toNat<=4096;simp at ho ⊢;omega,lG hn (by simpa using h)⟩ (by show(n-1).toNat<n.toNat;omega)|refine bq ?_|refine cU (k:=fun x=>D.list 8 (List.map bU x)) rfl (iq (.inr (by simpa using h))) (.nil _)
  ·replace hn:n<=0:=by simpa using hn
   repeat' (conv=>arg 2;whnf);first|refine bq ?_|refine cU (k:=fun x=>D.list 8 (List.map bU x)) rfl (iq (.inl hn)) (.nil _)
 |cons y out=>
  conv=>arg 2;whnf
  refine an (fun hn=>?_) (fun hn=>?_)
  ·replace hn:0<n:=by simpa using hn
   repeat' (conv=>arg 2;whnf);first|refine cE 0 (b,e) (b,e) (.int .i64 e) fY hl rfl rfl ?_|apply an<;>intro h|refine aX 0 (fun x=>D.agg (bU x)) ep IS hl ?_|refine aT (by constructor<;>(simp only[List.length_cons,List.length_nil,List.length_map,maxLen] at ho ⊢;omega)) ?_|refine bw (cj (by show _<=n-1;omega) (by show n-1<=_;omega)) ?_|refine aZ (n-1,(b2,e2),(y::out)++[x]) (Sv.mk' [0,1,5] rfl ⟨⟨rfl,rfl⟩,⟨rfl,rfl⟩,⟨rfl,by simp;rfl⟩,trivial⟩ ⟨rfl,rfl,rfl,rfl,trivial⟩) ⟨by show 0<=n-1;omega,by show n-1<=4096;omega,oo,by show((y::out)++[x]).length+(n-1).toNat<=4096;simp at ho ⊢;omega,lG hn (by simpa using h)⟩ (by show(n-1).toNat<n.toNat;omega)|refine bq ?_|refine qD (k:=fun x=>D.list 8 (List.map bU x)) [2] rfl (iq (.inr (by simpa using h))) (.refl _)
  ·replace hn:n<=0:=by simpa using hn
   repeat' (conv=>arg 2;whnf);first|refine bq ?_|refine qD (k:=fun x=>D.list 8 (List.map bU x)) [2] rfl (iq (.inl hn)) (.refl _)
theorem O7 [Wd]:gz 235 (.agg [.ptr 0 0]) [] (fun s=>.agg (dV (iC s).1)) (fun s=>(iC s).2):=by
 rintro⟨b,e⟩ hs
 replace hs:b.length<=8388609:=hs
 obtain⟨v,b0,e0,q0,l0⟩:=Rd1.get (bV 0) (b,e)
 replace l0:b0.length<=b.length:=l0
 have h0:b0.length<=8388609:=by omega
 obtain⟨n,b1,e1,q1,l1⟩:=Rd1.get (bV 1) (b0,e0)
 replace l1:b1.length<=b0.length:=l1
 have h1:b1.length<=8388609:=by omega
 obtain⟨t,b2,e2,q2,l2⟩:=Rd1.get oD (b1,e1)
 replace l2:b2.length<=b1.length:=l2
 have h2:b2.length<=8388609:=by omega
 obtain⟨g,b3,e3,q3,l3⟩:=Rd1.get eM (b2,e2)
 replace l3:b3.length<=b2.length:=l3
 have h3:b3.length<=8388609:=by omega
 have eR:iC (b,e)=(⟨v,n,t,g⟩,(b3,e3)):=by unfold iC bN bg cN;simp only[q0,q1,q2,q3]
 refine ak 17 [] func235 ?_
 repeat' (conv=>arg 2;whnf);first|refine aX 0 (fun x=>D.int .i64 x) q0 (mK 0) hs ?_|refine aX 0 (fun x=>D.int .i64 x) q1 (mK 1) h0 ?_|refine aX 0 (fun x=>D.list 9 (List.map bI x)) q2 FC h1 ?_|refine aX 0 (fun x=>D.agg (bL x)) q3 sy h2 ?_|refine cU (k:=fun x=>D.agg (dV x)) rfl eR (.refl _)
theorem Vs [Wd] (most:Int) (uf:0<=most) (hm:most<=4096):gz 234 (.agg [.ptr 0 0]) [.int .i64 most,.fn 235 0 []] (fun s=>.list 5 ((cY iC most s).1.map dV)) (fun s=>(cY iC most s).2):=by
 intro s0 hs
 obtain⟨N,b0,e0,en,rW,hN,uV⟩:=zl most uf s0
 have eL:cY iC most s0=aP iC N.toNat (b0,e0):=by unfold cY;rw[en]
 refine ak 29 [] func234 ?_
 repeat' (conv=>arg 2;whnf);first|refine aX 0 (fun x=>D.int .i64 x) en (zE most) hs ?_
 conv=>arg 2;whnf
 refine bE (α:=Int×RS×List gq) (fun a=>match a.2.2 with
  |[]=>⟨[(8,.int .i64 a.1),(7,.nils),(3,.ptr 1 0),(2,.fn 235 0 [])],[.cells 235 [.list 1 (a.2.1.1.map af),.int .i64 a.2.1.2,.bool true],.cells 239 [.ptr 0 0]]⟩
  |x::l=>⟨[(8,.int .i64 a.1),(7,.row 2),(3,.ptr 1 0),(2,.fn 235 0 [])],[.cells 235 [.list 1 (a.2.1.1.map af),.int .i64 a.2.1.2,.bool true],.cells 239 [.ptr 0 0],.row 159 5 ((x::l).map dV)]⟩) (fun a=>0<=a.1/\a.1<=4096/\a.2.1.1.length<=8388609/\a.2.2.length+a.1.toNat<=4096/\aP iC N.toNat (b0,e0)=(a.2.2++(aP iC a.1.toNat a.2.1).1,(aP iC a.1.toNat a.2.1).2)) (fun a=>a.1.toNat) (N,(b0,e0),[]) ⟨rW,by omega,by show b0.length<=_;omega,by simp;omega,rfl⟩ (Sv.aK [0,1]) ?_
 rintro⟨n,⟨b,e⟩,out⟩ ⟨h0,h1,hl,ho,hg⟩
 replace h0:0<=n:=h0
 replace h1:n<=4096:=h1
 replace hl:b.length<=8388609:=hl
 replace ho:out.length+n.toNat<=4096:=ho
 replace hg:aP iC N.toNat (b0,e0)=(out++(aP iC n.toNat (b,e)).1,(aP iC n.toNat (b,e)).2):=hg
 obtain⟨x,b2,e2,ep⟩:∃(x:gq) (b2:List UInt8) (e2:Int),iC (b,e)=(x,(b2,e2)):=⟨_,_,_,rfl⟩
 have oo:b2.length<=8388609:=by
  have h:=pE.len (b,e)
  rw[ep] at h
  exact Nat.le_trans h hl
 have iq:(n<=0\/¬e=0)->cY iC most s0=(out,(b,e)):=fun h=>by
  rw[eL,hg]
  rcases h with h|h
  ·rw[show n.toNat=0 by omega];simp[aP]
  ·rw[vJ _ _ _ h];simp
 have lG:0<n->e=0->aP iC N.toNat (b0,e0)=((out++[x])++(aP iC (n-1).toNat (b2,e2)).1,(aP iC (n-1).toNat (b2,e2)).2):=fun hn h=>by
  rw[hg,Bu _ hn h,ep]
  simp
 cases out with
 |nil=>
  conv=>arg 2;whnf
  refine an (fun hn=>?_) (fun hn=>?_)
  ·replace hn:0<n:=by simpa using hn
   repeat' (conv=>arg 2;whnf);first|refine cE 0 (b,e) (b,e) (.int .i64 e) fY hl rfl rfl ?_|apply an<;>intro h|refine aX 0 (fun x=>D.agg (dV x)) ep O7 hl ?_|refine aT (by constructor<;>(simp only[List.length_cons,List.length_nil];decide)) ?_|refine bw (cj (by show _<=n-1;omega) (by show n-1<=_;omega)) ?_|refine aZ (n-1,(b2,e2),[x]) (Sv.aK [0,1,4]) ⟨by show 0<=n-1;omega,by show n-1<=4096;omega,oo,by show([x]).length+(n-1).toNat<=4096;simp at ho ⊢;omega,lG hn (by simpa using h)⟩ (by show(n-1).toNat<n.toNat;omega)|refine bq ?_|refine cU (k:=fun x=>D.list 5 (List.map dV x)) rfl (iq (.inr (by simpa using h))) (.nil _)
  ·replace hn:n<=0:=by simpa using hn
   repeat' (conv=>arg 2;whnf);first|refine bq ?_|refine cU (k:=fun x=>D.list 5 (List.map dV x)) rfl (iq (.inl hn)) (.nil _)
 |cons y out=>
  conv=>arg 2;whnf
  refine an (fun hn=>?_) (fun hn=>?_)
  ·replace hn:0<n:=by simpa using hn
   repeat' (conv=>arg 2;whnf);first|refine cE 0 (b,e) (b,e) (.int .i64 e) fY hl rfl rfl ?_|apply an<;>intro h|refine aX 0 (fun x=>D.agg (dV x)) ep O7 hl ?_|refine aT (by constructor<;>(simp only[List.length_cons,List.length_nil,List.length_map,maxLen] at ho ⊢;omega)) ?_|refine bw (cj (by show _<=n-1;omega) (by show n-1<=_;omega)) ?_|refine aZ (n-1,(b2,e2),(y::out)++[x]) (Sv.mk' [0,1,5] rfl ⟨⟨rfl,rfl⟩,⟨rfl,rfl⟩,⟨rfl,by simp;rfl⟩,trivial⟩ ⟨rfl,rfl,rfl,rfl,trivial⟩) ⟨by show 0<=n-1;omega,by show n-1<=4096;omega,oo,by show((y::out)++[x]).length+(n-1).toNat<=4096;simp at ho ⊢;omega,lG hn (by simpa using h)⟩ (by show(n-1).toNat<n.toNat;omega)|refine bq ?_|refine qD (k:=fun x=>D.list 5 (List.map dV x)) [2] rfl (iq (.inr (by simpa using h))) (.refl _)
  ·replace hn:n<=0:=by simpa using hn
   repeat' (conv=>arg 2;whnf);first|refine bq ?_|refine qD (k:=fun x=>D.list 5 (List.map dV x)) [2] rfl (iq (.inl hn)) (.refl _)
theorem Om [Wd]:gz 284 (.agg [.ptr 0 0]) [] (fun s=>.agg (eO (jA s).1)) (fun s=>(jA s).2):=by
 rintro⟨b,e⟩ hs
 replace hs:b.length<=8388609:=hs
 obtain⟨v,b0,e0,q0,l0⟩:=Rd1.get (bV 1) (b,e)
 replace l0:b0.length<=b.length:=l0
 have h0:b0.length<=8388609:=by omega
 obtain⟨p,b1,e1,q1,l1⟩:=Rd1.get (bV 0) (b0,e0)
 replace l1:b1.length<=b0.length:=l1
 have h1:b1.length<=8388609:=by omega
 obtain⟨t,b2,e2,q2,l2⟩:=Rd1.get (bV 0) (b1,e1)
 replace l2:b2.length<=b1.length:=l2
 have h2:b2.length<=8388609:=by omega
 obtain⟨r,b3,e3,q3,l3⟩:=Rd1.get (bV 0) (b2,e2)
 replace l3:b3.length<=b2.length:=l3
 have h3:b3.length<=8388609:=by omega
 obtain⟨u,b4,e4,q4,l4⟩:=Rd1.get (bV 0) (b3,e3)
 replace l4:b4.length<=b3.length:=l4
 have h4:b4.length<=8388609:=by omega
 have eR:jA (b,e)=(⟨v,p,t,r,u⟩,(b4,e4)):=by unfold jA bN bg cN;simp only[q0,q1,q2,q3,q4]
 refine ak 20 [] func284 ?_
 repeat' (conv=>arg 2;whnf);first|refine aX 0 (fun x=>D.int .i64 x) q0 (mK 1) hs ?_|refine aX 0 (fun x=>D.int .i64 x) q1 (wP 0) h0 ?_|refine aX 0 (fun x=>D.int .i64 x) q2 (wP 0) h1 ?_|refine aX 0 (fun x=>D.int .i64 x) q3 (wP 0) h2 ?_|refine aX 0 (fun x=>D.int .i64 x) q4 (wP 0) h3 ?_|refine cU (k:=fun x=>D.agg (eO x)) rfl eR (.refl _)
theorem U2 [Wd] (most:Int) (uf:0<=most) (hm:most<=4096):gz 283 (.agg [.ptr 0 0]) [.int .i64 most,.fn 284 0 []] (fun s=>.list 5 ((cY jA most s).1.map eO)) (fun s=>(cY jA most s).2):=by
 intro s0 hs
 obtain⟨N,b0,e0,en,rW,hN,uV⟩:=zl most uf s0
 have eL:cY jA most s0=aP jA N.toNat (b0,e0):=by unfold cY;rw[en]
 refine ak 29 [] func283 ?_
 repeat' (conv=>arg 2;whnf);first|refine aX 0 (fun x=>D.int .i64 x) en (zE most) hs ?_
 conv=>arg 2;whnf
 refine bE (α:=Int×RS×List j7) (fun a=>match a.2.2 with
  |[]=>⟨[(8,.int .i64 a.1),(7,.nils),(3,.ptr 1 0),(2,.fn 284 0 [])],[.cells 235 [.list 1 (a.2.1.1.map af),.int .i64 a.2.1.2,.bool true],.cells 239 [.ptr 0 0]]⟩
  |x::l=>⟨[(8,.int .i64 a.1),(7,.row 2),(3,.ptr 1 0),(2,.fn 284 0 [])],[.cells 235 [.list 1 (a.2.1.1.map af),.int .i64 a.2.1.2,.bool true],.cells 239 [.ptr 0 0],.row 187 5 ((x::l).map eO)]⟩) (fun a=>0<=a.1/\a.1<=4096/\a.2.1.1.length<=8388609/\a.2.2.length+a.1.toNat<=4096/\aP jA N.toNat (b0,e0)=(a.2.2++(aP jA a.1.toNat a.2.1).1,(aP jA a.1.toNat a.2.1).2)) (fun a=>a.1.toNat) (N,(b0,e0),[]) ⟨rW,by omega,by show b0.length<=_;omega,by simp;omega,rfl⟩ (Sv.aK [0,1]) ?_
 rintro⟨n,⟨b,e⟩,out⟩ ⟨h0,h1,hl,ho,hg⟩
 replace h0:0<=n:=h0
 replace h1:n<=4096:=h1
 replace hl:b.length<=8388609:=hl
 replace ho:out.length+n.toNat<=4096:=ho
 replace hg:aP jA N.toNat (b0,e0)=(out++(aP jA n.toNat (b,e)).1,(aP jA n.toNat (b,e)).2):=hg
 obtain⟨x,b2,e2,ep⟩:∃(x:j7) (b2:List UInt8) (e2:Int),jA (b,e)=(x,(b2,e2)):=⟨_,_,_,rfl⟩
 have oo:b2.length<=8388609:=by
  have h:=ux.len (b,e)
  rw[ep] at h
  exact Nat.le_trans h hl
 have iq:(n<=0\/¬e=0)->cY jA most s0=(out,(b,e)):=fun h=>by
  rw[eL,hg]
  rcases h with h|h
  ·rw[show n.toNat=0 by omega];simp[aP]
  ·rw[vJ _ _ _ h];simp
 have lG:0<n->e=0->aP jA N.toNat (b0,e0)=((out++[x])++(aP jA (n-1).toNat (b2,e2)).1,(aP jA (n-1).toNat (b2,e2)).2):=fun hn h=>by
  rw[hg,Bu _ hn h,ep]
  simp
 cases out with
 |nil=>
  conv=>arg 2;whnf
  refine an (fun hn=>?_) (fun hn=>?_)
  ·replace hn:0<n:=by simpa using hn
   repeat' (conv=>arg 2;whnf);first|refine cE 0 (b,e) (b,e) (.int .i64 e) fY hl rfl rfl ?_|apply an<;>intro h|refine aX 0 (fun x=>D.agg (eO x)) ep Om hl ?_|refine aT (by constructor<;>(simp only[List.length_cons,List.length_nil];decide)) ?_|refine bw (cj (by show _<=n-1;omega) (by show n-1<=_;omega)) ?_|refine aZ (n-1,(b2,e2),[x]) (Sv.aK [0,1,4]) ⟨by show 0<=n-1;omega,by show n-1<=4096;omega,oo,by show([x]).length+(n-1).toNat<=4096;simp at ho ⊢;omega,lG hn (by simpa using h)⟩ (by show(n-1).toNat<n.toNat;omega)|refine bq ?_|refine cU (k:=fun x=>D.list 5 (List.map eO x)) rfl (iq (.inr (by simpa using h))) (.nil _)
  ·replace hn:n<=0:=by simpa using hn
   repeat' (conv=>arg 2;whnf);first|refine bq ?_|refine cU (k:=fun x=>D.list 5 (List.map eO x)) rfl (iq (.inl hn)) (.nil _)
 |cons y out=>
  conv=>arg 2;whnf
  refine an (fun hn=>?_) (fun hn=>?_)
  ·replace hn:0<n:=by simpa using hn
   repeat' (conv=>arg 2;whnf);first|refine cE 0 (b,e) (b,e) (.int .i64 e) fY hl rfl rfl ?_|apply an<;>intro h|refine aX 0 (fun x=>D.agg (eO x)) ep Om hl ?_|refine aT (by constructor<;>(simp only[List.length_cons,List.length_nil,List.length_map,maxLen] at ho ⊢;omega)) ?_|refine bw (cj (by show _<=n-1;omega) (by show n-1<=_;omega)) ?_|refine aZ (n-1,(b2,e2),(y::out)++[x]) (Sv.mk' [0,1,5] rfl ⟨⟨rfl,rfl⟩,⟨rfl,rfl⟩,⟨rfl,by simp;rfl⟩,trivial⟩ ⟨rfl,rfl,rfl,rfl,trivial⟩) ⟨by show 0<=n-1;omega,by show n-1<=4096;omega,oo,by show((y::out)++[x]).length+(n-1).toNat<=4096;simp at ho ⊢;omega,lG hn (by simpa using h)⟩ (by show(n-1).toNat<n.toNat;omega)|refine bq ?_|refine qD (k:=fun x=>D.list 5 (List.map eO x)) [2] rfl (iq (.inr (by simpa using h))) (.refl _)
  ·replace hn:n<=0:=by simpa using hn
   repeat' (conv=>arg 2;whnf);first|refine bq ?_|refine qD (k:=fun x=>D.list 5 (List.map eO x)) [2] rfl (iq (.inl hn)) (.refl _)
theorem U3 [Wd] (most:Int) (uf:0<=most) (hm:most<=4096):gz 285 (.agg [.ptr 0 0]) [.int .i64 most,.fn 286 0 []] (fun s=>.list 1 ((cY (bF 0) most s).1.map eD)) (fun s=>(cY (bF 0) most s).2):=by
 intro s0 hs
 obtain⟨N,b0,e0,en,rW,hN,uV⟩:=zl most uf s0
 have eL:cY (bF 0) most s0=aP (bF 0) N.toNat (b0,e0):=by unfold cY;rw[en]
 refine ak 29 [] func285 ?_
 repeat' (conv=>arg 2;whnf);first|refine aX 0 (fun x=>D.int .i64 x) en (zE most) hs ?_
 conv=>arg 2;whnf
 refine bE (α:=Int×RS×List Int) (fun a=>match a.2.2 with
  |[]=>⟨[(8,.int .i64 a.1),(7,.nils),(3,.ptr 1 0),(2,.fn 286 0 [])],[.cells 235 [.list 1 (a.2.1.1.map af),.int .i64 a.2.1.2,.bool true],.cells 239 [.ptr 0 0]]⟩
  |x::l=>⟨[(8,.int .i64 a.1),(7,.row 2),(3,.ptr 1 0),(2,.fn 286 0 [])],[.cells 235 [.list 1 (a.2.1.1.map af),.int .i64 a.2.1.2,.bool true],.cells 239 [.ptr 0 0],.row 41 1 ((x::l).map eD)]⟩) (fun a=>0<=a.1/\a.1<=4096/\a.2.1.1.length<=8388609/\a.2.2.length+a.1.toNat<=4096/\aP (bF 0) N.toNat (b0,e0)=(a.2.2++(aP (bF 0) a.1.toNat a.2.1).1,(aP (bF 0) a.1.toNat a.2.1).2)) (fun a=>a.1.toNat) (N,(b0,e0),[]) ⟨rW,by omega,by show b0.length<=_;omega,by simp;omega,rfl⟩ (Sv.aK [0,1]) ?_
 rintro⟨n,⟨b,e⟩,out⟩ ⟨h0,h1,hl,ho,hg⟩
 replace h0:0<=n:=h0
 replace h1:n<=4096:=h1
 replace hl:b.length<=8388609:=hl
 replace ho:out.length+n.toNat<=4096:=ho
 replace hg:aP (bF 0) N.toNat (b0,e0)=(out++(aP (bF 0) n.toNat (b,e)).1,(aP (bF 0) n.toNat (b,e)).2):=hg
 obtain⟨x,b2,e2,ep⟩:∃(x:Int) (b2:List UInt8) (e2:Int),(bF 0) (b,e)=(x,(b2,e2)):=⟨_,_,_,rfl⟩
 have oo:b2.length<=8388609:=by
  have h:=(bV 0).len (b,e)
  rw[ep] at h
  exact Nat.le_trans h hl
 have iq:(n<=0\/¬e=0)->cY (bF 0) most s0=(out,(b,e)):=fun h=>by
  rw[eL,hg]
  rcases h with h|h
  ·rw[show n.toNat=0 by omega];simp[aP]
  ·rw[vJ _ _ _ h];simp
 have lG:0<n->e=0->aP (bF 0) N.toNat (b0,e0)=((out++[x])++(aP (bF 0) (n-1).toNat (b2,e2)).1,(aP (bF 0) (n-1).toNat (b2,e2)).2):=fun hn h=>by
  rw[hg,Bu _ hn h,ep]
  simp
 cases out with
 |nil=>
  conv=>arg 2;whnf
  refine an (fun hn=>?_) (fun hn=>?_)
  ·replace hn:0<n:=by simpa using hn
   repeat' (conv=>arg 2;whnf);first|refine cE 0 (b,e) (b,e) (.int .i64 e) fY hl rfl rfl ?_|apply an<;>intro h|refine aX 0 (fun x=>D.int .i64 x) ep Qh hl ?_|refine aT (by constructor<;>(simp only[List.length_cons,List.length_nil];decide)) ?_|refine bw (cj (by show _<=n-1;omega) (by show n-1<=_;omega)) ?_|refine aZ (n-1,(b2,e2),[x]) (Sv.aK [0,1,4]) ⟨by show 0<=n-1;omega,by show n-1<=4096;omega,oo,by show([x]).length+(n-1).toNat<=4096;simp at ho ⊢;omega,lG hn (by simpa using h)⟩ (by show(n-1).toNat<n.toNat;omega)|refine bq ?_|refine cU (k:=fun x=>D.list 1 (List.map eD x)) rfl (iq (.inr (by simpa using h))) (.nil _)
  ·replace hn:n<=0:=by simpa using hn
   repeat' (conv=>arg 2;whnf);first|refine bq ?_|refine cU (k:=fun x=>D.list 1 (List.map eD x)) rfl (iq (.inl hn)) (.nil _)
 |cons y out=>
  conv=>arg 2;whnf
  refine an (fun hn=>?_) (fun hn=>?_)
  ·replace hn:0<n:=by simpa using hn
   repeat' (conv=>arg 2;whnf);first|refine cE 0 (b,e) (b,e) (.int .i64 e) fY hl rfl rfl ?_|apply an<;>intro h|refine aX 0 (fun x=>D.int .i64 x) ep Qh hl ?_|refine aT (by constructor<;>(simp only[List.length_cons,List.length_nil,List.length_map,maxLen] at ho ⊢;omega)) ?_|refine bw (cj (by show _<=n-1;omega) (by show n-1<=_;omega)) ?_|refine aZ (n-1,(b2,e2),(y::out)++[x]) (Sv.mk' [0,1,5] rfl ⟨⟨rfl,rfl⟩,⟨rfl,rfl⟩,⟨rfl,by simp;rfl⟩,trivial⟩ ⟨rfl,rfl,rfl,rfl,trivial⟩) ⟨by show 0<=n-1;omega,by show n-1<=4096;omega,oo,by show((y::out)++[x]).length+(n-1).toNat<=4096;simp at ho ⊢;omega,lG hn (by simpa using h)⟩ (by show(n-1).toNat<n.toNat;omega)|refine bq ?_|refine qD (k:=fun x=>D.list 1 (List.map eD x)) [2] rfl (iq (.inr (by simpa using h))) (.refl _)
  ·replace hn:n<=0:=by simpa using hn
   repeat' (conv=>arg 2;whnf);first|refine bq ?_|refine qD (k:=fun x=>D.list 1 (List.map eD x)) [2] rfl (iq (.inl hn)) (.refl _)
theorem RW [Wd] {P:Program} {Q:Exit->S->Prop} {e:Int} {t f:T} (h1:e=0->t.ok P Q) (h2:¬e=0->f.ok P Q):(bT ((e==0)==true) t f).ok P Q:=an (fun h=>h1 (by simpa using h)) (fun h=>h2 (by simpa using h))
theorem Qi [Wd]:gz 237 (.agg [.ptr 0 0]) [] (fun s=>.str (nS s).1) (fun s=>(nS s).2):=by
 rintro⟨b,e⟩ hs
 replace hs:b.length<=8388609:=hs
 obtain⟨x,b0,e0,q0,l0⟩:=Rd1.get (iB 64) (b,e)
 replace l0:b0.length<=b.length:=l0
 have h0:b0.length<=8388609:=by omega
 have hx:=zM q0
 have eR:nS (b,e)=(x,fF (mh x) (b0,e0)):=by unfold nS fZ;simp only[q0]
 have gC:¬e0=0->nS (b,e)=(x,(b0,e0)):=fun h=>by rw[eR,wU _ h]
 cases hn:jg x
 ·have qn:aq prog 27 [.str x] (.bool false):=by
   have:=Dw x (by omega)
   rwa [hn] at this
  have gA:e0=0->nS (b,e)=(x,(b0,61)):=fun h=>by
   rw[eR,h]
   unfold mh
   rw[hn]
   rfl
  refine ak 21 [] func237 ?_
  repeat' (conv=>arg 2;whnf);first|refine RW (fun h=>?_) (fun hz=>?_)|refine j8 _ rfl ?_|refine aT (by omega) ?_|refine aX 0 (fun x=>D.list 1 (List.map af x)) q0 vH hs ?_|refine cE 0 (b0,e0) (b0,e0) (.int .i64 e0) fY h0 rfl rfl ?_|refine okF qn ?_|refine cE 0 (b0,e0) (b0,61) (.aj []) (mJ 61) h0 (by rw[h];rfl) rfl ?_|refine cU (k:=fun x=>D.str x) rfl (gA h) (.refl _)|refine cU (k:=fun x=>D.str x) rfl (gC hz) (.refl _)
 ·have qn:aq prog 27 [.str x] (.bool true):=by
   have:=Dw x (by omega)
   rwa [hn] at this
  have gA:e0=0->nS (b,e)=(x,(b0,0)):=fun h=>by
   rw[eR,h]
   unfold mh
   rw[hn]
   rfl
  refine ak 21 [] func237 ?_
  repeat' (conv=>arg 2;whnf);first|refine RW (fun h=>?_) (fun hz=>?_)|refine j8 _ rfl ?_|refine aT (by omega) ?_|refine aX 0 (fun x=>D.list 1 (List.map af x)) q0 vH hs ?_|refine cE 0 (b0,e0) (b0,e0) (.int .i64 e0) fY h0 rfl rfl ?_|refine okF qn ?_|(subst h;refine cU (k:=fun x=>D.str x) rfl (gA rfl) (.refl _))|refine cU (k:=fun x=>D.str x) rfl (gC hz) (.refl _)
theorem YG [Wd]:gz 238 (.agg [.ptr 0 0]) [] (fun s=>.agg (jv (uD s).1)) (fun s=>(uD s).2):=by
 rintro⟨b,e⟩ hs
 replace hs:b.length<=8388609:=hs
 obtain⟨t,b0,e0,q0,l0⟩:=Rd1.get C9 (b,e)
 replace l0:b0.length<=b.length:=l0
 have h0:b0.length<=8388609:=by omega
 obtain⟨f,b1,e1,q1,l1⟩:=Rd1.get (bV 0) (b0,e0)
 replace l1:b1.length<=b0.length:=l1
 have h1:b1.length<=8388609:=by omega
 obtain⟨c,b2,e2,q2,l2⟩:=Rd1.get (iB 64) (b1,e1)
 replace l2:b2.length<=b1.length:=l2
 have h2:b2.length<=8388609:=by omega
 obtain⟨hd,b3,e3,q3,l3⟩:=Rd1.get (jL ux 64) (b2,e2)
 replace l3:b3.length<=b2.length:=l3
 have h3:b3.length<=8388609:=by omega
 obtain⟨i,b4,e4,q4,l4⟩:=Rd1.get (bV 0) (b3,e3)
 replace l4:b4.length<=b3.length:=l4
 have h4:b4.length<=8388609:=by omega
 obtain⟨n,b5,e5,q5,l5⟩:=Rd1.get (uu 16) (b4,e4)
 replace l5:b5.length<=b4.length:=l5
 have h5:b5.length<=8388609:=by omega
 obtain⟨em,ES⟩:∃em:Int,lS (decide (i<n)) (b5,e5)=(b5,em):=⟨(lS (decide (i<n)) (b5,e5)).2,Prod.ext (CW _ _) rfl⟩
 obtain⟨l,b6,e6,q6,l6⟩:=Rd1.get (jL (bV 0) 8) (b5,em)
 replace l6:b6.length<=b5.length:=l6
 have h6:b6.length<=8388609:=by omega
 obtain⟨k,b7,e7,q7,l7⟩:=Rd1.get uw (b6,e6)
 replace l7:b7.length<=b6.length:=l7
 have h7:b7.length<=8388609:=by omega
 have LJ:fF (if i<n then 0 else 100) (b5,e5)=(b5,em):=by
  rw[<-ES,FW]
  congr 1
  by_cases h:i<n<;>simp[h]
 have eR:uD (b,e)=(⟨t,f,c,hd,i,n,l,k⟩,(b7,e7)):=by unfold uD bN bg cN fZ;simp only[q0,q1,q2,q3,q4,q5,LJ,q6,q7]
 refine ak 37 [] func238 ?_
 repeat' (conv=>arg 2;whnf);first|refine aX 0 (fun x=>D.str x) q0 Qi hs ?_|refine aX 0 (fun x=>D.int .i64 x) q1 (mK 0) h0 ?_|refine aX 0 (fun x=>D.list 1 (List.map af x)) q2 vH h1 ?_|refine aX 0 (fun x=>D.list 5 (List.map eO x)) q3 (U2 64 (by decide) (by decide)) h2 ?_|refine aX 0 (fun x=>D.int .i64 x) q4 (mK 0) h3 ?_|refine aX 0 (fun x=>D.int .i64 x) q5 (zE 16) h4 ?_|refine cE 0 (b5,e5) (b5,em) (.aj []) (FJ (decide (i<n))) h5 ES.symm rfl ?_|refine aX 0 (fun x=>D.list 1 (List.map eD x)) q6 (U3 8 (by decide) (by decide)) h5 ?_|refine aX 0 (fun x=>D.agg (mj x)) q7 Jw h6 ?_|refine cU (k:=fun x=>D.agg (jv x)) rfl eR (.refl _)
theorem JU [Wd] (kd:Int) (b:List UInt8) (e:Int) (hs:b.length<=8388609) {r v n d:Int} {b3:List UInt8} {e3:Int} (q:qF (b,e)=((r,v,n,d),(b3,e3))):bC prog 226 [.agg [.ptr 0 0],.ptr 1 0] [.cells 235 [.list 1 (b.map af),.int .i64 e,.bool true],.cells 59 [.int .i64 kd,.int .i64 0,.int .i64 0,.int .i64 0,.int .i64 0,.int .i64 0,.int .i64 0,.int .i64 0,.int .i64 0,.nils,.int .i64 0,.int .i64 0,.nils,.nils,.nils,.nils,.str [],.int .i64 0,.str [],.int .i64 0,.nils,.nils,.int .i64 0,.int .i64 0,.nils,.int .i64 0,.int .i64 0,.nils,.int .i64 0,.int .i64 0]] (fun r' h=>r'=.aj []/\h=[.cells 235 [.list 1 (b3.map af),.int .i64 e3,.bool true],.cells 59 [.int .i64 kd,.int .i64 r,.int .i64 v,.int .i64 n,.int .i64 d,.int .i64 0,.int .i64 0,.int .i64 0,.int .i64 0,.nils,.int .i64 0,.int .i64 0,.nils,.nils,.nils,.nils,.str [],.int .i64 0,.str [],.int .i64 0,.nils,.nils,.int .i64 0,.int .i64 0,.nils,.int .i64 0,.int .i64 0,.nils,.int .i64 0,.int .i64 0]]):=by
 obtain⟨r',c0,e0,q0,l0⟩:=Rd1.get (dD 12) (b,e)
 replace l0:c0.length<=b.length:=l0
 have h0:c0.length<=8388609:=by omega
 obtain⟨v',c1,e1,q1,l1⟩:=Rd1.get (bV 0) (c0,e0)
 replace l1:c1.length<=c0.length:=l1
 have h1:c1.length<=8388609:=by omega
 obtain⟨n',c2,e2,q2,l2⟩:=Rd1.get (bV 1) (c1,e1)
 replace l2:c2.length<=c1.length:=l2
 have h2:c2.length<=8388609:=by omega
 obtain⟨d',c3,e3,q3,l3⟩:=Rd1.get (bV 1) (c2,e2)
 replace l3:c3.length<=c2.length:=l3
 have h3:c3.length<=8388609:=by omega
 unfold qF bg cN at q
 simp only[q0,q1,q2,q3] at q
 cases q
 refine ak 24 [] func226 ?_
 repeat' (conv=>arg 2;whnf);first|refine aX 0 (fun x=>D.int .i64 x) q0 yg hs ?_|refine aX 0 (fun x=>D.int .i64 x) q1 (mK 0) h0 ?_|refine aX 0 (fun x=>D.int .i64 x) q2 (mK 1) h1 ?_|refine aX 0 (fun x=>D.int .i64 x) q3 (wP 1) h2 ?_|refine mL [0,1] (.inl rfl) rfl rfl ⟨⟨rfl,rfl⟩,⟨rfl,rfl⟩,trivial⟩ ⟨⟨rfl,rfl⟩,⟨rfl,rfl⟩,trivial⟩ (.refl _)
theorem aaL [Wd] (b:List UInt8) (e:Int) (hs:b.length<=8388609) {b0:List UInt8} {e0:Int} (q0:nR MX (b,e)=(1,(b0,e0))) (h0:b0.length<=8388609):bC prog 177 [.agg [.ptr 0 0]] (dn (b,e)) (fun r h=>r=.agg (aC (aU (b,e)).1)/\h=dn (aU (b,e)).2):=by
 obtain⟨l,b1,e1,q1,l1⟩:=Rd1.get oD (b0,e0)
 replace l1:b1.length<=b0.length:=l1
 have h1:b1.length<=8388609:=by omega
 obtain⟨em,ES⟩:∃em:Int,lS ((((l.map bI).length:Nat):Int)==1) (b1,e1)=(b1,em):=⟨(lS ((((l.map bI).length:Nat):Int)==1) (b1,e1)).2,Prod.ext (CW _ _) rfl⟩
 have LJ:fF (if l.length=1 then 0 else 100) (b1,e1)=(b1,em):=by
  rw[<-ES,FW,List.length_map]
  congr 1
  by_cases h:l.length=1
  ·simp[h]
  ·rw[if_neg h,if_neg (by simp;omega)]
 have eB:cR 1 (b0,e0)=({aE with kind:=1,batch:=l},(b1,em)):=by
  show bN (fun l=>{aE with kind:=1,batch:=l}) (fZ jZ fun l=>if l.length=1 then 0 else 100) (b0,e0)=_
  unfold bN fZ
  simp only[q1,LJ]
 have eS:jS 1 (b1,em)=(dx,(b1,em)):=rfl
 have eR:aU (b,e)=({aE with kind:=1,batch:=l,sign:=dx},(b1,em)):=by
  unfold aU bN cN bg cN
  simp only[q0,eB,eS]
 have qs:aq prog 156 [.int .i64 1] (.bool false):=iZ 1
 refine ak 140 [(25,⟨[],[]⟩)] func177 ?_
 repeat' (conv=>arg 2;whnf);first|refine bZ (by decide) ?_|refine aX 0 (fun x=>D.int .u64 x) q0 (gF MX) hs ?_|refine aX 0 (fun x=>D.list 9 (List.map bI x)) q1 FC h0 ?_|refine cE 0 (b1,e1) (b1,em) (.aj []) (FJ ((((l.map bI).length:Nat):Int)==1)) h1 ES.symm rfl ?_|refine okF qs ?_|refine cU (k:=fun x=>D.agg (aC x)) rfl eR .z
theorem aaM [Wd] (b:List UInt8) (e:Int) (hs:b.length<=8388609) {b0:List UInt8} {e0:Int} (q0:nR MX (b,e)=(2,(b0,e0))) (h0:b0.length<=8388609):bC prog 177 [.agg [.ptr 0 0]] (dn (b,e)) (fun r h=>r=.agg (aC (aU (b,e)).1)/\h=dn (aU (b,e)).2):=by
 obtain⟨⟨r,v,n,d⟩,b1,e1,q1,l1⟩:=Rd1.get Bp (b0,e0)
 replace l1:b1.length<=b0.length:=l1
 have h1:b1.length<=8388609:=by omega
 obtain⟨l,b2,e2,q2,l2⟩:=Rd1.get oD (b1,e1)
 replace l2:b2.length<=b1.length:=l2
 have h2:b2.length<=8388609:=by omega
 have eB:cR 2 (b0,e0)=({aE with kind:=2,src:=r,view:=v,seq:=n,ah:=d,batch:=l},(b2,e2)):=by
  show bN (fun z=>{aE with kind:=2,src:=z.1.1,view:=z.1.2.1,seq:=z.1.2.2.1,ah:=z.1.2.2.2,batch:=z.2}) (bg qF jZ) (b0,e0)=_
  unfold bN bg cN
  simp only[q1,q2]
 obtain⟨g,b3,e3,q3,l3⟩:=Rd1.get eM (b2,e2)
 replace l3:b3.length<=b2.length:=l3
 have h3:b3.length<=8388609:=by omega
 have eS:jS 2 (b2,e2)=(g,(b3,e3)):=q3
 have eR:aU (b,e)=({aE with kind:=2,src:=r,view:=v,seq:=n,ah:=d,batch:=l,sign:=g},(b3,e3)):=by
  unfold aU bN cN bg cN
  simp only[q0,eB,eS]
 have qs:aq prog 156 [.int .i64 2] (.bool true):=iZ 2
 refine ak 140 [(25,⟨[],[]⟩)] func177 ?_
 repeat' (conv=>arg 2;whnf);first|refine bZ (by decide) ?_|refine aX 0 (fun x=>D.int .u64 x) q0 (gF MX) hs ?_|refine cV [0,4] (JU 2 b0 e0 h0 q1) ?_|refine aX 0 (fun x=>D.list 9 (List.map bI x)) q2 FC h1 ?_|refine aX 0 (fun x=>D.agg (bL x)) q3 sy h2 ?_|refine okF qs ?_|refine cU (k:=fun x=>D.agg (aC x)) rfl eR .z
theorem aaN [Wd] (b:List UInt8) (e:Int) (hs:b.length<=8388609) {b0:List UInt8} {e0:Int} (q0:nR MX (b,e)=(3,(b0,e0))) (h0:b0.length<=8388609):bC prog 177 [.agg [.ptr 0 0]] (dn (b,e)) (fun r h=>r=.agg (aC (aU (b,e)).1)/\h=dn (aU (b,e)).2):=by
 obtain⟨⟨r,v,n,d⟩,b1,e1,q1,l1⟩:=Rd1.get Bp (b0,e0)
 replace l1:b1.length<=b0.length:=l1
 have h1:b1.length<=8388609:=by omega
 have eB:cR 3 (b0,e0)=({aE with kind:=3,src:=r,view:=v,seq:=n,ah:=d},(b1,e1)):=by
  show bN (fun z=>{aE with kind:=3,src:=z.1,view:=z.2.1,seq:=z.2.2.1,ah:=z.2.2.2}) qF (b0,e0)=_
  unfold bN
  simp only[q1]
 obtain⟨g,b2,e2,q2,l2⟩:=Rd1.get eM (b1,e1)
 replace l2:b2.length<=b1.length:=l2
 have h2:b2.length<=8388609:=by omega
 have eS:jS 3 (b1,e1)=(g,(b2,e2)):=q2
 have eR:aU (b,e)=({aE with kind:=3,src:=r,view:=v,seq:=n,ah:=d,sign:=g},(b2,e2)):=by
  unfold aU bN cN bg cN
  simp only[q0,eB,eS]
 have qs:aq prog 156 [.int .i64 3] (.bool true):=iZ 3
 refine ak 140 [(25,⟨[],[]⟩)] func177 ?_
 repeat' (conv=>arg 2;whnf);first|refine bZ (by decide) ?_|refine aX 0 (fun x=>D.int .u64 x) q0 (gF MX) hs ?_|refine cV [0,4] (JU 3 b0 e0 h0 q1) ?_|refine aX 0 (fun x=>D.agg (bL x)) q2 sy h1 ?_|refine okF qs ?_|refine cU (k:=fun x=>D.agg (aC x)) rfl eR .z
theorem aaO [Wd] (b:List UInt8) (e:Int) (hs:b.length<=8388609) {b0:List UInt8} {e0:Int} (q0:nR MX (b,e)=(4,(b0,e0))) (h0:b0.length<=8388609):bC prog 177 [.agg [.ptr 0 0]] (dn (b,e)) (fun r h=>r=.agg (aC (aU (b,e)).1)/\h=dn (aU (b,e)).2):=by
 obtain⟨⟨r,v,n,d⟩,b1,e1,q1,l1⟩:=Rd1.get Bp (b0,e0)
 replace l1:b1.length<=b0.length:=l1
 have h1:b1.length<=8388609:=by omega
 have eB:cR 4 (b0,e0)=({aE with kind:=4,src:=r,view:=v,seq:=n,ah:=d},(b1,e1)):=by
  show bN (fun z=>{aE with kind:=4,src:=z.1,view:=z.2.1,seq:=z.2.2.1,ah:=z.2.2.2}) qF (b0,e0)=_
  unfold bN
  simp only[q1]
 obtain⟨g,b2,e2,q2,l2⟩:=Rd1.get eM (b1,e1)
 replace l2:b2.length<=b1.length:=l2
 have h2:b2.length<=8388609:=by omega
 have eS:jS 4 (b1,e1)=(g,(b2,e2)):=q2
 have eR:aU (b,e)=({aE with kind:=4,src:=r,view:=v,seq:=n,ah:=d,sign:=g},(b2,e2)):=by
  unfold aU bN cN bg cN
  simp only[q0,eB,eS]
 have qs:aq prog 156 [.int .i64 4] (.bool true):=iZ 4
 refine ak 140 [(25,⟨[],[]⟩)] func177 ?_
 repeat' (conv=>arg 2;whnf);first|refine bZ (by decide) ?_|refine aX 0 (fun x=>D.int .u64 x) q0 (gF MX) hs ?_|refine cV [0,4] (JU 4 b0 e0 h0 q1) ?_|refine aX 0 (fun x=>D.agg (bL x)) q2 sy h1 ?_|refine okF qs ?_|refine cU (k:=fun x=>D.agg (aC x)) rfl eR .z
theorem aaP [Wd] (b:List UInt8) (e:Int) (hs:b.length<=8388609) {b0:List UInt8} {e0:Int} (q0:nR MX (b,e)=(5,(b0,e0))) (h0:b0.length<=8388609):bC prog 177 [.agg [.ptr 0 0]] (dn (b,e)) (fun r h=>r=.agg (aC (aU (b,e)).1)/\h=dn (aU (b,e)).2):=by
 obtain⟨r,b1,e1,q1,l1⟩:=Rd1.get (dD 12) (b0,e0)
 replace l1:b1.length<=b0.length:=l1
 have h1:b1.length<=8388609:=by omega
 obtain⟨v,b2,e2,q2,l2⟩:=Rd1.get (bV 0) (b1,e1)
 replace l2:b2.length<=b1.length:=l2
 have h2:b2.length<=8388609:=by omega
 obtain⟨y,b3,e3,q3,l3⟩:=Rd1.get (dD 7) (b2,e2)
 replace l3:b3.length<=b2.length:=l3
 have h3:b3.length<=8388609:=by omega
 obtain⟨u,b4,e4,q4,l4⟩:=Rd1.get (bV 0) (b3,e3)
 replace l4:b4.length<=b3.length:=l4
 have h4:b4.length<=8388609:=by omega
 obtain⟨rs,b5,e5,q5,l5⟩:=Rd1.get Be (b4,e4)
 replace l5:b5.length<=b4.length:=l5
 have h5:b5.length<=8388609:=by omega
 have eB:cR 5 (b0,e0)=({aE with kind:=5,src:=r,view:=v,bD:=y,time:=u,result:=rs},(b5,e5)):=by
  show bN (fun z=>{aE with kind:=5,src:=z.1,view:=z.2.1,bD:=z.2.2.1,time:=z.2.2.2.1,result:=z.2.2.2.2}) (bg (nR 12) (bg (bF 0) (bg (nR 7) (bg (bF 0) rz)))) (b0,e0)=_
  unfold bN bg cN
  simp only[q1,q2,q3,q4,q5]
 obtain⟨g,b6,e6,q6,l6⟩:=Rd1.get eM (b5,e5)
 replace l6:b6.length<=b5.length:=l6
 have h6:b6.length<=8388609:=by omega
 have eS:jS 5 (b5,e5)=(g,(b6,e6)):=q6
 have eR:aU (b,e)=({aE with kind:=5,src:=r,view:=v,bD:=y,time:=u,result:=rs,sign:=g},(b6,e6)):=by
  unfold aU bN cN bg cN
  simp only[q0,eB,eS]
 have qs:aq prog 156 [.int .i64 5] (.bool true):=iZ 5
 refine ak 140 [(25,⟨[],[]⟩)] func177 ?_
 repeat' (conv=>arg 2;whnf);first|refine bZ (by decide) ?_|refine aX 0 (fun x=>D.int .u64 x) q0 (gF MX) hs ?_|refine aX 0 (fun x=>D.int .i64 x) q1 yg h0 ?_|refine aX 0 (fun x=>D.int .i64 x) q2 (mK 0) h1 ?_|refine aX 0 (fun x=>D.int .i64 x) q3 Ol h2 ?_|refine aX 0 (fun x=>D.int .i64 x) q4 (mK 0) h3 ?_|refine aX 0 (fun x=>D.agg (wV x)) q5 U0 h4 ?_|refine aX 0 (fun x=>D.agg (bL x)) q6 sy h5 ?_|refine okF qs ?_|refine cU (k:=fun x=>D.agg (aC x)) rfl eR .z
theorem aaQ [Wd] (b:List UInt8) (e:Int) (hs:b.length<=8388609) {b0:List UInt8} {e0:Int} (q0:nR MX (b,e)=(6,(b0,e0))) (h0:b0.length<=8388609):bC prog 177 [.agg [.ptr 0 0]] (dn (b,e)) (fun r h=>r=.agg (aC (aU (b,e)).1)/\h=dn (aU (b,e)).2):=by
 obtain⟨r,b1,e1,q1,l1⟩:=Rd1.get (dD 12) (b0,e0)
 replace l1:b1.length<=b0.length:=l1
 have h1:b1.length<=8388609:=by omega
 obtain⟨n,b2,e2,q2,l2⟩:=Rd1.get (bV 1) (b1,e1)
 replace l2:b2.length<=b1.length:=l2
 have h2:b2.length<=8388609:=by omega
 obtain⟨d,b3,e3,q3,l3⟩:=Rd1.get (bV 1) (b2,e2)
 replace l3:b3.length<=b2.length:=l3
 have h3:b3.length<=8388609:=by omega
 have eB:cR 6 (b0,e0)=({aE with kind:=6,src:=r,seq:=n,ah:=d},(b3,e3)):=by
  show bN (fun z=>{aE with kind:=6,src:=z.1,seq:=z.2.1,ah:=z.2.2}) (bg (nR 12) (bg (bF 1) (bF 1))) (b0,e0)=_
  unfold bN bg cN
  simp only[q1,q2,q3]
 obtain⟨g,b4,e4,q4,l4⟩:=Rd1.get eM (b3,e3)
 replace l4:b4.length<=b3.length:=l4
 have h4:b4.length<=8388609:=by omega
 have eS:jS 6 (b3,e3)=(g,(b4,e4)):=q4
 have eR:aU (b,e)=({aE with kind:=6,src:=r,seq:=n,ah:=d,sign:=g},(b4,e4)):=by
  unfold aU bN cN bg cN
  simp only[q0,eB,eS]
 have qs:aq prog 156 [.int .i64 6] (.bool true):=iZ 6
 refine ak 140 [(25,⟨[],[]⟩)] func177 ?_
 repeat' (conv=>arg 2;whnf);first|refine bZ (by decide) ?_|refine aX 0 (fun x=>D.int .u64 x) q0 (gF MX) hs ?_|refine aX 0 (fun x=>D.int .i64 x) q1 yg h0 ?_|refine aX 0 (fun x=>D.int .i64 x) q2 (mK 1) h1 ?_|refine aX 0 (fun x=>D.int .i64 x) q3 (wP 1) h2 ?_|refine aX 0 (fun x=>D.agg (bL x)) q4 sy h3 ?_|refine okF qs ?_|refine cU (k:=fun x=>D.agg (aC x)) rfl eR .z
theorem aaR [Wd] (b:List UInt8) (e:Int) (hs:b.length<=8388609) {b0:List UInt8} {e0:Int} (q0:nR MX (b,e)=(7,(b0,e0))) (h0:b0.length<=8388609):bC prog 177 [.agg [.ptr 0 0]] (dn (b,e)) (fun r h=>r=.agg (aC (aU (b,e)).1)/\h=dn (aU (b,e)).2):=by
 obtain⟨c,b1,e1,q1,l1⟩:=Rd1.get sI (b0,e0)
 replace l1:b1.length<=b0.length:=l1
 have h1:b1.length<=8388609:=by omega
 have eB:cR 7 (b0,e0)=({aE with kind:=7,src:=c.src,view:=c.view,changes:=[c]},(b1,e1)):=by
  show bN (fun c=>{aE with kind:=7,src:=c.src,view:=c.view,changes:=[c]}) iE (b0,e0)=_
  unfold bN
  simp only[q1]
 have eS:jS 7 (b1,e1)=(dx,(b1,e1)):=rfl
 have eR:aU (b,e)=({aE with kind:=7,src:=c.src,view:=c.view,changes:=[c],sign:=dx},(b1,e1)):=by
  unfold aU bN cN bg cN
  simp only[q0,eB,eS]
 have qs:aq prog 156 [.int .i64 7] (.bool false):=iZ 7
 refine iV 140 [(25,⟨(.one 0 false (.one 1 false (.one 2 false (.one 3 false (.one 4 false (.one 6 false (.alt 5 (.one 7 true (.one 8 false (.one 9 true (.one 10 false (.one 11 true .done))))) (.one 7 true (.one 8 false (.alt 5 (.one 9 true (.one 10 false (.one 11 true .done))) (.one 9 true (.one 5 true (.one 10 false (.one 11 true .done)))))))))))))),[4]⟩)] func177 ?_
 repeat' (conv=>arg 2;whnf);first|refine aV ?_ ?_|refine bZ (by decide) ?_|refine aX 0 (fun x=>D.int .u64 x) q0 (gF MX) hs ?_|refine aX 0 (fun x=>D.agg (bU x)) q1 IS h0 ?_|refine okF qs ?_|refine cU (k:=fun x=>D.agg (aC x)) rfl eR .z
theorem aaS [Wd] (b:List UInt8) (e:Int) (hs:b.length<=8388609) {b0:List UInt8} {e0:Int} (q0:nR MX (b,e)=(8,(b0,e0))) (h0:b0.length<=8388609):bC prog 177 [.agg [.ptr 0 0]] (dn (b,e)) (fun r h=>r=.agg (aC (aU (b,e)).1)/\h=dn (aU (b,e)).2):=by
 obtain⟨r,b1,e1,q1,l1⟩:=Rd1.get (dD 12) (b0,e0)
 replace l1:b1.length<=b0.length:=l1
 have h1:b1.length<=8388609:=by omega
 obtain⟨v,b2,e2,q2,l2⟩:=Rd1.get (bV 1) (b1,e1)
 replace l2:b2.length<=b1.length:=l2
 have h2:b2.length<=8388609:=by omega
 obtain⟨ch,b3,e3,q3,l3⟩:=Rd1.get (jL sI 13) (b2,e2)
 replace l3:b3.length<=b2.length:=l3
 have h3:b3.length<=8388609:=by omega
 obtain⟨en,b4,e4,q4,l4⟩:=Rd1.get (jL pE 8) (b3,e3)
 replace l4:b4.length<=b3.length:=l4
 have h4:b4.length<=8388609:=by omega
 have eB:cR 8 (b0,e0)=({aE with kind:=8,src:=r,view:=v,changes:=ch,entries:=en},(b4,e4)):=by
  show bN (fun z=>{aE with kind:=8,src:=z.1,view:=z.2.1,changes:=z.2.2.1,entries:=z.2.2.2}) (bg (nR 12) (bg (bF 1) (bg (cY iE 13) (cY iC 8)))) (b0,e0)=_
  unfold bN bg cN
  simp only[q1,q2,q3,q4]
 obtain⟨g,b5,e5,q5,l5⟩:=Rd1.get eM (b4,e4)
 replace l5:b5.length<=b4.length:=l5
 have h5:b5.length<=8388609:=by omega
 have eS:jS 8 (b4,e4)=(g,(b5,e5)):=q5
 have eR:aU (b,e)=({aE with kind:=8,src:=r,view:=v,changes:=ch,entries:=en,sign:=g},(b5,e5)):=by
  unfold aU bN cN bg cN
  simp only[q0,eB,eS]
 have qs:aq prog 156 [.int .i64 8] (.bool true):=iZ 8
 refine ak 140 [(25,⟨[],[]⟩)] func177 ?_
 repeat' (conv=>arg 2;whnf);first|refine bZ (by decide) ?_|refine aX 0 (fun x=>D.int .u64 x) q0 (gF MX) hs ?_|refine aX 0 (fun x=>D.int .i64 x) q1 yg h0 ?_|refine aX 0 (fun x=>D.int .i64 x) q2 (mK 1) h1 ?_|refine aX 0 (fun x=>D.list 8 (List.map bU x)) q3 (U1 13 (by decide) (by decide)) h2 ?_|refine aX 0 (fun x=>D.list 5 (List.map dV x)) q4 (Vs 8 (by decide) (by decide)) h3 ?_|refine aX 0 (fun x=>D.agg (bL x)) q5 sy h4 ?_|refine okF qs ?_|refine cU (k:=fun x=>D.agg (aC x)) rfl eR .z
theorem aaT [Wd] (b:List UInt8) (e:Int) (hs:b.length<=8388609) {b0:List UInt8} {e0:Int} (q0:nR MX (b,e)=(9,(b0,e0))) (h0:b0.length<=8388609):bC prog 177 [.agg [.ptr 0 0]] (dn (b,e)) (fun r h=>r=.agg (aC (aU (b,e)).1)/\h=dn (aU (b,e)).2):=by
 obtain⟨r,b1,e1,q1,l1⟩:=Rd1.get (dD 12) (b0,e0)
 replace l1:b1.length<=b0.length:=l1
 have h1:b1.length<=8388609:=by omega
 obtain⟨n,b2,e2,q2,l2⟩:=Rd1.get (bV 0) (b1,e1)
 replace l2:b2.length<=b1.length:=l2
 have h2:b2.length<=8388609:=by omega
 have eB:cR 9 (b0,e0)=({aE with kind:=9,src:=r,seq:=n},(b2,e2)):=by
  show bN (fun z=>{aE with kind:=9,src:=z.1,seq:=z.2}) (bg (nR 12) (bF 0)) (b0,e0)=_
  unfold bN bg cN
  simp only[q1,q2]
 obtain⟨g,b3,e3,q3,l3⟩:=Rd1.get eM (b2,e2)
 replace l3:b3.length<=b2.length:=l3
 have h3:b3.length<=8388609:=by omega
 have eS:jS 9 (b2,e2)=(g,(b3,e3)):=q3
 have eR:aU (b,e)=({aE with kind:=9,src:=r,seq:=n,sign:=g},(b3,e3)):=by
  unfold aU bN cN bg cN
  simp only[q0,eB,eS]
 have qs:aq prog 156 [.int .i64 9] (.bool true):=iZ 9
 refine ak 140 [(25,⟨[],[]⟩)] func177 ?_
 repeat' (conv=>arg 2;whnf);first|refine bZ (by decide) ?_|refine aX 0 (fun x=>D.int .u64 x) q0 (gF MX) hs ?_|refine aX 0 (fun x=>D.int .i64 x) q1 yg h0 ?_|refine aX 0 (fun x=>D.int .i64 x) q2 (mK 0) h1 ?_|refine aX 0 (fun x=>D.agg (bL x)) q3 sy h2 ?_|refine okF qs ?_|refine cU (k:=fun x=>D.agg (aC x)) rfl eR .z
theorem YH [Wd] (b:List UInt8) (e:Int) (hs:b.length<=8388609) {b0:List UInt8} {e0:Int} (q0:nR MX (b,e)=(10,(b0,e0))) (h0:b0.length<=8388609):bC prog 177 [.agg [.ptr 0 0]] (dn (b,e)) (fun r h=>r=.agg (aC (aU (b,e)).1)/\h=dn (aU (b,e)).2):=by
 obtain⟨r,b1,e1,q1,l1⟩:=Rd1.get (dD 12) (b0,e0)
 replace l1:b1.length<=b0.length:=l1
 have h1:b1.length<=8388609:=by omega
 obtain⟨k,b2,e2,q2,l2⟩:=Rd1.get uw (b1,e1)
 replace l2:b2.length<=b1.length:=l2
 have h2:b2.length<=8388609:=by omega
 obtain⟨c,b3,e3,q3,l3⟩:=Rd1.get (iB 262144) (b2,e2)
 replace l3:b3.length<=b2.length:=l3
 have h3:b3.length<=8388609:=by omega
 have eB:cR 10 (b0,e0)=({aE with kind:=10,src:=r,cert:=k,state:=c},(b3,e3)):=by
  show bN (fun z=>{aE with kind:=10,src:=z.1,cert:=z.2.1,state:=z.2.2}) (bg (nR 12) (bg lT (fB 262144))) (b0,e0)=_
  unfold bN bg cN
  simp only[q1,q2,q3]
 have eS:jS 10 (b3,e3)=(dx,(b3,e3)):=rfl
 have eR:aU (b,e)=({aE with kind:=10,src:=r,cert:=k,state:=c,sign:=dx},(b3,e3)):=by
  unfold aU bN cN bg cN
  simp only[q0,eB,eS]
 have qs:aq prog 156 [.int .i64 10] (.bool false):=iZ 10
 refine ak 140 [(25,⟨[],[]⟩)] func177 ?_
 repeat' (conv=>arg 2;whnf);first|refine bZ (by decide) ?_|refine aX 0 (fun x=>D.int .u64 x) q0 (gF MX) hs ?_|refine aX 0 (fun x=>D.int .i64 x) q1 yg h0 ?_|refine aX 0 (fun x=>D.agg (mj x)) q2 Jw h1 ?_|refine aX 0 (fun x=>D.list 1 (List.map af x)) q3 (Fe 262144 (by decide)) h2 ?_|refine okF qs ?_|refine cU (k:=fun x=>D.agg (aC x)) rfl eR .z
theorem YI [Wd] (b:List UInt8) (e:Int) (hs:b.length<=8388609) {b0:List UInt8} {e0:Int} (q0:nR MX (b,e)=(11,(b0,e0))) (h0:b0.length<=8388609):bC prog 177 [.agg [.ptr 0 0]] (dn (b,e)) (fun r h=>r=.agg (aC (aU (b,e)).1)/\h=dn (aU (b,e)).2):=by
 obtain⟨y,b1,e1,q1,l1⟩:=Rd1.get (dD 7) (b0,e0)
 replace l1:b1.length<=b0.length:=l1
 have h1:b1.length<=8388609:=by omega
 obtain⟨t,b2,e2,q2,l2⟩:=Rd1.get C9 (b1,e1)
 replace l2:b2.length<=b1.length:=l2
 have h2:b2.length<=8388609:=by omega
 obtain⟨f,b3,e3,q3,l3⟩:=Rd1.get (bV 0) (b2,e2)
 replace l3:b3.length<=b2.length:=l3
 have h3:b3.length<=8388609:=by omega
 have eB:cR 11 (b0,e0)=({aE with kind:=11,bD:=y,av:=t,offset:=f},(b3,e3)):=by
  show bN (fun z=>{aE with kind:=11,bD:=z.1,av:=z.2.1,offset:=z.2.2}) (bg (nR 7) (bg nS (bF 0))) (b0,e0)=_
  unfold bN bg cN
  simp only[q1,q2,q3]
 have eS:jS 11 (b3,e3)=(dx,(b3,e3)):=rfl
 have eR:aU (b,e)=({aE with kind:=11,bD:=y,av:=t,offset:=f,sign:=dx},(b3,e3)):=by
  unfold aU bN cN bg cN
  simp only[q0,eB,eS]
 have qs:aq prog 156 [.int .i64 11] (.bool false):=iZ 11
 refine ak 140 [(25,⟨[],[]⟩)] func177 ?_
 repeat' (conv=>arg 2;whnf);first|refine bZ (by decide) ?_|refine aX 0 (fun x=>D.int .u64 x) q0 (gF MX) hs ?_|refine aX 0 (fun x=>D.int .i64 x) q1 Ol h0 ?_|refine aX 0 (fun x=>D.str x) q2 Qi h1 ?_|refine aX 0 (fun x=>D.int .i64 x) q3 (mK 0) h2 ?_|refine okF qs ?_|refine cU (k:=fun x=>D.agg (aC x)) rfl eR .z
theorem YJ [Wd] (b:List UInt8) (e:Int) (hs:b.length<=8388609) {b0:List UInt8} {e0:Int} (q0:nR MX (b,e)=(12,(b0,e0))) (h0:b0.length<=8388609):bC prog 177 [.agg [.ptr 0 0]] (dn (b,e)) (fun r h=>r=.agg (aC (aU (b,e)).1)/\h=dn (aU (b,e)).2):=by
 obtain⟨r,b1,e1,q1,l1⟩:=Rd1.get (dD 12) (b0,e0)
 replace l1:b1.length<=b0.length:=l1
 have h1:b1.length<=8388609:=by omega
 obtain⟨p,b2,e2,q2,l2⟩:=Rd1.get Jb (b1,e1)
 replace l2:b2.length<=b1.length:=l2
 have h2:b2.length<=8388609:=by omega
 have eB:cR 12 (b0,e0)=({aE with kind:=12,src:=r,proof:=p},(b2,e2)):=by
  show bN (fun z=>{aE with kind:=12,src:=z.1,proof:=z.2}) (bg (nR 12) uD) (b0,e0)=_
  unfold bN bg cN
  simp only[q1,q2]
 have eS:jS 12 (b2,e2)=(dx,(b2,e2)):=rfl
 have eR:aU (b,e)=({aE with kind:=12,src:=r,proof:=p,sign:=dx},(b2,e2)):=by
  unfold aU bN cN bg cN
  simp only[q0,eB,eS]
 have qs:aq prog 156 [.int .i64 12] (.bool false):=iZ 12
 refine ak 140 [(25,⟨[],[]⟩)] func177 ?_
 repeat' (conv=>arg 2;whnf);first|refine bZ (by decide) ?_|refine aX 0 (fun x=>D.int .u64 x) q0 (gF MX) hs ?_|refine aX 0 (fun x=>D.int .i64 x) q1 yg h0 ?_|refine aX 0 (fun x=>D.agg (jv x)) q2 YG h1 ?_|refine okF qs ?_|refine cU (k:=fun x=>D.agg (aC x)) rfl eR .z
theorem aaU [Wd] (k:Int) (hk:¬(1<=k/\k<=12)) (b:List UInt8) (e:Int) (hs:b.length<=8388609) {b0:List UInt8} {e0:Int} (q0:nR MX (b,e)=(k,(b0,e0))) (h0:b0.length<=8388609):bC prog 177 [.agg [.ptr 0 0]] (dn (b,e)) (fun r h=>r=.agg (aC (aU (b,e)).1)/\h=dn (aU (b,e)).2):=by
 have hr:=qN q0
 rw[yK] at hr
 obtain⟨ef,jV⟩:∃ef:Int,fF 100 (b0,e0)=(b0,ef):=⟨(fF 100 (b0,e0)).2,Prod.ext (wS _ _) rfl⟩
 have eB:cR k (b0,e0)=({aE with kind:=k},(b0,ef)):=by
  unfold cR
  rw[if_neg (by omega),if_neg (by omega),if_neg (by omega),if_neg (by omega),if_neg (by omega),if_neg (by omega),if_neg (by omega),if_neg (by omega),if_neg (by omega),if_neg (by omega),if_neg (by omega),if_neg (by omega)]
  unfold fZ qM
  simp only[jV]
 have EJ:bW k=false:=by
  unfold bW
  simp only[Bool.or_eq_false_iff,decide_eq_false_iff_not]
  omega
 have eS:jS k (b0,ef)=(dx,(b0,ef)):=by
  unfold jS
  rw[EJ]
  rfl
 have eR:aU (b,e)=({aE with kind:=k,sign:=dx},(b0,ef)):=by
  unfold aU bN cN bg cN
  simp only[q0,eB,eS]
 have qs:aq prog 156 [.int .i64 k] (.bool false):=by
  have:=iZ k
  rwa [EJ] at this
 have hw:IntKind.i64.wrap k=k:=cj (by omega) (by omega)
 have n1:(k==1)=false:=by simp;omega
 have n2:(k==2)=false:=by simp;omega
 have n3:(k==3)=false:=by simp;omega
 have n4:(k==4)=false:=by simp;omega
 have n5:(k==5)=false:=by simp;omega
 have n6:(k==6)=false:=by simp;omega
 have n7:(k==7)=false:=by simp;omega
 have n8:(k==8)=false:=by simp;omega
 have n9:(k==9)=false:=by simp;omega
 have n10:(k==10)=false:=by simp;omega
 have n11:(k==11)=false:=by simp;omega
 have n12:(k==12)=false:=by simp;omega
 refine ak 140 [(25,⟨[],[]⟩)] func177 ?_
 repeat' (conv=>arg 2;whnf);first|refine bB (by rw[hw];exact n1) ?_|refine bB (by rw[hw];exact n2) ?_|refine bB (by rw[hw];exact n3) ?_|refine bB (by rw[hw];exact n4) ?_|refine bB (by rw[hw];exact n5) ?_|refine bB (by rw[hw];exact n6) ?_|refine bB (by rw[hw];exact n7) ?_|refine bB (by rw[hw];exact n8) ?_|refine bB (by rw[hw];exact n9) ?_|refine bB (by rw[hw];exact n10) ?_|refine bB (by rw[hw];exact n11) ?_|refine bB (by rw[hw];exact n12) ?_|refine aX 0 (fun x=>D.int .u64 x) q0 (gF MX) hs ?_|refine cE 0 (b0,e0) (b0,ef) (.aj []) (mJ 100) h0 jV.symm rfl ?_|refine iQ qs rfl (GZ (by rw[hw])) ?_|refine cU (k:=fun x=>D.agg (aC x)) rfl eR (aa.eU (by refine aa.cons (Co.of_eq (show D.int .i64 (IntKind.i64.wrap k)=D.int .i64 k by rw[hw])) ?_;repeat' first|exact aa.nil|refine aa.cons (.refl _) ?_|refine aa.cons (.nil _) ?_))
theorem V7 [Wd]:gz 177 (.agg [.ptr 0 0]) [] (fun s=>.agg (aC (aU s).1)) (fun s=>(aU s).2):=by
 rintro⟨b,e⟩ hs
 replace hs:b.length<=8388609:=hs
 obtain⟨k,b0,e0,q,l⟩:=Rd1.get (dD MX) (b,e)
 replace l:b0.length<=b.length:=l
 have h0:b0.length<=8388609:=by omega
 by_cases hk:1<=k/\k<=12
 ·have:k=1\/k=2\/k=3\/k=4\/k=5\/k=6\/k=7\/k=8\/k=9\/k=10\/k=11\/k=12:=by omega
  rcases this with rfl|rfl|rfl|rfl|rfl|rfl|rfl|rfl|rfl|rfl|rfl|rfl
  ·exact aaL b e hs q h0
  ·exact aaM b e hs q h0
  ·exact aaN b e hs q h0
  ·exact aaO b e hs q h0
  ·exact aaP b e hs q h0
  ·exact aaQ b e hs q h0
  ·exact aaR b e hs q h0
  ·exact aaS b e hs q h0
  ·exact aaT b e hs q h0
  ·exact YH b e hs q h0
  ·exact YI b e hs q h0
  ·exact YJ b e hs q h0
 ·exact aaU k hk b e hs q h0
theorem V8 [Wd] (bs:List UInt8) (hl:bs.length<=4194304):aq prog 176 [.list 1 (bs.map af),.fn 177 0 []] (.aj [.agg (aC (cS aU aE bs).1),.int .i64 (cS aU aE bs).2]):=by
 obtain⟨x,b,e,ec,hb⟩:=Rd1.get acF (bs,0)
 replace hb:b.length<=bs.length:=hb
 obtain⟨d,hd⟩:∃d,d=dA (b,e):=⟨_,rfl⟩
 have gL:262144<bs.length->cS aU aE bs=(aE,3):=Oz
 have gN:¬262144<bs.length->¬d=0->cS aU aE bs=(aE,d):=fun h k=>by rw[hd] at k ⊢;exact OA h ec k
 have gY:¬262144<bs.length->d=0->cS aU aE bs=(x,0):=fun h k=>by rw[hd] at k;exact FK h ec k
 have hlen:((bs.map af).length:Int)=bs.length:=by rw[List.length_map]
 by_cases mu:262144<bs.length
 ·have hz:decide (((bs.map af).length:Int)>262144)=true:=by rw[hlen];simp;omega
  rw[gL mu]
  refine ak 28 [] func176 ?_
  repeat' (conv=>arg 2;whnf);first|refine bY hz ?_|refine qB (.inr rfl) rfl (aa.oO (aa.cons .z (aa.cons (.refl _) .nil))) rfl
 ·have hz:decide (((bs.map af).length:Int)>262144)=false:=by rw[hlen];simp;omega
  refine ak 28 [] func176 ?_
  repeat' (conv=>arg 2;whnf);first|refine bB hz ?_|refine rJ (fun h=>?_) (fun h=>?_)|refine cV [] (zC bs (by omega)) ?_|refine aX 2 (fun x=>D.agg (aC x)) ec V7 (by show bs.length<=_;omega) ?_|refine GY 2 (b,e) (b,e) (.int .i64 d) Bt (by show b.length<=_;omega) rfl (by rw[hd]) ⟨⟨rfl,rfl⟩,trivial⟩ (aa.refl _) rfl ?_|(rw[gY mu h];refine cg)|(rw[gN mu h];refine qB (.inr rfl) rfl (aa.oO (aa.cons .z (aa.cons (.refl _) .nil))) rfl)
theorem FO [Wd] (bs:List UInt8) (hl:bs.length<=4194304):aq prog 122 [.list 1 (bs.map af)] (.aj [.agg (aC (cS aU aE bs).1),.int .i64 (cS aU aE bs).2]):=by
 refine ak 8 [] func122 ?_
 repeat' (conv=>arg 2;whnf);first|refine okF (V8 bs hl) ?_|refine cg
theorem bC.abK [Wd] {P:Program} {f:FuncId} {ar:List D} {h:List AO} {cZ DP:D->List AO->Prop} (hF:bC P f ar h cZ) (k:∀r h',cZ r h'->∃(o:Nat) (t:TypeId) (cs ds:List D),h'[o]?=some (.cells t cs)/\aa cs ds/\DP r (h'.set o (.cells t ds))):bC P f ar h DP:=by
 refine⟨hF.1,fun w I g vs hW hd ha=>(hF.2 w I g vs hW hd ha).mono ?_⟩
 rintro e w' (⟨v,I',g',r,h',rfl,hP,mU,hv,hx,i1,i2,ow,ck⟩|hp)
 case inr=>exact .inr hp
 obtain⟨o,t,cs,ds,ho,hc,Uj⟩:=k r h' hP
 refine .inl ⟨v,I',g',r,h'.set o (.cells t ds),rfl,Uj,mU.yS ho hc,hv,hx,i1,i2,fun b ⟨o',ao,p,h1,h2,h3⟩=>?_,fun o' p t' fU h1 h2=>?_⟩
 ·obtain⟨a,k1,k2⟩:=FL ho h1
  exact ow b ⟨o',a,p,k1,h2,(k2 p b).1 h3⟩
 ·obtain⟨e1,t2,Uk,e2⟩:=ck o' p t' fU h1 h2
  refine⟨e1,?_⟩
  by_cases Cs:o=o'
  ·subst Cs
   exact⟨t,ds,by rw[List.getElem?_set,if_pos rfl,if_pos (List.getElem?_eq_some_iff.1 ho).1]⟩
  ·exact⟨t2,Uk,by rw[List.getElem?_set,if_neg Cs];exact e2⟩
abbrev bz (s:RS):List AO:=[.cells 176 [.list 1 (s.1.map af),.int .i64 s.2]]
abbrev lX [Wd] {α:Type} (f:FuncId) (ar:List D) (p:RS->α×RS) (ok:α->Prop) (R:α->D):Prop:=∀(b:List UInt8) (e:Int),b.length<=8388609->bC prog f (.ptr 0 0::ar) (bz (b,e)) (fun r h=>∃x b' e',au p (b,e) x (b',e')/\ok x/\r=R x/\h=bz (b',e'))
theorem QK [Wd] {f:FuncId} {ar:List D} {h:List AO} {e:Int} {r0:D} (hF:bC prog f ar h (fun r h=>r=r0/\h=[.cells 176 [.nils,.int .i64 e]])):bC prog f ar h (fun r h=>r=r0/\h=bz ([],e)):=
 hF.abK fun r h' ⟨e1,e2⟩=>by subst e2;exact⟨0,_,_,[.list 1 [],.int .i64 e],rfl,.cons (.nil _) (.refl _),e1,rfl⟩
theorem vK [Wd] (b:List UInt8):bC prog 125 [.ptr 0 0,.int .i64 0] (bz (b,0)) (fun r h=>r=.aj []/\h=bz (b,0)):=by
 refine ak 21 [] func125 ?_
 repeat' (conv=>arg 2;whnf);first|exact mL (r:=.aj []) (h':=bz (b,0)) [0] (.inl rfl) rfl rfl ⟨⟨rfl,rfl⟩,trivial⟩ ⟨⟨rfl,rfl⟩,trivial⟩ (.refl _)
theorem kF [Wd] {k:Int} (hk:¬k=0) (b:List UInt8):bC prog 125 [.ptr 0 0,.int .i64 k] (bz (b,0)) (fun r h=>r=.aj []/\h=bz ([],k)):=by
 refine QK ?_
 refine ak 21 [] func125 ?_
 repeat' (conv=>arg 2;whnf);first|refine bY (by simpa using hk) ?_|exact mL (r:=.aj []) (h':=[.cells 176 [.nils,.int .i64 k]]) [0] (.inl rfl) rfl rfl ⟨⟨rfl,rfl⟩,trivial⟩ ⟨⟨rfl,rfl⟩,trivial⟩ (.refl _)
theorem JA [Wd] {e:Int} (he:¬e=0) (k:Int) (b:List UInt8):bC prog 125 [.ptr 0 0,.int .i64 k] (bz (b,e)) (fun r h=>r=.aj []/\h=bz ([],e)):=by
 refine QK ?_
 refine ak 21 [] func125 ?_
 repeat' (conv=>arg 2;whnf);first|refine bB (by simpa using he) ?_|refine bY (by simpa using he) ?_|exact mL (r:=.aj []) (h':=[.cells 176 [.nils,.int .i64 e]]) [0] (.inl rfl) rfl rfl ⟨⟨rfl,rfl⟩,trivial⟩ ⟨⟨rfl,rfl⟩,trivial⟩ (.refl _)
theorem abL [Wd] (b:List UInt8) (e:Int):bC prog 79 [.ptr 0 0] (bz (b,e)) (fun r h=>r=.int .i64 (dA (b,e))/\h=bz (b,e)):=by
 refine ak 20 [] func79 ?_
 repeat' (conv=>arg 2;whnf);first|apply an<;>intro h|(refine mL (r:=.int .i64 _) (h':=bz (b,e)) [0] (.inr rfl) rfl rfl ⟨⟨rfl,rfl⟩,trivial⟩ ⟨⟨rfl,rfl⟩,trivial⟩ (Co.of_eq (congrArg (D.int .i64) ?_));unfold dA;cases b<;>simp_all;done)
theorem DD {most:Nat} {s:RS} {n:Nat} {t:RS} (h:cy most s=(n,t)) (ht:¬t.2=0) {u:RS} (hu:¬u.2=0) (hl:u.1.length<=s.1.length):au (nR most) s 0 u:=
 ⟨fun e=>absurd e hu,fun _=>by show ¬(cy most s).2.2=0;rw[h];exact ht,hl⟩
theorem abM {most:Nat} {s:RS} {n:Int} {t:RS} (h:cy most s=(n.toNat,t)) (hn:n=(n.toNat:Int)):au (nR most) s n t:=by
 have e:nR most s=(n,t):=by
  unfold nR
  rw[h,<-hn]
 refine⟨fun _=>e,fun k=>by rw[e];exact k,?_⟩
 have:=(dD most).len s
 rw[e] at this
 exact this
theorem adf {m q:Nat} {x:UInt8} (hm:m<128^q) (hq:q<=9) (h:q<9\/x.toNat<=1):IntKind.u64.wrap (((x.toNat%128:Nat):Int)*((128^q:Nat):Int))=((x.toNat%128*128^q:Nat):Int)/\IntKind.u64.wrap ((m:Int)+((x.toNat%128*128^q:Nat):Int))=((m+x.toNat%128*128^q:Nat):Int):=by
 have hb:m+x.toNat%128*128^q<18446744073709551616:=by
  rcases h with h|h
  ·have h1:=Kt hm (Nat.mod_lt x.toNat (show 0<128 by decide))
   have h2:128^(q+1)<=128^9:=Nat.pow_le_pow_right (by decide) (by omega)
   have h3:(128:Nat)^9=9223372036854775808:=by decide
   omega
  ·have h2:128^q<=128^9:=Nat.pow_le_pow_right (by decide) hq
   have h3:(128:Nat)^9=9223372036854775808:=by decide
   have h4:x.toNat%128*128^q<=1*128^q:=Nat.mul_le_mul_right _ (by omega)
   omega
 have hw:∀n:Nat,n<18446744073709551616->IntKind.u64.wrap (n:Int)=n:=fun n hn=>by simp[IntKind.wrap,IntKind.bits,IntKind.signed];omega
 refine⟨?_,?_⟩
 ·rw[<-Int.natCast_mul]
  exact hw _ (by omega)
 ·rw[<-Int.natCast_add]
  exact hw _ hb
theorem ZJ {most q m:Nat} {x:UInt8} {bs:List UInt8} (hx:bs[q]?=some x) (hI:eH most 0 0 bs=eH most q m (bs.drop q)) (h9:q=9/\1<x.toNat):cy most (bs,0)=(0,(bs,11)):=by
 have e:eH most 0 0 bs=(0,[],11):=by
  rw[hI,drop_at hx]
  exact IK h9.1 h9.2
 unfold cy
 rw[if_pos rfl]
 simp[e]
theorem mg [Wd] (most:Nat) (ahS:most<18446744073709551616):lX 80 [.int .u64 (most:Int)] (nR most) (fun n=>0<=n/\n<=most) (D.int .u64):=by
 intro bs e hs
 have Eo:(0:Int)<=0/\(0:Int)<=most:=⟨by omega,by omega⟩
 by_cases he:e=0
 ·subst he
  refine ak 87 [] func80 ?_
  repeat' (conv=>arg 2;whnf);first|refine aY ?_
  refine bE (α:=Nat×Int) (fun a=>⟨[(7,.int .i64 a.1),(6,.int .u64 ((128^a.1:Nat):Int)),(5,.int .u64 a.2),(1,.int .u64 (most:Int)),(0,.ptr 0 0)],bz (bs,0)⟩) (fun a=>a.1<=9/\yR most bs a.1 a.2) (fun a=>9-a.1) (0,0) ⟨Nat.zero_le _,⟨fun _=>⟨Nat.zero_le _,0,rfl,by decide,rfl⟩,fun h=>by cases h⟩⟩ (Sv.aK [0]) ?_
  rintro⟨q,A⟩ ⟨hq,hI⟩
  replace hq:q<=9:=hq
  replace hI:yR most bs q A:=hI
  obtain⟨hql,m,rfl,hm,ey⟩:=hI.go (by omega)
  have hlen:((bs.map af).length:Int)=(bs.length:Int):=by rw[List.length_map]
  rcases Nat.lt_or_ge q bs.length with hlt|dm
  ·obtain⟨x,hx⟩:∃x,bs[q]?=some x:=⟨_,List.getElem?_eq_getElem hlt⟩
   have cu:((q:Int)==((bs.map af).length:Int))=false:=by rw[hlen];simp;omega
   have Cw:(bs.map af)[(q:Int).toNat]?=some (af x):=by simp[hx]
   have nC:=x.toNat_lt
   by_cases h9:q=9/\1<x.toNat
   ·have g:=DD (ZJ hx ey h9) (show ¬(11:Int)=0 by decide) (u:=([],11)) (show ¬(11:Int)=0 by decide) (Nat.zero_le _)
    obtain⟨rfl,dh⟩:=h9
    repeat' (conv=>arg 2;whnf);first|refine bB cu ?_|refine bY (by simp;omega) ?_|refine eT (af x) (Int.natCast_nonneg _) Cw ?_|refine cV [0] (kF (k:=11) (by decide) bs) ?_|refine eG ?_|exact bf (r:=.int .u64 0) (h':=bz ([],11)) [0] (.inr rfl) rfl rfl ⟨⟨rfl,rfl⟩,trivial⟩ ⟨⟨rfl,rfl⟩,trivial⟩ (.refl _) ⟨0,[],11,g,Eo,rfl,rfl⟩
   ·obtain⟨w1,w2⟩:=adf (x:=x) hm hq (by omega)
    have w0:IntKind.u64.wrap ((x.toNat:Int).tmod 128)=((x.toNat%128:Nat):Int):=by rw[show(x.toNat:Int).tmod 128=((x.toNat%128:Nat):Int) from rfl];simp[IntKind.wrap,IntKind.bits,IntKind.signed];omega
    have hV:IntKind.u64.wrap ((m:Int)+IntKind.u64.wrap (IntKind.u64.wrap ((x.toNat:Int).tmod 128)*((128^q:Nat):Int)))=((m+x.toNat%128*128^q:Nat):Int):=by rw[w0,w1,w2]
    have hB:IntKind.u64.wrap (((128^q:Nat):Int)*128)=((128^(q+1):Nat):Int)\/x.toNat<128:=by
     rcases Nat.lt_or_ge x.toNat 128 with k|k
     ·exact .inr k
     ·left
      have h2:128^(q+1)<=128^9:=Nat.pow_le_pow_right (by decide) (by omega)
      have h3:(128:Nat)^9=9223372036854775808:=by decide
      have h4:128^(q+1)=128^q*128:=Nat.pow_succ ..
      rw[show((128^q:Nat):Int)*128=((128^(q+1):Nat):Int) by rw[h4,Int.natCast_mul];rfl]
      have hw:∀n:Nat,n<18446744073709551616->IntKind.u64.wrap (n:Int)=n:=fun n hn=>by simp[IntKind.wrap,IntKind.bits,IntKind.signed];omega
      exact hw _ (by omega)
    have Hv:¬x.toNat<128->yR most bs (q+1) ((m+x.toNat%128*128^q:Nat):Int):=fun k=>by
     constructor
     ·intro h9'
      refine⟨by omega,_,rfl,Kt hm (Nat.mod_lt _ (by decide)),?_⟩
      rw[ey,drop_at hx,IJ (by omega) (by omega)]
     ·intro kN
      omega
    have tJ:x.toNat<128->((0<q/\x.toNat=0)\/(most:Int)<((m+x.toNat%128*128^q:Nat):Int))->au (nR most) (bs,0) 0 ([],11):=fun k c=>DD (QB (A:=((m+x.toNat%128*128^q:Nat):Int)) hx ey (fun _=>rfl) hq (by omega) (c.elim .inl fun c=>.inr (.inr c))) (show ¬(11:Int)=0 by decide) (show ¬(11:Int)=0 by decide) (Nat.zero_le _)
    have Sb:x.toNat<128->¬(0<q/\x.toNat=0)->¬(most:Int)<((m+x.toNat%128*128^q:Nat):Int)->au (nR most) (bs,0) ((m+x.toNat%128*128^q:Nat):Int) (bs.drop (q+1),0):=fun k c d=>by
     have g:=Pr (A:=((m+x.toNat%128*128^q:Nat):Int)) hx ey (fun _=>rfl) hq (by omega) c h9 d
     exact abM g.1 g.2
    clear w1 w2 hI ey
    generalize m+x.toNat%128*128^q=V at hV Hv tJ Sb
    have Th:=hV
    simp[w0] at Th
    repeat' (conv=>arg 2;whnf);first|(exfalso;omega)|refine aT (by decide) ?_|refine aT ⟨by(try dsimp only);omega,by(try dsimp only);rw[hlen];omega,by simp⟩ ?_|refine bB cu ?_|(apply an<;>intro h<;>(try simp[w0,Th] at h))|refine eT (af x) (Int.natCast_nonneg _) Cw ?_|refine bZ (by(try dsimp only);omega) ?_|refine cV [0] (kF (k:=11) (by decide) bs) ?_|refine eG ?_|exact bf (r:=.int .u64 0) (h':=bz ([],11)) [0] (.inr rfl) rfl rfl ⟨⟨rfl,rfl⟩,trivial⟩ ⟨⟨rfl,rfl⟩,trivial⟩ (.refl _) ⟨0,[],11,tJ (by omega) (by omega),Eo,rfl,rfl⟩|exact bf (r:=.int .u64 (V:Int)) (h':=bz (bs.drop (q+1),0)) [0] (.inr rfl) rfl rfl ⟨⟨rfl,by show AO.cells _ [.list 1 _,_]=AO.cells _ [.list 1 _,_];rw[from_];rfl⟩,trivial⟩ ⟨⟨rfl,rfl⟩,trivial⟩ (Co.of_eq (congrArg (D.int .u64) hV)) ⟨V,_,_,Sb (by omega) (by omega) (by omega),⟨by omega,by omega⟩,rfl,rfl⟩|refine aZ (q+1,(V:Int)) (Sv.mk' [0] rfl ⟨⟨rfl,rfl⟩,trivial⟩ ⟨rfl,congrArg (D.int .u64) (hB.resolve_right (by omega)),congrArg (D.int .u64) hV,rfl,rfl,trivial⟩) ⟨by show q+1<=9;omega,Hv (by omega)⟩ (by show 9-(q+1)<9-q;omega)
  ·have g:=QC ey dm
   repeat' (conv=>arg 2;whnf);first|refine bY (by simp;omega) ?_|refine cV [0] (kF (k:=10) (by decide) bs) ?_|refine eG ?_|exact bf (r:=.int .u64 0) (h':=bz ([],10)) [0] (.inr rfl) rfl rfl ⟨⟨rfl,rfl⟩,trivial⟩ ⟨⟨rfl,rfl⟩,trivial⟩ (.refl _) ⟨0,[],10,DD g (show ¬(10:Int)=0 by decide) (show ¬(10:Int)=0 by decide) (Nat.zero_le _),Eo,rfl,rfl⟩
 ·have g:=DD (most:=most) (Bl most (bs,e) he) he (u:=([],e)) he (Nat.zero_le _)
  refine ak 87 [] func80 ?_
  repeat' (conv=>arg 2;whnf);first|refine aY ?_
  refine bE (α:=Unit) (fun _=>⟨[(7,.int .i64 0),(6,.int .u64 1),(5,.int .u64 0),(1,.int .u64 (most:Int)),(0,.ptr 0 0)],bz (bs,e)⟩) (fun _=>True) (fun _=>0) () trivial (Sv.aK [0]) ?_
  rintro _ _
  repeat' (conv=>arg 2;whnf);first|refine bY (by simpa using he) ?_|apply an<;>intro h|refine cV [0] (JA he 10 bs) ?_|refine eG ?_|exact bf (r:=.int .u64 0) (h':=bz ([],e)) [0] (.inr rfl) rfl rfl ⟨⟨rfl,rfl⟩,trivial⟩ ⟨⟨rfl,rfl⟩,trivial⟩ (.refl _) ⟨0,[],e,g,Eo,rfl,rfl⟩|exact bf (r:=.int .u64 0) (h':=bz (bs,e)) [0] (.inr rfl) rfl rfl ⟨⟨rfl,rfl⟩,trivial⟩ ⟨⟨rfl,rfl⟩,trivial⟩ (.refl _) ⟨0,bs,e,DD (Bl most (bs,e) he) he he (Nat.le_refl _),Eo,rfl,rfl⟩
theorem eg [Wd] {P:Program} {tb:TT} {rs:List ResultVar} {e:Exit} {s:S} {h:List AO} {r:D} {h':List AO} {ds:List D} {cZ:D->List AO->Prop} (fz σ:List Nat) (he:e=.normal\/e=.ret) (hr:iD tb (s.dj fz) rs=some ds) (hn:nodupB σ=true) (hv:jF (s.dj fz).h σ σ h') (hk:tg 0 h σ h') (iw:Co (lI ds) (r.bO σ)) (hp:cZ r h'):(T.leaf e s).ok P (Lf tb rs h cZ):=
 ⟨he,fz,ds,hr,σ,r,_,h',.mk' hn hv,iw,rfl,fun o t cs ho=>Bv hk o t cs ho |>.imp (fun k=>by simpa using k) (fun k=>by simpa using k),hp⟩
theorem ahJ [Wd] {P:Program} {tb:TT} {rs:List ResultVar} {s:S} {h:List AO} {r:D} {h':List AO} {ds:List D} {cZ:D->List AO->Prop} (fz σ:List Nat) (hr:iD tb (s.dj fz) rs=some ds) (iw:Co (lI ds) (r.bO σ)) (hp:cZ r h') (hn:nodupB σ=true:=by exact rfl) (hv:xO (s.dj fz).h σ=xP σ h':=by exact rfl) (hk:tg 0 h σ h':=by repeat' (first|exact trivial|exact rfl|apply And.intro)):(T.leaf .ret s).ok P (Lf tb rs h cZ):=eg fz σ (.inr rfl) hr hn (Dz hv) hk iw hp
theorem Fq {n:Int} {s:RS} {t:RS} (h:fR n s=([],t)) (ht:¬t.2=0) {u:RS} (hu:¬u.2=0) (hl:u.1.length<=s.1.length):au (fR n) s [] u:=
 ⟨fun e=>absurd e hu,fun _=>by rw[h];exact ht,hl⟩
theorem abN [Wd] (n:Int) (hn:-9223372036854775808<=n/\n<=9223372036854775807):lX 179 [.int .i64 n] (fR n) (fun x=>(x.length:Int)<=n\/x=[]) (fun x=>.list 1 (x.map af)):=by
 intro bs e hs
 have hlen:((bs.map af).length:Int)=(bs.length:Int):=by rw[List.length_map]
 by_cases he:e=0
 ·subst he
  by_cases h0:n<0
  ·have g:fR n (bs,0)=([],(bs,1)):=by unfold fR;rw[if_pos rfl,if_pos h0]
   refine ak 49 [] func179 ?_
   repeat' (conv=>arg 2;whnf);first|refine bY (by simpa using h0) ?_|refine cV [0] (kF (k:=1) (by decide) bs) ?_|exact bf (r:=.list 1 []) (h':=bz ([],1)) [0] (.inr rfl) rfl rfl ⟨⟨rfl,rfl⟩,trivial⟩ ⟨⟨rfl,rfl⟩,trivial⟩ (.nil _) ⟨[],[],1,Fq g (show ¬(1:Int)=0 by decide) (show ¬(1:Int)=0 by decide) (Nat.zero_le _),.inr rfl,rfl,rfl⟩
  ·by_cases h1:(bs.length:Int)<n
   ·have g:fR n (bs,0)=([],(bs,10)):=by unfold fR;rw[if_pos rfl,if_neg h0,if_pos h1]
    refine ak 49 [] func179 ?_
    repeat' (conv=>arg 2;whnf);first|refine bB (by simpa using h0) ?_|refine bY (by simp;omega) ?_|refine cV [0] (kF (k:=10) (by decide) bs) ?_|exact bf (r:=.list 1 []) (h':=bz ([],10)) [0] (.inr rfl) rfl rfl ⟨⟨rfl,rfl⟩,trivial⟩ ⟨⟨rfl,rfl⟩,trivial⟩ (.nil _) ⟨[],[],10,Fq g (show ¬(10:Int)=0 by decide) (show ¬(10:Int)=0 by decide) (Nat.zero_le _),.inr rfl,rfl,rfl⟩
   ·have g:fR n (bs,0)=(bs.take n.toNat,(bs.drop n.toNat,0)):=by unfold fR;rw[if_pos rfl,if_neg h0,if_neg h1]
    have t1:((bs.map af).drop (0:Int).toNat).take (n.toNat-(0:Int).toNat)=(bs.take n.toNat).map af:=by simp[List.map_take]
    have t2:((bs.map af).drop n.toNat).take ((((bs.map af).length:Nat):Int).toNat-n.toNat)=(bs.drop n.toNat).map af:=by
     rw[List.take_of_length_le (by simp),List.map_drop]
    refine ak 49 [] func179 ?_
    repeat' (conv=>arg 2;whnf);first|refine aT ⟨by omega,by rw[hlen];omega,by simp⟩ ?_|refine aT ⟨by omega,by omega,by rw[hlen];omega⟩ ?_|refine aT ⟨by simp[maxLen];omega,by simp;omega⟩ ?_|refine bB (by simpa using h0) ?_|refine bB (by simp;omega) ?_|exact eg (r:=.list 1 ((bs.take n.toNat).map af)) (h':=bz (bs.drop n.toNat,0)) [1] [0] (.inr rfl) rfl rfl ⟨⟨rfl,by show AO.cells _ [.list 1 _,_]=AO.cells _ [.list 1 _,_];rw[t2];rfl⟩,trivial⟩ ⟨⟨rfl,rfl⟩,trivial⟩ (Co.of_eq (congrArg (D.list 1) t1)) ⟨_,_,_,⟨fun _=>g,fun k=>absurd rfl k,by simp⟩,.inl (by rw[List.length_take];omega),rfl,rfl⟩
 ·have g:fR n (bs,e)=([],(bs,e)):=by unfold fR;rw[if_neg he]
  refine ak 49 [] func179 ?_
  repeat' (conv=>arg 2;whnf);first|refine bB (by simpa using he) ?_|refine bY (by simpa using he) ?_|apply an<;>intro h|refine cV [0] (JA he 1 bs) ?_|exact bf (r:=.list 1 []) (h':=bz ([],e)) [0] (.inr rfl) rfl rfl ⟨⟨rfl,rfl⟩,trivial⟩ ⟨⟨rfl,rfl⟩,trivial⟩ (.nil _) ⟨[],[],e,Fq g he he (Nat.zero_le _),.inr rfl,rfl,rfl⟩|exact bf (r:=.list 1 []) (h':=bz (bs,e)) [0] (.inr rfl) rfl rfl ⟨⟨rfl,rfl⟩,trivial⟩ ⟨⟨rfl,rfl⟩,trivial⟩ (.nil _) ⟨[],bs,e,Fq g he he (Nat.le_refl _),.inr rfl,rfl,rfl⟩
abbrev fV (x y:Int) (c:cX):aD:={aE with kind:=7,src:=x,view:=y,changes:=[c]}
theorem Gp {b:List UInt8} (h:(cS aU aE b).2=0) (h7:(cS aU aE b).1.kind=7):∃x y c,(cS aU aE b).1=fV x y c:=by
 have hb:eC (cS aU aE b).1=0:=by
  unfold cS at h ⊢
  split at h
  ·cases h
  ·rename_i h1
   rw[if_neg h1]
   split at h
   ·rename_i h2
    rw[if_pos h2]
    refine(Bz.back b ?_).1
    unfold dA at h2
    split at h2
    ·assumption
    ·assumption
   ·rename_i h2
    exact absurd h h2
 generalize (cS aU aE b).1=m at hb h7
 have h2:=(Jc hb).2
 have hk:=nG (oA hb)
 have hc:m.changes.length=1:=by
  unfold bP at hk
  rw[h7] at hk
  simp only[show ¬((7:Int)=1) by decide,show ¬((7:Int)=2) by decide,show ¬((7:Int)=3) by decide,show ¬((7:Int)=4) by decide,show ¬((7:Int)=5) by decide,show ¬((7:Int)=6) by decide,if_false,if_true,bQ] at hk
  have h1:=hk.1
  unfold cQ at h1
  split at h1
  ·cases h1
  ·omega
 obtain⟨c,hc⟩:=sM hc
 refine⟨m.src,m.view,c,?_⟩
 unfold aH at h2
 simp only[h7,show ¬((7:Int)=1) by decide,show ¬((7:Int)=2) by decide,show ¬((7:Int)=3) by decide,show ¬((7:Int)=4) by decide,show ¬((7:Int)=5) by decide,show ¬((7:Int)=6) by decide,if_false,if_true,show bW 7=false from rfl,Bool.false_eq_true] at h2
 rw[hc] at h2
 exact h2
def Et (x y:Int) (c:cX):List D:=[.int .i64 7,.int .i64 x,.int .i64 y,.int .i64 0,.int .i64 0,.int .i64 0,.int .i64 0,.int .i64 0,.int .i64 0,.own 9 [],.int .i64 0,.int .i64 0,.own 2 [],.row 0,.own 5 [],.own 1 [],.str [],.int .i64 0,.str [],.int .i64 0,.own 1 [],.own 5 [],.int .i64 0,.int .i64 0,.own 1 [],.int .i64 0,.int .i64 0,.own 2 [],.int .i64 0,.int .i64 0]
theorem abU [Wd] (x y:Int) (c:cX) (hc:fP.ok c):bC prog 178 [.agg (aC (fV x y c))] [] (fun r h=>r=.agg (Et x y c)/\h=[.row 145 8 [nh c]]):=by
 refine iV 86 [(1,⟨PT.of [(0,false),(1,false),(3,false),(4,false),(6,false),(7,false),(2,true),(9,false),(5,true),(8,true),(10,true),(11,false),(12,true),(13,false),(14,true)],[0,1,2,3,1010,1012,1014]⟩),(2,⟨PT.of [(0,false),(1,false),(3,false),(4,false),(2,true),(6,false),(5,true),(7,true),(8,false),(9,true)],[0,1,2,3,1007,1009]⟩),(6,⟨PT.of [(0,false),(1,false),(2,false),(3,false),(4,false),(5,false),(6,false),(7,false),(8,true),(9,false),(10,true)],[0,1,2,3,1010]⟩),(11,⟨PT.of [(0,false),(1,false),(2,false),(3,false),(4,false),(5,false),(6,false),(7,false),(8,false),(9,true),(10,false),(11,false),(12,true)],[0,1,2,3,1012]⟩),(13,⟨PT.of [(0,false),(1,false),(2,false),(4,false),(5,false),(6,false),(8,false),(9,false),(10,false),(3,true),(12,false),(13,false),(7,true),(11,true),(14,true),(15,false),(16,false),(17,true),(18,false),(19,false),(20,true)],[0,1,2,3,1014,1017,1020]⟩)] func178 ?_
 repeat' (conv=>arg 2;whnf);first|refine aY ?_|refine aV ?_ ?_|refine okF (Da (fV x y c).batch dO) ?_|refine okF (wL (fV x y c).cert ⟨bu,bu,dO⟩) ?_|refine okF (vM (fV x y c).state (Nat.zero_le _)) ?_|refine pH [] (Ob (fV x y c).changes (show 1<=4194304 by decide)) (.mk' rfl trivial) (aa.refl _) rfl (fun r kD hp=>?_)
 rcases hp with⟨Cz,rfl,rfl⟩|⟨rfl,rfl⟩
 ·exact absurd Cz (List.cons_ne_nil _ _)
 ·skip
  repeat' (conv=>arg 2;whnf);first|refine aY ?_|refine pH [] (Jd (fV x y c).entries (Nat.zero_le _)) (.mk' rfl trivial) (aa.refl _) rfl (fun r kD hp=>?_)
  rcases hp with⟨Hx,rfl,rfl⟩|⟨rfl,rfl⟩
  ·skip
   repeat' (conv=>arg 2;whnf);first|refine aY ?_|refine aV ?_ ?_
   conv=>arg 2;whnf
   refine bE (α:=Nat) (fun i=>⟨[(28,.int .i64 i),(27,.int .i64 ((fV x y c).changes.map bU).length),(2,.ptr 1 0),(1,.ptr 0 0)],[.cells 59 (tK (fV x y c) (.row 2) (.nils)),.cells 59 tq,.row 145 8 (((fV x y c).changes.take i).map nh++((fV x y c).changes.drop i).map bU)]⟩) (fun i=>i<=(fV x y c).changes.length) (fun i=>(fV x y c).changes.length-i) 0 (Nat.zero_le _) (Sv.aK [0,1,2]) ?_
   intro i (hi:i<=(fV x y c).changes.length)
   conv=>arg 2;whnf
   apply an<;>intro h
   ·have y7:i=0:=by
     have:(i:Int)<1:=by simpa using h
     omega
    subst y7
    repeat' (conv=>arg 2;whnf);first|refine aY ?_|refine aV ?_ ?_|refine aT (by simp) ?_|refine eT (bU c) (by decide) rfl ?_|refine eT (nh c) (by decide) rfl ?_|refine okF (EU c hc) ?_|refine bw (by rfl) ?_|refine aZ 1 (Sv.aK [0,1,2]) (Nat.le_refl _) (show(0:Nat)<1 by decide)|fail
   ·rw[zS hi (by have:¬(i:Int)<1:=by simpa using h
                 show ¬i<1;omega)]
    repeat' (conv=>arg 2;whnf);first|refine aY ?_|refine aV ?_ ?_|refine bq ?_
    conv=>arg 2;whnf
    refine bE (α:=Unit) (fun a=>⟨[(45,.int .i64 0),(44,.int .i64 0),(2,.ptr 1 0),(1,.ptr 0 0)],[.cells 59 (tK (fV x y c) (.row 2) (.nils)),.cells 59 tq,.row 145 8 [nh c]]⟩) (fun a=>True) (fun a=>0) () trivial (Sv.aK [0,1,2]) ?_
    rintro a-
    repeat' (conv=>arg 2;whnf);first|refine aY ?_|refine aV ?_ ?_|refine bq ?_|refine okF (vM (fV x y c).proof.record (Nat.zero_le _)) ?_|refine okF (Bf (fV x y c).proof.headers (Nat.zero_le _)) ?_|refine okF (Bg (fV x y c).proof.path (Nat.zero_le _)) ?_|refine okF (wL (fV x y c).proof.cert ⟨bu,bu,dO⟩) ?_|(refine eg (r:=.agg (Et x y c)) (h':=[.row 145 8 [nh c]]) [] [2] (.inr rfl) rfl rfl ⟨⟨rfl,rfl⟩,trivial⟩ trivial (aa.eU (by unfold Et;repeat' first|exact aa.nil|refine aa.cons (.refl _) ?_|refine aa.cons (.rO _) ?_)) ⟨rfl,rfl⟩;done)|fail
  ·skip
   repeat' (conv=>arg 2;whnf);first|refine aY ?_|refine aV ?_ ?_
   conv=>arg 2;whnf
   refine bE (α:=Nat) (fun i=>⟨[(28,.int .i64 i),(27,.int .i64 ((fV x y c).changes.map bU).length),(2,.ptr 1 0),(1,.ptr 0 0)],[.cells 59 (tK (fV x y c) (.row 2) (.row 3)),.cells 59 tq,.row 145 8 (((fV x y c).changes.take i).map nh++((fV x y c).changes.drop i).map bU),.row 159 5 []]⟩) (fun i=>i<=(fV x y c).changes.length) (fun i=>(fV x y c).changes.length-i) 0 (Nat.zero_le _) (Sv.aK [0,1,2,3]) ?_
   intro i (hi:i<=(fV x y c).changes.length)
   conv=>arg 2;whnf
   apply an<;>intro h
   ·have y7:i=0:=by
     have:(i:Int)<1:=by simpa using h
     omega
    subst y7
    repeat' (conv=>arg 2;whnf);first|refine aY ?_|refine aV ?_ ?_|refine aT (by simp) ?_|refine eT (bU c) (by decide) rfl ?_|refine eT (nh c) (by decide) rfl ?_|refine okF (EU c hc) ?_|refine bw (by rfl) ?_|refine aZ 1 (Sv.aK [0,1,2,3]) (Nat.le_refl _) (show(0:Nat)<1 by decide)|fail
   ·rw[zS hi (by have:¬(i:Int)<1:=by simpa using h
                 show ¬i<1;omega)]
    repeat' (conv=>arg 2;whnf);first|refine aY ?_|refine aV ?_ ?_|refine bq ?_
    conv=>arg 2;whnf
    refine bE (α:=Unit) (fun a=>⟨[(45,.int .i64 0),(44,.int .i64 0),(2,.ptr 1 0),(1,.ptr 0 0)],[.cells 59 (tK (fV x y c) (.row 2) (.row 3)),.cells 59 tq,.row 145 8 [nh c],.row 159 5 []]⟩) (fun a=>True) (fun a=>0) () trivial (Sv.aK [0,1,2,3]) ?_
    rintro a-
    repeat' (conv=>arg 2;whnf);first|refine aY ?_|refine aV ?_ ?_|refine bq ?_|refine okF (vM (fV x y c).proof.record (Nat.zero_le _)) ?_|refine okF (Bf (fV x y c).proof.headers (Nat.zero_le _)) ?_|refine okF (Bg (fV x y c).proof.path (Nat.zero_le _)) ?_|refine okF (wL (fV x y c).proof.cert ⟨bu,bu,dO⟩) ?_|(refine eg (r:=.agg (Et x y c)) (h':=[.row 145 8 [nh c]]) [3,1003] [2] (.inr rfl) rfl rfl ⟨⟨rfl,rfl⟩,trivial⟩ trivial (aa.eU (by unfold Et;repeat' first|exact aa.nil|refine aa.cons (.refl _) ?_|refine aa.cons (.rO _) ?_)) ⟨rfl,rfl⟩;done)|fail
theorem qu {α:Type} {f g:α->List D} (h:∀x,D.dy.cl (f x)=g x) (l:List α):D.dy.ll (l.map f)=l.map g:=by
 rw[Gq,List.map_map];exact List.map_congr_left (fun x _=>h x)
theorem QT (x:UInt8):D.dy.cl (af x)=af x:=rfl
theorem adq (x:Int):D.dy.cl (eD x)=eD x:=rfl
theorem Je (s:bJ):D.dy.cl (bL s)=bL s:=by simp only[bL,bL,D.dy.cl,D.dy]
theorem VR (s:j7):D.dy.cl (eO s)=eO s:=by simp only[eO,eO,D.dy.cl,D.dy]
theorem ZO (s:List UInt8):D.dy.cl (D3 s)=gS s:=by simp only[D3,gS,D.dy.cl,D.dy,qu QT]
theorem Iw (s:bX):D.dy.cl (yu s)=bI s:=by simp only[yu,bI,D.dy.cl,D.dy,qu ZO]
theorem UT (s:jt):D.dy.cl (Fw s)=fk s:=by simp only[Fw,fk,D.dy.cl,D.dy,qu Je,qu Iw]
theorem VS (s:cX):D.dy.cl (nh s)=bU s:=by simp only[nh,bU,D.dy.cl,D.dy,qu Je,qu UT]
theorem WI (s:gq):D.dy.cl (DF s)=dV s:=by simp only[DF,dV,D.dy.cl,D.dy,qu Iw]
theorem ZP (s:aD):D.dy.cl (wv s)=aC s:=by simp only[wv,aC,D.dy.cl,D.dy,qu Iw,qu Je,qu VS,qu WI,qu QT,qu VR,qu adq]
theorem QU (m:aD):Co (.agg (wv m)) (.agg (aC m)):=by
 have h:=Co.dy (.agg (wv m))
 rw[show(D.agg (wv m)).dy=.agg (D.dy.cl (wv m)) from rfl,ZP] at h
 exact h
theorem adr [Wd] (x y:Int) (c:cX) (s:bJ) (hc:fP.ok c):aq prog 123 [.agg (aC (fV x y c)),.agg (bL s)] (.agg (aC (kJ (fV x y c) s))):=by
 refine ak 24 [] func123 ?_
 repeat' (conv=>arg 2;whnf);first|refine aY ?_|refine aV ?_ ?_|refine aT (by simp) ?_|(refine pH [] (abU x y c hc) (.mk' rfl trivial) (aa.refl _) rfl ?_;rintro r h' ⟨rfl,rfl⟩)|refine eT (nh c) (by decide) rfl ?_|refine mE [3,1003] (.inr rfl) rfl (QU (fV x y {c with sign:=s})) rfl
theorem F4 [Wd] (m:aD) (s:bJ) (hm:bh.ok m) (h7:m.kind=7->∃x y c,m=fV x y c):aq prog 123 [.agg (aC m),.agg (bL s)] (.agg (aC (kJ m s))):=by
 by_cases hk:m.kind=7
 ·obtain⟨x,y,c,rfl⟩:=h7 hk
  exact adr x y c s (hm.2.2.2.2.2.2.2.2.2.2.1.2 c (List.mem_singleton.2 rfl))
 ·rw[show kJ m s={m with sign:=s} from if_neg hk]
  refine ak 24 [] func123 ?_
  repeat' (conv=>arg 2;whnf);first|refine aY ?_|refine aV ?_ ?_|refine okF (ZQ m hm) ?_|refine bB (by first|(simp;done)|simpa using hk) ?_|refine mE [] (.inr rfl) rfl (QU {m with sign:=s}) rfl
theorem okW [Wd] {α:Type} {Q:Exit->S->Prop} {f:FuncId} {bR:List D} {p:lW α} {R:α->D} {hb:List AO} {c:D->List AO->T} (o:Nat) (hF:Am f p R) (ws:List (List UInt8)) (hw:kO ws) (hp:p ws=none->Wd.kY rq) (hv:jF hb [o] [o] (fj ws)) (hc:aa bR [.ptr o 0]) (hM:([o].all fun o=>(jT hb bR).elem o)=true) (k:∀x rest,p ws=some (x,rest)->(c ((R x).bO (mz hb [o] (fj ws) (fj rest))) (lK hb [o] (fj ws) (fj rest))).ok prog Q):(T.call f bR hb c).ok prog Q:=
 KW [o] (hF ws hw hp) (.mk' rfl hv) hc hM fun r h' ⟨x,rest,e,e1,e2⟩=>by subst e1 e2;exact k x rest e
theorem lU [Wd] {α:Type} {Q:Exit->S->Prop} {f:FuncId} {bR:List D} {p:lW α} {R:α->D} {hb:List AO} {c:D->List AO->T} (o:Nat) (hF:Am f p R) (ws:List (List UInt8)) (hw:kO ws) (hp:p ws=none->Wd.kY rq) (k:∀x rest,p ws=some (x,rest)->(c ((R x).bO (mz hb [o] (fj ws) (fj rest))) (lK hb [o] (fj ws) (fj rest))).ok prog Q) (hv:jF hb [o] [o] (fj ws):=by exact⟨⟨rfl,rfl⟩,trivial⟩) (hc:aa bR [.ptr o 0]:=by exact aa.refl _) (hM:([o].all fun o=>(jT hb bR).elem o)=true:=by exact rfl):(T.call f bR hb c).ok prog Q:=
 okW o hF ws hw hp hv hc hM k
theorem OK {α:Type} {p:List UInt8->Option α} {ws:List (List UInt8)} (h:tH some ws=none):tH p ws=none:=by cases ws with
 |nil=>rfl
 |cons s r=>cases h
theorem OL {α:Type} {p:List UInt8->Option α} {ws rest:List (List UInt8)} {s:List UInt8} (h:tH some ws=some (s,rest)):tH p ws=(p s).map fun x=>(x,rest):=by cases ws with
 |nil=>cases h
 |cons s' r=>injection h with h;injection h with h1 h2;subst h1 h2;rfl
theorem F5 {ws rest:List (List UInt8)} {s:List UInt8} (hw:kO ws) (h:tH some ws=some (s,rest)):s.length<=4194304/\kO rest:=by cases ws with
 |nil=>cases h
 |cons s' r=>injection h with h;injection h with h1 h2;subst h1 h2;exact⟨hw.head,hw.tail⟩
theorem F6 [Wd]:Am 75 mF (fun b=>.list 1 (b.map af)):=by
 intro ws hw hp
 refine ak 14 [] func75 ?_
 repeat' (conv=>arg 2;whnf);first|refine aY ?_|refine aV ?_ ?_
 conv=>arg 2;whnf
 refine lU 0 KB ws hw (fun h=>hp (OK h)) fun s rest hs=>?_
 have e1:mF ws=_:=OL (p:=dU) hs
 have l1:=F5 hw hs
 have hx:=VP s l1.1
 cases hq:dU s with
 |none=>
  rw[hq] at e1
  rw[vF hq] at hx
  repeat' (conv=>arg 2;whnf);first|refine aY ?_|refine aV ?_ ?_|refine okF hx ?_|(refine eI (lB _ (fun _=>hp e1)) rfl (aa.refl _) ?_;rintro r ⟨hr,rfl⟩;cases hr;done)
 |some b=>
  rw[hq] at e1
  have jU:aq prog 12 [.str s] (.aj [.list 1 (b.map af),.bool true]):=by rw[show D.aj [.list 1 (b.map af),.bool true]=tF s by unfold tF;rw[hq]];exact hx
  repeat' (conv=>arg 2;whnf);first|refine aY ?_|refine aV ?_ ?_|refine okF jU ?_|(refine eI (lB _ (fun h=>by cases h)) rfl (aa.refl _) ?_;rintro r ⟨hr,rfl⟩)|exact bf (r:=.list 1 (b.map af)) (h':=fj rest) [0] (.inr rfl) rfl rfl ⟨⟨rfl,rfl⟩,trivial⟩ ⟨⟨rfl,rfl⟩,trivial⟩ (.refl _) ⟨_,_,e1,rfl,rfl⟩
theorem PC [Wd] (ws:List (List UInt8)) (hw:kO ws) (hp:mF ws=none->Wd.kY rq):bC prog 75 [.ptr 0 0] (fj ws) (fun r h=>∃x rest,mF ws=some (x,rest)/\((x=[]/\r=.nils/\h=fj rest)\/(x≠[]/\r=.row 1/\h=fj rest++[.row 5 1 (x.map af)]))):=by
 refine ak 14 [] func75 ?_
 repeat' (conv=>arg 2;whnf);first|refine aY ?_|refine aV ?_ ?_
 conv=>arg 2;whnf
 refine lU 0 KB ws hw (fun h=>hp (OK h)) fun s rest hs=>?_
 have e1:mF ws=_:=OL (p:=dU) hs
 have l1:=F5 hw hs
 have hx:=Vj s l1.1
 cases hq:dU s with
 |none=>
  rw[hq] at e1
  rw[CY hq] at hx
  repeat' (conv=>arg 2;whnf);first|refine aY ?_|refine aV ?_ ?_|(refine pH [] hx (.mk' rfl trivial) (aa.refl _) rfl ?_;rintro r h' ⟨rfl,rfl⟩)|(refine eI (lB _ (fun _=>hp e1)) rfl (aa.refl _) ?_;rintro r ⟨hr,rfl⟩;cases hr;done)
 |some b=>
  rw[hq] at e1
  cases b with
  |nil=>
   rw[PA hq] at hx
   repeat' (conv=>arg 2;whnf);first|refine aY ?_|refine aV ?_ ?_|(refine pH [] hx (.mk' rfl trivial) (aa.refl _) rfl ?_;rintro r h' ⟨rfl,rfl⟩)|(refine eI (lB _ (fun h=>by cases h)) rfl (aa.refl _) ?_;rintro r ⟨hr,rfl⟩)|exact bf (r:=.nils) (h':=fj rest) [0] (.inr rfl) rfl rfl ⟨⟨rfl,rfl⟩,trivial⟩ ⟨⟨rfl,rfl⟩,trivial⟩ (.refl _) ⟨_,_,e1,.inl ⟨rfl,rfl,rfl⟩⟩
  |cons z k=>
   rw[OG hq] at hx
   repeat' (conv=>arg 2;whnf);first|refine aY ?_|refine aV ?_ ?_|(refine pH [] hx (.mk' rfl trivial) (aa.refl _) rfl ?_;rintro r h' ⟨rfl,rfl⟩)|(refine eI (lB _ (fun h=>by cases h)) rfl (aa.refl _) ?_;rintro r ⟨hr,rfl⟩)|exact bf (r:=.row 1) (h':=[.cells 83 [.list 1 (cW rest)],.row 5 1 ((z::k).map af)]) [0,2] (.inr rfl) rfl rfl ⟨⟨rfl,rfl⟩,⟨rfl,rfl⟩,trivial⟩ ⟨⟨rfl,rfl⟩,trivial⟩ (.refl _) ⟨_,_,e1,.inr ⟨List.cons_ne_nil _ _,rfl,rfl⟩⟩
theorem PD {I I':Nat->Prop} [Old] {w w':World} {v:Value} {d:D} (hb:yL d=true) (h:Dr I w v d):Dr I' w' v d:=by
 cases d<;>first|(cases hb;done)|skip
 all_goals cases h;first|exact .bool _|exact .int _ _|exact .str _
theorem ahG [Wd] {P:Program} {Q:Exit->S->Prop} {f:FuncId} {ar bR:List D} {h:List AO} {c:D->List AO->T} {t:TypeId} {n:Nat} {xs:List (List D)} (fz:List Nat) (hF:bC P f ar [] (fun r h'=>r=.row 0/\h'=[.row t n xs])) (hp:ga.pl ar=true) (hc:aa (D.dj.fl h fz bR) ar) (hb:∀d∈xs.flatten,yL d=true) (k:(c (.row h.length) (h++[.row t n xs])).ok P Q):(T.call f bR h c).ok P Q:=by
 refine⟨fun r' h'=>r'=.row h.length/\h'=h++[.row t n xs],⟨hF.1,fun w I g vs hW hd ha=>?_⟩,fun r' h' ⟨e1,e2⟩=>by subst e1 e2;exact k⟩
 have hv:cJ (fun b=>I b\/gM fz g h b) g w vs (D.dj.fl h fz bR):=by
  rw[rF]
  refine⟨by rw[List.length_map];exact ha.1,fun i v d h1 h2=>?_⟩
  rw[List.getElem?_map] at h2
  cases hq:bR[i]? with
  |none=>rw[hq] at h2;cases h2
  |some d0=>
   rw[hq] at h2
   injection h2 with h2
   subst h2
   exact(ha.2 i v d0 h1 hq).dj hd (Wd.aI hW) (fun _ h=>.inl h) (fun _ h=>.inr h)
 have oY:=ur (hc.ok hv) hp
 have oV:Den (fun b=>I b\/gM fz g h b) [] w []:=⟨rfl,fun b hb=>hb.elim (hd.aG b) (fun ho=>hd.lt ho.owned),fun o ao p h1=>by simp at h1,fun o ao p b h1=>by simp at h1,fun o o' ao cA p p' b h1=>by simp at h1⟩
 refine(hF.2 w _ [] vs (Wd.cl hW (fun _ _=>rfl) (fun _ h=>.inl h)) oV oY.Ay).mono ?_
 have fu:∀b,¬dF [] [] b:=by rintro b ⟨o,ao,p,q1,_⟩;simp at q1
 rintro e w' (⟨v,I',mV,r0,h0,rfl,⟨rfl,rfl⟩,mU,rZ,hx,i1,i2,ow,ck⟩|⟨ch,rfl,hp,hx⟩)
 case inr=>exact .inr ⟨ch,rfl,hp,hx.mono (fun x _ ho=>absurd ho (fu x))⟩
 have kZ:Ext (fun _=>False) w w':=hx.mono (fun b _ hb=>fu b hb)
 obtain⟨bo,a,l,c0,hg,rfl⟩:=rZ.w9
 have hr:=mU.obj 0 (.row t n xs) _ rfl hg
 have uj:∀b,AO.owns (bo,.slice a l c0) (.row t n xs) b->w.heap.size<=b:=fun b hb=>(ow b ⟨0,_,_,rfl,hg,hb⟩).elim (fun k=>absurd k (fu b)) id
 have Tj:Ro I (g++[(bo,.slice a l c0)]) w' (bo,.slice a l c0) (.row t n xs):=by
  obtain⟨a',c',us,e1,e2,e3,e4,e5,e6⟩:=hr
  exact⟨a',c',us,e1,e2,e3,⟨e4.1,fun i v d h1 h2=>PD (hb d (List.mem_of_getElem? h2)) (e4.2 i v d h1 h2)⟩,e5,e6⟩
 refine .inl ⟨.slice a l c0,I,g++[(bo,.slice a l c0)],.row h.length,h++[.row t n xs],rfl,⟨rfl,rfl⟩,⟨(hd.ext kZ (fun _ _=>id) (fun _ _=>id)).DQ Tj (fun b hb=>⟨fun hI=>by have:=uj b hb;have:=hd.aG b hI;omega,fun ho=>by have:=uj b hb;have:=hd.lt ho;omega⟩),kZ.mono (fun _ _ h=>h.elim),fun _ h=>h,fun _ h=>.inl h,fun _ _ h=>sJ h,fun q hq _=>List.getElem?_append_left hq,fun q cA p' b hq h1 h2 h3=>⟨cA,by rw[<-h1];exact(List.getElem?_append_left hq).symm,h3⟩,fun q cA p' b hq h1 h2 h3=>?_⟩,.row h.length bo a l c0 (by rw[<-hd.len];simp)⟩
 rcases lO h1 with⟨e1,_⟩|⟨e1,k1⟩
 ·omega
 ·rcases lO h2 with⟨e2,_⟩|⟨e2,k2⟩
  ·have:=hd.len;omega
  ·subst k1 k2;exact .inr (uj b h3)
theorem ZR [Wd] {P:Program} {Q:Exit->S->Prop} {f:FuncId} {ar bR:List D} {h:List AO} {c:D->List AO->T} {t t2:TypeId} {n:Nat} {xs:List (List D)} {ds:List D} (fz:List Nat) (hF:bC P f ar [] (fun r h'=>r=.ptr 1 0/\h'=[.row t n xs,.cells t2 (.row 0::ds)])) (hp:ga.pl ar=true) (hc:aa (D.dj.fl h fz bR) ar) (hb:∀d∈xs.flatten,yL d=true) (eJ:∀d∈ds,yL d=true) (k:(c (.ptr (h.length+1) 0) (h++[.row t n xs]++[.cells t2 (.row h.length::ds)])).ok P Q):(T.call f bR h c).ok P Q:=by
 refine⟨fun r' h'=>r'=.ptr (h.length+1) 0/\h'=h++[.row t n xs]++[.cells t2 (.row h.length::ds)],⟨hF.1,fun w I g vs hW hd ha=>?_⟩,fun r' h' ⟨e1,e2⟩=>by subst e1 e2;exact k⟩
 have hv:cJ (fun b=>I b\/gM fz g h b) g w vs (D.dj.fl h fz bR):=by
  rw[rF]
  refine⟨by rw[List.length_map];exact ha.1,fun i v d h1 h2=>?_⟩
  rw[List.getElem?_map] at h2
  cases hq:bR[i]? with
  |none=>rw[hq] at h2;cases h2
  |some d0=>
   rw[hq] at h2
   injection h2 with h2
   subst h2
   exact(ha.2 i v d0 h1 hq).dj hd (Wd.aI hW) (fun _ h=>.inl h) (fun _ h=>.inr h)
 have oY:=ur (hc.ok hv) hp
 have oV:Den (fun b=>I b\/gM fz g h b) [] w []:=⟨rfl,fun b hb=>hb.elim (hd.aG b) (fun ho=>hd.lt ho.owned),fun o ao p h1=>by simp at h1,fun o ao p b h1=>by simp at h1,fun o o' ao cA p p' b h1=>by simp at h1⟩
 refine(hF.2 w _ [] vs (Wd.cl hW (fun _ _=>rfl) (fun _ h=>.inl h)) oV oY.Ay).mono ?_
 have fu:∀b,¬dF [] [] b:=by rintro b ⟨o,ao,p,q1,_⟩;simp at q1
 rintro e w' (⟨v,I',mV,r0,h0,rfl,⟨rfl,rfl⟩,mU,rZ,hx,i1,i2,ow,ck⟩|⟨ch,rfl,hp,hx⟩)
 case inr=>exact .inr ⟨ch,rfl,hp,hx.mono (fun x _ ho=>absurd ho (fu x))⟩
 have kZ:Ext (fun _=>False) w w':=hx.mono (fun b _ hb=>fu b hb)
 obtain⟨p0,p1,rfl⟩:∃p0 p1,mV=[p0,p1]:=by
  have hl:=mU.len
  match mV,hl with
  |[p0,p1],_=>exact⟨p0,p1,rfl⟩
 have uj:∀b,dF [p0,p1] [.row t n xs,.cells t2 (.row 0::ds)] b->w.heap.size<=b:=fun b hb=>(ow b hb).elim (fun k=>absurd k (fu b)) id
 obtain⟨a',c',us,e1,e2,e3,e4,e5,e6⟩:=mU.obj 0 (.row t n xs) p0 rfl rfl
 obtain⟨b1,Tk,g1,g2,g3,g4⟩:=mU.obj 1 (.cells t2 (.row 0::ds)) p1 rfl rfl
 have hlen:=hd.len
 have Un:Ro I (g++[p0]) w' p0 (.row t n xs):=⟨a',c',us,e1,e2,e3,⟨e4.1,fun i v d h1 h2=>PD (hb d (List.mem_of_getElem? h2)) (e4.2 i v d h1 h2)⟩,e5,e6⟩
 have Uo:=(hd.ext kZ (fun _ _=>id) (fun _ _=>id)).DQ Un (fun b hb=>by
  have:=uj b ⟨0,_,_,rfl,rfl,hb⟩
  exact⟨fun hI=>by have:=hd.aG b hI;omega,fun ho=>by have:=hd.lt ho;omega⟩)
 have Mf:Ro I (g++[p0]++[p1]) w' p1 (.cells t2 (.row h.length::ds)):=by
  refine⟨b1,Tk,g1,g2,⟨g3.1,fun i v d h1 h2=>?_⟩,g4⟩
  cases i with
  |zero=>
   injection h2 with h2
   subst h2
   obtain⟨bo,a,l,c0,q1,rfl⟩:=(g3.2 0 v (.row 0) h1 rfl).w9
   injection q1 with q1
   exact .row h.length bo a l c0 (by rw[<-hlen,q1];simp)
  |succ i=>exact Jz (eJ d (List.mem_of_getElem? h2)) (g3.2 (i+1) v d h1 h2)
 have Tl:=Uo.DQ Mf (fun b hb=>by
  have h9:=uj b ⟨1,_,_,rfl,rfl,hb⟩
  refine⟨fun hI=>by have:=hd.aG b hI;omega,fun ho=>?_⟩
  rcases dF.push hlen ho with k|k
  ·have:=hd.lt k
   omega
  ·have:=mU.sep 0 1 _ _ _ _ b rfl rfl rfl rfl k hb
   omega)
 obtain⟨bb,bo,AK,rfl⟩:=rZ.xd
 injection AK with AK
 refine .inl ⟨_,I,g++[p0]++[p1],_,_,rfl,⟨rfl,rfl⟩,⟨Tl,kZ.mono (fun _ _ h=>h.elim),fun _ h=>h,fun _ h=>.inl h,fun _ _ h=>sJ (sJ h),fun q hq _=>by rw[List.append_assoc];exact List.getElem?_append_left hq,fun q cA p' b hq h1 h2 h3=>⟨cA,by rw[<-h1,List.append_assoc];exact(List.getElem?_append_left hq).symm,h3⟩,fun q cA p' b hq h1 h2 h3=>?_⟩,.ptr (h.length+1) 0 bb bo (by rw[<-hlen,AK];simp)⟩
 have hO:dF (g++[p0]++[p1]) (h++[.row t n xs]++[.cells t2 (.row h.length::ds)]) b:=⟨q,cA,p',h1,h2,h3⟩
 rcases dF.push (by simp[hlen]) hO with k1|k1
 ·rcases dF.push hlen k1 with k2|k2
  ·obtain⟨o2,a2,r2,s1,s2,s3⟩:=k2
   have Ei:=(List.getElem?_eq_some_iff.1 s1).1
   have:=Tl.sep q o2 cA a2 p' r2 b h1 (by rw[List.append_assoc,List.getElem?_append_left Ei];exact s1) h2 (sJ (sJ s2)) h3 s3
   omega
  ·exact .inr (uj b ⟨0,_,_,rfl,rfl,k2⟩)
 ·exact .inr (uj b ⟨1,_,_,rfl,rfl,k1⟩)
theorem BZ [Wd] {P:Program} {Q:Exit->S->Prop} {f:FuncId} {ar bR:List D} {h:List AO} {c:D->List AO->T} {r:D} (q:Nat) (hF:aq P f ar r) (hp:ga.pl ar=true) (hc:aa (D.dj.fl h [q] bR) ar) (hM:(jT h bR).elem q=true) (k:(c r (h.set q .gone)).ok P Q):(T.call f bR h c).ok P Q:=by
 have Em:q∈jT h bR:=by simpa using hM
 refine⟨fun r' h'=>r'=r/\h'=h.set q .gone,⟨hF.1,fun w I g vs hW hd ha=>?_⟩,fun r' h' ⟨e1,e2⟩=>by subst e1 e2;exact k⟩
 have hv:cJ (fun b=>I b\/gM [q] g h b) g w vs (D.dj.fl h [q] bR):=by
  rw[rF]
  refine⟨by rw[List.length_map];exact ha.1,fun i v d h1 h2=>?_⟩
  rw[List.getElem?_map] at h2
  cases hq:bR[i]? with
  |none=>rw[hq] at h2;cases h2
  |some d0=>
   rw[hq] at h2
   injection h2 with h2
   subst h2
   exact(ha.2 i v d0 h1 hq).dj hd (Wd.aI hW) (fun _ h=>.inl h) (fun _ h=>.inr h)
 have oY:=ur (hc.ok hv) hp
 have oV:Den (fun b=>I b\/gM [q] g h b) [] w []:=⟨rfl,fun b hb=>hb.elim (hd.aG b) (fun ho=>hd.lt ho.owned),fun o ao p h1=>by simp at h1,fun o ao p b h1=>by simp at h1,fun o o' ao cA p p' b h1=>by simp at h1⟩
 refine(hF.2 w _ [] vs (Wd.cl hW (fun _ _=>rfl) (fun _ h=>.inl h)) oV oY.Ay).mono ?_
 have fu:∀b,¬dF [] [] b:=by rintro b ⟨o,ao,p,q1,_⟩;simp at q1
 rintro e w' (⟨v,I',mV,r0,h0,rfl,⟨rfl,rfl⟩,mU,rZ,hx,i1,i2,ow,ck⟩|⟨ch,rfl,hp,hx⟩)
 case inr=>exact .inr ⟨ch,rfl,hp,hx.mono (fun x _ ho=>absurd ho (fu x))⟩
 have Mg:mV=[]:=List.eq_nil_of_length_eq_zero mU.len
 subst Mg
 have kZ:Ext (fun _=>False) w w':=hx.mono (fun b _ hb=>fu b hb)
 have key:∀{i:Nat} {ao:AO},(h.set q .gone)[i]?=some ao->(h[i]?=some ao/\i≠q)\/ao=.gone:=by
  intro i ao hi
  rw[List.getElem?_set] at hi
  split at hi
  ·split at hi
   ·injection hi with e
    exact .inr e.symm
   ·cases hi
  ·rename_i cu
   exact .inl ⟨hi,fun e=>cu e.symm⟩
 have xS:∀b,gM [q] g h b->gM (jT h bR) g h b:=by
  rintro b ⟨o,ao,p,hm,r1⟩
  exact⟨o,ao,p,by rw[List.mem_singleton.1 hm];exact Em,r1⟩
 have Eu:∀b,I' b->I b\/gM [q] g h b\/w.heap.size<=b:=fun b hb=>(i2 b hb).elim (fun k=>k.elim .inl (fun k=>.inr (.inl k))) (fun k=>k.elim (fun k=>absurd k (fu b)) (fun k=>.inr (.inr k)))
 have Az:∀b,I' b->¬dF g (h.set q .gone) b:=by
  rintro b hb ⟨o,ao,p,e1,e2,e3⟩
  rcases key e1 with⟨k1,k2⟩|rfl
  ·rcases Eu b hb with k|⟨o',cA,p',hm,r1,r2,r3⟩|k
   ·exact hd.own o ao p b k1 e2 e3 k
   ·exact k2 ((hd.sep o o' ao cA p p' b k1 r1 e2 r2 e3 r3).trans (List.mem_singleton.1 hm))
   ·have:=hd.lt ⟨o,ao,p,k1,e2,e3⟩
    omega
  ·exact e3.elim
 refine .inl ⟨v,I',g,r0,h.set q .gone,rfl,⟨rfl,rfl⟩,⟨((hd.drop q).ext kZ (fun _ _=>id) (fun _ _=>id)).Al (fun b hb=>i1 b (.inl hb)) mU.aG Az,kZ.mono (fun x _ h=>h.elim),fun b hb=>i1 b (.inl hb),fun b hb=>(Eu b hb).elim .inl (fun k=>k.elim (fun k=>.inr (.inl (xS b k))) (fun k=>.inr (.inr k))),fun _ _ h=>h,fun o _ hn=>?_,fun o ao q' x _ e1 e2 e3=>?_,fun o ao q' x hl e1 _ _=>?_⟩,rZ.mono (fun _ h=>h) (fun o p e=>by simp at e)⟩
 ·rw[List.getElem?_set,if_neg (fun (e:q=o)=>hn (by rw[<-e];exact Em))]
 ·rcases key e1 with⟨k1,_⟩|rfl
  ·exact⟨ao,k1,e3⟩
  ·exact e3.elim
 ·have:=(List.getElem?_eq_some_iff.1 e1).1
  rw[List.length_set] at this
  omega
theorem bC.fst [Wd] {P:Program} {f:FuncId} {ar:List D} {h:List AO} {R:D->Prop} {cZ:D->List AO->Prop} (hF:bC P f ar h cZ) (k:∀r h',cZ r h'->R r):bC P f ar h (fun r _=>R r):=by
 refine⟨hF.1,fun w I g vs hW hd ha=>(hF.2 w I g vs hW hd ha).mono ?_⟩
 rintro e w' (⟨v,I',g',r,h',e1,e2,k2⟩|k2)
 ·exact .inl ⟨v,I',g',r,h',e1,k r h' e2,k2⟩
 ·exact .inr k2
theorem abV [Wd] (z:UInt8) (k:List UInt8) (hl:(z::k).length<=4194304):bC prog 171 [.list 1 ((z::k).map af)] [] (fun r h=>r=.row 0/\h=[.row 5 1 ((z::k).map af)]):=by
 refine kK false 8 [] func171 ?_
 repeat' (conv=>arg 2;whnf);first|refine aT (by constructor<;>(simp only[List.length_cons,List.length_nil,List.length_map,maxLen] at hl ⊢;omega)) ?_|exact mL [1] (.inr rfl) rfl rfl ⟨⟨rfl,rfl⟩,trivial⟩ trivial (.refl _)
theorem WJ (l:List UInt8):∀d∈(l.map af).flatten,yL d=true:=by
 intro d hd
 obtain⟨x,hx,hd⟩:=List.mem_flatten.1 hd
 obtain⟨y,_,rfl⟩:=List.mem_map.1 hx
 rw[List.mem_singleton.1 hd]
 rfl
theorem abW [Wd] (z:UInt8) (k:List UInt8) (hl:(z::k).length<=4194304):bC prog 118 [.list 1 ((z::k).map af)] [] (fun r h=>r=.ptr 1 0/\h=[.row 5 1 ((z::k).map af),.cells 235 [.row 0,.int .i64 0,.bool true]]):=by
 refine kK false 7 [] func118 ?_
 repeat' (conv=>arg 2;whnf);first|refine cV [] (abV z k hl) ?_|exact mL [0,1] (.inr rfl) rfl rfl ⟨⟨rfl,rfl⟩,⟨rfl,rfl⟩,trivial⟩ trivial (.refl _)
theorem XZ [Wd] (bs:List UInt8) (hl:bs.length<=8388609) (h:dA (eF (bs,0)).2=0):aq prog 74 [.list 1 (bs.map af)] (.aj [.agg (cC (eF (bs,0)).1),.int .i64 0]):=by
 obtain⟨o,b2,e2,q2,l2⟩:=Rd1.get DE (bs,0)
 have h2:b2.length<=8388609:=Nat.le_trans l2 hl
 rw[q2] at h ⊢
 replace h:dA (b2,e2)=0:=h
 refine ak 18 [] func74 ?_
 repeat' (conv=>arg 2;whnf);first|refine cV [] (zC bs hl) ?_|refine aX 1 (fun x=>D.agg (cC x)) q2 J9 hl ?_|refine cE 1 (b2,e2) (b2,e2) (.int .i64 0) Bt h2 rfl (by rw[h]) ?_|refine cg
theorem X1 [Wd] (bs:List UInt8) (hl:bs.length<=8388609) (h:¬dA (eF (bs,0)).2=0):aq prog 74 [.list 1 (bs.map af)] (.aj [.agg (cC za),.int .i64 (dA (eF (bs,0)).2)]):=by
 obtain⟨o,b2,e2,q2,l2⟩:=Rd1.get DE (bs,0)
 have h2:b2.length<=8388609:=Nat.le_trans l2 hl
 rw[q2] at h ⊢
 obtain⟨d,hd⟩:∃d,d=dA (b2,e2):=⟨_,rfl⟩
 replace h:¬d=0:=by rw[hd];exact h
 rw[show dA (o,b2,e2).2=d from hd.symm]
 refine ak 18 [] func74 ?_
 repeat' (conv=>arg 2;whnf);first|refine bY (by simpa using h) ?_|refine cV [] (zC bs hl) ?_|refine aX 1 (fun x=>D.agg (cC x)) q2 J9 hl ?_|refine cE 1 (b2,e2) (b2,e2) (.int .i64 d) Bt h2 rfl (by rw[hd]) ?_|refine G5
end Go.Proofs.YtafomdobfmmleaaGreatDoor
