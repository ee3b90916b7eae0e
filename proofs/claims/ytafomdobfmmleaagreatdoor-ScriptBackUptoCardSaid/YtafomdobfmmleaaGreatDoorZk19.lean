/- Lemmas and contracts, part 19. -/
import Derived.Test.YtafomdobfmmleaaGreatDoorZk18
import Derived.Lib.SplitLaws
import Derived.Lib.AtoiAll
import Derived.Deep.Light
/- Lemmas and contracts. -/
namespace Go.Proofs.YtafomdobfmmleaaGreatDoor
open Go.RowKit
set_option linter.unusedVariables false
theorem K8:∀s:List UInt8,Lib.splitK [32] 0 (Lib.count s [32]) s=eV s
 |[]=>by
  rw[Lib.count_miss (by simp[Lib.index])]
  rfl
 |b::l=>by
  have ih:=K8 l
  by_cases hb:b=32
  ·subst hb
   rw[Lib.count_cons_eq,Nat.add_comm 1]
   have qb:Lib.index (32::l) [32]=((0:Nat):Int):=by rw[Lib.index];simp[List.isPrefixOf]
   unfold Lib.splitK
   rw[if_neg (by rw[qb];decide),qb]
   simp only[Int.toNat_natCast,Nat.zero_add,List.take_zero,List.length_cons,List.length_nil,List.drop_succ_cons,List.drop_zero,Nat.add_zero]
   rw[ih]
   simp[eV]
  ·rw[Lib.count_cons_ne b 32 l hb]
   have hp:([32]:List UInt8).isPrefixOf (b::l)=false:=by simp[List.isPrefixOf,Ne.symm hb]
   have qb:Lib.index (b::l) [32]=if Lib.index l [32]==-1 then-1 else Lib.index l [32]+1:=by rw[Lib.index,hp];simp
   have hs:eV (b::l)=match eV l with|[]=>[[b]]|w::ws=>(b::w)::ws:=by rw[eV,if_neg hb];rfl
   rw[hs,<-ih]
   have dn:=Lib.index_ge l [32]
   by_cases hm:Lib.index l [32]=-1
   ·rw[Lib.count_miss hm]
    rfl
   ·obtain⟨j,hj⟩:∃j:Nat,Lib.index l [32]=j:=⟨(Lib.index l [32]).toNat,by omega⟩
    have NM:Lib.index (b::l) [32]=((j+1:Nat):Int):=by rw[qb,if_neg (fun e=>hm (beq_iff_eq.1 e)),hj];omega
    rw[Lib.count_hit (by simp) hj,Nat.add_comm 1]
    unfold Lib.splitK
    rw[if_neg (by rw[NM];intro e;have:=beq_iff_eq.1 e;omega),if_neg (by rw[hj];intro e;have:=beq_iff_eq.1 e;omega),NM,hj]
    simp only[Int.toNat_natCast,Nat.add_zero,List.length_cons,List.length_nil,Nat.zero_add]
    rw[show j+1+1=(j+1)+1 from rfl,List.take_succ_cons,List.drop_succ_cons]
theorem Je:∀(l:List UInt8) (acc v:Nat) (c:UInt8),Lib.parseUint10 acc l=.ok v->48<=c.toNat/\c.toNat<=57->v*10+(c.toNat-48)<18446744073709551616->Lib.parseUint10 acc (l++[c])=.ok (v*10+(c.toNat-48))
 |[],acc,v,c,h,hc,hv=>by
  simp only[Lib.parseUint10] at h
  injection h with h
  subst h
  simp only[List.nil_append,Lib.parseUint10]
  rw[if_pos hc,if_neg (by omega),if_neg (by omega)]
 |d::l,acc,v,c,h,hc,hv=>by
  simp only[Lib.parseUint10] at h
  simp only[List.cons_append,Lib.parseUint10]
  split at h
  ·rename_i hd
   rw[if_pos hd]
   split at h
   ·cases h
   ·rename_i h1
    rw[if_neg h1]
    split at h
    ·cases h
    ·rename_i h2
     rw[if_neg h2]
     exact Je l _ v c h hc hv
  ·cases h
theorem BY {d:Nat} (h:d<10):(UInt8.ofNat (48+d)).toNat=48+d:=by
 rw[UInt8.toNat_ofNat',Nat.mod_eq_of_lt (by omega)]
theorem Jl (u:Nat) (hu:u<18446744073709551616):Lib.parseUint10 0 (Lib.decDigits u)=.ok u:=by
 induction u using Nat.strongRecOn with
 |_ u ih=>
  by_cases h:u<10
  ·rw[Lib.decDigits,dif_pos h]
   simp only[Lib.parseUint10]
   rw[BY h,if_pos (by omega),if_neg (by omega),if_neg (by omega)]
   congr 1;omega
  ·rw[Lib.decDigits,dif_neg h,Je _ 0 (u/10) _ (ih (u/10) (by omega) (by omega)) (by rw[BY (by omega)];omega) (by rw[BY (by omega)];omega),BY (by omega)]
   congr 1;omega
theorem Kp (u:Nat):Lib.decDigits u≠[]:=by
 rw[Lib.decDigits]
 split<;>simp
theorem Kq (n:Int) (h0:-9223372036854775808<=n) (h1:n<=9223372036854775807):Lib.atoiAll (Lib.itoa n)=.ok n:=by
 by_cases hn:n<0
 ·rw[Lib.itoa,if_pos hn]
  simp only[Lib.atoiAll]
  have ZT:(45:UInt8).toNat=45:=rfl
  rw[ZT,if_pos (.inr rfl),Lib.parseMag,if_neg (Kp _),Jl _ (by omega)]
  have e1:¬(9223372036854775808<n.natAbs):=by omega
  have e2:-(n.natAbs:Int)=n:=by omega
  simp[e1,e2]
 ·rw[Lib.itoa,if_neg hn]
  have hr:=wZ n.toNat
  have hp:=Jl n.toNat (by omega)
  have bS:=Kp n.toNat
  revert hr hp bS
  generalize Lib.decDigits n.toNat=l
  intro hr hp bS
  match l,bS with
  |c::r,bS=>
   have hc:=hr c (by simp)
   simp only[Lib.atoiAll]
   rw[if_neg (by omega),Lib.parseMag,if_neg bS,hp]
   simp only
   rw[if_neg (by omega),if_neg (by omega),if_neg (by omega)]
   congr 1;omega
def rM (s:List UInt8):D:=match Lib.atoiAll s with
 |.ok v=>.aD [.int .i64 v,.eZ true]
 |.range=>.aD [.int .i64 (Lib.atoiSat s),.eZ false]
 |_=>.aD [.int .i64 0,.eZ false]
theorem JM (s:List UInt8):(eV s).length<=s.length+1:=by
 induction s with
 |nil=>simp[eV]
 |cons b l ih=>
  unfold eV
  split
  ·simp;omega
  ·split
   ·simp
   ·rename_i w ws e
    rw[e] at ih
    simpa using Nat.le_succ_of_le ih
theorem QZ (s:List UInt8):∀w∈eV s,w.length<=s.length:=by
 induction s with
 |nil=>simp[eV]
 |cons b l ih=>
  unfold eV
  split
  ·intro w hw
   rcases List.mem_cons.1 hw with rfl|hw
   ·simp
   ·have:=ih w hw
    simp;omega
  ·split
   ·intro w hw
    simp only[List.mem_singleton] at hw
    subst hw
    simp
   ·rename_i w ws e
    rw[e] at ih
    intro x hx
    rcases List.mem_cons.1 hx with rfl|hx
    ·have:=ih w (by simp)
     simpa using this
    ·have:=ih x (by simp[hx])
     simp;omega
end Go.Proofs.YtafomdobfmmleaaGreatDoor

/- Lemmas and contracts. -/


/- Lemmas and contracts. -/
namespace Go.Proofs.YtafomdobfmmleaaGreatDoor
open Go.RowKit Go.Deep
set_option linter.unusedVariables false
theorem Zj {w:World} {g:Nat} {t:TypeId} (ns:List Int) (h:cm w g t (ns.map (Value.int .i64)).toArray) (hb:∀n∈ns,-9223372036854775808<=n/\n<=9223372036854775807) (hl:ns.length<=4194304):
 (tL tI).rd (fun _=>True) w [.slice (some ⟨g,0,none⟩) ns.length ns.length] ns:=by
 refine⟨_,_,rfl,Nat.le_refl _,by unfold maxLen;omega,fun e=>(by cases e),hl,fun _=>⟨g,0,rfl,h.lt,trivial,fun i x hx=>⟨_,⟨rfl,hb x (List.mem_of_getElem? hx)⟩,fun j v hj=>?_⟩⟩⟩
 cases j with
 |zero=>
  simp only[List.getElem?_cons_zero,Option.some.injEq] at hj
  subst hj
  rw[h.cell]
  simp[tI,hx]
 |succ j=>simp at hj
set_option maxRecDepth 20000 in
set_option maxHeartbeats 2000000 in
theorem Uu {ay:Nat->Prop} {w:World} {v:Value} {s:List Int} {x:Int} (h:(tL tI).rd ay w [v] s):
 Calls Tryz.prog 260 #[v,.int .i64 x] w fun e w'=>∃k:Int,e=.returned (.int .i64 k)/\(0<=k<->x∈s)/\w=w':=by
 obtain⟨A,c,e1,hs⟩:=tL.slice h
 injection e1 with e1 _
 subst e1
 have HR:=Lib.hid h
 obtain⟨l,cj⟩:∃l,s.length=l:=⟨_,rfl⟩
 have kZ:=Lib.hid cj
 rw[cj] at hs ⊢
 clear h cj
 go_enter Tryz.func260,Tryz.ntmps260
 go_wp2_with fail
 go_loop [5,8] (fun _ i=>∃q:Nat,q<=l/\i=.int .i64 q/\Hid (∀j y,j<q->s[j]?=some y->¬x=y)) (fun _ i=>l-(intOf i).toNat)
 case atStart=>exact⟨0,Nat.zero_le _,rfl,fun j x h=>by omega⟩
 case round=>
  obtain⟨q,hq,rfl,HP⟩:=hrel
  by_cases hlt:q<l
  ·obtain⟨y,hy⟩:∃y,s[q]?=some y:=⟨_,List.getElem?_eq_getElem (by have:=kZ.out;omega)⟩
   obtain⟨_,b,off,cs,rfl,⟨rfl,_⟩,k1⟩:=tL.at HR.out hy
   have c1:=k1 0 _ rfl
   simp only[show tI.n=1 from rfl,Nat.mul_one,Nat.add_zero] at c1
   have HS:=Lib.hid hy
   have oO:(q:Int)<l:=by omega
   clear k1 hy
   by_cases e1:x=y
   ·have g:(x==y)=true:=by simpa using e1
    have g':(y==x)=true:=by simpa using e1.symm
    have E:=Lib.hid (show((0:Int)<=q<->x∈s) from⟨fun _=>by rw[e1];exact List.mem_of_getElem? HS.out,fun _=>by omega⟩)
    clear e1
    go_wp2_with fail
    go_ret
    exact⟨_,rfl,E.out,rfl⟩
   ·have g:(x==y)=false:=by simpa using e1
    have g':(y==x)=false:=by simpa using fun e=>e1 e.symm
    have E:=Lib.hid e1
    clear e1
    go_wp2_with fail
    go_round
    case rel=>exact⟨q+1,by omega,by go_num,fun j z hj hz=>by
     by_cases e:j=q
     ·rw[e,HS.out] at hz;injection hz with hz;rw[<-hz];exact E.out
     ·exact HP.out j z (by omega) hz⟩
    case measure=>simp[intOf];omega
  ·have oO:¬(q:Int)<l:=by omega
   have E:=Lib.hid (show((0:Int)<=-1<->x∈s) from by
    refine⟨fun hx=>by omega,fun hx=>?_⟩
    exfalso
    obtain⟨j,hj⟩:=List.getElem?_of_mem hx
    have Bk:j<s.length:=by
     rcases Nat.lt_or_ge j s.length with h'|h'
     ·exact h'
     ·rw[List.getElem?_eq_none h'] at hj;cases hj
    exact HP.out j x (by have:=kZ.out;omega) hj rfl)
   go_wp2_with fail
   go_ret
   exact⟨_,rfl,E.out,rfl⟩
theorem Uv {ay:Nat->Prop} {w:World} {v:Value} {s:List Int} {x:Int} (h:(tL tI).rd ay w [v] s):
 Calls Tryz.prog 204 #[v,.int .i64 x] w fun e w'=>e=.returned (.bool (decide (x∈s)))/\w=w':=by
 have HI:=Lib.hid (Uu (x:=x) h)
 clear h
 go_enter Tryz.func204,Tryz.ntmps204
 go_wp2_with (first|(go_at_call 260;(with_reducible refine HI.out.mono ?_);rintro e w1 ⟨k,rfl,hk,rfl⟩;rcases(show(decide (x∈s)=true/\0<=k)\/(decide (x∈s)=false/\¬0<=k) from by by_cases hx:x∈s<;>simp[hx]<;>simp[hx] at hk<;>omega) with⟨hz,fV⟩|⟨hz,fV⟩;all_goals (have HZ:=Lib.hid hz;clear hz hk)))
 all_goals go_ret;exact⟨by rw[HZ.out];simp<;>omega,rfl⟩
theorem Rc (k:Int):decide (k∈([2,3,4,5,6,8,9]:List Int))=dc k:=by
 rw[Bool.eq_iff_iff]
 simp[dc,or_assoc]
theorem Sh {w:World} {k:Int}:Calls Tryz.prog 156 #[.int .i64 k] w fun e w'=>e=.returned (.bool (dc k))/\B w w':=by
 have HI:=Lib.hid (Uv (x:=k) (Zj (w:=w.alloc (.cells #[.int .i64 2,.int .i64 3,.int .i64 4,.int .i64 5,.int .i64 6,.int .i64 8,.int .i64 9] 3)) (g:=w.heap.size) (t:=3) [2,3,4,5,6,8,9] (cm.new w 3 _) (by simp) (by simp)))
 rw[Rc] at HI
 go_enter Tryz.func156,Tryz.ntmps156
 go_wp2_with (first|(go_at_call 204;(with_reducible refine cA (HI.out) ?_);rintro e w1 ⟨rfl,rfl⟩))
 go_ret
 exact⟨rfl,BB.out⟩
end Go.Proofs.YtafomdobfmmleaaGreatDoor

/- Lemmas and contracts. -/
namespace Go.Proofs.YtafomdobfmmleaaGreatDoor
open Go.RowKit Go.Deep
set_option linter.unusedVariables false
set_option maxRecDepth 20000 in
set_option maxHeartbeats 8000000 in
theorem Ru {ay:Nat->Prop} {w:World} {u v:Value} {bs:List UInt8} {s:List cq} (h:(tL iI).rd ay w [u] s) (hb:Bs w v bs) (hl:(bs++iJ s).length+100<=bz):
 Calls Tryz.prog 264 #[v,u] w (Fresh w (bs++iJ s)):=by
 have HB:=Lib.hid hb
 have HS:=Lib.hid (St.nil w)
 have HC:=Lib.hid (fun (w':World) (hb:B w w')=>KX ((tL iI).later h hb))
 by_cases h0:fZ s=0
 ·have HP:=Lib.hid (fun (w':World) (hw:B w w')=>RR ((tL iI).later h hw) h0 (hb.later hw) (by unfold iJ at hl;rw[if_pos h0] at hl;exact hl))
  have H0:=Lib.hid (show iJ s=qt s from by unfold iJ;rw[if_pos h0])
  rw[h0] at HC
  clear h0 hb hl h
  go_enter Tryz.func264,Tryz.ntmps264
  go_wp2_with (first
   |(go_at_call 296;(with_reducible refine cA (HC.out _ HS.out.on.b) ?_);rintro r wn ⟨rfl,hS⟩;replace HS:=Lib.hid (HS.out.on.later hS);clear hS)
   |(go_at_call 308;(with_reducible refine cA (St.fresh HS.out.on (HP.out _ HS.out.on.b)) ?_);rintro e w1 ⟨v1,rfl,hS⟩;replace HS:=Lib.hid hS;clear hS))
  go_ret
  rw[H0.out]
  exact HS.out.toFresh
 ·have g0:(fZ s !=0)=true:=by simpa using h0
  have H0:=Lib.hid (show iJ s=[] from by unfold iJ;rw[if_neg h0])
  clear h0 hb hl h
  go_enter Tryz.func264,Tryz.ntmps264
  go_wp2_with (first
   |(go_at_call 296;(with_reducible refine cA (HC.out _ HS.out.on.b) ?_);rintro r wn ⟨rfl,hS⟩;replace HS:=Lib.hid (HS.out.on.later hS);clear hS)
   |(go_at_call 153;(with_reducible refine cA (St.fresh HS.out.on (uf (HB.out.later HS.out.on.b))) ?_);rintro e w1 ⟨v1,rfl,hS⟩;replace HS:=Lib.hid hS;clear hS))
  go_ret
  rw[H0.out,List.append_nil]
  exact HS.out.toFresh
section
variable {W w:World} {p:Nat} {v:Value} {bs:List UInt8} {X:List dG}
end
end Go.Proofs.YtafomdobfmmleaaGreatDoor

/- Lemmas and contracts. -/
namespace Go.Proofs.YtafomdobfmmleaaGreatDoor
open Go.RowKit
set_option linter.unusedVariables false
set_option maxRecDepth 20000
theorem xB [Wd] {P:Program} {f:FuncId} {ar:List D} {bs:List UInt8} (hl:bs.length<=bz) (qz:nC P f=true) (h:∀w I vs,cC I w vs ar->Calls P f vs.toArray w (Fresh w bs)) (hp:gh.pl ar=true):aJ P f ar (.list 1 (bs.map aE)):=by
 refine⟨qz,fun w I g vs _ hd ha=>(h w I vs (lS ha hp)).mono ?_⟩
 rintro e w' ⟨v,rfl,hr,hb⟩
 have hg:g=[]:=List.eq_nil_of_length_eq_zero hd.len
 subst hg
 have hn:∀b,¬cK [] [] b:=fun b ⟨o,ao,p,h,_⟩=>by simp at h
 refine .inl ⟨v,fun b=>I b\/(w.heap.size<=b/\b<w'.heap.size),[],_,[],rfl,⟨rfl,rfl⟩,(hd.later hb).wk (fun _ h=>.inl h) (fun b bQ=>?_) (fun b _=>hn b),.rd ((Bs.MT hr hl).dr (fun g hg _=>.inr ⟨F5 hr hg,MU hr hg⟩)),Ext.of_B hb,fun _ h=>.inl h,fun b bQ=>?_,fun b h=>.inl h,fun o p t cs _ h=>by simp at h⟩
 ·rcases bQ with k|k
  ·have:=hd.ay b k
   have:=hb.size
   omega
  ·exact k.2
 ·rcases bQ with k|k
  ·exact .inl k
  ·exact .inr (.inr k.1)
theorem cC.vE [Old] {I:Nat->Prop} {w:World} {cs:List Value} {d e:D} (h:cC I w cs [d,e]):∃v u,cs=[v,u]/\Dr I w v d/\Dr I w u e:=by
 obtain⟨hl,h⟩:=h
 match cs,hl with
 |[v,u],_=>exact⟨v,u,rfl,h 0 v d rfl rfl,h 1 u e rfl rfl⟩
theorem Si (n:Int):0<=IntKind.u64.wrap n/\IntKind.u64.wrap n<18446744073709551616:=by
 simp only[IntKind.wrap,IntKind.signed,IntKind.bits]
 simp
 omega
theorem Vu (n:Int):enc (IntKind.u64.wrap n).toNat=aW n:=by
 unfold aW
 congr 2
theorem zP [Wd] (bs:List UInt8) (n:Int) (hl:bs.length+100<=bz):aJ Tryz.prog 112 [.list 1 (bs.map aE),.int .u64 (IntKind.u64.wrap n)] (.list 1 ((bs++aW n).map aE)):=
 xB (by have:=oz (show(n%18446744073709551616).toNat<18446744073709551616 by omega);unfold aW;rw[List.length_append];omega) (by kernel_rfl) (fun w I vs hv=>by
  obtain⟨v,u,rfl,h1,h2⟩:=hv.vE
  cases h2
  rw[<-Vu]
  exact pE (h1.bs (by omega)) _ (Si n) (by omega)) rfl
theorem Rs [Wd] (bs xs:List UInt8) (hx:xs.length<=4194304) (hl:(bs++xs).length+100<=bz):aJ Tryz.prog 154 [.list 1 (bs.map aE),.list 1 (xs.map aE)] (.list 1 ((bs++bB xs).map aE)):=
 xB (by have:=oz (show xs.length<18446744073709551616 by omega);unfold bB;simp at hl ⊢;omega) (by kernel_rfl) (fun w I vs hv=>by
  obtain⟨v,u,rfl,h1,h2⟩:=hv.vE
  rw[<-sK]
  exact sn (h1.bs (by simp at hl;omega)) (h2.bs (by simp at hl;omega)) (by omega)) rfl
theorem Aa (s:bH):(dj s).length<=20:=by
 unfold dj
 split
 ·rename_i h
  obtain⟨h1,h2⟩:=F6 h
  have e1:=oz (show s.key.toNat<18446744073709551616 by omega)
  have e2:=oz (show s.an.toNat<18446744073709551616 by omega)
  unfold oG
  rw[List.length_append]
  omega
 ·simp
theorem Sj [Wd] (bs:List UInt8) (x:bH) (hl:bs.length+100<=bz):aJ Tryz.prog 263 [.list 1 (bs.map aE),.agg (bu x)] (.list 1 ((bs++dj x).map aE)):=
 xB (by have:=Aa x;rw[List.length_append];omega) (by kernel_rfl) (fun w I vs hv=>by
  obtain⟨v,u,rfl,h1,h2⟩:=hv.vE
  obtain⟨us,rfl,k1,k2⟩:=(Vr.rd (g:=[]) h2).ot
  obtain⟨a,b,rfl,e1,e2⟩:=(lS k1 (by rfl)).vE
  cases e1
  cases e2
  exact Kh (h1.bs (by omega)) (by omega)) rfl
theorem Rt [Wd] (bs:List UInt8) (x:List cq) (hx:(dL gF).ok x) (hl:(bs++iJ x).length+100<=bz):aJ Tryz.prog 264 [.list 1 (bs.map aE),.list 9 (x.map cZ)] (.list 1 ((bs++iJ x).map aE)):=
 xB (by omega) (by kernel_rfl) (fun w I vs hv=>by
  obtain⟨v,u,rfl,h1,h2⟩:=hv.vE
  exact Ru ((nV zO).of (.one h2) hx) (h1.bs (by simp at hl;omega)) (by omega)) rfl
abbrev oW (bs:List UInt8):List AO:=[.cells 220 [.list 1 (bs.map aE)]]
abbrev pY [Wd] (f:FuncId) (ar:List D) (add:List UInt8):Prop:=∀bs:List UInt8,(bs++add).length+200<=bz->bf Tryz.prog f (.ptr 0 0::ar) (oW bs) (fun r h=>r=.aD []/\h=oW (bs++add))
section
variable {Q:Exit->S->Prop}
theorem dN [Wd] {f:FuncId} {ar cu:List D} {add bs:List UInt8} {hb:List AO} {c:D->List AO->T} (hF:pY f ar add) (hl:(bs++add).length+200<=bz) (hv:kK hb [0] [0] (oW bs)) (hc:aa cu (D.bG.rl [0] (.ptr 0 0::ar))) (hM:([0].all fun o=>(kg hb cu).elem o)=true) (k:(c (.aD []) (mW hb [0] (oW bs) (oW (bs++add)))).ok Tryz.prog Q):(T.call f cu hb c).ok Tryz.prog Q:=
 dx [0] (hF bs hl) (.mk' rfl hv) hc hM k
theorem rK [Wd] {tb:TT} {rs:List ResultVar} {ex:Exit} {s:S} {bs A9:List UInt8} {ds:List D} (he:ex=.normal\/ex=.ret) (hr:jG tb s rs=some ds) (hv:kK s.h [0] [0] (oW A9)) (iZ:Co (lJ ds) (.aD [])) {add:List UInt8} (hx:A9=bs++add):(T.leaf ex s).ok Tryz.prog (Lf tb rs (oW bs) (fun r h=>r=.aD []/\h=oW (bs++add))):=by
 subst hx
 exact mL [0] he hr rfl hv ⟨⟨rfl,rfl⟩,trivial⟩ iZ
end
theorem vY [Wd] {P:Program} {Q:Exit->S->Prop} {a b:Nat} {t f:T} (h1:a<b->t.ok P Q) (h2:b<=a->f.ok P Q):(T.br (decide ((a:Int)<(b:Int))) t f).ok P Q:=
 ⟨fun h=>h1 (by simpa using h),fun h=>h2 (by simpa using h)⟩
theorem CS [Wd] (x:List UInt8) (hx:x.length<=4194304):pY 215 [.list 1 (x.map aE)] (bB x):=by
 intro bs hl
 refine aF 13 [] Tryz.func215 rfl (by kernel_rfl) ?_
 repeat' (conv=>arg 2;whnf);first|refine af (by kernel_rfl) ?_|refine ak (Rs bs x hx (by unfold bB at hl;simp at hl ⊢;omega)) rfl (aa.refl _) ?_|exact rK (.inl rfl) rfl ⟨⟨rfl,rfl⟩,trivial⟩ (.refl _) rfl
theorem tZ [Wd] (x:bH):pY 206 [.agg (bu x)] (dj x):=by
 intro bs hl
 refine aF 15 [(1,⟨[(0,false),(1,false),(2,false),(3,false),(4,false),(6,false),(5,true),(7,true),(8,false),(9,false),(10,false),(11,true)],[0]⟩)] Tryz.func206 rfl (by kernel_rfl) ?_
 repeat' (conv=>arg 2;whnf);first|refine af (by kernel_rfl) ?_|refine ak (Sj bs x (by simp at hl;omega)) rfl (aa.refl _) ?_|exact rK (.inl rfl) rfl ⟨⟨rfl,rfl⟩,trivial⟩ (.refl _) rfl
theorem Ce [Wd] (x:List cq) (hx:(dL gF).ok x):pY 209 [.list 9 (x.map cZ)] (iJ x):=by
 intro bs hl
 refine aF 15 [] Tryz.func209 rfl (by kernel_rfl) ?_
 repeat' (conv=>arg 2;whnf);first|refine af (by kernel_rfl) ?_|refine ak (Rt bs x hx (by omega)) rfl (aa.refl _) ?_|exact rK (.inl rfl) rfl ⟨⟨rfl,rfl⟩,trivial⟩ (.refl _) rfl
theorem j9 [Wd] (l:List Int) (hl:l.length<=4194304):pY 208 [.list 1 (l.map eY)] (bw l):=by
 intro bs hb
 refine aF 23 [] Tryz.func208 rfl (by kernel_rfl) ?_
 conv=>arg 2;whnf
 refine cD (α:=Nat) (fun q=>⟨[(8,.int .i64 q),(7,.int .i64 (l.map eY).length),(6,.list 1 (l.map eY)),(0,.ptr 0 0)],oW (bs++bw (l.take q))⟩) (fun q=>q<=l.length) (fun q=>l.length-q) 0 (Nat.zero_le _) (Sv.mk' [0] rfl ⟨⟨rfl,by simp[bw];rfl⟩,trivial⟩ ⟨rfl,rfl,rfl,rfl,trivial⟩) ?_
 intro q hq
 have bQ:(bs++bw (l.take q)).length+200<=bz:=by
  have:(bw (l.take q)).length<=(bw l).length:=by
   conv=>rhs;rw[<-List.take_append_drop q l]
   simp only[bw,List.flatMap_append,List.length_append];omega
  simp only[List.length_append] at hb ⊢;omega
 repeat' (conv=>arg 2;whnf);first|refine ah ?_|refine aj ?_|refine aG (fun h=>?_) (fun h=>?_)|refine cV (by simpa using h) (fun x hx=>?_)|refine ak (zP (bs++bw (l.take q)) x (by omega)) rfl (aa.refl _) ?_|refine aP (aZ (by simp at h;omega) (by simp at h;omega)) ?_|refine uG ?_|refine bV (q+1) (Sv.mk' [0] rfl ⟨⟨rfl,by rw[List.take_add_one,hx];simp[bw];rfl⟩,trivial⟩ ⟨rfl,rfl,rfl,rfl,trivial⟩) ?_ ?_|refine bD ?_|refine rK (.inl rfl) rfl ⟨⟨rfl,rfl⟩,trivial⟩ (.refl _) ?_
 ·simp at h;omega
 ·simp at h;omega
 ·rw[show l.take q=l from List.take_of_length_le (by simp at h;omega)]
theorem xD [Wd] (n:Int):pY 212 [.int .i64 n] (aW n):=by
 intro bs hb
 have h1:bw [n]=aW n:=by simp[bw]
 refine aF 8 [] Tryz.func212 rfl (by kernel_rfl) ?_
 repeat' (conv=>arg 2;whnf);first|refine af (by kernel_rfl) ?_|refine dN (j9 [n] (by simp)) (by rw[h1];omega) ⟨⟨rfl,rfl⟩,trivial⟩ (aa.refl _) rfl ?_|refine rK (.inl rfl) rfl ⟨⟨rfl,rfl⟩,trivial⟩ (.refl _) ?_
 rw[h1]
theorem KY [Wd] (l:List bH) (hl:l.length<=4194304):pY 265 [.list 2 (l.map bu)] (sL l):=by
 intro bs hb
 have hm:∀q,((bs++aW (l.length:Int))++(l.take q).flatMap dj).length+200<=bz:=fun q=>by
  have:((l.take q).flatMap dj).length<=(l.flatMap dj).length:=by
   conv=>rhs;rw[<-List.take_append_drop q l]
   simp only[List.flatMap_append,List.length_append];omega
  simp only[sL,List.length_append] at hb ⊢;omega
 have h0:=hm 0
 refine aF 22 [] Tryz.func265 rfl (by kernel_rfl) ?_
 repeat' (conv=>arg 2;whnf);first|refine af (by kernel_rfl) ?_|refine dN (xD _) (by simpa using h0) ⟨⟨rfl,rfl⟩,trivial⟩ (aa.refl _) rfl ?_
 conv=>arg 2;whnf
 refine cD (α:=Nat) (fun q=>⟨[(14,.int .i64 q),(13,.int .i64 (l.map bu).length),(12,.list 2 (l.map bu)),(0,.ptr 0 0)],oW ((bs++aW ((l.map bu).length:Nat))++(l.take q).flatMap dj)⟩) (fun q=>q<=l.length) (fun q=>l.length-q) 0 (Nat.zero_le _) (Sv.mk' [0] rfl ⟨⟨rfl,by simp;rfl⟩,trivial⟩ ⟨rfl,rfl,rfl,rfl,trivial⟩) ?_
 intro q hq
 repeat' (conv=>arg 2;whnf);first|refine af (by kernel_rfl) ?_|refine ah ?_|refine aj ?_|refine vY (fun hlt=>?_) (fun dn=>?_)|refine cV (by simpa using hlt) (fun x hx=>?_)|refine dN (tZ x) (by have:=hm (q+1);rw[List.take_add_one,hx] at this;simpa using this) ⟨⟨rfl,rfl⟩,trivial⟩ (aa.refl _) rfl ?_|refine aP (aZ (by simp at hlt;omega) (by simp at hlt;omega)) ?_|refine bV (q+1) (Sv.mk' [0] rfl ⟨⟨rfl,by rw[List.take_add_one,hx];simp;rfl⟩,trivial⟩ ⟨rfl,rfl,rfl,rfl,trivial⟩) ?_ ?_|refine bD ?_|refine rK (.inl rfl) rfl ⟨⟨rfl,rfl⟩,trivial⟩ (.refl _) ?_
 ·simp at hlt;omega
 ·simp at hlt;omega
 ·rw[show l.take q=l from List.take_of_length_le (by simpa using dn)]
  simp[sL]
theorem FF [Wd] (c:gU) (hc:gV.ok c):pY 214 [.agg (mh c)] (lF c):=by
 intro bs hb
 have h1:(bs++bw [c.seq,c.an]).length+200<=bz:=by simp only[lF,List.length_append] at hb ⊢;omega
 refine aF 17 [] Tryz.func214 rfl (by kernel_rfl) ?_
 repeat' (conv=>arg 2;whnf);first|refine af (by kernel_rfl) ?_|refine dN (j9 [c.seq,c.an] (by simp)) (h1) ⟨⟨rfl,rfl⟩,trivial⟩ (aa.refl _) rfl ?_|refine dN (KY c.cN hc.2.2.1) (by simpa only[lF,List.append_assoc] using hb) ⟨⟨rfl,rfl⟩,trivial⟩ (aa.refl _) rfl ?_|refine rK (.inl rfl) rfl ⟨⟨rfl,rfl⟩,trivial⟩ (.refl _) ?_
 simp only[lF,List.append_assoc]
end Go.Proofs.YtafomdobfmmleaaGreatDoor

/- Lemmas and contracts. -/
namespace Go.Proofs.YtafomdobfmmleaaGreatDoor
open Go.RowKit
set_option linter.unusedVariables false
set_option maxRecDepth 20000
theorem Ax {α:Type} (f:α->List UInt8) (l:List α) (q:Nat):((l.take q).flatMap f).length<=(l.flatMap f).length:=by
 conv=>rhs;rw[<-List.take_append_drop q l]
 simp only[List.flatMap_append,List.length_append];omega
theorem rL {α:Type} (f:α->List UInt8) {l:List α} {q:Nat} {x:α} (h:l[q]?=some x):((l.take q).flatMap f).length+(f x).length<=(l.flatMap f).length:=by
 have:=Ax f l (q+1)
 rw[List.take_add_one,h] at this
 simpa using this
theorem L4 [Wd] (c:cX) (hc:gG.ok c):pY 211 [.agg (bW c)] (ir c):=by
 intro bs hb
 refine aF 57 [] Tryz.func211 rfl (by kernel_rfl) ?_
 repeat' (conv=>arg 2;whnf);first|refine af (by kernel_rfl) ?_|refine dN (j9 [c.view,c.src] (by simp)) (by simp only[ir,List.length_append] at hb ⊢;omega) ⟨⟨rfl,rfl⟩,trivial⟩ (aa.refl _) rfl ?_|refine dN (FF c.cert hc.2.2.1) (by simp only[ir,List.length_append] at hb ⊢;omega) ⟨⟨rfl,rfl⟩,trivial⟩ (aa.refl _) rfl ?_|refine dN (xD _) (by simp only[ir,List.length_append,List.length_map] at hb ⊢;omega) ⟨⟨rfl,rfl⟩,trivial⟩ (aa.refl _) rfl ?_
 conv=>arg 2;whnf
 refine cD (α:=Nat) (fun q=>⟨[(29,.int .i64 q),(28,.int .i64 (c.cR.map eK).length),(27,.list 7 (c.cR.map eK)),(3,.ptr 1 0),(0,.ptr 0 0)],[.cells 220 [.list 1 (((bs++bw [c.view,c.src]++lF c.cert++aW ((c.cR.map eK).length:Nat))++(c.cR.take q).flatMap gi).map aE)],.cells 145 (bW c)]⟩) (fun q=>q<=c.cR.length) (fun q=>c.cR.length-q) 0 (Nat.zero_le _) (Sv.mk' [0,1] rfl ⟨⟨rfl,by simp;rfl⟩,⟨rfl,rfl⟩,trivial⟩ ⟨rfl,rfl,rfl,rfl,rfl,trivial⟩) ?_
 intro q hq
 have hl:c.cR.length<=4194304:=hc.2.2.2.1.1
 repeat' (conv=>arg 2;whnf);first|refine af (by kernel_rfl) ?_|refine ah ?_|refine aj ?_|refine vY (fun hlt=>?_) (fun dn=>?_)|refine cV (by simpa using hlt) (fun x hx=>?_)|refine dN (j9 [x.view,x.seq,x.an] (by simp)) (by have:=rL gi hx;simp only[ir,gi,List.length_append,List.length_map] at hb this ⊢;omega) ⟨⟨rfl,rfl⟩,trivial⟩ (aa.refl _) rfl ?_|refine dN (tZ x.lz) (by have:=rL gi hx;simp only[ir,gi,List.length_append,List.length_map] at hb this ⊢;omega) ⟨⟨rfl,rfl⟩,trivial⟩ (aa.refl _) rfl ?_|refine dN (KY x.cN (hc.2.2.2.1.2 x (List.mem_of_getElem? hx)).2.2.2.2.1.1) (by have:=rL gi hx;simp only[ir,gi,List.length_append,List.length_map] at hb this ⊢;omega) ⟨⟨rfl,rfl⟩,trivial⟩ (aa.refl _) rfl ?_|refine dN (Ce x.batch (hc.2.2.2.1.2 x (List.mem_of_getElem? hx)).2.2.2.2.2) (by have:=rL gi hx;simp only[ir,gi,List.length_append,List.length_map] at hb this ⊢;omega) ⟨⟨rfl,rfl⟩,trivial⟩ (aa.refl _) rfl ?_|refine aP (aZ (by simp at hlt;omega) (by simp at hlt;omega)) ?_|refine bV (q+1) (Sv.mk' [0,1] rfl ⟨⟨rfl,by rw[List.take_add_one,hx];simp[gi];rfl⟩,⟨rfl,rfl⟩,trivial⟩ ⟨rfl,rfl,rfl,rfl,rfl,trivial⟩) ?_ ?_|refine bD ?_|refine rK (.inl rfl) rfl ⟨⟨rfl,rfl⟩,trivial⟩ (.refl _) ?_
 ·simp at hlt;omega
 ·simp at hlt;omega
 ·rw[show c.cR.take q=c.cR from List.take_of_length_le (by simpa using dn)]
  simp[ir]
theorem Sk [Wd] (c:cX) (hc:gG.ok c):pY 213 [.agg (bW c)] (eH c):=by
 intro bs hb
 refine aF 11 [] Tryz.func213 rfl (by kernel_rfl) ?_
 repeat' (conv=>arg 2;whnf);first|refine af (by kernel_rfl) ?_|refine dN (L4 c hc) (by simp only[eH,List.length_append] at hb ⊢;omega) ⟨⟨rfl,rfl⟩,trivial⟩ (aa.refl _) rfl ?_|refine dN (tZ c.sign) (by simp only[eH,List.length_append] at hb ⊢;omega) ⟨⟨rfl,rfl⟩,trivial⟩ (aa.refl _) rfl ?_|refine rK (.inl rfl) rfl ⟨⟨rfl,rfl⟩,trivial⟩ (.refl _) ?_
 simp[eH]
theorem TG [Wd] (p:jL) (hp:jk.ok p):pY 216 [.agg (j8 p)] (iE p):=by
 intro bs hb
 refine aF 92 [(1,⟨[(0,false),(1,false),(2,false),(3,false),(4,false),(5,true),(6,true)],[0]⟩)] Tryz.func216 rfl (by kernel_rfl) ?_
 repeat' (conv=>arg 2;whnf);first|refine af (by kernel_rfl) ?_|refine dN (CS p.av hp.1) (by simp only[iE,List.length_append] at hb ⊢;omega) ⟨⟨rfl,rfl⟩,trivial⟩ (aa.refl _) rfl ?_|refine dN (j9 [p.offset] (by simp)) (by simp only[iE,List.length_append] at hb ⊢;omega) ⟨⟨rfl,rfl⟩,trivial⟩ (aa.refl _) rfl ?_|refine dN (CS p.record hp.2.2.1) (by simp only[iE,List.length_append] at hb ⊢;omega) ⟨⟨rfl,rfl⟩,trivial⟩ (aa.refl _) rfl ?_|refine dN (xD _) (by simp only[iE,List.length_append,List.length_map] at hb ⊢;omega) ⟨⟨rfl,rfl⟩,trivial⟩ (aa.refl _) rfl ?_|refine af (by have:p.av.length<=4194304:=hp.1;omega) ?_
 conv=>arg 2;whnf
 refine cD (α:=Nat) (fun q=>⟨[(38,.int .i64 q),(37,.int .i64 (p.headers.map eM).length),(36,.list 5 (p.headers.map eM)),(3,.ptr 1 0),(0,.ptr 0 0)],[.cells 220 [.list 1 (((bs++bB p.av++bw [p.offset]++bB p.record++aW ((p.headers.map eM).length:Nat))++(p.headers.take q).flatMap iw).map aE)],.cells 55 (j8 p)]⟩) (fun q=>q<=p.headers.length) (fun q=>p.headers.length-q) 0 (Nat.zero_le _) (Sv.mk' [0,1] rfl ⟨⟨rfl,by simp;rfl⟩,⟨rfl,rfl⟩,trivial⟩ ⟨rfl,rfl,rfl,rfl,rfl,trivial⟩) ?_
 intro q hq
 have hl:p.headers.length<=4194304:=hp.2.2.2.1.1
 repeat' (conv=>arg 2;whnf);first|refine af (by kernel_rfl) ?_|refine ah ?_|refine aj ?_|refine vY (fun hlt=>?_) (fun dn=>?_)|refine cV (by simpa using hlt) (fun x hx=>?_)|refine dN (j9 [x.seq,x.prev,x.batch,x.root,x.state] (by simp)) (by have:=rL iw hx;simp only[iE,iw,List.length_append,List.length_map] at hb this ⊢;omega) ⟨⟨rfl,rfl⟩,trivial⟩ (aa.refl _) rfl ?_|refine aP (aZ (by simp at hlt;omega) (by simp at hlt;omega)) ?_|refine bV (q+1) (Sv.mk' [0,1] rfl ⟨⟨rfl,by rw[List.take_add_one,hx];simp[iw];rfl⟩,⟨rfl,rfl⟩,trivial⟩ ⟨rfl,rfl,rfl,rfl,rfl,trivial⟩) ?_ ?_|refine bD ?_|refine dN (j9 [p.index,p.count] (by simp)) (by have:=Ax iw p.headers q;simp only[iE,List.length_append,List.length_map] at hb this ⊢;omega) ⟨⟨rfl,rfl⟩,trivial⟩ (aa.refl _) rfl ?_|refine dN (xD _) (by have:=Ax iw p.headers q;simp only[iE,List.length_append,List.length_map] at hb this ⊢;omega) ⟨⟨rfl,rfl⟩,trivial⟩ (aa.refl _) rfl ?_
 ·simp at hlt;omega
 ·simp at hlt;omega
 rw[show p.headers.take q=p.headers from List.take_of_length_le (by simpa using dn)]
 clear hl dn
 conv=>arg 2;whnf
 refine cD (α:=Nat) (fun q=>⟨[(77,.int .i64 q),(76,.int .i64 (p.path.map eY).length),(75,.list 1 (p.path.map eY)),(3,.ptr 1 0),(0,.ptr 0 0)],[.cells 220 [.list 1 (((bs++bB p.av++bw [p.offset]++bB p.record++aW (p.headers.length:Int)++p.headers.flatMap iw++bw [p.index,p.count]++aW ((p.path.map eY).length:Nat))++(p.path.take q).flatMap aW).map aE)],.cells 55 (j8 p)]⟩) (fun q=>q<=p.path.length) (fun q=>p.path.length-q) 0 (Nat.zero_le _) (Sv.mk' [0,1] rfl ⟨⟨rfl,by simp;rfl⟩,⟨rfl,rfl⟩,trivial⟩ ⟨rfl,rfl,rfl,rfl,rfl,trivial⟩) ?_
 intro q hq
 have hl:p.path.length<=4194304:=hp.2.2.2.2.2.2.1.1
 repeat' (conv=>arg 2;whnf);first|refine af (by kernel_rfl) ?_|refine ah ?_|refine aj ?_|refine vY (fun hlt=>?_) (fun dn=>?_)|refine cV (by simpa using hlt) (fun x hx=>?_)|refine dN (j9 [x] (by simp)) (by have:=rL aW hx;have e:(bw [x]).length=(aW x).length:=(by simp[bw]);simp only[iE,List.length_append,List.length_map] at hb this ⊢;omega) ⟨⟨rfl,rfl⟩,trivial⟩ (aa.refl _) rfl ?_|refine aP (aZ (by simp at hlt;omega) (by simp at hlt;omega)) ?_|refine bV (q+1) (Sv.mk' [0,1] rfl ⟨⟨rfl,by rw[List.take_add_one,hx];simp[bw];rfl⟩,⟨rfl,rfl⟩,trivial⟩ ⟨rfl,rfl,rfl,rfl,rfl,trivial⟩) ?_ ?_|refine bD ?_|refine dN (FF p.cert hp.2.2.2.2.2.2.2) (by have:=Ax aW p.path q;simp only[iE,List.length_append,List.length_map] at hb this ⊢;omega) ⟨⟨rfl,rfl⟩,trivial⟩ (aa.refl _) rfl ?_|refine rK (.inl rfl) rfl ⟨⟨rfl,rfl⟩,trivial⟩ (.refl _) ?_
 ·simp at hlt;omega
 ·simp at hlt;omega
 ·rw[show p.path.take q=p.path from List.take_of_length_le (by simpa using dn)]
  simp[iE]
end Go.Proofs.YtafomdobfmmleaaGreatDoor

/- Lemmas and contracts. -/
namespace Go.Proofs.YtafomdobfmmleaaGreatDoor
open Go.RowKit
set_option linter.unusedVariables false
set_option maxRecDepth 20000
section
variable {P:Program}
theorem XM [Wd] {tb:TT} {rs:List ResultVar} {e:Exit} {s:S} {xs ys:List UInt8} (he:e=.normal\/e=.ret) (hr:jG tb s rs=some [.list 1 (xs.map aE)]) (h:xs=ys):(T.leaf e s).ok P (Lf tb rs [] (fun r' h'=>r'=.list 1 (ys.map aE)/\h'=[])):=by
 subst h
 exact bq he hr (.refl _) rfl
end
theorem WR (n:Int):(aW n).length<=10:=by
 unfold aW
 exact oz (by omega)
theorem NK {a:Int} (h:0<=a/\a<=9223372036854775807):aW (if a<0 then 0 else a)=enc (max a 0).toNat:=by
 rw[if_neg (by omega),ku h.1 (by omega),Int.max_eq_left h.1]
theorem QM [Wd] (bs:List UInt8) (x:lT) (he:0<=x.err/\x.err<=9223372036854775807) (ho:0<=x.offset/\x.offset<=9223372036854775807) (hl:bs.length+110<=bz):aJ Tryz.prog 210 [.list 1 (bs.map aE),.agg (uc x)] (.list 1 ((bs++sE x).map aE)):=by
 have p1:=WR (if x.err<0 then 0 else x.err)
 refine aF 16 [(1,⟨[(0,false),(1,false),(2,false),(3,false),(4,false),(6,false),(7,false),(8,false),(9,false),(5,true),(10,true),(11,false)],[]⟩)] Tryz.func210 rfl (by kernel_rfl) ?_
 repeat' (conv=>arg 2;whnf);first|refine af (by kernel_rfl) ?_|refine uG ?_|refine ak (zP _ _ (by(try simp only[List.length_append]);omega)) rfl (aa.refl _) ?_|(refine XM (.inr rfl) rfl ?_;rw[NK he,NK ho,List.append_assoc];rfl)
theorem o7 [Wd] (n:Int):bf Tryz.prog 208 [.ptr 0 0,.list 1 ([n].map eY)] [.cells 220 [.nils]] (fun r h=>r=.aD []/\h=oW (aW n)):=by
 refine aF 23 [] Tryz.func208 rfl (by kernel_rfl) ?_
 conv=>arg 2;whnf
 refine cD (α:=Bool) (fun b=>match b with
  |false=>⟨[(8,.int .i64 0),(7,.int .i64 1),(6,.list 1 ([n].map eY)),(0,.ptr 0 0)],[.cells 220 [.nils]]⟩
  |true=>⟨[(8,.int .i64 1),(7,.int .i64 1),(6,.list 1 ([n].map eY)),(0,.ptr 0 0)],oW (aW n)⟩) (fun _=>True) (fun b=>bif b then 0 else 1) false trivial (Sv.mk' [0] rfl ⟨⟨rfl,rfl⟩,trivial⟩ ⟨rfl,rfl,rfl,rfl,trivial⟩) ?_
 rintro(_|_) _
 all_goals
  repeat' (conv=>arg 2;whnf);first|refine ah ?_|refine aj ?_|refine kS (eY n) (by decide) rfl ?_|refine ak (zP [] n (by simp[bz])) rfl (aa.cons (Co.nil _) (.refl _)) ?_|refine aP (aZ (by decide) (by decide)) ?_|refine uG ?_|exact bV true (Sv.mk' [0] rfl ⟨⟨rfl,rfl⟩,trivial⟩ ⟨rfl,rfl,rfl,rfl,trivial⟩) trivial (by decide)|refine bD ?_|exact mL [0] (.inl rfl) rfl rfl ⟨⟨rfl,rfl⟩,trivial⟩ ⟨⟨rfl,rfl⟩,trivial⟩ (.refl _)
theorem Fa [Wd] (bs:List UInt8) (hs:¬262144<bs.length):bf Tryz.prog 207 [.ptr 0 0] (oW bs) (fun r h=>r=.aD [.list 1 (bs.map aE),.int .i64 0]/\h=oW bs):=by
 refine aF 16 [] Tryz.func207 rfl (by kernel_rfl) ?_
 repeat' (conv=>arg 2;whnf);first|refine aG (fun h=>?_) (fun h=>?_)|exact mL [0] (.inr rfl) rfl rfl ⟨⟨rfl,rfl⟩,trivial⟩ ⟨⟨rfl,rfl⟩,trivial⟩ (.refl _)
 simp at h
 omega
theorem EF [Wd] (bs:List UInt8) (h:262144<bs.length):bf Tryz.prog 207 [.ptr 0 0] (oW bs) (fun r h=>r=.aD [.nils,.int .i64 3]/\h=oW bs):=by
 refine aF 16 [] Tryz.func207 rfl (by kernel_rfl) ?_
 repeat' (conv=>arg 2;whnf);first|refine aG (fun h=>?_) (fun h=>?_)|exact mL [0] (.inr rfl) rfl rfl ⟨⟨rfl,rfl⟩,trivial⟩ ⟨⟨rfl,rfl⟩,trivial⟩ (.refl _)
 simp at h
 omega
theorem pF [Wd] {tb:TT} {rs:List ResultVar} {ex:Exit} {s:S} {A9:List UInt8} {ds:List D} (he:ex=.normal\/ex=.ret) (hr:jG tb s rs=some ds) (hv:kK s.h [0] [0] (oW A9)) (iZ:Co (lJ ds) (.aD [])) {add:List UInt8} (hx:A9=add):(T.leaf ex s).ok Tryz.prog (Lf tb rs [.cells 220 [.nils]] (fun r h=>r=.aD []/\h=oW add)):=by
 subst hx
 exact mL [0] he hr rfl hv ⟨⟨rfl,rfl⟩,trivial⟩ iZ
end Go.Proofs.YtafomdobfmmleaaGreatDoor

/- Lemmas and contracts. -/
namespace Go.Proofs.YtafomdobfmmleaaGreatDoor
open Go.RowKit
set_option linter.unusedVariables false
set_option maxRecDepth 20000
theorem Vw [Wd] (m:aN) (hm:cr.ok m) (hl:(aW 1++(iJ m.batch)).length+200<=bz):bf Tryz.prog 158 [.ptr 0 0,.agg (aU {m with kind:=1})] [.cells 220 [.nils]] (fun r h=>r=.aD []/\h=oW (aW 1++(iJ m.batch))):=by
 refine aF 222 [] Tryz.func158 rfl (by kernel_rfl) ?_
 repeat' (conv=>arg 2;whnf);first|refine af (by kernel_rfl) ?_|refine ah ?_|refine aj ?_|refine dx [0] (o7 _) (.mk' rfl ⟨⟨rfl,rfl⟩,trivial⟩) (aa.refl _) rfl ?_|refine dN (Ce m.batch hm.2.2.2.2.2.2.2.2.1) (by simp only[List.length_append] at hl ⊢;omega) ⟨⟨rfl,rfl⟩,trivial⟩ (aa.refl _) rfl ?_|refine pF (.inl rfl) rfl ⟨⟨rfl,rfl⟩,trivial⟩ (.refl _) ?_
 all_goals (first|rfl|simp)
theorem Vx [Wd] (m:aN) (hm:cr.ok m) (hl:(aW 2++(bw [m.src,m.view,m.seq,m.an]++iJ m.batch)).length+200<=bz):bf Tryz.prog 158 [.ptr 0 0,.agg (aU {m with kind:=2})] [.cells 220 [.nils]] (fun r h=>r=.aD []/\h=oW (aW 2++(bw [m.src,m.view,m.seq,m.an]++iJ m.batch))):=by
 refine aF 222 [] Tryz.func158 rfl (by kernel_rfl) ?_
 repeat' (conv=>arg 2;whnf);first|refine af (by kernel_rfl) ?_|refine ah ?_|refine aj ?_|refine dx [0] (o7 _) (.mk' rfl ⟨⟨rfl,rfl⟩,trivial⟩) (aa.refl _) rfl ?_|refine dN (j9 [m.src,m.view,m.seq,m.an] (by simp)) (by simp only[List.length_append] at hl ⊢;omega) ⟨⟨rfl,rfl⟩,trivial⟩ (aa.refl _) rfl ?_|refine dN (Ce m.batch hm.2.2.2.2.2.2.2.2.1) (by simp only[List.length_append] at hl ⊢;omega) ⟨⟨rfl,rfl⟩,trivial⟩ (aa.refl _) rfl ?_|refine pF (.inl rfl) rfl ⟨⟨rfl,rfl⟩,trivial⟩ (.refl _) ?_
 all_goals (first|rfl|simp)
theorem Vy [Wd] (m:aN) (hm:cr.ok m) (hl:(aW 3++(bw [m.src,m.view,m.seq,m.an])).length+200<=bz):bf Tryz.prog 158 [.ptr 0 0,.agg (aU {m with kind:=3})] [.cells 220 [.nils]] (fun r h=>r=.aD []/\h=oW (aW 3++(bw [m.src,m.view,m.seq,m.an]))):=by
 refine aF 222 [] Tryz.func158 rfl (by kernel_rfl) ?_
 repeat' (conv=>arg 2;whnf);first|refine af (by kernel_rfl) ?_|refine ah ?_|refine aj ?_|refine dx [0] (o7 _) (.mk' rfl ⟨⟨rfl,rfl⟩,trivial⟩) (aa.refl _) rfl ?_|refine dN (j9 [m.src,m.view,m.seq,m.an] (by simp)) (by simp only[List.length_append] at hl ⊢;omega) ⟨⟨rfl,rfl⟩,trivial⟩ (aa.refl _) rfl ?_|refine pF (.inl rfl) rfl ⟨⟨rfl,rfl⟩,trivial⟩ (.refl _) ?_
 all_goals (first|rfl|simp)
theorem Vz [Wd] (m:aN) (hm:cr.ok m) (hl:(aW 4++(bw [m.src,m.view,m.seq,m.an])).length+200<=bz):bf Tryz.prog 158 [.ptr 0 0,.agg (aU {m with kind:=4})] [.cells 220 [.nils]] (fun r h=>r=.aD []/\h=oW (aW 4++(bw [m.src,m.view,m.seq,m.an]))):=by
 refine aF 222 [] Tryz.func158 rfl (by kernel_rfl) ?_
 repeat' (conv=>arg 2;whnf);first|refine af (by kernel_rfl) ?_|refine ah ?_|refine aj ?_|refine dx [0] (o7 _) (.mk' rfl ⟨⟨rfl,rfl⟩,trivial⟩) (aa.refl _) rfl ?_|refine dN (j9 [m.src,m.view,m.seq,m.an] (by simp)) (by simp only[List.length_append] at hl ⊢;omega) ⟨⟨rfl,rfl⟩,trivial⟩ (aa.refl _) rfl ?_|refine pF (.inl rfl) rfl ⟨⟨rfl,rfl⟩,trivial⟩ (.refl _) ?_
 all_goals (first|rfl|simp)
theorem VA [Wd] (m:aN) (hm:cr.ok m) (h5:(0<=m.result.err/\m.result.err<=9223372036854775807)/\(0<=m.result.offset/\m.result.offset<=9223372036854775807)) (hl:(aW 5++(bw [m.src,m.view,m.aQ,m.time]++sE m.result)).length+200<=bz):bf Tryz.prog 158 [.ptr 0 0,.agg (aU {m with kind:=5})] [.cells 220 [.nils]] (fun r h=>r=.aD []/\h=oW (aW 5++(bw [m.src,m.view,m.aQ,m.time]++sE m.result))):=by
 refine aF 222 [(13,⟨[(0,false),(1,false),(2,false),(3,false),(4,false),(6,false),(7,false),(5,true),(8,true),(9,false),(10,false),(11,false),(12,true)],[0]⟩)] Tryz.func158 rfl (by kernel_rfl) ?_
 repeat' (conv=>arg 2;whnf);first|refine af (by kernel_rfl) ?_|refine ah ?_|refine aj ?_|refine dx [0] (o7 _) (.mk' rfl ⟨⟨rfl,rfl⟩,trivial⟩) (aa.refl _) rfl ?_|refine dN (j9 [m.src,m.view,m.aQ,m.time] (by simp)) (by simp only[List.length_append] at hl ⊢;omega) ⟨⟨rfl,rfl⟩,trivial⟩ (aa.refl _) rfl ?_|refine ak (QM _ m.result h5.1 h5.2 (by simp only[List.length_append] at hl ⊢;omega)) rfl (aa.refl _) ?_|refine pF (.inl rfl) rfl ⟨⟨rfl,rfl⟩,trivial⟩ (.refl _) ?_
 all_goals (first|rfl|simp)
theorem VB [Wd] (m:aN) (hm:cr.ok m) (hl:(aW 6++(bw [m.src,m.seq,m.an])).length+200<=bz):bf Tryz.prog 158 [.ptr 0 0,.agg (aU {m with kind:=6})] [.cells 220 [.nils]] (fun r h=>r=.aD []/\h=oW (aW 6++(bw [m.src,m.seq,m.an]))):=by
 refine aF 222 [] Tryz.func158 rfl (by kernel_rfl) ?_
 repeat' (conv=>arg 2;whnf);first|refine af (by kernel_rfl) ?_|refine ah ?_|refine aj ?_|refine dx [0] (o7 _) (.mk' rfl ⟨⟨rfl,rfl⟩,trivial⟩) (aa.refl _) rfl ?_|refine dN (j9 [m.src,m.seq,m.an] (by simp)) (by simp only[List.length_append] at hl ⊢;omega) ⟨⟨rfl,rfl⟩,trivial⟩ (aa.refl _) rfl ?_|refine pF (.inl rfl) rfl ⟨⟨rfl,rfl⟩,trivial⟩ (.refl _) ?_
 all_goals (first|rfl|simp)
theorem VC [Wd] (m:aN) (hm:cr.ok m) {c:cX} (h7:m.changes[0]?=some c) (hl:(aW 7++(ir c)).length+200<=bz):bf Tryz.prog 158 [.ptr 0 0,.agg (aU {m with kind:=7})] [.cells 220 [.nils]] (fun r h=>r=.aD []/\h=oW (aW 7++(ir c))):=by
 refine aF 222 [] Tryz.func158 rfl (by kernel_rfl) ?_
 repeat' (conv=>arg 2;whnf);first|refine af (by kernel_rfl) ?_|refine ah ?_|refine aj ?_|refine dx [0] (o7 _) (.mk' rfl ⟨⟨rfl,rfl⟩,trivial⟩) (aa.refl _) rfl ?_|refine kS (bW c) (by decide) (by simp[h7]) ?_|refine dN (L4 c (hm.2.2.2.2.2.2.2.2.2.2.1.2 c (List.mem_of_getElem? h7))) (by simp only[List.length_append] at hl ⊢;omega) ⟨⟨rfl,rfl⟩,trivial⟩ (aa.refl _) rfl ?_|refine pF (.inl rfl) rfl ⟨⟨rfl,rfl⟩,trivial⟩ (.refl _) ?_
 all_goals (first|rfl|simp)
theorem VD [Wd] (m:aN) (hm:cr.ok m) (hl:(aW 9++(bw [m.src,m.seq])).length+200<=bz):bf Tryz.prog 158 [.ptr 0 0,.agg (aU {m with kind:=9})] [.cells 220 [.nils]] (fun r h=>r=.aD []/\h=oW (aW 9++(bw [m.src,m.seq]))):=by
 refine aF 222 [] Tryz.func158 rfl (by kernel_rfl) ?_
 repeat' (conv=>arg 2;whnf);first|refine af (by kernel_rfl) ?_|refine ah ?_|refine aj ?_|refine dx [0] (o7 _) (.mk' rfl ⟨⟨rfl,rfl⟩,trivial⟩) (aa.refl _) rfl ?_|refine dN (j9 [m.src,m.seq] (by simp)) (by simp only[List.length_append] at hl ⊢;omega) ⟨⟨rfl,rfl⟩,trivial⟩ (aa.refl _) rfl ?_|refine pF (.inl rfl) rfl ⟨⟨rfl,rfl⟩,trivial⟩ (.refl _) ?_
 all_goals (first|rfl|simp)
theorem TI [Wd] (m:aN) (hm:cr.ok m) (hl:(aW 10++(bw [m.src]++lF m.cert++bB m.state)).length+200<=bz):bf Tryz.prog 158 [.ptr 0 0,.agg (aU {m with kind:=10})] [.cells 220 [.nils]] (fun r h=>r=.aD []/\h=oW (aW 10++(bw [m.src]++lF m.cert++bB m.state))):=by
 refine aF 222 [] Tryz.func158 rfl (by kernel_rfl) ?_
 repeat' (conv=>arg 2;whnf);first|refine af (by kernel_rfl) ?_|refine ah ?_|refine aj ?_|refine dx [0] (o7 _) (.mk' rfl ⟨⟨rfl,rfl⟩,trivial⟩) (aa.refl _) rfl ?_|refine dN (j9 [m.src] (by simp)) (by simp only[List.length_append] at hl ⊢;omega) ⟨⟨rfl,rfl⟩,trivial⟩ (aa.refl _) rfl ?_|refine dN (FF m.cert hm.2.2.2.2.2.2.2.2.2.1) (by simp only[List.length_append] at hl ⊢;omega) ⟨⟨rfl,rfl⟩,trivial⟩ (aa.refl _) rfl ?_|refine dN (CS m.state hm.2.2.2.2.2.2.2.2.2.2.2.2.1) (by simp only[List.length_append] at hl ⊢;omega) ⟨⟨rfl,rfl⟩,trivial⟩ (aa.refl _) rfl ?_|refine pF (.inl rfl) rfl ⟨⟨rfl,rfl⟩,trivial⟩ (.refl _) ?_
 all_goals (first|rfl|simp)
theorem TJ [Wd] (m:aN) (hm:cr.ok m) (hl:(aW 11++(bw [m.aQ]++bB m.av++bw [m.offset])).length+200<=bz):bf Tryz.prog 158 [.ptr 0 0,.agg (aU {m with kind:=11})] [.cells 220 [.nils]] (fun r h=>r=.aD []/\h=oW (aW 11++(bw [m.aQ]++bB m.av++bw [m.offset]))):=by
 refine aF 222 [(42,⟨[(0,false),(1,false),(2,false),(3,false),(4,false),(5,true),(6,true)],[0]⟩)] Tryz.func158 rfl (by kernel_rfl) ?_
 repeat' (conv=>arg 2;whnf);first|refine af (by kernel_rfl) ?_|refine ah ?_|refine aj ?_|refine dx [0] (o7 _) (.mk' rfl ⟨⟨rfl,rfl⟩,trivial⟩) (aa.refl _) rfl ?_|refine dN (j9 [m.aQ] (by simp)) (by simp only[List.length_append] at hl ⊢;omega) ⟨⟨rfl,rfl⟩,trivial⟩ (aa.refl _) rfl ?_|refine af (by have:m.av.length<=4194304:=hm.2.2.2.2.2.2.2.2.2.2.2.2.2.1;simp only;omega) ?_|refine dN (CS m.av hm.2.2.2.2.2.2.2.2.2.2.2.2.2.1) (by simp only[List.length_append] at hl ⊢;omega) ⟨⟨rfl,rfl⟩,trivial⟩ (aa.refl _) rfl ?_|refine dN (j9 [m.offset] (by simp)) (by simp only[List.length_append] at hl ⊢;omega) ⟨⟨rfl,rfl⟩,trivial⟩ (aa.refl _) rfl ?_|refine pF (.inl rfl) rfl ⟨⟨rfl,rfl⟩,trivial⟩ (.refl _) ?_
 all_goals (first|rfl|simp)
theorem TL [Wd] (m:aN) (hm:cr.ok m) (hl:(aW 12++(bw [m.src]++iE m.proof)).length+200<=bz):bf Tryz.prog 158 [.ptr 0 0,.agg (aU {m with kind:=12})] [.cells 220 [.nils]] (fun r h=>r=.aD []/\h=oW (aW 12++(bw [m.src]++iE m.proof))):=by
 refine aF 222 [] Tryz.func158 rfl (by kernel_rfl) ?_
 repeat' (conv=>arg 2;whnf);first|refine af (by kernel_rfl) ?_|refine ah ?_|refine aj ?_|refine dx [0] (o7 _) (.mk' rfl ⟨⟨rfl,rfl⟩,trivial⟩) (aa.refl _) rfl ?_|refine dN (j9 [m.src] (by simp)) (by simp only[List.length_append] at hl ⊢;omega) ⟨⟨rfl,rfl⟩,trivial⟩ (aa.refl _) rfl ?_|refine dN (TG m.proof hm.2.2.2.2.2.2.2.2.2.2.2.2.2.2.2.1) (by simp only[List.length_append] at hl ⊢;omega) ⟨⟨rfl,rfl⟩,trivial⟩ (aa.refl _) rfl ?_|refine pF (.inl rfl) rfl ⟨⟨rfl,rfl⟩,trivial⟩ (.refl _) ?_
 all_goals (first|rfl|simp)
theorem VE [Wd] (m:aN) (hm:cr.ok m) (hl:(aW 8++(bw [m.src,m.view]++aW (m.changes.length:Int)++m.changes.flatMap eH++aW (m.entries.length:Int)++m.entries.flatMap fK)).length+200<=bz):bf Tryz.prog 158 [.ptr 0 0,.agg (aU {m with kind:=8})] [.cells 220 [.nils]] (fun r h=>r=.aD []/\h=oW (aW 8++(bw [m.src,m.view]++aW (m.changes.length:Int)++m.changes.flatMap eH++aW (m.entries.length:Int)++m.entries.flatMap fK))):=by
 refine aF 222 [] Tryz.func158 rfl (by kernel_rfl) ?_
 repeat' (conv=>arg 2;whnf);first|refine af (by kernel_rfl) ?_|refine ah ?_|refine aj ?_|refine vY (fun hlt=>?_) (fun dn=>?_)|refine cV (by simpa using hlt) (fun x hx=>?_)|refine dx [0] (o7 _) (.mk' rfl ⟨⟨rfl,rfl⟩,trivial⟩) (aa.refl _) rfl ?_|refine dN (j9 [m.src,m.view] (by simp)) (by simp only[List.length_append] at hl ⊢;omega) ⟨⟨rfl,rfl⟩,trivial⟩ (aa.refl _) rfl ?_|refine dN (xD _) (by simp only[List.length_append,List.length_map] at hl ⊢;omega) ⟨⟨rfl,rfl⟩,trivial⟩ (aa.refl _) rfl ?_
 conv=>arg 2;whnf
 refine cD (α:=Nat) (fun q=>⟨[(116,.int .i64 q),(115,.int .i64 (m.changes.map bW).length),(114,.list 8 (m.changes.map bW)),(3,.ptr 1 0),(0,.ptr 0 0)],[.cells 220 [.list 1 (((aW 8++bw [m.src,m.view]++aW ((m.changes.map bW).length:Nat))++(m.changes.take q).flatMap eH).map aE)],.cells 59 (aU {m with kind:=8})]⟩) (fun q=>q<=m.changes.length) (fun q=>m.changes.length-q) 0 (Nat.zero_le _) (Sv.mk' [0,1] rfl ⟨⟨rfl,by simp;rfl⟩,⟨rfl,rfl⟩,trivial⟩ ⟨rfl,rfl,rfl,rfl,rfl,trivial⟩) ?_
 intro q hq
 have Of:m.changes.length<=4194304:=hm.2.2.2.2.2.2.2.2.2.2.1.1
 repeat' (conv=>arg 2;whnf);first|refine af (by kernel_rfl) ?_|refine ah ?_|refine aj ?_|refine vY (fun hlt=>?_) (fun dn=>?_)|refine cV (by simpa using hlt) (fun x hx=>?_)|refine dN (Sk x (hm.2.2.2.2.2.2.2.2.2.2.1.2 x (List.mem_of_getElem? hx))) (by have:=rL eH hx;simp only[List.length_append,List.length_map] at hl this ⊢;omega) ⟨⟨rfl,rfl⟩,trivial⟩ (aa.refl _) rfl ?_|refine aP (aZ (by simp at hlt;omega) (by simp at hlt;omega)) ?_|refine bV (q+1) (Sv.mk' [0,1] rfl ⟨⟨rfl,by rw[List.take_add_one,hx];simp[eH];rfl⟩,⟨rfl,rfl⟩,trivial⟩ ⟨rfl,rfl,rfl,rfl,rfl,trivial⟩) ?_ ?_|refine bD ?_|refine dN (xD _) (by have:=Ax eH m.changes q;simp only[List.length_append,List.length_map] at hl this ⊢;omega) ⟨⟨rfl,rfl⟩,trivial⟩ (aa.refl _) rfl ?_
 ·simp at hlt;omega
 ·simp at hlt;omega
 rw[show m.changes.take q=m.changes from List.take_of_length_le (by simpa using dn)]
 clear Of dn
 conv=>arg 2;whnf
 refine cD (α:=Nat) (fun q=>⟨[(134,.int .i64 q),(133,.int .i64 (m.entries.map dH).length),(132,.list 5 (m.entries.map dH)),(3,.ptr 1 0),(0,.ptr 0 0)],[.cells 220 [.list 1 (((aW 8++bw [m.src,m.view]++aW (m.changes.length:Int)++m.changes.flatMap eH++aW ((m.entries.map dH).length:Nat))++(m.entries.take q).flatMap fK).map aE)],.cells 59 (aU {m with kind:=8})]⟩) (fun q=>q<=m.entries.length) (fun q=>m.entries.length-q) 0 (Nat.zero_le _) (Sv.mk' [0,1] rfl ⟨⟨rfl,by simp;rfl⟩,⟨rfl,rfl⟩,trivial⟩ ⟨rfl,rfl,rfl,rfl,rfl,trivial⟩) ?_
 intro q hq
 have Of:m.entries.length<=4194304:=hm.2.2.2.2.2.2.2.2.2.2.2.1.1
 repeat' (conv=>arg 2;whnf);first|refine af (by kernel_rfl) ?_|refine ah ?_|refine aj ?_|refine vY (fun hlt=>?_) (fun dn=>?_)|refine cV (by simpa using hlt) (fun x hx=>?_)|refine dN (j9 [x.view,x.seq] (by simp)) (by have:=rL fK hx;simp only[fK,List.length_append,List.length_map] at hl this ⊢;omega) ⟨⟨rfl,rfl⟩,trivial⟩ (aa.refl _) rfl ?_|refine dN (Ce x.batch (hm.2.2.2.2.2.2.2.2.2.2.2.1.2 x (List.mem_of_getElem? hx)).2.2.1) (by have:=rL fK hx;simp only[fK,List.length_append,List.length_map] at hl this ⊢;omega) ⟨⟨rfl,rfl⟩,trivial⟩ (aa.refl _) rfl ?_|refine dN (tZ x.sign) (by have:=rL fK hx;simp only[fK,List.length_append,List.length_map] at hl this ⊢;omega) ⟨⟨rfl,rfl⟩,trivial⟩ (aa.refl _) rfl ?_|refine aP (aZ (by simp at hlt;omega) (by simp at hlt;omega)) ?_|refine bV (q+1) (Sv.mk' [0,1] rfl ⟨⟨rfl,by rw[List.take_add_one,hx];simp[fK];rfl⟩,⟨rfl,rfl⟩,trivial⟩ ⟨rfl,rfl,rfl,rfl,rfl,trivial⟩) ?_ ?_|refine bD ?_|refine pF (.inl rfl) rfl ⟨⟨rfl,rfl⟩,trivial⟩ (.refl _) ?_
 ·simp at hlt;omega
 ·simp at hlt;omega
 ·rw[show m.entries.take q=m.entries from List.take_of_length_le (by simpa using dn)]
  simp
end Go.Proofs.YtafomdobfmmleaaGreatDoor

/- Lemmas and contracts. -/
namespace Go.Proofs.YtafomdobfmmleaaGreatDoor
open Go.RowKit
set_option linter.unusedVariables false
theorem Fb {n a b:Int} (h:dO n a b=0):a<=n/\n<=b:=by
 unfold dO at h
 split at h
 ·cases h
 ·omega
theorem VF {m:aN} (h:cG m=0):m.kind=1\/m.kind=2\/m.kind=3\/m.kind=4\/m.kind=5\/m.kind=6\/m.kind=7\/m.kind=8\/m.kind=9\/m.kind=10\/m.kind=11\/m.kind=12:=by
 unfold cG at h
 repeat' split at h
 all_goals omega
theorem oX (m:aN) {k:Int} (h:m.kind=k):({m with kind:=k}:aN)=m:=by
 subst h
 rfl
theorem rC [Wd] (m:aN) (hm:cr.ok m) (h0:cG m=0) (hl:(bh m).length+200<=bz):bf Tryz.prog 158 [.ptr 0 0,.agg (aU m)] [.cells 220 [.nils]] (fun r h=>r=.aD []/\h=oW (bh m)):=by
 have h5:m.kind=5->(0<=m.result.err/\m.result.err<=9223372036854775807)/\(0<=m.result.offset/\m.result.offset<=9223372036854775807):=fun hk=>by
  simp only[cG,hk] at h0
  simp[bC] at h0
  obtain⟨_,_,_,_,e1,e2⟩:=h0
  have:=Fb e1
  have:=Fb (show dO m.result.offset 0 9007199254740992=0 from e2)
  omega
 have h7:m.kind=7->∃c,m.changes[0]?=some c:=fun hk=>by
  simp only[cG,hk] at h0
  simp[bC] at h0
  have:=Fb h0.1
  exact⟨_,List.getElem?_eq_getElem (by omega)⟩
 rcases VF h0 with hk|hk|hk|hk|hk|hk|hk|hk|hk|hk|hk|hk
 ·have u:bh m=aW 1++(iJ m.batch):=by simp[bh,cP,hk]
  rw[u] at hl ⊢
  have r:=Vw m hm hl
  rwa [oX m hk] at r
 ·have u:bh m=aW 2++(bw [m.src,m.view,m.seq,m.an]++iJ m.batch):=by simp[bh,cP,hk]
  rw[u] at hl ⊢
  have r:=Vx m hm hl
  rwa [oX m hk] at r
 ·have u:bh m=aW 3++(bw [m.src,m.view,m.seq,m.an]):=by simp[bh,cP,hk]
  rw[u] at hl ⊢
  have r:=Vy m hm hl
  rwa [oX m hk] at r
 ·have u:bh m=aW 4++(bw [m.src,m.view,m.seq,m.an]):=by simp[bh,cP,hk]
  rw[u] at hl ⊢
  have r:=Vz m hm hl
  rwa [oX m hk] at r
 ·have u:bh m=aW 5++(bw [m.src,m.view,m.aQ,m.time]++sE m.result):=by simp[bh,cP,hk]
  rw[u] at hl ⊢
  have r:=VA m hm (h5 hk) hl
  rwa [oX m hk] at r
 ·have u:bh m=aW 6++(bw [m.src,m.seq,m.an]):=by simp[bh,cP,hk]
  rw[u] at hl ⊢
  have r:=VB m hm hl
  rwa [oX m hk] at r
 ·obtain⟨c,hc⟩:=h7 hk
  obtain⟨r,hr⟩:∃r,m.changes=c::r:=by
   cases hx:m.changes with
   |nil=>rw[hx] at hc;cases hc
   |cons d r=>rw[hx] at hc;cases hc;exact⟨r,rfl⟩
  have u:bh m=aW 7++(ir c):=by simp[bh,cP,hk,hr]
  rw[u] at hl ⊢
  have r:=VC m hm hc hl
  rwa [oX m hk] at r
 ·have u:bh m=aW 8++(bw [m.src,m.view]++aW (m.changes.length:Int)++m.changes.flatMap eH++aW (m.entries.length:Int)++m.entries.flatMap fK):=by simp[bh,cP,hk]
  rw[u] at hl ⊢
  have r:=VE m hm hl
  rwa [oX m hk] at r
 ·have u:bh m=aW 9++(bw [m.src,m.seq]):=by simp[bh,cP,hk]
  rw[u] at hl ⊢
  have r:=VD m hm hl
  rwa [oX m hk] at r
 ·have u:bh m=aW 10++(bw [m.src]++lF m.cert++bB m.state):=by simp[bh,cP,hk]
  rw[u] at hl ⊢
  have r:=TI m hm hl
  rwa [oX m hk] at r
 ·have u:bh m=aW 11++(bw [m.aQ]++bB m.av++bw [m.offset]):=by simp[bh,cP,hk]
  rw[u] at hl ⊢
  have r:=TJ m hm hl
  rwa [oX m hk] at r
 ·have u:bh m=aW 12++(bw [m.src]++iE m.proof):=by simp[bh,cP,hk]
  rw[u] at hl ⊢
  have r:=TL m hm hl
  rwa [oX m hk] at r
end Go.Proofs.YtafomdobfmmleaaGreatDoor

/- Lemmas and contracts. -/
namespace Go.Proofs.YtafomdobfmmleaaGreatDoor
open Go.RowKit
set_option linter.unusedVariables false
set_option maxRecDepth 20000
theorem F4 [Wd] (s:List UInt8) (hs:s.length<=4194304):aJ Tryz.prog 27 [.str s] (.bool (dQ s)):=
 bf.old (v:=.bool (dQ s)) (fun _ _=>.bool _) (by kernel_rfl) (fun w I vs hv=>by
  obtain⟨v,rfl,h⟩:=hv.nE
  cases h
  exact Ak w s hs) rfl
theorem zN [Wd] (l:List cq) (hl:(dL gF).ok l):aJ Tryz.prog 296 [.list 9 (l.map cZ)] (.int .i64 (fZ l)):=
 bf.old (v:=.int .i64 (fZ l)) (fun _ _=>.int _ _) (by kernel_rfl) (fun w I vs hv=>by
  obtain⟨v,rfl,h⟩:=cC.nE hv
  exact KX ((nV zO).of hv hl)) rfl
theorem Kf [Wd] (s:List UInt8) (hs:s.length<=4194304):mg 305 [.str s] (nN s):=by
 intro e
 refine aF 9 [] Tryz.func305 rfl (by kernel_rfl) ?_
 repeat' (conv=>arg 2;whnf);first|refine ah ?_|refine aj ?_|refine aG (fun h=>?_) (fun h=>?_)|refine ak (F4 s hs) rfl (aa.refl _) ?_|refine cU 0 (ur _) ⟨⟨rfl,rfl⟩,trivial⟩ (aa.refl _) rfl ?_|refine mK [0] (.inl rfl) rfl rfl ⟨⟨rfl,rfl⟩,trivial⟩ ⟨⟨rfl,rfl⟩,trivial⟩ (.refl _) ?_
 all_goals simp_all [nN,kR]
theorem EE [Wd] (c:gU) (hc:gV.ok c):mg 303 [.agg (mh c)] (lE c):=by
 intro e
 refine aF 36 [] Tryz.func303 rfl (by kernel_rfl) ?_
 repeat' (conv=>arg 2;whnf);first|refine ah ?_|refine aj ?_|refine aG (fun h=>?_) (fun h=>?_)|refine af (by kernel_rfl) ?_|refine cU 0 (sB _) ⟨⟨rfl,rfl⟩,trivial⟩ (aa.refl _) rfl ?_|refine cU 0 (ur _) ⟨⟨rfl,rfl⟩,trivial⟩ (aa.refl _) rfl ?_|refine cU 0 (JG c.cN hc.2.2.1) ⟨⟨rfl,rfl⟩,trivial⟩ (aa.refl _) rfl ?_|refine mK [0] (.inl rfl) rfl rfl ⟨⟨rfl,rfl⟩,trivial⟩ ⟨⟨rfl,rfl⟩,trivial⟩ (.refl _) ?_
 all_goals simp only[lE,iq];by_cases h1:c.seq=0<;>by_cases h2:c.an=0<;>by_cases h3:0<c.cN.length<;>simp_all [vX,show ∀a b:Int,(a==b)=decide (a=b) from fun _ _=>rfl]
theorem Sf [Wd] (p:gq) (hp:oU.ok p):mg 317 [.agg (eK p)] (kD p):=by
 intro e
 refine aF 30 [] Tryz.func317 rfl (by kernel_rfl) ?_
 repeat' (conv=>arg 2;whnf);first|refine af (by kernel_rfl) ?_|refine cU 0 (sB _) ⟨⟨rfl,rfl⟩,trivial⟩ (aa.refl _) rfl ?_|refine cU 0 (vp _) ⟨⟨rfl,rfl⟩,trivial⟩ (aa.refl _) rfl ?_|refine cU 0 (ur _) ⟨⟨rfl,rfl⟩,trivial⟩ (aa.refl _) rfl ?_|refine cU 0 (JG p.cN hp.2.2.2.2.1.1) ⟨⟨rfl,rfl⟩,trivial⟩ (aa.refl _) rfl ?_|refine ak (zZ p.lz) rfl (aa.refl _) ?_|refine ak (zN p.batch hp.2.2.2.2.2) rfl (aa.refl _) ?_|refine mK [0] (.inl rfl) rfl rfl ⟨⟨rfl,rfl⟩,trivial⟩ ⟨⟨rfl,rfl⟩,trivial⟩ (.refl _) ?_
 all_goals simp only[kD,iq]
theorem Sg [Wd] (m:aN):mg 297 [.agg (aU m)] (iK m):=by
 intro e
 refine aF 20 [] Tryz.func297 rfl (by kernel_rfl) ?_
 repeat' (conv=>arg 2;whnf);first|refine cU 0 (BN _) ⟨⟨rfl,rfl⟩,trivial⟩ (aa.refl _) rfl ?_|refine cU 0 (sB _) ⟨⟨rfl,rfl⟩,trivial⟩ (aa.refl _) rfl ?_|refine cU 0 (vp _) ⟨⟨rfl,rfl⟩,trivial⟩ (aa.refl _) rfl ?_|refine mK [0] (.inl rfl) rfl rfl ⟨⟨rfl,rfl⟩,trivial⟩ ⟨⟨rfl,rfl⟩,trivial⟩ (.refl _) ?_
 all_goals simp only[iK,iq]
theorem Ju [Wd] (c:cX) (hc:gG.ok c):mg 301 [.agg (bW c)] (iM c):=by
 intro e
 refine aF 39 [] Tryz.func301 rfl (by kernel_rfl) ?_
 repeat' (conv=>arg 2;whnf);first|refine cU 0 (vp _) ⟨⟨rfl,rfl⟩,trivial⟩ (aa.refl _) rfl ?_|refine cU 0 (BN _) ⟨⟨rfl,rfl⟩,trivial⟩ (aa.refl _) rfl ?_|refine cU 0 (EE c.cert hc.2.2.1) ⟨⟨rfl,rfl⟩,trivial⟩ (aa.refl _) rfl ?_|refine cU 0 (vk _ _) ⟨⟨rfl,rfl⟩,trivial⟩ (aa.refl _) rfl ?_
 conv=>arg 2;whnf
 refine cD (α:=Nat×Int) (fun a=>⟨[(26,.int .i64 a.1),(25,.int .i64 (c.cR.map eK).length),(24,.list 7 (c.cR.map eK)),(3,.ptr 1 0),(0,.ptr 0 0)],[.cells 320 [.int .i64 a.2],.cells 145 (bW c)]⟩) (fun a=>a.1<=c.cR.length/\a.2=aK (aK (aK (aK (aK e (jY c.view)) (nM c.src)) (lE c.cert)) (jm c.cR.length 8)) (fE kD (c.cR.take a.1))) (fun a=>c.cR.length-a.1) (0,aK (aK (aK (aK e (jY c.view)) (nM c.src)) (lE c.cert)) (dO ((c.cR.map eK).length:Nat) 0 8)) ⟨Nat.zero_le _,by simp[fE,kR,jm]⟩ (Sv.mk' [0,1] rfl ⟨⟨rfl,rfl⟩,⟨rfl,rfl⟩,trivial⟩ ⟨rfl,rfl,rfl,rfl,rfl,trivial⟩) ?_
 rintro⟨q,e'⟩ ⟨hq,he⟩
 have hl:c.cR.length<=4194304:=hc.2.2.2.1.1
 repeat' (conv=>arg 2;whnf);first|refine ah ?_|refine aj ?_|refine aG (fun h=>?_) (fun h=>?_)|refine cV (by simpa using h) (fun x hx=>?_)|refine cU 0 (Sf x (hc.2.2.2.1.2 x (List.mem_of_getElem? hx))) ⟨⟨rfl,rfl⟩,trivial⟩ (aa.refl _) rfl ?_|refine ak (zZ c.sign) rfl (aa.refl _) ?_|refine cU 0 (ur _) ⟨⟨rfl,rfl⟩,trivial⟩ (aa.refl _) rfl ?_|refine aP (aZ (by simp at h hq;omega) (by simp at h hq;omega)) ?_|refine bV (q+1,_) (Sv.mk' [0,1] rfl ⟨⟨rfl,rfl⟩,⟨rfl,rfl⟩,trivial⟩ ⟨rfl,rfl,rfl,rfl,rfl,trivial⟩) ⟨?_,?_⟩ ?_|refine bD ?_|refine mK [0] (.inl rfl) rfl rfl ⟨⟨rfl,rfl⟩,trivial⟩ ⟨⟨rfl,rfl⟩,trivial⟩ (.refl _) ?_
 ·show q+1<=c.cR.length
  simp at h;omega
 ·show aK e' (kD x)=_
  rw[sA kD hx,<-iq,<-he]
  try simp only[kD,iq]
 ·simp at h ⊢;omega
 ·rw[he,show c.cR.take q=c.cR from List.take_of_length_le (by simp at h;omega)]
  simp only[iM,iq]
theorem TE [Wd] (m:aN) (hm:cr.ok m):mg 302 [.agg (aU m)] (iN m):=by
 intro e
 refine aF 63 [] Tryz.func302 rfl (by kernel_rfl) ?_
 repeat' (conv=>arg 2;whnf);first|refine cU 0 (BN _) ⟨⟨rfl,rfl⟩,trivial⟩ (aa.refl _) rfl ?_|refine cU 0 (vp _) ⟨⟨rfl,rfl⟩,trivial⟩ (aa.refl _) rfl ?_|refine cU 0 (vk _ _) ⟨⟨rfl,rfl⟩,trivial⟩ (aa.refl _) rfl ?_
 conv=>arg 2;whnf
 refine cD (α:=Nat×Int) (fun a=>⟨[(24,.int .i64 a.1),(23,.int .i64 (m.changes.map bW).length),(22,.list 8 (m.changes.map bW)),(3,.ptr 1 0),(0,.ptr 0 0)],[.cells 320 [.int .i64 a.2],.cells 59 (aU m)]⟩) (fun a=>a.1<=m.changes.length/\a.2=aK (aK (aK (aK e (nM m.src)) (jY m.view)) (jm m.changes.length 13)) (fE iM (m.changes.take a.1))) (fun a=>m.changes.length-a.1) (0,aK (aK (aK e (nM m.src)) (jY m.view)) (dO ((m.changes.map bW).length:Nat) 0 13)) ⟨Nat.zero_le _,by simp[fE,kR,jm]⟩ (Sv.mk' [0,1] rfl ⟨⟨rfl,rfl⟩,⟨rfl,rfl⟩,trivial⟩ ⟨rfl,rfl,rfl,rfl,rfl,trivial⟩) ?_
 rintro⟨q,e'⟩ ⟨hq,he⟩
 have hl:m.changes.length<=4194304:=hm.2.2.2.2.2.2.2.2.2.2.1.1
 repeat' (conv=>arg 2;whnf);first|refine ah ?_|refine aj ?_|refine aG (fun h=>?_) (fun h=>?_)|refine cV (by simpa using h) (fun x hx=>?_)|refine cU 0 (Ju x (hm.2.2.2.2.2.2.2.2.2.2.1.2 x (List.mem_of_getElem? hx))) ⟨⟨rfl,rfl⟩,trivial⟩ (aa.refl _) rfl ?_|refine cU 0 (vk _ _) ⟨⟨rfl,rfl⟩,trivial⟩ (aa.refl _) rfl ?_|refine aP (aZ (by simp at h hq;omega) (by simp at h hq;omega)) ?_|refine bV (q+1,_) (Sv.mk' [0,1] rfl ⟨⟨rfl,rfl⟩,⟨rfl,rfl⟩,trivial⟩ ⟨rfl,rfl,rfl,rfl,rfl,trivial⟩) ⟨?_,?_⟩ ?_|refine bD ?_
 ·show q+1<=m.changes.length
  simp at h;omega
 ·show aK e' (iM x)=_
  rw[sA iM hx,<-iq,<-he]
  try simp only[iM,iq]
 ·simp at h ⊢;omega
 rw[show m.changes.take q=m.changes from List.take_of_length_le (by simp at h;omega)] at he
 replace he:e'=_:=he
 clear hq h hl
 generalize hE:e'=e1 at he
 clear hE e'
 conv=>arg 2;whnf
 refine cD (α:=Nat×Int) (fun a=>⟨[(40,.int .i64 a.1),(39,.int .i64 (m.entries.map dH).length),(38,.list 5 (m.entries.map dH)),(3,.ptr 1 0),(0,.ptr 0 0)],[.cells 320 [.int .i64 a.2],.cells 59 (aU m)]⟩) (fun a=>a.1<=m.entries.length/\a.2=aK (aK (e1) (jm m.entries.length 8)) (fE qm (m.entries.take a.1))) (fun a=>m.entries.length-a.1) (0,aK (e1) (dO ((m.entries.map dH).length:Nat) 0 8)) ⟨Nat.zero_le _,by simp[fE,kR,jm]⟩ (Sv.mk' [0,1] rfl ⟨⟨rfl,rfl⟩,⟨rfl,rfl⟩,trivial⟩ ⟨rfl,rfl,rfl,rfl,rfl,trivial⟩) ?_
 rintro⟨q,e'⟩ ⟨hq,qL⟩
 have hl:m.entries.length<=4194304:=hm.2.2.2.2.2.2.2.2.2.2.2.1.1
 repeat' (conv=>arg 2;whnf);first|refine ah ?_|refine aj ?_|refine aG (fun h=>?_) (fun h=>?_)|refine cV (by simpa using h) (fun x hx=>?_)|refine cU 0 (sB _) ⟨⟨rfl,rfl⟩,trivial⟩ (aa.refl _) rfl ?_|refine cU 0 (vp _) ⟨⟨rfl,rfl⟩,trivial⟩ (aa.refl _) rfl ?_|refine ak (zN x.batch (hm.2.2.2.2.2.2.2.2.2.2.2.1.2 x (List.mem_of_getElem? hx)).2.2.1) rfl (aa.refl _) ?_|refine ak (zZ x.sign) rfl (aa.refl _) ?_|refine cU 0 (ur _) ⟨⟨rfl,rfl⟩,trivial⟩ (aa.refl _) rfl ?_|refine aP (aZ (by simp at h hq;omega) (by simp at h hq;omega)) ?_|refine bV (q+1,aK (aK (aK (aK e' (fX x.view)) (jY x.seq)) (fZ x.batch)) (dZ x.sign)) (Sv.mk' [0,1] rfl ⟨⟨rfl,rfl⟩,⟨rfl,rfl⟩,trivial⟩ ⟨rfl,rfl,rfl,rfl,rfl,trivial⟩) ⟨?_,?_⟩ ?_|refine bD ?_|refine mK [0] (.inl rfl) rfl rfl ⟨⟨rfl,rfl⟩,trivial⟩ ⟨⟨rfl,rfl⟩,trivial⟩ (.refl _) ?_
 ·show q+1<=m.entries.length
  simp at h;omega
 ·show aK (aK (aK (aK e' (fX x.view)) (jY x.seq)) (fZ x.batch)) (dZ x.sign)=_
  rw[sA qm hx,<-iq,<-qL]
  try simp only[qm,iq]
 ·simp at h ⊢;omega
 ·rw[qL,show m.entries.take q=m.entries from List.take_of_length_le (by simp at h;omega),he]
  simp only[iN,iq]
end Go.Proofs.YtafomdobfmmleaaGreatDoor

/- Lemmas and contracts. -/
namespace Go.Proofs.YtafomdobfmmleaaGreatDoor
open Go.RowKit
set_option linter.unusedVariables false
set_option maxRecDepth 20000
theorem XL (a i c:Int):aK (aK a (dO c 0 16)) (dO i 0 (IntKind.i64.wrap (c-1)))=aK (aK a (dO c 0 16)) (dO i 0 (c-1)):=by
 by_cases h:0<=c/\c<=16
 ·rw[aZ (by omega) (by omega)]
 ·have h0:dO c 0 16≠0:=by unfold dO;split<;>omega
  have h1:aK a (dO c 0 16)≠0:=by unfold aK;split<;>assumption
  have h2:∀x,aK (aK a (dO c 0 16)) x=aK a (dO c 0 16):=fun x=>by rw[aK,if_neg h1]
  rw[h2,h2]
theorem Rr [Wd] (p:jL) (hp:jk.ok p):mg 306 [.agg (j8 p)] (pz p):=by
 intro e
 refine aF 93 [] Tryz.func306 rfl (by kernel_rfl) ?_
 repeat' (conv=>arg 2;whnf);first|refine cU 0 (Kf p.av hp.1) ⟨⟨rfl,rfl⟩,trivial⟩ (aa.refl _) rfl ?_|refine cU 0 (sB _) ⟨⟨rfl,rfl⟩,trivial⟩ (aa.refl _) rfl ?_|refine cU 0 (vk _ _) ⟨⟨rfl,rfl⟩,trivial⟩ (aa.refl _) rfl ?_
 conv=>arg 2;whnf
 refine cD (α:=Nat×Int) (fun a=>⟨[(31,.int .i64 a.1),(30,.int .i64 (p.headers.map eM).length),(29,.list 5 (p.headers.map eM)),(3,.ptr 1 0),(0,.ptr 0 0)],[.cells 320 [.int .i64 a.2],.cells 55 (j8 p)]⟩) (fun a=>a.1<=p.headers.length/\a.2=aK (aK (aK (aK (aK e (nN p.av)) (fX p.offset)) (dO ((p.record.map aE).length:Nat) 0 64)) (jm p.headers.length 64)) (fE qu (p.headers.take a.1))) (fun a=>p.headers.length-a.1) (0,aK (aK (aK (aK e (nN p.av)) (fX p.offset)) (dO ((p.record.map aE).length:Nat) 0 64)) (dO ((p.headers.map eM).length:Nat) 0 64)) ⟨Nat.zero_le _,by simp[fE,kR,jm]⟩ (Sv.mk' [0,1] rfl ⟨⟨rfl,rfl⟩,⟨rfl,rfl⟩,trivial⟩ ⟨rfl,rfl,rfl,rfl,rfl,trivial⟩) ?_
 rintro⟨q,e'⟩ ⟨hq,he⟩
 have hl:p.headers.length<=4194304:=hp.2.2.2.1.1
 repeat' (conv=>arg 2;whnf);first|refine ah ?_|refine aj ?_|refine aG (fun h=>?_) (fun h=>?_)|refine cV (by simpa using h) (fun x hx=>?_)|refine cU 0 (vp _) ⟨⟨rfl,rfl⟩,trivial⟩ (aa.refl _) rfl ?_|refine cU 0 (sB _) ⟨⟨rfl,rfl⟩,trivial⟩ (aa.refl _) rfl ?_|refine cU 0 (vk _ _) ⟨⟨rfl,rfl⟩,trivial⟩ (aa.refl _) rfl ?_|refine cU 0 (yd _ _ _) ⟨⟨rfl,rfl⟩,trivial⟩ (aa.refl _) rfl ?_|refine bD ?_|refine uG ?_
 case refine_1=>
  have hh:=h
  clear h
  conv=>arg 2;whnf
  refine cD (α:=Nat×Int) (fun a=>⟨[(49,.int .i64 a.1),(48,.int .i64 ([x.prev,x.batch,x.root,x.state].map eY).length),(47,.list 1 ([x.prev,x.batch,x.root,x.state].map eY)),(31,.int .i64 q),(30,.int .i64 (p.headers.map eM).length),(29,.list 5 (p.headers.map eM)),(3,.ptr 1 0),(0,.ptr 0 0)],[.cells 320 [.int .i64 a.2],.cells 55 (j8 p)]⟩) (fun a=>a.1<=4/\a.2=aK (aK e' (jY x.seq)) (fE fX ([x.prev,x.batch,x.root,x.state].take a.1))) (fun a=>4-a.1) (0,aK e' (jY x.seq)) ⟨Nat.zero_le _,by simp[fE,kR]⟩ (Sv.mk' [0,1] rfl ⟨⟨rfl,rfl⟩,⟨rfl,rfl⟩,trivial⟩ ⟨rfl,rfl,rfl,rfl,rfl,rfl,rfl,rfl,trivial⟩) ?_
  rintro⟨i,e2⟩ ⟨hi,qL⟩
  repeat' (conv=>arg 2;whnf);first|refine ah ?_|refine aj ?_|refine aG (fun h=>?_) (fun h=>?_)|refine cV (by simp at h ⊢;omega) (fun y hy=>?_)|refine cU 0 (sB _) ⟨⟨rfl,rfl⟩,trivial⟩ (aa.refl _) rfl ?_|refine aP (aZ (by simp at h hi;omega) (by simp at h hi;omega)) ?_|refine bV (i+1,_) (Sv.mk' [0,1] rfl ⟨⟨rfl,rfl⟩,⟨rfl,rfl⟩,trivial⟩ ⟨rfl,rfl,rfl,rfl,rfl,rfl,rfl,rfl,trivial⟩) ⟨?_,?_⟩ ?_|refine bD ?_|refine aP (aZ (by simp at hh hq;omega) (by simp at hh hq;omega)) ?_|refine bV (q+1,_) (Sv.mk' [0,1] rfl ⟨⟨rfl,rfl⟩,⟨rfl,rfl⟩,trivial⟩ ⟨rfl,rfl,rfl,rfl,rfl,trivial⟩) ⟨?_,?_⟩ ?_
  ·show i+1<=4
   simp at h;omega
  ·show aK e2 (fX y)=_
   rw[sA fX hy,<-iq,<-qL]
  ·simp at h ⊢;omega
  ·show q+1<=p.headers.length
   simp at hh;omega
  ·show e2=_
   rw[show i=4 by simp at h hi;omega] at qL
   have ZD:e2=aK (aK e' (jY x.seq)) (fE fX [x.prev,x.batch,x.root,x.state]):=qL
   rw[sA qu hx,<-iq,<-he,ZD]
   simp only[qu,fE,kR,iq]
  ·simp at hh ⊢;omega
 rw[show p.headers.take q=p.headers from List.take_of_length_le (by simp at h;omega)] at he
 replace he:e'=_:=he
 clear hq h hl
 generalize hE:e'=e1 at he
 clear hE e'
 conv=>arg 2;whnf
 refine cD (α:=Nat×Int) (fun a=>⟨[(81,.int .i64 a.1),(80,.int .i64 (p.path.map eY).length),(79,.list 1 (p.path.map eY)),(3,.ptr 1 0),(0,.ptr 0 0)],[.cells 320 [.int .i64 a.2],.cells 55 (j8 p)]⟩) (fun a=>a.1<=p.path.length/\a.2=aK (aK (aK (aK (aK e1 (fX p.index)) (dO p.count 0 16)) (dO p.index 0 (IntKind.i64.wrap (p.count-1)))) (dO ((p.path.map eY).length:Nat) 0 8)) (fE fX (p.path.take a.1))) (fun a=>p.path.length-a.1) (0,aK (aK (aK (aK e1 (fX p.index)) (dO p.count 0 16)) (dO p.index 0 (IntKind.i64.wrap (p.count-1)))) (dO ((p.path.map eY).length:Nat) 0 8)) ⟨Nat.zero_le _,by simp[fE,kR]⟩ (Sv.mk' [0,1] rfl ⟨⟨rfl,rfl⟩,⟨rfl,rfl⟩,trivial⟩ ⟨rfl,rfl,rfl,rfl,rfl,trivial⟩) ?_
 rintro⟨q,e'⟩ ⟨hq,qL⟩
 have hl:p.path.length<=4194304:=hp.2.2.2.2.2.2.1.1
 repeat' (conv=>arg 2;whnf);first|refine ah ?_|refine aj ?_|refine aG (fun h=>?_) (fun h=>?_)|refine cV (by simpa using h) (fun x hx=>?_)|refine cU 0 (sB _) ⟨⟨rfl,rfl⟩,trivial⟩ (aa.refl _) rfl ?_|refine cU 0 (EE p.cert hp.2.2.2.2.2.2.2) ⟨⟨rfl,rfl⟩,trivial⟩ (aa.refl _) rfl ?_|refine aP (aZ (by simp at h hq;omega) (by simp at h hq;omega)) ?_|refine bV (q+1,_) (Sv.mk' [0,1] rfl ⟨⟨rfl,rfl⟩,⟨rfl,rfl⟩,trivial⟩ ⟨rfl,rfl,rfl,rfl,rfl,trivial⟩) ⟨?_,?_⟩ ?_|refine bD ?_|refine mK [0] (.inl rfl) rfl rfl ⟨⟨rfl,rfl⟩,trivial⟩ ⟨⟨rfl,rfl⟩,trivial⟩ (.refl _) ?_
 ·show q+1<=p.path.length
  simp at h;omega
 ·show aK e' (fX x)=_
  rw[sA fX hx,<-iq,<-qL]
  try simp only[fX,iq]
 ·simp at h ⊢;omega
 ·rw[qL,XL,show p.path.take q=p.path from List.take_of_length_le (by simp at h;omega),he]
  simp only[pz,jm,List.length_map,iq]
end Go.Proofs.YtafomdobfmmleaaGreatDoor

/- Lemmas and contracts. -/
namespace Go.Proofs.YtafomdobfmmleaaGreatDoor
open Go.RowKit
set_option linter.unusedVariables false
set_option maxRecDepth 20000
theorem GM [Wd] {P:Program} {Q:Exit->S->Prop} {a b:Nat} {t f:T} (h1:a<b->t.ok P Q) (h2:b<=a->f.ok P Q):(T.br (decide ((a:Int)<(b:Int))) t f).ok P Q:=
 ⟨fun h=>h1 (by simpa using h),fun h=>h2 (by simpa using h)⟩
theorem gu [Wd] (k:Int):aJ Tryz.prog 156 [.int .i64 k] (.bool (dc k)):=
 bf.old (v:=.bool (dc k)) (fun _ _=>.bool _) (by kernel_rfl) (fun w I vs hv=>by
  obtain⟨v,rfl,h⟩:=hv.nE
  cases h
  exact Sh) rfl
set_option maxHeartbeats 4000000 in
theorem TF [Wd] (m:aN) (hm:cr.ok m):mg 261 [.agg (aU m)] (mT m):=by
 intro e
 refine aF 174 [] Tryz.func261 rfl (by kernel_rfl) ?_
 repeat'
  first
  |(rintro⟨q,e'⟩ ⟨hq,he⟩)
  |((conv=>arg 2;whnf)
    first|refine ah ?_|refine aj ?_|refine GM (fun hlt=>?_) (fun dn=>?_)|refine aG (fun h=>?_) (fun h=>?_)|refine cV (by simpa using hlt) (fun x hx=>?_)|refine cU 0 (yd _ _ _) ⟨⟨rfl,rfl⟩,trivial⟩ (aa.refl _) rfl ?_|refine cU 0 (sB _) ⟨⟨rfl,rfl⟩,trivial⟩ (aa.refl _) rfl ?_|refine cU 0 (vp _) ⟨⟨rfl,rfl⟩,trivial⟩ (aa.refl _) rfl ?_|refine cU 0 (BN _) ⟨⟨rfl,rfl⟩,trivial⟩ (aa.refl _) rfl ?_|refine cU 0 (vk _ _) ⟨⟨rfl,rfl⟩,trivial⟩ (aa.refl _) rfl ?_|refine cU 0 (ur _) ⟨⟨rfl,rfl⟩,trivial⟩ (aa.refl _) rfl ?_|refine cU 0 (Sg m) ⟨⟨rfl,rfl⟩,trivial⟩ (aa.refl _) rfl ?_|refine cU 0 (TE m hm) ⟨⟨rfl,rfl⟩,trivial⟩ (aa.refl _) rfl ?_|refine cU 0 (EE m.cert hm.2.2.2.2.2.2.2.2.2.1) ⟨⟨rfl,rfl⟩,trivial⟩ (aa.refl _) rfl ?_|refine cU 0 (Rr m.proof hm.2.2.2.2.2.2.2.2.2.2.2.2.2.2.2.1) ⟨⟨rfl,rfl⟩,trivial⟩ (aa.refl _) rfl ?_|refine cU 0 (Kf m.av hm.2.2.2.2.2.2.2.2.2.2.2.2.2.1) ⟨⟨rfl,rfl⟩,trivial⟩ (aa.refl _) rfl ?_|refine cU 0 (Ju x (hm.2.2.2.2.2.2.2.2.2.2.1.2 x (List.mem_of_getElem? hx))) ⟨⟨rfl,rfl⟩,trivial⟩ (aa.refl _) rfl ?_|refine ak (gu _) rfl (aa.refl _) ?_|refine ak (zZ m.sign) rfl (aa.refl _) ?_|refine ak (zN m.batch hm.2.2.2.2.2.2.2.2.1) rfl (aa.refl _) ?_|refine aP (aZ (by simp at hlt hq;omega) (by have:=hm.2.2.2.2.2.2.2.2.2.2.1.1;simp at hlt hq this;omega)) ?_|refine bV (q+1,aK (aK e' (iM x)) 100) (Sv.mk' [0,1] rfl ⟨⟨rfl,rfl⟩,⟨rfl,rfl⟩,trivial⟩ ⟨rfl,rfl,rfl,rfl,rfl,trivial⟩) ⟨?_,?_⟩ ?_|refine bV (q+1,aK e' (iM x)) (Sv.mk' [0,1] rfl ⟨⟨rfl,rfl⟩,⟨rfl,rfl⟩,trivial⟩ ⟨rfl,rfl,rfl,rfl,rfl,trivial⟩) ⟨?_,?_⟩ ?_|refine bD ?_|refine cD (α:=Nat×Int) (fun a=>⟨[(90,.int .i64 a.1),(89,.int .i64 (m.changes.map bW).length),(88,.list 8 (m.changes.map bW)),(3,.ptr 1 0),(0,.ptr 0 0)],[.cells 320 [.int .i64 a.2],.cells 59 (aU m)]⟩) (fun a=>a.1<=m.changes.length/\a.2=aK (aK e (dO ((m.changes.map bW).length:Nat) 1 1)) (fE (qw m) (m.changes.take a.1))) (fun a=>m.changes.length-a.1) (0,aK e (dO ((m.changes.map bW).length:Nat) 1 1)) ⟨Nat.zero_le _,by simp[fE,kR]⟩ (Sv.mk' [0,1] rfl ⟨⟨rfl,rfl⟩,⟨rfl,rfl⟩,trivial⟩ ⟨rfl,rfl,rfl,rfl,rfl,trivial⟩) ?_|refine mK [0] (.inl rfl) rfl rfl ⟨⟨rfl,rfl⟩,trivial⟩ ⟨⟨rfl,rfl⟩,trivial⟩ (.refl _) ?_
   )
 all_goals first|(show q+1<=m.changes.length;simp at hlt;omega)|(show m.changes.length-(q+1)<m.changes.length-q;simp at hlt;omega)|(show aK (aK e' (iM x)) 100=_;rw[sA (qw m) hx,<-iq,<-he];clear he;simp_all [qw,iq])|(show aK e' (iM x)=_;rw[sA (qw m) hx,<-iq,<-he];clear he;simp_all [qw,kR])|(rw[he,List.take_of_length_le (by simpa using dn)];clear he;simp_all [mT,cG,dc,iq,kR])|simp_all [mT,cG,dc,jm,iq,kR]
end Go.Proofs.YtafomdobfmmleaaGreatDoor

/- Lemmas and contracts. -/
namespace Go.Proofs.YtafomdobfmmleaaGreatDoor
open Go.RowKit
set_option linter.unusedVariables false
set_option maxRecDepth 20000
set_option maxHeartbeats 2000000 in
theorem WS [Wd] (x:aN):aJ Tryz.prog 262 [.agg (aU x)] (.agg (aU (aH x))):=by
 refine aF 114 [] Tryz.func262 rfl (by kernel_rfl) ?_
 repeat' (conv=>arg 2;whnf);first|refine ah ?_|refine aj ?_|refine aG (fun h=>?_) (fun h=>?_)|refine af (by kernel_rfl) ?_|refine ak (gu _) rfl (aa.refl _) ?_
 all_goals (refine bq (.inr rfl) rfl (aa.bA ?_) rfl)
 all_goals simp only[beq_iff_eq,beq_eq_false_iff_ne,ne_eq] at*
 all_goals simp_all [aH,dc,aU,aO]
 all_goals (repeat' first|exact aa.nil|exact Co.refl _|exact Co.nil _|refine aa.cons ?_ ?_)
end Go.Proofs.YtafomdobfmmleaaGreatDoor

/- Lemmas and contracts. -/
namespace Go.Proofs.YtafomdobfmmleaaGreatDoor
open Go.RowKit
set_option linter.unusedVariables false
set_option maxRecDepth 20000
theorem vF:cr.ok aO:=by
 simp[cr,lU,gV,jk,jC,dM,dP,dI,dS,dY,dL,aO,ud,yf,CT,dD]
theorem XN {P:aN->Prop} {c:Prop} [Decidable c] {a b:aN} (h1:P a) (h2:P b):P (if c then a else b):=by
 by_cases h:c
 ·rw[if_pos h];exact h1
 ·rw[if_neg h];exact h2
set_option maxHeartbeats 2000000 in
theorem Vv {m:aN} (hm:cr.ok m):cr.ok (aH m):=by
 obtain⟨h1,h2,h3,h4,h5,h6,h7,h8,h9,jQ,gP,oM,pZ,p4,p6,lK,p7⟩:=hm
 obtain⟨z1,z2,z3,z4,z5,z6,z7,z8,z9,ZE,ZF,z12,ZG,ZH,ZI,ZJ,ZK⟩:=vF
 have hs:jC.ok (if dc m.kind then m.sign else dD):=by split;exact p7;exact ZK
 unfold aH
 simp only
 generalize (if dc m.kind=true then m.sign else dD)=s at hs ⊢
 repeat' refine XN (P:=cr.ok) ?_ ?_
 all_goals exact⟨h1,by first|exact h2|exact z2,by first|exact h3|exact z3,by first|exact h4|exact z4,by first|exact h5|exact z5,by first|exact h6|exact z6,by first|exact h7|exact z7,by first|exact h8|exact z8,by first|exact h9|exact z9,by first|exact jQ|exact ZE,by first|exact gP|exact ZF,by first|exact oM|exact z12,by first|exact pZ|exact ZG,by first|exact p4|exact ZH,by first|exact p6|exact ZI,by first|exact lK|exact ZJ,hs⟩
theorem TH (x:aN):dV x=if(mT x==0)&&!bK x (aH x) then 100 else mT x:=by
 unfold dV
 by_cases h1:mT x=0<;>by_cases h2:x=aH x
 ·rw[if_neg (fun h=>h.2 h2),xm h2];simp
 ·rw[if_pos ⟨h1,h2⟩,xe h2];simp[h1]
 ·rw[if_neg (fun h=>h1 h.1)];simp[h1]
 ·rw[if_neg (fun h=>h1 h.1)];simp[h1]
theorem vG [Wd] (m:aN) (hm:cr.ok m):aJ Tryz.prog 205 [.agg (aU m)] (.int .i64 (dV m)):=by
 refine aF 18 [] Tryz.func205 rfl (by kernel_rfl) ?_
 repeat' (conv=>arg 2;whnf);first|refine ah ?_|refine aj ?_|refine aG (fun h=>?_) (fun h=>?_)|refine af (by kernel_rfl) ?_|refine cU 1 (TF m hm) ⟨⟨rfl,rfl⟩,trivial⟩ (aa.refl _) rfl ?_|refine ak (WS m) rfl (aa.refl _) ?_|refine ak (L5 m (aH m) hm (Vv hm)) rfl (aa.refl _) ?_|refine F3 (.inr rfl) rfl ?_
 all_goals rw[TH]
 all_goals simp_all [vX]
end Go.Proofs.YtafomdobfmmleaaGreatDoor

/- Lemmas and contracts. -/
namespace Go.Proofs.YtafomdobfmmleaaGreatDoor
open Go.RowKit
set_option linter.unusedVariables false
set_option maxRecDepth 20000
theorem Dd [Wd] {Q:Exit->S->Prop} {f:FuncId} {ar cu:List D} {add bs:List UInt8} {hb:List AO} {c:D->List AO->T} (hF:pY f ar add) (hl:(bs++add).length+200<=bz) (hv:kK hb [1] [1] (oW bs)) (hc:aa cu (D.bG.rl [1] (.ptr 0 0::ar))) (hM:([1].all fun o=>(kg hb cu).elem o)=true) (k:(c (.aD []) (mW hb [1] (oW bs) (oW (bs++add)))).ok Tryz.prog Q):(T.call f cu hb c).ok Tryz.prog Q:=
 dx [1] (hF bs hl) (.mk' rfl hv) hc hM k
theorem TM [Wd] (m:aN) (hm:cr.ok m) {c:cX} (h7:m.changes[0]?=some c) (hk:(m.kind==7)=true) (h0:dV m=0) (cS:cG m=0) (hl:(bh m).length+300<=bz) (hb:¬262144<(bh m++dj c.sign).length):aJ Tryz.prog 157 [.agg (aU m)] (.aD [.list 1 ((bh m++dj c.sign).map aE),.int .i64 0]):=by
 refine aF 39 [] Tryz.func157 rfl (by kernel_rfl) ?_
 repeat' (conv=>arg 2;whnf);first|refine af (by kernel_rfl) ?_|refine ah ?_|refine aj ?_|refine aG (fun h=>?_) (fun h=>?_)|refine ak (vG m hm) rfl (aa.refl _) ?_|refine dx [1] (rC m hm cS (by omega)) (.mk' rfl ⟨⟨rfl,rfl⟩,trivial⟩) (aa.refl _) rfl ?_|refine kS (bW c) (by decide) (by simp[h7]) ?_|refine ak (gu _) rfl (aa.refl _) ?_|refine Dd (tZ c.sign) (by have:=Aa c.sign;rw[List.length_append];omega) ⟨⟨rfl,rfl⟩,trivial⟩ (aa.refl _) rfl ?_|refine dx [1] (Fa (bh m++dj c.sign) hb) (.mk' rfl ⟨⟨rfl,rfl⟩,trivial⟩) (aa.refl _) rfl ?_|refine bq (.inr rfl) rfl (.refl _) rfl|(exfalso;simp_all;done)
theorem Sl [Wd] (m:aN) (hm:cr.ok m) {c:cX} (h7:m.changes[0]?=some c) (hk:(m.kind==7)=true) (h0:dV m=0) (cS:cG m=0) (hl:(bh m).length+300<=bz) (hb:262144<(bh m++dj c.sign).length):aJ Tryz.prog 157 [.agg (aU m)] (.aD [.nils,.int .i64 3]):=by
 refine aF 39 [] Tryz.func157 rfl (by kernel_rfl) ?_
 repeat' (conv=>arg 2;whnf);first|refine af (by kernel_rfl) ?_|refine ah ?_|refine aj ?_|refine aG (fun h=>?_) (fun h=>?_)|refine ak (vG m hm) rfl (aa.refl _) ?_|refine dx [1] (rC m hm cS (by omega)) (.mk' rfl ⟨⟨rfl,rfl⟩,trivial⟩) (aa.refl _) rfl ?_|refine kS (bW c) (by decide) (by simp[h7]) ?_|refine ak (gu _) rfl (aa.refl _) ?_|refine Dd (tZ c.sign) (by have:=Aa c.sign;rw[List.length_append];omega) ⟨⟨rfl,rfl⟩,trivial⟩ (aa.refl _) rfl ?_|refine dx [1] (EF (bh m++dj c.sign) hb) (.mk' rfl ⟨⟨rfl,rfl⟩,trivial⟩) (aa.refl _) rfl ?_|refine bq (.inr rfl) rfl (.refl _) rfl|(exfalso;simp_all;done)
theorem TN [Wd] (m:aN) (hm:cr.ok m) (hk:(m.kind==7)=false) (hs:dc m.kind=true) (h0:dV m=0) (cS:cG m=0) (hl:(bh m).length+300<=bz) (hb:¬262144<(bh m++dj m.sign).length):aJ Tryz.prog 157 [.agg (aU m)] (.aD [.list 1 ((bh m++dj m.sign).map aE),.int .i64 0]):=by
 refine aF 39 [] Tryz.func157 rfl (by kernel_rfl) ?_
 repeat' (conv=>arg 2;whnf);first|refine af (by kernel_rfl) ?_|refine ah ?_|refine aj ?_|refine aG (fun h=>?_) (fun h=>?_)|refine ak (vG m hm) rfl (aa.refl _) ?_|refine dx [1] (rC m hm cS (by omega)) (.mk' rfl ⟨⟨rfl,rfl⟩,trivial⟩) (aa.refl _) rfl ?_|refine ak (gu _) rfl (aa.refl _) ?_|refine Dd (tZ m.sign) (by have:=Aa m.sign;rw[List.length_append];omega) ⟨⟨rfl,rfl⟩,trivial⟩ (aa.refl _) rfl ?_|refine dx [1] (Fa (bh m++dj m.sign) hb) (.mk' rfl ⟨⟨rfl,rfl⟩,trivial⟩) (aa.refl _) rfl ?_|refine bq (.inr rfl) rfl (.refl _) rfl|(exfalso;simp_all;done)
theorem Sm [Wd] (m:aN) (hm:cr.ok m) (hk:(m.kind==7)=false) (hs:dc m.kind=true) (h0:dV m=0) (cS:cG m=0) (hl:(bh m).length+300<=bz) (hb:262144<(bh m++dj m.sign).length):aJ Tryz.prog 157 [.agg (aU m)] (.aD [.nils,.int .i64 3]):=by
 refine aF 39 [] Tryz.func157 rfl (by kernel_rfl) ?_
 repeat' (conv=>arg 2;whnf);first|refine af (by kernel_rfl) ?_|refine ah ?_|refine aj ?_|refine aG (fun h=>?_) (fun h=>?_)|refine ak (vG m hm) rfl (aa.refl _) ?_|refine dx [1] (rC m hm cS (by omega)) (.mk' rfl ⟨⟨rfl,rfl⟩,trivial⟩) (aa.refl _) rfl ?_|refine ak (gu _) rfl (aa.refl _) ?_|refine Dd (tZ m.sign) (by have:=Aa m.sign;rw[List.length_append];omega) ⟨⟨rfl,rfl⟩,trivial⟩ (aa.refl _) rfl ?_|refine dx [1] (EF (bh m++dj m.sign) hb) (.mk' rfl ⟨⟨rfl,rfl⟩,trivial⟩) (aa.refl _) rfl ?_|refine bq (.inr rfl) rfl (.refl _) rfl|(exfalso;simp_all;done)
theorem TO [Wd] (m:aN) (hm:cr.ok m) (hk:(m.kind==7)=false) (hs:dc m.kind=false) (h0:dV m=0) (cS:cG m=0) (hl:(bh m).length+300<=bz) (hb:¬262144<(bh m).length):aJ Tryz.prog 157 [.agg (aU m)] (.aD [.list 1 ((bh m).map aE),.int .i64 0]):=by
 refine aF 39 [] Tryz.func157 rfl (by kernel_rfl) ?_
 repeat' (conv=>arg 2;whnf);first|refine af (by kernel_rfl) ?_|refine ah ?_|refine aj ?_|refine aG (fun h=>?_) (fun h=>?_)|refine ak (vG m hm) rfl (aa.refl _) ?_|refine dx [1] (rC m hm cS (by omega)) (.mk' rfl ⟨⟨rfl,rfl⟩,trivial⟩) (aa.refl _) rfl ?_|refine ak (gu _) rfl (aa.refl _) ?_|refine dx [1] (Fa (bh m) hb) (.mk' rfl ⟨⟨rfl,rfl⟩,trivial⟩) (aa.refl _) rfl ?_|refine bq (.inr rfl) rfl (.refl _) rfl|(exfalso;simp_all;done)
theorem Sn [Wd] (m:aN) (hm:cr.ok m) (hk:(m.kind==7)=false) (hs:dc m.kind=false) (h0:dV m=0) (cS:cG m=0) (hl:(bh m).length+300<=bz) (hb:262144<(bh m).length):aJ Tryz.prog 157 [.agg (aU m)] (.aD [.nils,.int .i64 3]):=by
 refine aF 39 [] Tryz.func157 rfl (by kernel_rfl) ?_
 repeat' (conv=>arg 2;whnf);first|refine af (by kernel_rfl) ?_|refine ah ?_|refine aj ?_|refine aG (fun h=>?_) (fun h=>?_)|refine ak (vG m hm) rfl (aa.refl _) ?_|refine dx [1] (rC m hm cS (by omega)) (.mk' rfl ⟨⟨rfl,rfl⟩,trivial⟩) (aa.refl _) rfl ?_|refine ak (gu _) rfl (aa.refl _) ?_|refine dx [1] (EF (bh m) hb) (.mk' rfl ⟨⟨rfl,rfl⟩,trivial⟩) (aa.refl _) rfl ?_|refine bq (.inr rfl) rfl (.refl _) rfl|(exfalso;simp_all;done)
theorem BW [Wd] (m:aN) (hm:cr.ok m) (h0:¬dV m=0):aJ Tryz.prog 157 [.agg (aU m)] (.aD [.nils,.int .i64 (dV m)]):=by
 refine aF 39 [] Tryz.func157 rfl (by kernel_rfl) ?_
 repeat' (conv=>arg 2;whnf);first|refine af (by kernel_rfl) ?_|refine ah ?_|refine aj ?_|refine aG (fun h=>?_) (fun h=>?_)|refine ak (vG m hm) rfl (aa.refl _) ?_|refine bq (.inr rfl) rfl (.refl _) rfl|(exfalso;simp_all;done)
end Go.Proofs.YtafomdobfmmleaaGreatDoor

/- Lemmas and contracts. -/
namespace Go.Proofs.YtafomdobfmmleaaGreatDoor
open Go.RowKit
set_option linter.unusedVariables false
set_option maxRecDepth 20000
theorem rD [Wd]:aJ Tryz.prog 155 [] (.agg (bu bX)):=by
 refine aF 2 [] Tryz.func155 rfl (by kernel_rfl) ?_
 repeat' (conv=>arg 2;whnf);first|refine af (by kernel_rfl) ?_|refine bq (.inr rfl) rfl (.refl _) rfl
theorem QN [Wd] (m:aN) (hm:cr.ok {m with sign:=bX}) (hk:(m.kind==7)=false) (hs:dc m.kind=true) (h0:dV {m with sign:=bX}=0) (cS:cG {m with sign:=bX}=0) (hl:(bh {m with sign:=bX}).length+300<=bz) (hb:¬262144<(bh {m with sign:=bX}++dj bX).length):aJ Tryz.prog 109 [.agg (aU m)] (.aD [.list 1 ((bh {m with sign:=bX}).map aE),.int .i64 0]):=by
 refine aF 51 [] Tryz.func109 rfl (by kernel_rfl) ?_
 repeat' (conv=>arg 2;whnf);first|refine af (by kernel_rfl) ?_|refine ah ?_|refine aj ?_|refine aG (fun h=>?_) (fun h=>?_)|refine ak rD rfl (aa.refl _) ?_|refine ak (gu _) rfl (aa.refl _) ?_|refine ak (TN {m with sign:=bX} hm hk hs h0 cS hl hb) rfl (aa.refl _) ?_|refine dx [1] (rC {m with sign:=bX} hm cS (by omega)) (.mk' rfl ⟨⟨rfl,rfl⟩,trivial⟩) (aa.refl _) rfl ?_|refine bq (.inr rfl) rfl (.refl _) rfl|(exfalso;simp_all;done)
theorem Qt [Wd] (m:aN) (hm:cr.ok {m with sign:=bX}) (hk:(m.kind==7)=false) (hs:dc m.kind=true) (h0:dV {m with sign:=bX}=0) (cS:cG {m with sign:=bX}=0) (hl:(bh {m with sign:=bX}).length+300<=bz) (hb:262144<(bh {m with sign:=bX}++dj bX).length):aJ Tryz.prog 109 [.agg (aU m)] (.aD [.nils,.int .i64 3]):=by
 refine aF 51 [] Tryz.func109 rfl (by kernel_rfl) ?_
 repeat' (conv=>arg 2;whnf);first|refine af (by kernel_rfl) ?_|refine ah ?_|refine aj ?_|refine aG (fun h=>?_) (fun h=>?_)|refine ak rD rfl (aa.refl _) ?_|refine ak (gu _) rfl (aa.refl _) ?_|refine ak (Sm {m with sign:=bX} hm hk hs h0 cS hl hb) rfl (aa.refl _) ?_|refine bq (.inr rfl) rfl (.refl _) rfl|(exfalso;simp_all;done)
theorem P5 [Wd] (m:aN) (hm:cr.ok {m with sign:=bX}) (hk:(m.kind==7)=false) (hs:dc m.kind=true) (h0:¬dV {m with sign:=bX}=0):aJ Tryz.prog 109 [.agg (aU m)] (.aD [.nils,.int .i64 (dV {m with sign:=bX})]):=by
 refine aF 51 [] Tryz.func109 rfl (by kernel_rfl) ?_
 repeat' (conv=>arg 2;whnf);first|refine af (by kernel_rfl) ?_|refine ah ?_|refine aj ?_|refine aG (fun h=>?_) (fun h=>?_)|refine ak rD rfl (aa.refl _) ?_|refine ak (gu _) rfl (aa.refl _) ?_|refine ak (BW {m with sign:=bX} hm h0) rfl (aa.refl _) ?_|refine bq (.inr rfl) rfl (.refl _) rfl|(exfalso;simp_all;done)
theorem QO [Wd] (m:aN) (hm:cr.ok m) (hk:(m.kind==7)=false) (hs:dc m.kind=false) (h0:dV m=0) (cS:cG m=0) (hl:(bh m).length+300<=bz) (hb:¬262144<(bh m).length):aJ Tryz.prog 109 [.agg (aU m)] (.aD [.list 1 ((bh m).map aE),.int .i64 0]):=by
 refine aF 51 [] Tryz.func109 rfl (by kernel_rfl) ?_
 repeat' (conv=>arg 2;whnf);first|refine af (by kernel_rfl) ?_|refine ah ?_|refine aj ?_|refine aG (fun h=>?_) (fun h=>?_)|refine ak rD rfl (aa.refl _) ?_|refine ak (gu _) rfl (aa.refl _) ?_|refine ak (TO m hm hk hs h0 cS hl hb) rfl (aa.refl _) ?_|refine dx [1] (rC m hm cS (by omega)) (.mk' rfl ⟨⟨rfl,rfl⟩,trivial⟩) (aa.refl _) rfl ?_|refine bq (.inr rfl) rfl (.refl _) rfl|(exfalso;simp_all;done)
theorem Qu [Wd] (m:aN) (hm:cr.ok m) (hk:(m.kind==7)=false) (hs:dc m.kind=false) (h0:dV m=0) (cS:cG m=0) (hl:(bh m).length+300<=bz) (hb:262144<(bh m).length):aJ Tryz.prog 109 [.agg (aU m)] (.aD [.nils,.int .i64 3]):=by
 refine aF 51 [] Tryz.func109 rfl (by kernel_rfl) ?_
 repeat' (conv=>arg 2;whnf);first|refine af (by kernel_rfl) ?_|refine ah ?_|refine aj ?_|refine aG (fun h=>?_) (fun h=>?_)|refine ak rD rfl (aa.refl _) ?_|refine ak (gu _) rfl (aa.refl _) ?_|refine ak (Sn m hm hk hs h0 cS hl hb) rfl (aa.refl _) ?_|refine bq (.inr rfl) rfl (.refl _) rfl|(exfalso;simp_all;done)
theorem P6 [Wd] (m:aN) (hm:cr.ok m) (hk:(m.kind==7)=false) (hs:dc m.kind=false) (h0:¬dV m=0):aJ Tryz.prog 109 [.agg (aU m)] (.aD [.nils,.int .i64 (dV m)]):=by
 refine aF 51 [] Tryz.func109 rfl (by kernel_rfl) ?_
 repeat' (conv=>arg 2;whnf);first|refine af (by kernel_rfl) ?_|refine ah ?_|refine aj ?_|refine aG (fun h=>?_) (fun h=>?_)|refine ak rD rfl (aa.refl _) ?_|refine ak (gu _) rfl (aa.refl _) ?_|refine ak (BW m hm h0) rfl (aa.refl _) ?_|refine bq (.inr rfl) rfl (.refl _) rfl|(exfalso;simp_all;done)
theorem QS [Wd] (m:aN) (c:cX) (hm:cr.ok {m with changes:=[{c with sign:=bX}]}) (hk:(m.kind==7)=true) (hc:m.changes=[c]) (h0:dV {m with changes:=[{c with sign:=bX}]}=0) (cS:cG {m with changes:=[{c with sign:=bX}]}=0) (hl:(bh {m with changes:=[{c with sign:=bX}]}).length+300<=bz) (hb:¬262144<(bh {m with changes:=[{c with sign:=bX}]}++dj bX).length):aJ Tryz.prog 109 [.agg (aU m)] (.aD [.list 1 ((bh {m with changes:=[{c with sign:=bX}]}).map aE),.int .i64 0]):=by
 refine aF 51 [] Tryz.func109 rfl (by kernel_rfl) ?_
 repeat' (conv=>arg 2;whnf);first|refine af (by kernel_rfl) ?_|refine ah ?_|refine aj ?_|refine aG (fun h=>?_) (fun h=>?_)|refine kS (bW c) (by decide) (by simp[hc]) ?_|refine ak rD rfl (aa.refl _) ?_|refine ak (gu _) rfl (aa.refl _) ?_|refine ak (TM {m with changes:=[{c with sign:=bX}]} hm (c:={c with sign:=bX}) rfl hk h0 cS hl hb) rfl (aa.refl _) ?_|refine dx [1] (rC {m with changes:=[{c with sign:=bX}]} hm cS (by omega)) (.mk' rfl ⟨⟨rfl,rfl⟩,trivial⟩) (aa.refl _) rfl ?_|refine dx [2] (rC {m with changes:=[{c with sign:=bX}]} hm cS (by omega)) (.mk' rfl ⟨⟨rfl,rfl⟩,trivial⟩) (aa.refl _) rfl ?_|refine bq (.inr rfl) rfl (.refl _) rfl|(exfalso;simp_all;done)
theorem Qv [Wd] (m:aN) (c:cX) (hm:cr.ok {m with changes:=[{c with sign:=bX}]}) (hk:(m.kind==7)=true) (hc:m.changes=[c]) (h0:dV {m with changes:=[{c with sign:=bX}]}=0) (cS:cG {m with changes:=[{c with sign:=bX}]}=0) (hl:(bh {m with changes:=[{c with sign:=bX}]}).length+300<=bz) (hb:262144<(bh {m with changes:=[{c with sign:=bX}]}++dj bX).length):aJ Tryz.prog 109 [.agg (aU m)] (.aD [.nils,.int .i64 3]):=by
 refine aF 51 [] Tryz.func109 rfl (by kernel_rfl) ?_
 repeat' (conv=>arg 2;whnf);first|refine af (by kernel_rfl) ?_|refine ah ?_|refine aj ?_|refine aG (fun h=>?_) (fun h=>?_)|refine kS (bW c) (by decide) (by simp[hc]) ?_|refine ak rD rfl (aa.refl _) ?_|refine ak (gu _) rfl (aa.refl _) ?_|refine ak (Sl {m with changes:=[{c with sign:=bX}]} hm (c:={c with sign:=bX}) rfl hk h0 cS hl hb) rfl (aa.refl _) ?_|refine bq (.inr rfl) rfl (.refl _) rfl|(exfalso;simp_all;done)
theorem P7 [Wd] (m:aN) (c:cX) (hm:cr.ok {m with changes:=[{c with sign:=bX}]}) (hk:(m.kind==7)=true) (hc:m.changes=[c]) (h0:¬dV {m with changes:=[{c with sign:=bX}]}=0):aJ Tryz.prog 109 [.agg (aU m)] (.aD [.nils,.int .i64 (dV {m with changes:=[{c with sign:=bX}]})]):=by
 refine aF 51 [] Tryz.func109 rfl (by kernel_rfl) ?_
 repeat' (conv=>arg 2;whnf);first|refine af (by kernel_rfl) ?_|refine ah ?_|refine aj ?_|refine aG (fun h=>?_) (fun h=>?_)|refine kS (bW c) (by decide) (by simp[hc]) ?_|refine ak rD rfl (aa.refl _) ?_|refine ak (gu _) rfl (aa.refl _) ?_|refine ak (BW {m with changes:=[{c with sign:=bX}]} hm h0) rfl (aa.refl _) ?_|refine bq (.inr rfl) rfl (.refl _) rfl|(exfalso;simp_all;done)
end Go.Proofs.YtafomdobfmmleaaGreatDoor

/- Lemmas and contracts. -/
namespace Go.Proofs.YtafomdobfmmleaaGreatDoor
open Go.RowKit Go.Deep
set_option linter.unusedVariables false
theorem xE {n a b:Int} (h:dO n a b=0):a<=n/\n<=b:=by
 unfold dO at h
 split at h
 ·cases h
 ·omega
theorem tN {x:aN} (h:dV x=0):mT x=0:=by
 unfold dV at h
 split at h
 ·cases h
 ·exact h
theorem tQ {x:aN} (h:mT x=0):cG x=0:=by
 exact(bC.1 h).1
theorem gJ.len {ay:Nat->Prop} {w:World} {cs:List Value} {x:aN} (hx:gJ.rd ay w cs x):cs.toArray.size=30:=by
 obtain⟨Ic,Ie,Ig,Ih,Ii,Ij,Ik,Il,Im,rfl,Io⟩:=gJ.parts hx
 rfl
noncomputable def qo (x:aN):Int:=if dV x=0 then(if 262144<(lG x).length then 3 else 0) else dV x
theorem FN {x:aN}:qo x=0<->dV x=0/\(lG x).length<=262144:=by
 unfold qo
 split
 ·rename_i h
  split
  ·rename_i h2;constructor
   ·intro h3;cases h3
   ·intro h3;omega
  ·rename_i h2;exact⟨fun _=>⟨h,by omega⟩,fun _=>rfl⟩
 ·rename_i h;exact⟨fun h2=>absurd h2 h,fun h2=>absurd h2.1 h⟩
theorem VN {x:aN}:Gw x<->qo (eF x)=0:=FN.symm
theorem gJ.chg {ay:Nat->Prop} {w:World} {cs:List Value} {x:aN} (hx:gJ.rd ay w cs x):∃a c,cs.toArray[13]?=some (.slice a x.changes.length c)/\(tL rz).rd ay w [.slice a x.changes.length c] x.changes:=by
 obtain⟨Ic,Ie,Ig,Ih,Ii,Ij,Ik,Il,Im,rfl,Io,OF,OG,OH,OI,OJ,OK,OL,OM,Ip,NT,NU,G2,AT,G3,DA,NV,NW,NX,NY,DB,G4,NZ,N0,G5,N1,N2,G6,G7,G8⟩:=gJ.parts hx
 obtain⟨a,c,he,hl⟩:=tL.slice AT
 injection he with he _
 subst he
 exact⟨a,c,rfl,AT⟩
end Go.Proofs.YtafomdobfmmleaaGreatDoor

/- Lemmas and contracts. -/
namespace Go.Proofs.YtafomdobfmmleaaGreatDoor
open Go.RowKit Go.Deep
set_option linter.unusedVariables false
theorem Fi (s:ByteArray) (pos:Nat):(Utf8.decode s pos).2<=4:=by
 simp only[Utf8.decode]
 repeat' split
 all_goals simp_all
 all_goals omega
theorem Jz (s:ByteArray):∀k pos n m,s.size<=pos+k->kC s k pos n=some m->n<=m/\s.size<=pos+4*(m-n)
 |0,pos,n,m,hk,h=>by
  simp only[kC] at h
  injection h with h
  omega
 |k+1,pos,n,m,hk,h=>by
  simp only[kC] at h
  split at h
  ·rename_i hp
   split at h
   ·cases h
   ·have h1:=BZ s pos hp
    have h4:=Fi s pos
    have:=Jz s k _ _ m (by omega) h
    omega
  ·injection h with h
   omega
theorem zH {s:List UInt8} (h:dQ s=true):s.length<=64:=by
 unfold dQ sO at h
 simp only[decide_eq_true_eq] at h
 split at h
 ·omega
 ·rename_i n hn
  split at h
  ·omega
  ·have:=Jz (au s) _ 0 0 n (by rw[sx];omega) hn
   rw[sx] at this
   omega
theorem xX {s:List UInt8} (h:nN s=0):s.length<=64:=by
 unfold nN at h
 split at h
 ·rename_i hn;exact zH hn
 ·cases h
theorem xj {o:bF} (h:cw o=0):(cy o).length<=1000:=by
 have h0:=wq h
 unfold cw at h
 repeat' split at h
 all_goals try cases h
 rename_i g1 g2 g3 g4 g5
 have ek:=gQ o.kind.toNat (by omega)
 have eo:=gQ o.offset.toNat (by omega)
 have bl:∀b:List UInt8,b.length<=64->(bB b).length<=74:=fun b hb=>by
  unfold bB
  have:=gQ b.length (by omega)
  rw[List.length_append];omega
 unfold cy
 rw[List.length_append,List.length_append]
 have p1:(if o.kind=0 then[] else bB o.av).length<=74:=by
  split
  ·simp
  ·rename_i hk
   exact bl _ (zH (by simpa[hk] using g2))
 have p2:(if o.kind=2 then enc o.records.length++o.records.flatMap bB else if o.kind=3 then bB o.group++enc o.offset.toNat else if o.kind=4 then enc o.offset.toNat else[]).length<=800:=by
  split
  ·rename_i k2
   have hr:o.records.length<=4/\vZ o=false:=by
    simp only[not_and,not_or] at g4
    have:=g4 k2
    exact⟨by omega,by simpa using this.2.2⟩
   have e5:=gQ o.records.length (by omega)
   have e6:=mF (f:=bB) (K:=74) o.records (fun x hx=>bl x (by
    have:=hr.2
    unfold vZ at this
    rw[List.any_eq_false] at this
    have:=this x hx
    simp at this
    omega))
   rw[List.length_append]
   have:o.records.length*74<=4*74:=Nat.mul_le_mul_right _ hr.1
   omega
  ·split
   ·rename_i k3
    have:=bl o.group (zH (by simpa[k3] using g3))
    rw[List.length_append];omega
   ·split
    ·omega
    ·simp
 omega
theorem mG (n:Int):(aW n).length<=10:=by
 unfold aW
 exact gQ _ (by omega)
theorem oV (l:List Int):(bw l).length<=10*l.length:=by
 unfold bw
 have:=mF (f:=aW) (K:=10) l (fun x _=>mG x)
 omega
theorem E0 {s:bH} (h:dZ s=0):(oG s).length<=20:=by
 have h':=F6 h
 have e1:=gQ s.key.toNat (by omega)
 have e2:=gQ s.an.toNat (by omega)
 unfold oG
 rw[List.length_append];omega
theorem vo (s:bH):(dj s).length<=20:=by
 unfold dj
 split
 ·rename_i h;exact E0 h
 ·simp
theorem EA {x:jg} (h:gK x=0):(kn x).length<=1020:=by
 obtain⟨c,t,o⟩:=Nu h
 have e1:=gQ x.aQ.toNat (by omega)
 have e2:=gQ x.time.toNat (by omega)
 have e3:=xj o
 unfold kn
 simp only[List.length_append];omega
theorem BS (l:List cq):(iJ l).length<=4300:=by
 unfold iJ
 split
 ·rename_i h
  have h':=CG h
  unfold qt
  have e:=gQ l.length (by omega)
  have f:=mF (f:=mJ) (K:=1050) l (fun s hs=>by
   obtain⟨h1,h2⟩:=h'.2 s hs
   have a1:=EA h1
   have a2:=E0 h2
   have a3:=gQ (kn s.request).length (by omega)
   unfold mJ bB
   simp only[List.length_append];omega)
  rw[List.length_append]
  have:l.length*1050<=4*1050:=Nat.mul_le_mul_right _ h'.1
  omega
 ·simp
theorem pK {n:Nat} {m:Int} (h:jm n m=0):(n:Int)<=m:=(xE h).2
theorem EB {l:List bH} (h:pq l=0):(sL l).length<=270:=by
 have h1:=pK (bC.1 h).1
 unfold sL
 have e:=mG (l.length:Int)
 have f:=mF (f:=dj) (K:=20) l (fun s _=>vo s)
 rw[List.length_append]
 have:l.length*20<=13*20:=Nat.mul_le_mul_right _ (by omega)
 omega
theorem zI {c:gU} (h:lE c=0):(lF c).length<=300:=by
 unfold lE at h
 have h1:=(bC.1 (bC.1 (bC.1 h).2).2).2
 have e:=oV [c.seq,c.an]
 have f:=EB h1
 simp at e
 unfold lF
 rw[List.length_append];omega
theorem SY {p:gq} (h:kD p=0):(gi p).length<=5000:=by
 unfold kD at h
 simp only[bC] at h
 have e:=oV [p.view,p.seq,p.an]
 have f:=EB h.2.2.2.2.1
 have g:=vo p.lz
 have b:=BS p.batch
 simp at e
 unfold gi
 simp only[List.length_append];omega
theorem KE {c:cX} (h:iM c=0):(ir c).length<=41000:=by
 unfold iM at h
 simp only[bC] at h
 obtain⟨_,_,h3,h4,h5,_⟩:=h
 have n:=pK h4
 have e:=oV [c.view,c.src]
 have f:=zI h3
 have g:=mG (c.cR.length:Int)
 have b:=mF (f:=gi) (K:=5000) c.cR (fun p hp=>SY (fH.1 h5 p hp))
 have:c.cR.length*5000<=8*5000:=Nat.mul_le_mul_right _ (by omega)
 simp at e
 unfold ir
 simp only[List.length_append];omega
theorem UB {c:cX} (h:iM c=0):(eH c).length<=41100:=by
 have a:=KE h
 have b:=vo c.sign
 unfold eH
 simp only[List.length_append];omega
theorem RT (x:gH):(fK x).length<=4400:=by
 have e:=oV [x.view,x.seq]
 have a:=BS x.batch
 have b:=vo x.sign
 simp at e
 unfold fK
 simp only[List.length_append];omega
theorem JX {p:jL} (h:pz p=0):(iE p).length<=5000:=by
 unfold pz at h
 simp only[bC] at h
 obtain⟨h1,_,h3,h4,_,_,_,_,h9,_,gP⟩:=h
 have n1:=xX h1
 have n3:=pK h3
 have n4:=pK h4
 have n9:=pK h9
 have a1:=gQ p.av.length (by omega)
 have a2:=gQ p.record.length (by omega)
 have e1:=oV [p.offset]
 have e2:=oV [p.index,p.count]
 have f1:=mG (p.headers.length:Int)
 have f2:=mG (p.path.length:Int)
 have c:=zI gP
 have b1:=mF (f:=iw) (K:=50) p.headers (fun x _=>by have:=oV [x.seq,x.prev,x.batch,x.root,x.state];simp at this;unfold iw;omega)
 have b2:=mF (f:=aW) (K:=10) p.path (fun x _=>mG x)
 have:p.headers.length*50<=64*50:=Nat.mul_le_mul_right _ (by omega)
 have:p.path.length*10<=8*10:=Nat.mul_le_mul_right _ (by omega)
 simp at e1 e2
 unfold iE bB
 simp only[List.length_append];omega
theorem Cf {m:aN} (h:cG m=0):(bh m).length<=1000000:=by
 have hk:=mG m.kind
 unfold bh
 rw[List.length_append]
 suffices (cP m).length<=900000 by omega
 have ns:∀l:List Int,l.length<=4->(bw l).length<=40:=fun l hl=>by have:=oV l;omega
 unfold cG at h
 unfold cP
 by_cases k1:m.kind=1
 ·rw[if_pos k1];have:=BS m.batch;omega
 rw[if_neg k1] at h ⊢
 by_cases k2:m.kind=2
 ·rw[if_pos k2];have:=BS m.batch;have:=ns [m.src,m.view,m.seq,m.an] (by simp);rw[List.length_append];omega
 rw[if_neg k2] at h ⊢
 by_cases k3:m.kind=3\/m.kind=4
 ·rw[if_pos k3];have:=ns [m.src,m.view,m.seq,m.an] (by simp);omega
 rw[if_neg k3]
 rw[if_neg (fun e=>k3 (.inl e)),if_neg (fun e=>k3 (.inr e))] at h
 by_cases k5:m.kind=5
 ·rw[if_pos k5] at h ⊢
  simp only[bC] at h
  have r1:=xE h.2.2.2.2.1
  have r2:=xE h.2.2.2.2.2
  have a1:=gQ (max m.result.err 0).toNat (by omega)
  have a2:=gQ (max m.result.offset 0).toNat (by omega)
  have:=ns [m.src,m.view,m.aQ,m.time] (by simp)
  unfold sE
  simp only[List.length_append];omega
 rw[if_neg k5] at h ⊢
 by_cases k6:m.kind=6
 ·rw[if_pos k6];have:=ns [m.src,m.seq,m.an] (by simp);omega
 rw[if_neg k6] at h ⊢
 by_cases k7:m.kind=7
 ·rw[if_pos k7] at h ⊢
  split
  ·rename_i c r hc
   have:=fH.1 (bC.1 h).2 c (by rw[hc];simp)
   unfold qw at this
   have:=KE (bC.1 this).1
   omega
  ·simp
 rw[if_neg k7] at h ⊢
 by_cases k8:m.kind=8
 ·rw[if_pos k8] at h ⊢
  unfold iN at h
  simp only[bC] at h
  obtain⟨_,_,h3,h4,h5,_⟩:=h
  have n3:=pK h3
  have n5:=pK h5
  have f1:=mG (m.changes.length:Int)
  have f2:=mG (m.entries.length:Int)
  have b1:=mF (f:=eH) (K:=41100) m.changes (fun c hc=>UB (fH.1 h4 c hc))
  have b2:=mF (f:=fK) (K:=4400) m.entries (fun c hc=>RT c)
  have:m.changes.length*41100<=13*41100:=Nat.mul_le_mul_right _ (by omega)
  have:m.entries.length*4400<=8*4400:=Nat.mul_le_mul_right _ (by omega)
  have:=ns [m.src,m.view] (by simp)
  simp only[List.length_append];omega
 rw[if_neg k8] at h ⊢
 by_cases k9:m.kind=9
 ·rw[if_pos k9];have:=ns [m.src,m.seq] (by simp);omega
 rw[if_neg k9] at h ⊢
 by_cases qQ:m.kind=10
 ·rw[if_pos qQ] at h ⊢
  simp only[bC] at h
  have c:=zI h.2.1
  have s:=pK h.2.2
  have a:=gQ m.state.length (by omega)
  have:=ns [m.src] (by simp)
  unfold bB
  simp only[List.length_append];omega
 rw[if_neg qQ] at h ⊢
 by_cases j4:m.kind=11
 ·rw[if_pos j4] at h ⊢
  simp only[bC] at h
  have s:=xX h.2.1
  have a:=gQ m.av.length (by omega)
  have:=ns [m.aQ] (by simp)
  have:=ns [m.offset] (by simp)
  unfold bB
  simp only[List.length_append];omega
 rw[if_neg j4] at h ⊢
 by_cases qR:m.kind=12
 ·rw[if_pos qR] at h ⊢
  have:=JX (bC.1 h).2
  have:=ns [m.src] (by simp)
  simp only[List.length_append];omega
 rw[if_neg qR]
 simp
end Go.Proofs.YtafomdobfmmleaaGreatDoor

/- Lemmas and contracts. -/
namespace Go.Proofs.YtafomdobfmmleaaGreatDoor
open Go.RowKit
set_option linter.unusedVariables false
set_option maxRecDepth 20000
theorem KZ:jC.ok bX:=by
 simp[jC,dM,dP,dI,bX]
theorem vH (m:aN):cr.ok m=(dI.ok m.kind/\dI.ok m.src/\dI.ok m.view/\dI.ok m.seq/\dI.ok m.an/\dI.ok m.aQ/\dI.ok m.time/\lU.ok m.result/\(dL gF).ok m.batch/\gV.ok m.cert/\(dL gG).ok m.changes/\(dL jw).ok m.entries/\dY.ok m.state/\dS.ok m.av/\dI.ok m.offset/\jk.ok m.proof/\jC.ok m.sign):=rfl
theorem w7 (c:cX):gG.ok c=(dI.ok c.view/\dI.ok c.src/\gV.ok c.cert/\(dL oU).ok c.cR/\jC.ok c.sign):=rfl
theorem VG {m:aN} (hm:cr.ok m):cr.ok {m with sign:=bX}:=by
 rw[vH] at hm ⊢
 obtain⟨h1,h2,h3,h4,h5,h6,h7,h8,h9,jQ,gP,oM,pZ,p4,p6,lK,p7⟩:=hm
 exact⟨h1,h2,h3,h4,h5,h6,h7,h8,h9,jQ,gP,oM,pZ,p4,p6,lK,KZ⟩
theorem WT {m:aN} (hm:cr.ok m) {c:cX} (hc:m.changes=[c]):cr.ok {m with changes:=[{c with sign:=bX}]}:=by
 rw[vH] at hm ⊢
 obtain⟨h1,h2,h3,h4,h5,h6,h7,h8,h9,jQ,gP,oM,pZ,p4,p6,lK,p7⟩:=hm
 have h:=gP.2 c (by rw[hc];simp)
 rw[w7] at h
 obtain⟨c1,c2,c3,c4,c5⟩:=h
 refine⟨h1,h2,h3,h4,h5,h6,h7,h8,h9,jQ,⟨by simp,fun x hx=>?_⟩,oM,pZ,p4,p6,lK,p7⟩
 simp only[List.mem_singleton] at hx
 subst hx
 rw[w7]
 exact⟨c1,c2,c3,c4,KZ⟩
theorem Qw [Wd] (m:aN) (hm:cr.ok m) (hk:(m.kind==7)=true) (hc:((m.changes.length:Int)==1)=false) (hs:dc m.kind=false) (h0:¬dV m=0):aJ Tryz.prog 109 [.agg (aU m)] (.aD [.nils,.int .i64 (dV m)]):=by
 refine aF 51 [] Tryz.func109 rfl (by kernel_rfl) ?_
 repeat' (conv=>arg 2;whnf);first|refine af (by kernel_rfl) ?_|refine ah ?_|refine aj ?_|refine aG (fun h=>?_) (fun h=>?_)|refine ak rD rfl (aa.refl _) ?_|refine ak (gu _) rfl (aa.refl _) ?_|refine ak (BW m hm h0) rfl (aa.refl _) ?_|refine bq (.inr rfl) rfl (.refl _) rfl|(exfalso;simp_all;done)
noncomputable def uR (m:aN):D:=if qo (eF m)=0 then .aD [.list 1 ((bh m).map aE),.int .i64 0] else .aD [.nils,.int .i64 (qo (eF m))]
theorem Er [Wd] (m:aN) (hm:cr.ok m):aJ Tryz.prog 109 [.agg (aU m)] (uR m):=by
 have hL:dV (eF m)=0->cG (eF m)=0/\(bh m).length+300<=bz:=fun h=>by
  have hk:=tQ (tN h)
  refine⟨hk,?_⟩
  have:=Cf hk
  rw[vh] at this
  unfold bz;omega
 have hU:=vh m
 unfold uR qo
 cases h7:m.kind==7 with
 |false=>
  have k7:¬m.kind=7:=by simpa using h7
  cases hs:dc m.kind with
  |true=>
   have ew:eF m={m with sign:=bX}:=by unfold eF;rw[if_neg (fun h=>k7 h.1),if_pos hs]
   have ef:lG {m with sign:=bX}=bh {m with sign:=bX}++dj bX:=by
    unfold lG
    simp only
    rw[if_neg k7,if_pos hs]
   have hw:=VG hm
   rw[ew] at hL hU
   rw[ew,ef]
   by_cases h0:dV {m with sign:=bX}=0
   ·obtain⟨cS,hl⟩:=hL h0
    rw[<-hU] at hl
    by_cases hb:262144<(bh {m with sign:=bX}++dj bX).length
    ·rw[if_pos h0,if_pos hb,if_neg (by decide)]
     exact Qt m hw h7 hs h0 cS hl hb
    ·rw[if_pos h0,if_neg hb,if_pos rfl,<-hU]
     exact QN m hw h7 hs h0 cS hl hb
   ·rw[if_neg h0,if_neg h0]
    exact P5 m hw h7 hs h0
  |false=>
   have ew:eF m=m:=by unfold eF;rw[if_neg (fun h=>k7 h.1),if_neg (by rw[hs];simp)]
   have ef:lG m=bh m:=by
    unfold lG
    rw[if_neg k7,if_neg (by rw[hs];simp),List.append_nil]
   rw[ew] at hL
   rw[ew,ef]
   by_cases h0:dV m=0
   ·obtain⟨cS,hl⟩:=hL h0
    by_cases hb:262144<(bh m).length
    ·rw[if_pos h0,if_pos hb,if_neg (by decide)]
     exact Qu m hm h7 hs h0 cS hl hb
    ·rw[if_pos h0,if_neg hb,if_pos rfl]
     exact QO m hm h7 hs h0 cS hl hb
   ·rw[if_neg h0,if_neg h0]
    exact P6 m hm h7 hs h0
 |true=>
  have k7:m.kind=7:=by simpa using h7
  have hs:dc m.kind=false:=by rw[k7];rfl
  by_cases hc:m.changes.length=1
  ·obtain⟨c,hc⟩:=vO hc
   have ew:eF m={m with changes:=[{c with sign:=bX}]}:=by unfold eF;rw[if_pos ⟨k7,by rw[hc];rfl⟩,hc];rfl
   have ef:lG {m with changes:=[{c with sign:=bX}]}=bh {m with changes:=[{c with sign:=bX}]}++dj bX:=by
    unfold lG
    simp only
    rw[if_pos k7]
   have hw:=WT hm hc
   rw[ew] at hL hU
   rw[ew,ef]
   by_cases h0:dV {m with changes:=[{c with sign:=bX}]}=0
   ·obtain⟨cS,hl⟩:=hL h0
    rw[<-hU] at hl
    by_cases hb:262144<(bh {m with changes:=[{c with sign:=bX}]}++dj bX).length
    ·rw[if_pos h0,if_pos hb,if_neg (by decide)]
     exact Qv m c hw h7 hc h0 cS hl hb
    ·rw[if_pos h0,if_neg hb,if_pos rfl,<-hU]
     exact QS m c hw h7 hc h0 cS hl hb
   ·rw[if_neg h0,if_neg h0]
    exact P7 m c hw h7 hc h0
  ·have ew:eF m=m:=by unfold eF;rw[if_neg (fun h=>hc h.2),if_neg (by rw[hs];simp)]
   have h0:¬dV m=0:=fun h=>by
    have hk:=tQ (tN h)
    unfold cG at hk
    simp only[k7] at hk
    have:=xE (bC.1 hk).1
    omega
   rw[ew,if_neg h0,if_neg h0]
   exact Qw m hm h7 (by
    rw[beq_eq_false_iff_ne]
    omega) hs h0
end Go.Proofs.YtafomdobfmmleaaGreatDoor

/- Lemmas and contracts. -/
namespace Go.Proofs.YtafomdobfmmleaaGreatDoor
open Go.RowKit Go.Deep
set_option linter.unusedVariables false
end Go.Proofs.YtafomdobfmmleaaGreatDoor
