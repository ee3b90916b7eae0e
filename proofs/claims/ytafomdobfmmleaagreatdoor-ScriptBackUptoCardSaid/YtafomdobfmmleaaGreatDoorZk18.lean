/- Lemmas and contracts, part 18. -/
import Derived.Test.YtafomdobfmmleaaGreatDoorZk17
import Derived.Defers
import Derived.Recover
import Derived.Laws.Pointers
/- Lemmas and contracts. -/
namespace Go.Proofs.YtafomdobfmmleaaGreatDoor
open Go.RowKit
set_option linter.unusedVariables false
set_option linter.unusedSimpArgs false
set_option maxRecDepth 100000
theorem RD (p:Addr) (w:World):
 CallsD Tryz.prog 63 #[.pointer (some p)] .returning w fun e u' w'=>e=.returned (.tuple #[])/\u'=.returning/\w'=w:=by
 refine callsD_of_wpS Tryz.func63 rfl fun c₀ cs hu=>?_
 apply wpS_seq
 apply wpS_region
 simp[wpOpsS,go_sem,recoverD,hu,Tryz.ntmps63,Exit.thenS]
 apply wpS_seq
 apply wpS_seq
 apply wpS_region
 simp[wpOpsS,go_sem,recoverD,hu,Exit.thenS]
 refine wpS_cond (t:=true) (by simp[Act.eval,Act.put,Array.replicate]) ?_
 simp only[if_true]
 refine wpS_of_wp (wp_ret ?_)
 cases c₀
 simp_all [bodyPostS,results,Tryz.results63,Exit.thenS,Act.put]
theorem tA (w:World):(Instr.typeAssert (.iface 122 (.agg #[])) 20 122 true).run Tryz.prog w=.ok (.tuple #[.agg #[],.bool true]) w:=by rfl
theorem Pu (p:Addr) (No:List PanicEntry) (w:World) (hc:(w.alloc (.cells #[] 122)).cell? p=some (.bool false)) (hz:(w.alloc (.cells #[] 122)).frozen? p=false):
 CallsD Tryz.prog 63 #[.pointer (some p)] (.panicking ({v:=.iface 122 (.agg #[]),recovered:=false}::No)) w fun e u' w'=>
  e=.returned (.tuple #[])/\u'=.panicking ({v:=.iface 122 (.agg #[]),recovered:=true}::No)/\w'=(w.alloc (.cells #[] 122)).setCell p (.bool false):=by
 refine callsD_of_wpS Tryz.func63 rfl fun c₀ cs hu=>?_
 apply wpS_seq
 apply wpS_region
 simp[wpOpsS,go_sem,recoverD,hu,Tryz.ntmps63,Exit.thenS]
 apply wpS_seq
 apply wpS_seq
 apply wpS_region
 simp[wpOpsS,go_sem,recoverD,hu,Exit.thenS]
 refine wpS_cond (t:=false) (by simp[Act.eval,Act.put,Array.replicate]) ?_
 simp only[Bool.false_eq_true,if_false]
 refine wpS_of_wp (wp_skip ?_)
 simp only[Exit.thenS]
 apply wpS_seq
 apply wpS_seq
 apply wpS_region
 simp[wpOpsS,go_sem,Exit.thenS,tA]
 apply wpS_seq
 apply wpS_region
 simp[wpOpsS,go_sem,Exit.thenS]
 refine wpS_cond (t:=false) (by simp[Act.eval,Act.put,Array.replicate]) ?_
 simp only[Bool.false_eq_true,if_false]
 refine wpS_of_wp (wp_skip ?_)
 simp only[Exit.thenS]
 apply wpS_region
 simp[wpOpsS,go_sem,hc,hz,bodyPostS,results,Tryz.results63]
theorem T3 [Wd] {w:World} {F:FuncId} {a b:Array Value} {Y N:World->Prop}
 (qz:nC Tryz.prog F=true) (HF:Calls Tryz.prog F (a++b) (w.alloc (.cells #[.bool false] 4)) fun e w2=>w2.heap[w.heap.size]?=some (.cells #[.bool false] 4 (0,0))/\((∃v,e=.returned v/\Y w2)\/(e=.panicked [{v:=.iface 122 (.agg #[]),recovered:=false}]/\N w2))):
 Calls Tryz.prog 32 #[.func (.func F) a b] w fun e w'=>(e=.returned (.bool true)/\∃w2,Y w2/\w2.heap[w.heap.size]?=some (.cells #[.bool false] 4 (0,0))/\w'=w2.setCell ⟨w.heap.size,0,none⟩ (.bool true))\/(e=.returned (.bool false)/\∃w2,N w2/\w2.heap[w.heap.size]?=some (.cells #[.bool false] 4 (0,0))/\w'=(w2.alloc (.cells #[] 122)).setCell ⟨w.heap.size,0,none⟩ (.bool false)):=by
 have hmf:∀(fn:Fn) (first cap:Array Value) (w:World),(Instr.makeFunc fn first cap).run Tryz.prog w=.ok (.func fn first cap) w:=fun _ _ _ _=>rfl
 go_enter_defers Tryz.func32,Tryz.ntmps32
 go_wp2
 rw[Jk qz,Oper.upon_enter]
 refine HF.mono ?_
 rintro e w2 ⟨hk,⟨v,rfl,hY⟩|⟨rfl,hN⟩⟩
 ·have hc:w2.cell? ⟨w.heap.size,0,none⟩=some (.bool false):=by simp[World.cell?,hk]
  have hz:w2.frozen? ⟨w.heap.size,0,none⟩=false:=by simp[World.frozen?,hk]
  go_wp2
  refine leaves_cons (f:=63) (args:=#[.pointer (some ⟨w.heap.size,0,none⟩)]) (by simp) (by simp[go_sem]) ?_
  refine(RD ⟨w.heap.size,0,none⟩ _).mono ?_
  rintro e u' oQ ⟨rfl,rfl,rfl⟩
  simp[Leaves,settle,results,Tryz.results32,go_sem,hc]
  exact⟨w2,hY,hk,rfl⟩
 ·have hlt:w.heap.size<w2.heap.size:=by
   rcases Nat.lt_or_ge w.heap.size w2.heap.size with h|h
   ·exact h
   ·rw[Array.getElem?_eq_none h] at hk;cases hk
  have fV:(w2.alloc (.cells #[] 122)).heap[w.heap.size]?=some (.cells #[.bool false] 4 (0,0)):=by
   rw[<-hk];exact Array.getElem?_push_lt hlt |>.trans (Array.getElem?_eq_getElem hlt).symm
  have hc:(w2.alloc (.cells #[] 122)).cell? ⟨w.heap.size,0,none⟩=some (.bool false):=by simp only[World.cell?,fV];rfl
  have hz:(w2.alloc (.cells #[] 122)).frozen? ⟨w.heap.size,0,none⟩=false:=by simp[World.frozen?,fV]
  show Leaves Tryz.prog Tryz.f32 _ _ _ _ _
  refine leaves_cons (f:=63) (args:=#[.pointer (some ⟨w.heap.size,0,none⟩)]) (by simp) (by simp[go_sem]) ?_
  refine(Pu ⟨w.heap.size,0,none⟩ [] _ hc hz).mono ?_
  rintro e u' oQ ⟨rfl,rfl,rfl⟩
  simp[Leaves,settle,results,Tryz.results32,go_sem,hc]
  exact⟨w2,hN,hk,rfl⟩
def ou:List PanicEntry:=[{v:=.iface 122 (.agg #[]),recovered:=false}]
theorem F8 {s:String} {k:Nat} (hg:Tryz.prog.globalNamed s=some k) {w w':World} (h:w'.heap[k]?=w.heap[k]?):w'.var? Tryz.prog s=w.var? Tryz.prog s:=by
 unfold World.var?
 rw[hg]
 simp only[Option.bind_some]
 rw[h]
def rX:Nat:=3
def rQ:Nat:=1
def rR:Nat:=2
def wo:Nat:=0
theorem Np:Tryz.prog.globalNamed "internal/strconv.uint64pow10"=some rX:=by kernel_rfl
theorem MW:Tryz.prog.globalNamed "strconv.ErrSyntax"=some rQ:=by kernel_rfl
theorem MY:Tryz.prog.globalNamed "strconv.ErrRange"=some rR:=by kernel_rfl
structure nQ (I:Nat->Prop) (w:World):Prop where
 pow:I rX
 Du:Lib.TabIs Tryz.prog w "internal/strconv.uint64pow10" .u64 Lib.pow10Tab
 Ht:I rQ
 Dv:∃tp p,w.var? Tryz.prog "strconv.ErrSyntax"=some #[.iface tp p]
 Hu:I rR
 Dw:∃tp p,w.var? Tryz.prog "strconv.ErrRange"=some #[.iface tp p]
 max:I wo
 AN:∃m,w.cell? ⟨wo,0,none⟩=some (.int .i64 m)
theorem nQ.cl {I I':Nat->Prop} {w w':World} (h:nQ I w) (hb:∀b,I b->w'.heap[b]?=w.heap[b]?) (hI:∀b,I b->I' b):nQ I' w' where
 pow:=hI _ h.pow
 Du:=by
  have:=h.Du
  unfold Lib.TabIs at this ⊢
  rw[F8 Np (hb _ h.pow)]
  exact this
 Ht:=hI _ h.Ht
 Dv:=by rw[F8 MW (hb _ h.Ht)];exact h.Dv
 Hu:=hI _ h.Hu
 Dw:=by rw[F8 MY (hb _ h.Hu)];exact h.Dw
 max:=hI _ h.max
 AN:=by
  obtain⟨m,hm⟩:=h.AN
  exact⟨m,by rw[<-hm];unfold World.cell?;simp only;rw[hb _ h.max]⟩
abbrev sM (p:Prop):Wd where
 A:=fun _=>False
 aI:=fun _ _ h=>h.elim
 jq:=fun ch=>p/\ch=ou
 W:=nQ
 cl:=nQ.cl
abbrev oA:Wd:=sM False
def nL:List Nat->List AO->List AO
 |[],h=>h
 |o::M,h=>nL M (h.set o .gone)
theorem EL:∀(M:List Nat) (h:List AO) (o:Nat),(nL M h)[o]?=if o∈M/\o<h.length then some .gone else h[o]?
 |[],h,o=>by simp[nL]
 |p::M,h,o=>by
  rw[nL,EL M,List.length_set,List.getElem?_set]
  by_cases h1:o∈M/\o<h.length
  ·rw[if_pos h1,if_pos ⟨List.mem_cons_of_mem _ h1.1,h1.2⟩]
  ·rw[if_neg h1]
   by_cases h2:p=o
   ·subst h2
    rw[if_pos rfl]
    by_cases h3:p<h.length
    ·rw[if_pos h3,if_pos ⟨List.mem_cons_self,h3⟩]
    ·rw[if_neg h3,if_neg (fun k=>h3 k.2),List.getElem?_eq_none (by omega)]
   ·rw[if_neg h2,if_neg]
    rintro⟨k1,k2⟩
    rcases List.mem_cons.1 k1 with k|k
    ·exact h2 k.symm
    ·exact h1 ⟨k,k2⟩
theorem JK:∀(M:List Nat) (h:List AO),(nL M h).length=h.length
 |[],h=>rfl
 |p::M,h=>by rw[nL,JK M,List.length_set]
section
variable [Old]
theorem Den.nL {I:Nat->Prop} {g:aX} {w:World}:∀(M:List Nat) {h:List AO},Den I g w h->Den I g w (nL M h)
 |[],_,hd=>hd
 |o::M,_,hd=>Den.nL M (hd.drop o)
end
theorem JL {M:List Nat} {h:List AO} {o:Nat} {ao:AO} {p:Option Nat×Value} {b:Nat} (h1:(nL M h)[o]?=some ao) (h2:ao.owns p b):o∉M/\h[o]?=some ao:=by
 rw[EL] at h1
 by_cases hc:o∈M/\o<h.length
 ·rw[if_pos hc] at h1
  injection h1 with e
  subst e
  exact h2.elim
 ·rw[if_neg hc] at h1
  exact⟨fun hm=>hc ⟨hm,(List.getElem?_eq_some_iff.1 h1).1⟩,h1⟩
theorem T4 {q:Prop} {F:FuncId} {n:Nat} {eI:List D} {h:List AO} {M:List Nat} {cQ:D->List AO->Prop} (hF:@Bc (sM q) Tryz.prog F eI h M cQ):
 @Bc oA Tryz.prog 32 [.fn F n eI] h M (fun r h'=>(r=.bool true/\∃r0,cQ r0 h')\/(r=.bool false/\q/\h'=nL M h)):=by
 refine⟨by kernel_rfl,fun w I g vs hW hd ha=>?_⟩
 obtain⟨v,rY,rfl,h1,h2⟩:=ha.sN
 obtain rfl:=h2.xF
 obtain⟨us,rfl,qO⟩:=h1.CW
 have hb:B w (w.alloc (.cells #[.bool false] 4)):=B.jV _ _
 have lN:=hd.later hb
 have ZR:=qO.ext (Ext.of_B hb (own:=fun _=>False)) (fun _ _=>id)
 have ZS:nQ I (w.alloc (.cells #[.bool false] 4)):=nQ.cl hW (fun b hI=>hb.block b (hd.ay b hI)) (fun _ k=>k)
 have cT:(w.alloc (.cells #[.bool false] 4)).heap.size=w.heap.size+1:=Array.size_push _
 have p9:(w.alloc (.cells #[.bool false] 4)).heap[w.heap.size]?=some (.cells #[.bool false] 4 (0,0)):=by
  show(w.heap.push _)[w.heap.size]?=_
  rw[Array.getElem?_push_size]
 have fu:∀b,fI M g h b->b<w.heap.size:=fun b k=>hd.lt k.owned
 have HC:=hF.2 _ I g us ZS lN ZR
 have yH:us.toArray=(us.take n).toArray++(us.drop n).toArray:=by simp
 rw[yH] at HC
 refine(@T3 oA w F _ _ (fun w2=>∃r I' g' h',cQ r h'/\@Af oA.toOld I g (w.alloc (.cells #[.bool false] 4)) h M I' g' w2 h') (fun w2=>q/\Ext (fI M g h) (w.alloc (.cells #[.bool false] 4)) w2) hF.1 (HC.mono ?_)).mono ?_
 ·rintro e w2 (⟨v,I',g',r,h',rfl,hp,oR,hv⟩|⟨ch,rfl,hp,hx⟩)
  ·exact⟨by rw[oR.ext.block _ (by rw[cT];omega) (fun k=>by have:=fu _ k;omega)];exact p9,.inl ⟨v,rfl,r,I',g',h',hp,oR⟩⟩
  ·obtain⟨hq,rfl⟩:=hp
   exact⟨by rw[hx.block _ (by rw[cT];omega) (fun k=>by have:=fu _ k;omega)];exact p9,.inr ⟨rfl,hq,hx⟩⟩
 ·rintro e w' (⟨rfl,w2,⟨r,I',g',h',hp,oR⟩,hk,rfl⟩|⟨rfl,w2,⟨hq,hx⟩,hk,rfl⟩)
  ·have hs:Ext (fun b=>b=w.heap.size) w2 (w2.setCell ⟨w.heap.size,0,none⟩ (.bool true)):=Ext.set (own:=fun b=>b=w.heap.size) (p:=⟨w.heap.size,0,none⟩) (Ext.refl _ w2) (fun _=>rfl) _
   have hi:∀b,I' b->¬b=w.heap.size:=by
    rintro b k rfl
    rcases oR.i2 _ k with k|k|k
    ·exact Nat.lt_irrefl _ (hd.ay _ k)
    ·exact Nat.lt_irrefl _ (fu _ k)
    ·omega
   have ho:∀b,cK g' h' b->¬b=w.heap.size:=by
    rintro b k rfl
    rcases oR.ow hd.len _ k with k|k
    ·exact Nat.lt_irrefl _ (hd.lt k)
    ·omega
   refine .inl ⟨_,I',g',.bool true,h',rfl,.inl ⟨rfl,r,hp⟩,⟨oR.den.ext hs hi ho,?_,oR.i1,fun b k=>?_,oR.gx,oR.fr,oR.al,fun o bJ p b k1 k2 k3 k4=>?_⟩,.rd (.bool true)⟩
   ·exact(Ext.of_B hb).CX (oR.ext.mono (fun _ _ k=>k)) |>.trans hs (fun x hx e=>by omega)
   ·rcases oR.i2 b k with k|k|k
    ·exact .inl k
    ·exact .inr (.inl k)
    ·exact .inr (.inr (by omega))
   ·rcases oR.nw o bJ p b k1 k2 k3 k4 with k|k
    ·exact .inl k
    ·exact .inr (by omega)
  ·have hs:Ext (fun b=>b=w.heap.size) w2 ((w2.alloc (.cells #[] 122)).setCell ⟨w.heap.size,0,none⟩ (.bool false)):=Ext.set (own:=fun b=>b=w.heap.size) (p:=⟨w.heap.size,0,none⟩) ((Ext.refl _ w2).alloc _) (fun _=>rfl) _
   have Bd:Ext (fI M g h) w ((w2.alloc (.cells #[] 122)).setCell ⟨w.heap.size,0,none⟩ (.bool false)):=
    (Ext.of_B hb).CX (hx.mono (fun _ _ k=>k)) |>.trans hs (fun x hx e=>by omega)
   refine .inl ⟨_,I,g,.bool false,nL M h,rfl,.inr ⟨rfl,hq,rfl⟩,⟨(hd.nL M).ext Bd ?_ ?_,Bd,fun _ k=>k,fun _ k=>.inl k,fun _ _ k=>k,fun o k1 k2=>?_,fun o bJ p b k1 k2 k3 k4=>?_,fun o bJ p b k1 k2 k3 k4=>?_⟩,.rd (.bool false)⟩
   ·rintro b k ⟨o,ao,p,_,m1,m2,m3⟩
    exact hd.own o ao p b m1 m2 m3 k
   ·rintro b ⟨o,ao,p,k1,k2,k3⟩ ⟨o',bJ,p',m0,m1,m2,m3⟩
    obtain⟨q1,q2⟩:=JL k1 k3
    exact q1 (hd.sep o o' ao bJ p p' b q2 m1 k2 m2 k3 m3▸m0)
   ·rw[EL,if_neg (fun k=>k2 k.1)]
   ·exact⟨bJ,(JL k2 k4).2,k4⟩
   ·have:=(List.getElem?_eq_some_iff.1 k2).1
    rw[JK] at this
    omega
end Go.Proofs.YtafomdobfmmleaaGreatDoor
