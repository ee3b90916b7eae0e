/- Lemmas and contracts, part 18. -/
import Derived.Test.YtafomdobfmmleaaGreatDoorZp17
import Derived.Defers
import Derived.Recover
import Derived.Laws.Pointers
namespace Go.Proofs.YtafomdobfmmleaaGreatDoor
set_option linter.unusedVariables false
open Go.RowKit
open Go.Proofs.Tryz
section
set_option linter.unusedSimpArgs false
set_option maxRecDepth 100000
theorem Wx (p:Addr) (w:World):
 CallsD prog 63 #[.pointer (some p)] .returning w fun e u' w'=>e=.returned (.tuple #[])/\u'=.returning/\w'=w:=by
 refine callsD_of_wpS func63 rfl fun c₀ cs hu=>?_
 apply wpS_seq
 apply wpS_region
 simp[wpOpsS,go_sem,recoverD,hu,ntmps63,Exit.thenS]
 apply wpS_seq
 apply wpS_seq
 apply wpS_region
 simp[wpOpsS,go_sem,recoverD,hu,Exit.thenS]
 refine wpS_cond (t:=true) (by simp[Act.eval,Act.put,Array.replicate]) ?_
 simp only[if_true]
 refine wpS_of_wp (wp_ret ?_)
 cases c₀
 simp_all [bodyPostS,results,Tryz.results63,Exit.thenS,Act.put]
theorem tA (w:World):(Instr.typeAssert (.iface 122 (.agg #[])) 20 122 true).run prog w=.ok (.tuple #[.agg #[],.bool true]) w:=by rfl
theorem Ud (p:Addr) (R6:List PanicEntry) (w:World) (hc:(w.alloc (.cells #[] 122)).cell? p=some (.bool false)) (hz:(w.alloc (.cells #[] 122)).frozen? p=false):
 CallsD prog 63 #[.pointer (some p)] (.panicking ({v:=.iface 122 (.agg #[]),recovered:=false}::R6)) w fun e u' w'=>
  e=.returned (.tuple #[])/\u'=.panicking ({v:=.iface 122 (.agg #[]),recovered:=true}::R6)/\w'=(w.alloc (.cells #[] 122)).setCell p (.bool false):=by
 refine callsD_of_wpS func63 rfl fun c₀ cs hu=>?_
 apply wpS_seq
 apply wpS_region
 simp[wpOpsS,go_sem,recoverD,hu,ntmps63,Exit.thenS]
 apply wpS_seq
 apply wpS_seq
 apply wpS_region
 simp[wpOpsS,go_sem,recoverD,hu,Exit.thenS]
 refine wpS_cond (t:=false) (by simp[Act.eval,Act.put,Array.replicate]) ?_
 simp only[Bool.false_eq_true,if_false]
 refine wpS_of_wp (wp_skip ?_)
 simp only[Exit.thenS]
 apply wpS_seq
 apply wpS_seq
 apply wpS_region
 simp[wpOpsS,go_sem,Exit.thenS,tA]
 apply wpS_seq
 apply wpS_region
 simp[wpOpsS,go_sem,Exit.thenS]
 refine wpS_cond (t:=false) (by simp[Act.eval,Act.put,Array.replicate]) ?_
 simp only[Bool.false_eq_true,if_false]
 refine wpS_of_wp (wp_skip ?_)
 simp only[Exit.thenS]
 apply wpS_region
 simp[wpOpsS,go_sem,hc,hz,bodyPostS,results,Tryz.results63]
theorem Zy [Wd] {w:World} {F:FuncId} {a b:Array Value} {Y N:World->Prop}
 (xz:rj prog F=true) (HF:Calls prog F (a++b) (w.alloc (.cells #[.bool false] 4)) fun e w2=>w2.heap[w.heap.size]?=some (.cells #[.bool false] 4 (0,0))/\((∃v,e=.returned v/\Y w2)\/(e=.panicked [{v:=.iface 122 (.agg #[]),recovered:=false}]/\N w2))):
 Calls prog 32 #[.func (.func F) a b] w fun e w'=>(e=.returned (.bool true)/\∃w2,Y w2/\w2.heap[w.heap.size]?=some (.cells #[.bool false] 4 (0,0))/\w'=w2.setCell ⟨w.heap.size,0,none⟩ (.bool true))\/(e=.returned (.bool false)/\∃w2,N w2/\w2.heap[w.heap.size]?=some (.cells #[.bool false] 4 (0,0))/\w'=(w2.alloc (.cells #[] 122)).setCell ⟨w.heap.size,0,none⟩ (.bool false)):=by
 have hmf:∀(fn:Fn) (first cap:Array Value) (w:World),(Instr.makeFunc fn first cap).run prog w=.ok (.func fn first cap) w:=fun _ _ _ _=>rfl
 go_enter_defers func32,ntmps32
 go_wp2
 rw[Nv xz,Oper.upon_enter]
 refine HF.mono ?_
 rintro e w2 ⟨hk,⟨v,rfl,hY⟩|⟨rfl,hN⟩⟩
 ·have hc:w2.cell? ⟨w.heap.size,0,none⟩=some (.bool false):=by simp[World.cell?,hk]
  have hz:w2.frozen? ⟨w.heap.size,0,none⟩=false:=by simp[World.frozen?,hk]
  go_wp2
  refine leaves_cons (f:=63) (args:=#[.pointer (some ⟨w.heap.size,0,none⟩)]) (by simp) (by simp[go_sem]) ?_
  refine(Wx ⟨w.heap.size,0,none⟩ _).mono ?_
  rintro e u' y4 ⟨rfl,rfl,rfl⟩
  simp[Leaves,settle,results,Tryz.results32,go_sem,hc]
  exact⟨w2,hY,hk,rfl⟩
 ·have hlt:w.heap.size<w2.heap.size:=by
   rcases Nat.lt_or_ge w.heap.size w2.heap.size with h|h
   ·exact h
   ·rw[Array.getElem?_eq_none h] at hk;cases hk
  have iH:(w2.alloc (.cells #[] 122)).heap[w.heap.size]?=some (.cells #[.bool false] 4 (0,0)):=by
   rw[<-hk];exact Array.getElem?_push_lt hlt |>.trans (Array.getElem?_eq_getElem hlt).symm
  have hc:(w2.alloc (.cells #[] 122)).cell? ⟨w.heap.size,0,none⟩=some (.bool false):=by simp only[World.cell?,iH];rfl
  have hz:(w2.alloc (.cells #[] 122)).frozen? ⟨w.heap.size,0,none⟩=false:=by simp[World.frozen?,iH]
  show Leaves prog f32 _ _ _ _ _
  refine leaves_cons (f:=63) (args:=#[.pointer (some ⟨w.heap.size,0,none⟩)]) (by simp) (by simp[go_sem]) ?_
  refine(Ud ⟨w.heap.size,0,none⟩ [] _ hc hz).mono ?_
  rintro e u' y4 ⟨rfl,rfl,rfl⟩
  simp[Leaves,settle,results,Tryz.results32,go_sem,hc]
  exact⟨w2,hN,hk,rfl⟩
def rq:List PanicEntry:=[{v:=.iface 122 (.agg #[]),recovered:=false}]
theorem Kv {s:String} {k:Nat} (hg:prog.globalNamed s=some k) {w w':World} (h:w'.heap[k]?=w.heap[k]?):w'.var? prog s=w.var? prog s:=by
 unfold World.var?
 rw[hg]
 simp only[Option.bind_some]
 rw[h]
def uX:Nat:=3
def uI:Nat:=1
def uJ:Nat:=2
def yT:Nat:=0
theorem R7:prog.globalNamed "internal/strconv.uint64pow10"=some uX:=by kernel_rfl
theorem Rv:prog.globalNamed "strconv.ErrSyntax"=some uI:=by kernel_rfl
theorem Rw:prog.globalNamed "strconv.ErrRange"=some uJ:=by kernel_rfl
structure qS (I:Nat->Prop) (w:World):Prop where
 pow:I uX
 D0:Lib.TabIs prog w "internal/strconv.uint64pow10" .u64 Lib.pow10Tab
 LV:I uI
 G1:∃tp p,w.var? prog "strconv.ErrSyntax"=some #[.iface tp p]
 LW:I uJ
 G2:∃tp p,w.var? prog "strconv.ErrRange"=some #[.iface tp p]
 max:I yT
 G3:∃m,w.cell? ⟨yT,0,none⟩=some (.int .i64 m)
theorem qS.cl {I I':Nat->Prop} {w w':World} (h:qS I w) (hb:∀b,I b->w'.heap[b]?=w.heap[b]?) (hI:∀b,I b->I' b):qS I' w' where
 pow:=hI _ h.pow
 D0:=by
  have:=h.D0
  unfold Lib.TabIs at this ⊢
  rw[Kv R7 (hb _ h.pow)]
  exact this
 LV:=hI _ h.LV
 G1:=by rw[Kv Rv (hb _ h.LV)];exact h.G1
 LW:=hI _ h.LW
 G2:=by rw[Kv Rw (hb _ h.LW)];exact h.G2
 max:=hI _ h.max
 G3:=by
  obtain⟨m,hm⟩:=h.G3
  exact⟨m,by rw[<-hm];unfold World.cell?;simp only;rw[hb _ h.max]⟩
abbrev yD (p:Prop):Wd where
 A:=fun _=>False
 aI:=fun _ _ h=>h.elim
 kY:=fun ch=>p/\ch=rq
 W:=qS
 cl:=qS.cl
abbrev uA:Wd:=yD False
def qE:List Nat->List AO->List AO
 |[],h=>h
 |o::M,h=>qE M (h.set o .gone)
theorem I7:∀(M:List Nat) (h:List AO) (o:Nat),(qE M h)[o]?=if o∈M/\o<h.length then some .gone else h[o]?
 |[],h,o=>by simp[qE]
 |p::M,h,o=>by
  rw[qE,I7 M,List.length_set,List.getElem?_set]
  by_cases h1:o∈M/\o<h.length
  ·rw[if_pos h1,if_pos ⟨List.mem_cons_of_mem _ h1.1,h1.2⟩]
  ·rw[if_neg h1]
   by_cases h2:p=o
   ·subst h2
    rw[if_pos rfl]
    by_cases h3:p<h.length
    ·rw[if_pos h3,if_pos ⟨List.mem_cons_self,h3⟩]
    ·rw[if_neg h3,if_neg (fun k=>h3 k.2),List.getElem?_eq_none (by omega)]
   ·rw[if_neg h2,if_neg]
    rintro⟨k1,k2⟩
    rcases List.mem_cons.1 k1 with k|k
    ·exact h2 k.symm
    ·exact h1 ⟨k,k2⟩
theorem N1:∀(M:List Nat) (h:List AO),(qE M h).length=h.length
 |[],h=>rfl
 |p::M,h=>by rw[qE,N1 M,List.length_set]
section
variable [Old]
theorem Den.qE {I:Nat->Prop} {g:bH} {w:World}:∀(M:List Nat) {h:List AO},Den I g w h->Den I g w (qE M h)
 |[],_,hd=>hd
 |o::M,_,hd=>Den.qE M (hd.drop o)
end
theorem N2 {M:List Nat} {h:List AO} {o:Nat} {ao:AO} {p:Option Nat×Value} {b:Nat} (h1:(qE M h)[o]?=some ao) (h2:ao.owns p b):o∉M/\h[o]?=some ao:=by
 rw[I7] at h1
 by_cases hc:o∈M/\o<h.length
 ·rw[if_pos hc] at h1
  injection h1 with e
  subst e
  exact h2.elim
 ·rw[if_neg hc] at h1
  exact⟨fun hm=>hc ⟨hm,(List.getElem?_eq_some_iff.1 h1).1⟩,h1⟩
theorem Zz {q:Prop} {F:FuncId} {n:Nat} {fS:List D} {h:List AO} {M:List Nat} {cZ:D->List AO->Prop} (hF:@Ej (yD q) prog F fS h M cZ):
 @Ej uA prog 32 [.fn F n fS] h M (fun r h'=>(r=.bool true/\∃r0,cZ r0 h')\/(r=.bool false/\q/\h'=qE M h)):=by
 refine⟨by kernel_rfl,fun w I g vs hW hd ha=>?_⟩
 obtain⟨v,xN,rfl,h1,h2⟩:=ha.zW
 obtain rfl:=h2.Dm
 obtain⟨us,rfl,uY⟩:=h1.Gj
 have hb:B w (w.alloc (.cells #[.bool false] 4)):=B.j9 _ _
 have mU:=hd.later hb
 have T7:=uY.ext (Ext.of_B hb (own:=fun _=>False)) (fun _ _=>id)
 have T8:qS I (w.alloc (.cells #[.bool false] 4)):=qS.cl hW (fun b hI=>hb.block b (hd.aG b hI)) (fun _ k=>k)
 have eE:(w.alloc (.cells #[.bool false] 4)).heap.size=w.heap.size+1:=Array.size_push _
 have ug:(w.alloc (.cells #[.bool false] 4)).heap[w.heap.size]?=some (.cells #[.bool false] 4 (0,0)):=by
  show(w.heap.push _)[w.heap.size]?=_
  rw[Array.getElem?_push_size]
 have fu:∀b,gM M g h b->b<w.heap.size:=fun b k=>hd.lt k.owned
 have HC:=hF.2 _ I g us T8 mU T7
 have Ca:us.toArray=(us.take n).toArray++(us.drop n).toArray:=by simp
 rw[Ca] at HC
 refine(@Zy uA w F _ _ (fun w2=>∃r I' g' h',cZ r h'/\@Af uA.toOld I g (w.alloc (.cells #[.bool false] 4)) h M I' g' w2 h') (fun w2=>q/\Ext (gM M g h) (w.alloc (.cells #[.bool false] 4)) w2) hF.1 (HC.mono ?_)).mono ?_
 ·rintro e w2 (⟨v,I',g',r,h',rfl,hp,rX,hv⟩|⟨ch,rfl,hp,hx⟩)
  ·exact⟨by rw[rX.ext.block _ (by rw[eE];omega) (fun k=>by have:=fu _ k;omega)];exact ug,.inl ⟨v,rfl,r,I',g',h',hp,rX⟩⟩
  ·obtain⟨hq,rfl⟩:=hp
   exact⟨by rw[hx.block _ (by rw[eE];omega) (fun k=>by have:=fu _ k;omega)];exact ug,.inr ⟨rfl,hq,hx⟩⟩
 ·rintro e w' (⟨rfl,w2,⟨r,I',g',h',hp,rX⟩,hk,rfl⟩|⟨rfl,w2,⟨hq,hx⟩,hk,rfl⟩)
  ·have hs:Ext (fun b=>b=w.heap.size) w2 (w2.setCell ⟨w.heap.size,0,none⟩ (.bool true)):=Ext.set (own:=fun b=>b=w.heap.size) (p:=⟨w.heap.size,0,none⟩) (Ext.refl _ w2) (fun _=>rfl) _
   have hi:∀b,I' b->¬b=w.heap.size:=by
    rintro b k rfl
    rcases rX.i2 _ k with k|k|k
    ·exact Nat.lt_irrefl _ (hd.aG _ k)
    ·exact Nat.lt_irrefl _ (fu _ k)
    ·omega
   have ho:∀b,dF g' h' b->¬b=w.heap.size:=by
    rintro b k rfl
    rcases rX.ow hd.len _ k with k|k
    ·exact Nat.lt_irrefl _ (hd.lt k)
    ·omega
   refine .inl ⟨_,I',g',.bool true,h',rfl,.inl ⟨rfl,r,hp⟩,⟨rX.den.ext hs hi ho,?_,rX.i1,fun b k=>?_,rX.gx,rX.fr,rX.al,fun o cA p b k1 k2 k3 k4=>?_⟩,.rd (.bool true)⟩
   ·exact(Ext.of_B hb).Gk (rX.ext.mono (fun _ _ k=>k)) |>.trans hs (fun x hx e=>by omega)
   ·rcases rX.i2 b k with k|k|k
    ·exact .inl k
    ·exact .inr (.inl k)
    ·exact .inr (.inr (by omega))
   ·rcases rX.nw o cA p b k1 k2 k3 k4 with k|k
    ·exact .inl k
    ·exact .inr (by omega)
  ·have hs:Ext (fun b=>b=w.heap.size) w2 ((w2.alloc (.cells #[] 122)).setCell ⟨w.heap.size,0,none⟩ (.bool false)):=Ext.set (own:=fun b=>b=w.heap.size) (p:=⟨w.heap.size,0,none⟩) ((Ext.refl _ w2).alloc _) (fun _=>rfl) _
   have jU:Ext (gM M g h) w ((w2.alloc (.cells #[] 122)).setCell ⟨w.heap.size,0,none⟩ (.bool false)):=
    (Ext.of_B hb).Gk (hx.mono (fun _ _ k=>k)) |>.trans hs (fun x hx e=>by omega)
   refine .inl ⟨_,I,g,.bool false,qE M h,rfl,.inr ⟨rfl,hq,rfl⟩,⟨(hd.qE M).ext jU ?_ ?_,jU,fun _ k=>k,fun _ k=>.inl k,fun _ _ k=>k,fun o k1 k2=>?_,fun o cA p b k1 k2 k3 k4=>?_,fun o cA p b k1 k2 k3 k4=>?_⟩,.rd (.bool false)⟩
   ·rintro b k ⟨o,ao,p,_,m1,m2,m3⟩
    exact hd.own o ao p b m1 m2 m3 k
   ·rintro b ⟨o,ao,p,k1,k2,k3⟩ ⟨o',cA,p',m0,m1,m2,m3⟩
    obtain⟨q1,q2⟩:=N2 k1 k3
    exact q1 (hd.sep o o' ao cA p p' b q2 m1 k2 m2 k3 m3▸m0)
   ·rw[I7,if_neg (fun k=>k2 k.1)]
   ·exact⟨cA,(N2 k2 k4).2,k4⟩
   ·have:=(List.getElem?_eq_some_iff.1 k2).1
    rw[N1] at this
    omega
end
end Go.Proofs.YtafomdobfmmleaaGreatDoor
