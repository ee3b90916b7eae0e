/- Lemmas and contracts, part 2. -/
import Derived.Test.YtafomdobfmmleaaGreatDoorZp1
import Derived.Maps.AppendAt
import Derived.Deep.AppendLies
import Derived.Laws.Rows
import Derived.Deep.RegionLaw
namespace Go.Proofs.YtafomdobfmmleaaGreatDoor
set_option linter.unusedVariables false
open Go.RowKit
section
structure Ext (own:Nat->Prop) (w w':World):Prop where
 os:w'.os=w.os
 tape:w'.tape=w.tape
 output:w'.output=w.output
 size:w.heap.size<=w'.heap.size
 block:∀b,b<w.heap.size->¬own b->w'.heap[b]?=w.heap[b]?
theorem Ext.refl (own:Nat->Prop) (w:World):Ext own w w:=⟨rfl,rfl,rfl,Nat.le_refl _,fun _ _ _=>rfl⟩
theorem Ext.of_B {own:Nat->Prop} {w w':World} (h:B w w'):Ext own w w':=⟨h.os,h.tape,h.output,h.size,fun b hb _=>h.block b hb⟩
theorem Ext.Ld {own:Nat->Prop} {w w':World} (h:Ext own w w') (hn:∀b,b<w.heap.size->¬own b):B w w':=⟨h.os,h.tape,h.output,h.size,fun b hb=>h.block b hb (hn b hb)⟩
theorem Ext.trans {own uK:Nat->Prop} {a b c:World} (h:Ext own a b) (k:Ext uK b c) (hs:∀x,x<a.heap.size->uK x->own x):Ext own a c:=
 ⟨k.os.trans h.os,k.tape.trans h.tape,k.output.trans h.output,Nat.le_trans h.size k.size,fun x hx hn=>(k.block x (Nat.lt_of_lt_of_le hx h.size) (fun e=>hn (hs x hx e))).trans (h.block x hx hn)⟩
theorem Ext.Gk {own:Nat->Prop} {a b c:World} (h:Ext own a b) (k:Ext own b c):Ext own a c:=h.trans k fun _ _ e=>e
theorem Ext.mono {own uK:Nat->Prop} {w w':World} (h:Ext own w w') (hs:∀x,x<w.heap.size->own x->uK x):Ext uK w w':=
 ⟨h.os,h.tape,h.output,h.size,fun x hx hn=>h.block x hx (fun e=>hn (hs x hx e))⟩
theorem Ext.alloc {own:Nat->Prop} {a w:World} (h:Ext own a w) (o:Obj):Ext own a (w.alloc o):=h.trans (Ext.of_B (B.j9 w o)) (uK:=own) fun _ _ e=>e
theorem Ext.set {own:Nat->Prop} {a w:World} (h:Ext own a w) {p:Addr} (hp:p.block<a.heap.size->own p.block) (u:Value):Ext own a (w.setCell p u):=
 h.trans (uK:=fun b=>b=p.block) ⟨rfl,rfl,rfl,by simp,fun b hb hn=>Below.heap_setCell _ _ _ _ hn⟩ (fun x hx e=>by subst e;exact hp hx)
theorem Ext.grown {own:Nat->Prop} {a w w':World} {row:Option Nat} (h:Ext own a w) (hg:w.grownBy w' row) (hr:∀g,row=some g->g<a.heap.size->own g):Ext own a w':=
 h.trans (uK:=fun b=>some b=row) ⟨hg.os,hg.tape,hg.output,hg.size,fun b hb hn=>hg.block b hb hn⟩ (fun x hx e=>hr x e.symm hx)
theorem Ext.cell {own:Nat->Prop} {w w':World} (h:Ext own w w') {a:Addr} {v:Value} (hn:¬own a.block) (hv:w.cell? a=some v):w'.cell? a=some v:=by
 rw[World.cell?_of_block (w:=w) (h.block _ (World.block_lt_of_cell? w a hv) hn)];exact hv
theorem Ext.frozen {own:Nat->Prop} {w w':World} (h:Ext own w w') {a:Addr} (hl:a.block<w.heap.size) (hn:¬own a.block):w'.frozen? a=w.frozen? a:=
 World.frozen?_of_block (w:=w) (h.block _ hl hn)
def dR (w:World) (g:Nat) (t:TypeId) (cs:Array Value):Prop:=w.heap[g]?=some (.cells cs t (0,0))
section
variable {w w':World} {g:Nat} {t:TypeId} {cs:Array Value}
theorem dR.lt (h:dR w g t cs):g<w.heap.size:=by
 rcases Nat.lt_or_ge g w.heap.size with hlt|dm
 ·exact hlt
 ·unfold dR at h;rw[Array.getElem?_eq_none dm] at h;cases h
theorem dR.cell (h:dR w g t cs) (i:Nat):w.cell? ⟨g,i,none⟩=cs[i]?:=cell_of_row w g i cs t (0,0) h
theorem dR.frozen (h:dR w g t cs) (i:Nat):w.frozen? ⟨g,i,none⟩=false:=by
 unfold dR at h
 simp[World.frozen?,h]
theorem dR.new (w:World) (t:TypeId) (cs:Array Value):dR (w.alloc (.cells cs t)) w.heap.size t cs:=heap_alloc_new w _
theorem dR.alloc (h:dR w g t cs) (o:Obj):dR (w.alloc o) g t cs:=(Below.heap_alloc w o g h.lt).trans h
theorem dR.GX (h:dR w g t cs) (i:Nat) (u:Value):dR (w.setCell ⟨g,i,none⟩ u) g t (cs.setIfInBounds i u):=by
 unfold dR at h ⊢
 simp[World.setCell,Array.getElem?_modify,h]
theorem dR.S6 (h:dR w g t cs) {p:Addr} (hp:g≠p.block) (u:Value):dR (w.setCell p u) g t cs:=(Below.heap_setCell w p u g hp).trans h
theorem dR.ext {own:Nat->Prop} (h:dR w g t cs) (hb:Ext own w w') (hn:¬own g):dR w' g t cs:=(hb.block g h.lt hn).trans h
end
theorem QI {own:Nat->Prop} {w w':World} {e:TypeId} {base size n:Nat} {v:Value} {xs:List Value} (h:w.ownsRow base e size v n xs) (hb:Ext own w w') (hd:∀g,v.ownBlock=some g->¬own g):w'.ownsRow base e size v n xs:=by
 refine⟨h.1,?_⟩
 rcases h.2 with h|⟨g,cap,cur,hv,hg,hh,r⟩
 ·exact .inl h
 ·exact .inr ⟨g,cap,cur,hv,hg,dR.ext (t:=e) hh hb (hd g (by rw[hv];rfl)),r⟩
theorem I4 {w w':World} {e:TypeId} {base size n:Nat} {v:Value} {xs:List Value} (h:w.ownsRow base e size v n xs) (hb:B w w'):w'.ownsRow base e size v n xs:=
 QI h (Ext.of_B (own:=fun _=>False) hb) (fun _ _=>id)
theorem Ry {w:World} {e:TypeId} {base size n:Nat} {v:Value} {xs:List Value} (h:w.ownsRow base e size v n xs) {g:Nat} (hg:v.ownBlock=some g):g<w.heap.size:=by
 rcases h.2 with⟨rfl,_⟩|⟨g',cap,cur,rfl,_,hh,r⟩
 ·simp[Value.ownBlock] at hg
 ·have:g'=g:=by simpa[Value.ownBlock] using hg
  subst this
  exact dR.lt (t:=e) hh
theorem I5 {w:World} {e:TypeId} {base size n:Nat} {v:Value} {xs:List Value} (h:w.ownsRow base e size v n xs):∃A c,v=.slice A n c:=by
 rcases h.2 with⟨rfl,rfl⟩|⟨g',cap,cur,rfl,_⟩
 ·exact⟨_,_,rfl⟩
 ·exact⟨_,_,rfl⟩
theorem Zw {w:World} {e:TypeId} {base R9 size n:Nat} {v:Value} {xs:List Value} (h:w.ownsRow base e size v n xs) (hb:R9<=base):w.ownsRow R9 e size v n xs:=by
 refine⟨h.1,?_⟩
 rcases h.2 with h|⟨g,cap,cur,hv,hg,r⟩
 ·exact .inl h
 ·exact .inr ⟨g,cap,cur,hv,Nat.le_trans hb hg,r⟩
theorem Gh {w:World} {e:TypeId} {base size n:Nat} {v:Value} {xs:List Value} (h:w.ownsRow base e size v n xs) {g:Nat} (hg:v.ownBlock=some g):base<=g:=by
 rcases h.2 with⟨rfl,_⟩|⟨g',cap,cur,rfl,hb,_⟩
 ·simp[Value.ownBlock] at hg
 ·have:g'=g:=by simpa[Value.ownBlock] using hg
  subst this;exact hb
section
variable {P:Program} {w:World} {ops:Array Oper} {rest:List Oper} {o:Oper} {a:Act} {K:Act->World->Prop} {Q:Exit->Act->World->Prop} {E:Prop}
theorem Nr (s x:Operand) (t:TypeId) (ho:o.op=.call {callee:=.builtin .append,args:=#[s,x],argTypes:=#[t,t]}) {v u v':Value} {w':World} (hs:a.eval s=v) (hx:a.eval x=u)
 (lJ:(Builtin.append_ #[t,t] o.type #[v,u]).run P w=.ok v' w') (h:K (a.put o.dst v') w'):o.wp P a w K Q:=by
 unfold Oper.wp execOp
 simp only[ho,resolve,invoke,builtin,Sem.run_bind,Sem.run_pure,Result.andThen_ok,List.map_toArray,List.map_cons,List.map_nil,hs,hx,lJ]
 exact h
theorem No (rY:o.guard=none) (s x:Operand) (t:TypeId) (ho:o.op=.call {callee:=.builtin .append,args:=#[s,x],argTypes:=#[t,t]}) {v u v':Value} {w':World} (hs:a.eval s=v) (hx:a.eval x=u)
 (lJ:(Builtin.append_ #[t,t] o.type #[v,u]).run P w=.ok v' w') (h:wpList P ops Q rest (a.put o.dst v') w'):wpList P ops Q (o::rest) a w:=
 wpList_plain rY fun _ hK=>Nr s x t ho hs hx lJ (hK _ _ h)
theorem Uc (rY:o.guard=none) (s x:Operand) (t:TypeId) (ho:o.op=.call {callee:=.builtin .append,args:=#[s,x],argTypes:=#[t,t]}) {v u v':Value} {w':World} (hs:a.eval s=v) (hx:a.eval x=u)
 (lJ:(Builtin.append_ #[t,t] o.type #[v,u]).run P w=.ok v' w') (h:K (a.put o.dst v') w'):if Region.wanted o (yielded ops a.tmps)=true then Oper.wp P o a w K Q else E:=by
 have hw:Region.wanted o (yielded ops a.tmps)=true:=by simp[Region.wanted,rY]
 rw[if_pos hw]
 exact Nr s x t ho hs hx lJ h
theorem XP (rY:o.guard=none) (f:FuncId) (args:Array Operand) (ts:Array TypeId) (ho:o.op=.call {callee:=.value (.func f),args:=args,argTypes:=ts})
 (hf:∀(args:Array Value) (w:World),(callFunc f args).run P w=.ok (.enter f args) w) {vs:Array Value} {R:Ending->World->Prop} (hc:Calls P f vs w R) (hv:args.toList.map a.eval=vs.toList) (h:∀e w',R e w'->∃v,e=.returned v/\K (a.put o.dst v) w'):
 if Region.wanted o (yielded ops a.tmps)=true then Oper.wp P o a w K Q else E:=by
 have hw:Region.wanted o (yielded ops a.tmps)=true:=by simp[Region.wanted,rY]
 have Aw:args.map a.eval=vs:=by
  apply Array.toList_inj.1
  rw[Array.toList_map];exact hv
 subst Aw
 rw[if_pos hw]
 unfold Oper.wp execOp
 simp only[ho,resolve,Act.eval,Deferred.ofValue,invoke,Sem.run_bind,Sem.run_pure,Result.andThen_ok,hf,Array.append_empty,Array.empty_append]
 exact hc.mono fun e w' hr=>by
  obtain⟨v,rfl,hk⟩:=h e w' hr
  exact hk
end
end
end Go.Proofs.YtafomdobfmmleaaGreatDoor
