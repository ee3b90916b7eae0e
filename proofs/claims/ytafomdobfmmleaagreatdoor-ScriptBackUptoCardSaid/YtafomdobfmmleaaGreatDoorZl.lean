/- ScriptBack: for any script and text of bulk at most 1048576, what is printed says what it was, and what is read is printed as it stood. Condition: the listed package variables hold what their initialisers lay. -/
import Derived.Test.YtafomdobfmmleaaGreatDoorZk26
/- Lemmas and contracts. -/
namespace Go.Proofs.YtafomdobfmmleaaGreatDoor
open Go.ChangeShapes Go.WideShapes Go.ChangeAt Go.RowKit Go.Deep
set_option linter.unusedVariables false
set_option maxRecDepth 100000 in
theorem Pk (H:Type) (enc:TypeId×Value->H) (W:World) (base:Nat) (args:Array Value) (ds gs:List (DataW H)) (before:List MemPlace)
 (AW:∀(j:Nat) t v,Tryz.f6.params[j]?=some t->args[j]?=some v->Value.okWide Tryz.prog W .any base t v)
 (hW:DataW.Whole enc Tryz.prog Tryz.f6.params.toList Rows.scriptBackSpec.vars false W args.toList ds gs before) (hk:∀k,(Rows.OpenSpec.upto Rows.scriptBackSpec).cond=some k->k H (ds++gs)=true)
 (hT:AP W):
 Calls Tryz.prog 6 args W fun e W'=>∃v,e=.returned v/\Rows.scriptBackSpec.post enc Tryz.prog Tryz.f6 false true false false W args v W':=by
 have Ho:=hW
 obtain⟨p,q,hA0,hV,rfl,DI,ZL⟩:=hW
 have hA:DataW.TrodAll enc Tryz.prog W 0 (fun _=>true) true Tryz.f6.params.toList args.toList ds p:=hA0
 rw[Tryz.params6] at hA AW
 obtain⟨rfl,rfl⟩:=trodVars_none hV
 have hB:=S4 (hk _ rfl)
 rw[List.append_nil] at hB
 obtain⟨v0,vs0,d0,ds0,p0,q0,rN,rfl,rfl,h0,r0⟩:=trodAll_cons hA
 obtain⟨v1,Oq,d1,ds1,p1,q1,rfl,rfl,rfl,h1,r1⟩:=trodAll_cons r0
 obtain⟨rfl,rfl,rfl⟩:=trodAll_nil r1
 obtain rfl:args=#[v0,v1]:=by cases args;simp_all
 simp only[Rows.uptoBulkAll] at hB
 obtain⟨⟨c0⟩,rfl,_⟩:=okWide_struct Tryz.underlying69 (AW 0 69 _ rfl rfl)
 obtain⟨a0,x0,z0⟩:=gX.arg Q8 h0 (by omega)
 obtain⟨a1,x1,_⟩:=gX.arg (xT Tryz.underlying9 (by kernel_rfl)) h1 (by omega)
 obtain⟨s1,rfl⟩:=okWide_string Tryz.underlying9 (AW 1 9 _ rfl rfl)
 refine(Xp hT x0 (by omega) x1).mono fun e W' ⟨he,hg⟩=>?_
 subst he
 exact⟨_,rfl,TX SI (by kernel_rfl) rfl ⟨rfl,rfl,rfl⟩ (tb:=4) (by kernel_rfl) Tryz.underlying4 Ho hg⟩
def Ee:Array Value:=#[.agg #[.int .i64 0,.int .u16 0,.int .u16 0,.int .i64 0,.string ⟨#[]⟩,.slice none 0 0],.string ⟨#[]⟩]
def QE (H:Type):List (DataW H):=[.agg [.agg [.lit (.int .i64 0),.lit (.int .u16 0),.lit (.int .u16 0),.lit (.int .i64 0),.lit (.string [])],.nil],.lit (.string [])]
set_option maxRecDepth 100000 in
theorem Pq (os:Os) (H:Type) (enc:TypeId×Value->H):∃places,DataW.whole enc Tryz.prog ((EM os).forCall (fun _ _=>0) ⟨#[],Ee,[]⟩).memory Tryz.f6.params.toList Rows.scriptBackSpec.vars false Ee.toList 8=some (QE H,[],places):=
 ⟨[],by kernel_rfl⟩
set_option maxRecDepth 100000 in
theorem Pm (os:Os) (started:os.Started) (H:Type) (enc:TypeId×Value->H) (F:Stop.Interp):
 ReturnsInHanded {} Tryz.checked os 6 .any ((Rows.OpenSpec.upto Rows.scriptBackSpec).preRow enc Tryz.prog Tryz.f6 Rows.scriptBackUptoRow.domain false Rows.scriptBackUptoRow.laid) (((Rows.OpenSpec.upto Rows.scriptBackSpec).at F).post enc Tryz.prog Tryz.f6 false true false false):=by
 obtain⟨places,hx⟩:=Pq os H enc
 refine returnsInHanded_of_row (C:=Tryz.checked) (s:=(Rows.OpenSpec.upto Rows.scriptBackSpec)) T7 started (by kernel_rfl) Tryz.func6
  (witness_row_atRef (enc:=enc) (C:=Tryz.checked) false (EM os) Ee rfl (by kernel_rfl) (by kernel_rfl) (by kernel_rfl)
    (OpenSpec.preRow_of_cond 8 hx (by kernel_rfl) (fun k hk=>by cases hk;kernel_rfl) (by kernel_rfl) (T6 os _))) ?_
 intro W base args ds gs before AW hW _ hk cT Yj Zn _
 exact Pk H enc W base args ds gs before AW hW hk (QA Yj Zn)
theorem Px:Rows.ScriptBackUptoSaid:=
 OpenClaim.holds_of_cond 6 Tryz.f6 rfl rfl rfl rfl rfl rfl rfl ⟨rfl,rfl,rfl,rfl,rfl⟩ rfl rfl rfl rfl rfl (by kernel_rfl) Tryz.func6 Pp
  (of_decide_eq_true (by kernel_rfl)) (by unfold Func.isWrapper;first|(rw[if_pos (by decide+kernel)];kernel_rfl)|(rw[if_neg (by decide+kernel)];exact⟨rfl,rfl⟩))
  (fun os started H enc _ F=>by rw[OpenClaim.pre_eq_preRow];exact Pm os started H enc F)
theorem Pr (f:FuncId) (fn:Func) (hf:Tryz.pinned.checked.prog.funcNamed "bulla/bullalaw27.ScriptBack"=some f) (Ba:Tryz.pinned.checked.prog.funcs[f]?=some fn):
 true=Tryz.pinned.checked.prog.looks []/\∀(j:Nat) t,fn.params[j]?=some t->Tryz.pinned.checked.prog.wantsStandIn t=false:=by
 obtain rfl:f=6:=Option.some.inj ((show Tryz.prog.funcNamed "bulla/bullalaw27.ScriptBack"=some 6 by kernel_rfl).symm.trans hf) |>.symm
 obtain rfl:fn=Tryz.f6:=(Option.some.inj (Tryz.func6.symm.trans Ba)).symm
 refine⟨by kernel_rfl,fun j t ht=>?_⟩
 rw[Tryz.params6] at ht
 have hm:t=69\/t=9:=by
  have:=Array.mem_of_getElem? ht
  simpa using this
 rcases hm with rfl|rfl
 ·exact(show Tryz.prog.wantsStandIn 69=false by kernel_rfl)
 ·exact(show Tryz.prog.wantsStandIn 9=false by kernel_rfl)
theorem scriptBackUpto_holds:Rows.ScriptBackUptoCardSaid:=
 Claim7.holds_tied_plain_at .later [] _ _ _ _ Px (fun _ h=>by cases h) (by kernel_rfl) (fun _ h=>by cases h) scriptBackUpto_row_tie rfl ⟨rfl,rfl⟩ (by kernel_rfl) rfl Pr (by kernel_rfl)
end Go.Proofs.YtafomdobfmmleaaGreatDoor
