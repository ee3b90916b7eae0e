/- ScriptParses: what any text of bulk at most 1048576 says, or the first line that can not be so, is the document's. Condition: the listed package variables hold what their initialisers lay. -/
import Derived.Test.YtafomdobfmmleaaGreatDoorZp26
namespace Go.Proofs.YtafomdobfmmleaaGreatDoor
set_option linter.unusedVariables false
open Go.Proofs.Tryz
set_option maxHeartbeats 20000000
section
open Go.ChangeShapes Go.WideShapes Go.ChangeAt Go.RowKit Go.Deep
set_option maxRecDepth 100000 in
theorem agU (H:Type) (enc:TypeId×Value->H) (W:World) (base:Nat) (args:Array Value) (ds gs:List (DataW H)) (before:List MemPlace)
 (Cc:∀(j:Nat) t v,f5.params[j]?=some t->args[j]?=some v->Value.okWide prog W .any base t v)
 (hW:DataW.Whole enc prog f5.params.toList Rows.scriptParsesSpec.vars false W args.toList ds gs before) (hk:∀k,(Rows.OpenSpec.upto Rows.scriptParsesSpec).cond=some k->k H (ds++gs)=true)
 (hT:D1 W):
 Calls prog 5 args W fun e W'=>∃v,e=.returned v/\Rows.scriptParsesSpec.post enc prog f5 false true false false W args v W':=by
 have LK:=hW
 obtain⟨p,q,ZY,hV,rfl,Hp,NP⟩:=hW
 have hA:DataW.TrodAll enc prog W 0 (fun _=>true) true f5.params.toList args.toList ds p:=ZY
 rw[Tryz.params5] at hA Cc
 obtain⟨rfl,rfl⟩:=trodVars_none hV
 have hB:=X3 (hk _ rfl)
 rw[List.append_nil] at hB
 obtain⟨v0,vs0,d0,ds0,p0,q0,wo,rfl,rfl,h0,r0⟩:=trodAll_cons hA
 obtain⟨rfl,rfl,rfl⟩:=trodAll_nil r0
 obtain rfl:args=#[v0]:=by cases args;simp_all
 simp only[Rows.uptoBulkAll] at hB
 obtain⟨a0,x0,_⟩:=j4.arg (DG underlying9 (by kernel_rfl)) h0 (by omega)
 obtain⟨s0,rfl⟩:=okWide_string underlying9 (Cc 0 9 _ rfl rfl)
 refine(aif hT x0).mono fun e W' ⟨he,hg⟩=>?_
 subst he
 exact⟨_,rfl,Y4 XU (by kernel_rfl) rfl ⟨rfl,rfl,rfl⟩ (tb:=4) (by kernel_rfl) underlying4 LK hg⟩
def agw:Array Value:=#[.string ⟨#[]⟩]
def ahv (H:Type):List (DataW H):=[.lit (.string [])]
set_option maxRecDepth 100000 in
theorem agX (os:Os) (H:Type) (enc:TypeId×Value->H):∃places,DataW.whole enc prog ((Ja os).forCall (fun _ _=>0) ⟨#[],agw,[]⟩).memory f5.params.toList Rows.scriptParsesSpec.vars false agw.toList 8=some (ahv H,[],places):=
 ⟨[],by kernel_rfl⟩
set_option maxRecDepth 100000 in
theorem agV (os:Os) (started:os.Started) (H:Type) (enc:TypeId×Value->H) (F:Stop.Interp):
 ReturnsInHanded {} checked os 5 .any ((Rows.OpenSpec.upto Rows.scriptParsesSpec).preRow enc prog f5 Rows.scriptParsesUptoRow.domain false Rows.scriptParsesUptoRow.laid) (((Rows.OpenSpec.upto Rows.scriptParsesSpec).at F).post enc prog f5 false true false false):=by
 obtain⟨places,hx⟩:=agX os H enc
 refine returnsInHanded_of_row (C:=checked) (s:=(Rows.OpenSpec.upto Rows.scriptParsesSpec)) ZG started (by kernel_rfl) func5
  (witness_row_atRef (enc:=enc) (C:=checked) false (Ja os) agw rfl (by kernel_rfl) (by kernel_rfl) (by kernel_rfl)
    (OpenSpec.preRow_of_cond 8 hx (by kernel_rfl) (fun k hk=>by cases hk;kernel_rfl) (by kernel_rfl) (ZF os _))) ?_
 intro W base args ds gs before Cc hW _ hk eE aek afo _
 exact agU H enc W base args ds gs before Cc hW hk (Vi aek afo)
theorem agZ:Rows.ScriptParsesUptoSaid:=
 OpenClaim.holds_of_cond 5 f5 rfl rfl rfl rfl rfl rfl rfl ⟨rfl,rfl,rfl,rfl,rfl⟩ rfl rfl rfl rfl rfl (by kernel_rfl) func5 agW
  (of_decide_eq_true (by kernel_rfl)) (by unfold Func.isWrapper;first|(rw[if_pos (by decide+kernel)];kernel_rfl)|(rw[if_neg (by decide+kernel)];exact⟨rfl,rfl⟩))
  (fun os started H enc _ F=>by rw[OpenClaim.pre_eq_preRow];exact agV os started H enc F)
theorem agY (f:FuncId) (fn:Func) (hf:Tryz.pinned.checked.prog.funcNamed "bulla/bullalaw27.ScriptParses"=some f) (Eg:Tryz.pinned.checked.prog.funcs[f]?=some fn):
 true=Tryz.pinned.checked.prog.looks []/\∀(j:Nat) t,fn.params[j]?=some t->Tryz.pinned.checked.prog.wantsStandIn t=false:=by
 obtain rfl:f=5:=Option.some.inj ((show prog.funcNamed "bulla/bullalaw27.ScriptParses"=some 5 by kernel_rfl).symm.trans hf) |>.symm
 obtain rfl:fn=f5:=(Option.some.inj (func5.symm.trans Eg)).symm
 refine⟨by kernel_rfl,fun j t ht=>?_⟩
 rw[Tryz.params5] at ht
 have hm:t=9:=by
  have:=Array.mem_of_getElem? ht
  simpa using this
 subst hm
 exact(show prog.wantsStandIn 9=false by kernel_rfl)
theorem scriptParsesUpto_holds:Rows.ScriptParsesUptoCardSaid:=
 Claim7.holds_tied_plain_at .later [] _ _ _ _ agZ (fun _ h=>by cases h) (by kernel_rfl) (fun _ h=>by cases h) scriptParsesUpto_row_tie rfl ⟨rfl,rfl⟩ (by kernel_rfl) rfl agY (by kernel_rfl)
end
end Go.Proofs.YtafomdobfmmleaaGreatDoor
