/- ScriptLines: for any two acts and line of bulk at most 1048576, the act's line, what the line says of an act, and whether the acts are the same are the document's. Condition: the seven listed package variables hold what their initialisers lay. -/
import Derived.Test.YtafomdobfmmleaaGreatDoorZl25
namespace Go.Proofs.YtafomdobfmmleaaGreatDoor
set_option linter.unusedVariables false
open Go.Proofs.Tryz
set_option maxHeartbeats 20000000
section
open Go.ChangeShapes Go.WideShapes Go.ChangeAt Go.RowKit Go.Deep
set_option maxRecDepth 100000 in
theorem T5 (H:Type) (enc:TypeId×Value->H) (W:World) (base:Nat) (args:Array Value) (ds gs:List (DataW H)) (before:List MemPlace)
 (Cc:∀(j:Nat) t v,f4.params[j]?=some t->args[j]?=some v->Value.okWide prog W .any base t v)
 (hW:DataW.Whole enc prog f4.params.toList Rows.scriptLinesSpec.vars false W args.toList ds gs before) (hk:∀k,(Rows.OpenSpec.upto Rows.scriptLinesSpec).cond=some k->k H (ds++gs)=true)
 (hT:D1 W):
 Calls prog 4 args W fun e W'=>∃v,e=.returned v/\Rows.scriptLinesSpec.post enc prog f4 false true false false W args v W':=by
 have LK:=hW
 obtain⟨p,q,hA0,hV,rfl,Hp,hnd⟩:=hW
 have hA:DataW.TrodAll enc prog W 0 (fun _=>true) true f4.params.toList args.toList ds p:=hA0
 rw[Tryz.params4] at hA Cc
 obtain⟨rfl,rfl⟩:=trodVars_none hV
 have hB:=X3 (hk _ rfl)
 rw[List.append_nil] at hB
 obtain⟨v0,vs0,d0,ds0,p0,q0,wo,rfl,rfl,h0,r0⟩:=trodAll_cons hA
 obtain⟨v1,Tk,d1,ds1,p1,q1,rfl,rfl,rfl,h1,r1⟩:=trodAll_cons r0
 obtain⟨v2,vs2,d2,ds2,p2,q2,rfl,rfl,rfl,h2,r2⟩:=trodAll_cons r1
 obtain⟨rfl,rfl,rfl⟩:=trodAll_nil r2
 obtain rfl:args=#[v0,v1,v2]:=by cases args;simp_all
 simp only[Rows.uptoBulkAll] at hB
 obtain⟨⟨c0⟩,rfl,_⟩:=okWide_struct underlying61 (Cc 0 61 _ rfl rfl)
 obtain⟨a0,x0,_⟩:=j4.arg PM h0 (by omega)
 obtain⟨⟨c1⟩,rfl,_⟩:=okWide_struct underlying61 (Cc 1 61 _ rfl rfl)
 obtain⟨a1,x1,_⟩:=j4.arg PM h1 (by omega)
 obtain⟨a2,x2,_⟩:=j4.arg (DG underlying9 (by kernel_rfl)) h2 (by omega)
 obtain⟨s2,rfl⟩:=okWide_string underlying9 (Cc 2 9 _ rfl rfl)
 refine(ab4 hT x0 x1 x2).mono fun e W' ⟨he,hg⟩=>?_
 subst he
 exact⟨_,rfl,Y4 XU (by kernel_rfl) rfl ⟨rfl,rfl,rfl⟩ (tb:=4) (by kernel_rfl) underlying4 LK hg⟩
def Ip:Array Value:=#[.agg #[.int .i64 0,.int .i64 0,.int .i64 0,.int .i64 0,.string ⟨#[]⟩,.string ⟨#[]⟩,.int .i64 0,.slice none 0 0,.slice none 0 0,.int .i64 0,.int .i64 0,.int .i64 0,.int .i64 0,.int .i64 0,.int .i64 0,.int .i64 0,.int .i64 0,.int .i64 0,.slice none 0 0,.int .i64 0,.int .i64 0,.slice none 0 0,.slice none 0 0,.slice none 0 0,.slice none 0 0,.string ⟨#[]⟩,.int .i64 0,.string ⟨#[]⟩,.int .i64 0,.slice none 0 0,.slice none 0 0,.int .i64 0,.int .i64 0,.slice none 0 0,.int .i64 0,.int .i64 0,.slice none 0 0,.int .i64 0,.int .i64 0,.bool false],.agg #[.int .i64 0,.int .i64 0,.int .i64 0,.int .i64 0,.string ⟨#[]⟩,.string ⟨#[]⟩,.int .i64 0,.slice none 0 0,.slice none 0 0,.int .i64 0,.int .i64 0,.int .i64 0,.int .i64 0,.int .i64 0,.int .i64 0,.int .i64 0,.int .i64 0,.int .i64 0,.slice none 0 0,.int .i64 0,.int .i64 0,.slice none 0 0,.slice none 0 0,.slice none 0 0,.slice none 0 0,.string ⟨#[]⟩,.int .i64 0,.string ⟨#[]⟩,.int .i64 0,.slice none 0 0,.slice none 0 0,.int .i64 0,.int .i64 0,.slice none 0 0,.int .i64 0,.int .i64 0,.slice none 0 0,.int .i64 0,.int .i64 0,.bool false],.string ⟨#[]⟩]
def UU (H:Type):List (DataW H):=[.agg [.lit (.int .i64 0),.lit (.int .i64 0),.lit (.int .i64 0),.agg [.lit (.int .i64 0),.lit (.string []),.lit (.string []),.lit (.int .i64 0),.nil],.nil,.agg [.lit (.int .i64 0),.lit (.int .i64 0),.lit (.int .i64 0),.lit (.int .i64 0),.lit (.int .i64 0),.lit (.int .i64 0),.lit (.int .i64 0),.agg [.lit (.int .i64 0),.lit (.int .i64 0)],.nil,.agg [.lit (.int .i64 0),.lit (.int .i64 0),.nil],.nil,.nil,.nil,.lit (.string []),.lit (.int .i64 0),.agg [.lit (.string []),.lit (.int .i64 0),.nil,.nil,.lit (.int .i64 0),.lit (.int .i64 0),.nil,.agg [.lit (.int .i64 0),.lit (.int .i64 0),.nil]],.agg [.lit (.int .i64 0),.lit (.int .i64 0)]],.lit (.bool false)],.agg [.lit (.int .i64 0),.lit (.int .i64 0),.lit (.int .i64 0),.agg [.lit (.int .i64 0),.lit (.string []),.lit (.string []),.lit (.int .i64 0),.nil],.nil,.agg [.lit (.int .i64 0),.lit (.int .i64 0),.lit (.int .i64 0),.lit (.int .i64 0),.lit (.int .i64 0),.lit (.int .i64 0),.lit (.int .i64 0),.agg [.lit (.int .i64 0),.lit (.int .i64 0)],.nil,.agg [.lit (.int .i64 0),.lit (.int .i64 0),.nil],.nil,.nil,.nil,.lit (.string []),.lit (.int .i64 0),.agg [.lit (.string []),.lit (.int .i64 0),.nil,.nil,.lit (.int .i64 0),.lit (.int .i64 0),.nil,.agg [.lit (.int .i64 0),.lit (.int .i64 0),.nil]],.agg [.lit (.int .i64 0),.lit (.int .i64 0)]],.lit (.bool false)],.lit (.string [])]
set_option maxRecDepth 100000 in
theorem T8 (os:Os) (H:Type) (enc:TypeId×Value->H):∃places,DataW.whole enc prog ((Ja os).forCall (fun _ _=>0) ⟨#[],Ip,[]⟩).memory f4.params.toList Rows.scriptLinesSpec.vars false Ip.toList 8=some (UU H,[],places):=
 ⟨[],by kernel_rfl⟩
set_option maxRecDepth 100000 in
theorem T6 (os:Os) (started:os.Started) (H:Type) (enc:TypeId×Value->H) (F:Stop.Interp):
 ReturnsInHanded {} checked os 4 .any ((Rows.OpenSpec.upto Rows.scriptLinesSpec).preRow enc prog f4 Rows.scriptLinesUptoRow.domain false Rows.scriptLinesUptoRow.laid) (((Rows.OpenSpec.upto Rows.scriptLinesSpec).at F).post enc prog f4 false true false false):=by
 obtain⟨places,hx⟩:=T8 os H enc
 refine returnsInHanded_of_row (C:=checked) (s:=(Rows.OpenSpec.upto Rows.scriptLinesSpec)) ZG started (by kernel_rfl) func4
  (witness_row_atRef (enc:=enc) (C:=checked) false (Ja os) Ip rfl (by kernel_rfl) (by kernel_rfl) (by kernel_rfl)
    (OpenSpec.preRow_of_cond 8 hx (by kernel_rfl) (fun k hk=>by cases hk;kernel_rfl) (by kernel_rfl) (ZF os _))) ?_
 intro W base args ds gs before Cc hW _ hk eE aek afo _
 exact T5 H enc W base args ds gs before Cc hW hk (Vi aek afo)
theorem Ub:Rows.ScriptLinesUptoSaid:=
 OpenClaim.holds_of_cond 4 f4 rfl rfl rfl rfl rfl rfl rfl ⟨rfl,rfl,rfl,rfl,rfl⟩ rfl rfl rfl rfl rfl (by kernel_rfl) func4 T7
  (of_decide_eq_true (by kernel_rfl)) (by unfold Func.isWrapper;first|(rw[if_pos (by decide+kernel)];kernel_rfl)|(rw[if_neg (by decide+kernel)];exact⟨rfl,rfl⟩))
  (fun os started H enc _ F=>by rw[OpenClaim.pre_eq_preRow];exact T6 os started H enc F)
theorem T9 (f:FuncId) (fn:Func) (hf:Tryz.pinned.checked.prog.funcNamed "bulla/bullalaw27.ScriptLines"=some f) (Eg:Tryz.pinned.checked.prog.funcs[f]?=some fn):
 true=Tryz.pinned.checked.prog.looks []/\∀(j:Nat) t,fn.params[j]?=some t->Tryz.pinned.checked.prog.wantsStandIn t=false:=by
 obtain rfl:f=4:=Option.some.inj ((show prog.funcNamed "bulla/bullalaw27.ScriptLines"=some 4 by kernel_rfl).symm.trans hf) |>.symm
 obtain rfl:fn=f4:=(Option.some.inj (func4.symm.trans Eg)).symm
 refine⟨by kernel_rfl,fun j t ht=>?_⟩
 rw[Tryz.params4] at ht
 have hm:t=61\/t=9:=by
  have:=Array.mem_of_getElem? ht
  simpa using this
 rcases hm with rfl|rfl
 ·exact(show prog.wantsStandIn 61=false by kernel_rfl)
 ·exact(show prog.wantsStandIn 9=false by kernel_rfl)
theorem scriptLinesUpto_holds:Rows.ScriptLinesUptoCardSaid:=
 Claim7.holds_tied_plain_at .later [] _ _ _ _ Ub (fun _ h=>by cases h) (by kernel_rfl) (fun _ h=>by cases h) scriptLinesUpto_row_tie rfl ⟨rfl,rfl⟩ (by kernel_rfl) rfl T9 (by kernel_rfl)
end
end Go.Proofs.YtafomdobfmmleaaGreatDoor
