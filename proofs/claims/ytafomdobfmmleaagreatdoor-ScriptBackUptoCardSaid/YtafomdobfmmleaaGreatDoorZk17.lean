/- Lemmas and contracts, part 17. -/
import Derived.Test.YtafomdobfmmleaaGreatDoorZk16
import Derived.Deep.Light
import Derived.Lib.ConvBytes
import Derived.Deep.RegionHeld3
import Derived.Deep.RegionLaw
/- Lemmas and contracts. -/
namespace Go.Proofs.YtafomdobfmmleaaGreatDoor
open Go.RowKit Go.Deep
set_option linter.unusedVariables false
set_option maxRecDepth 20000 in
set_option maxHeartbeats 4000000 in
theorem uM {ay:Nat->Prop} {w:World} {cs:List Value} {a:bF} (h:cL.rd ay w cs a):
 Calls Tryz.prog 107 #[.agg cs.toArray] w fun e w'=>e=.returned (.int .i64 (cw a))/\B w w':=by
 have HR:=Lib.hid (fun w' (hb:B w w')=>cL.later h hb)
 obtain⟨v5,rfl,a1,a2,a3,a4,a5⟩:=cL.parts h
 have HE:=Lib.hid (show cw a=_ from rfl)
 have HN:=Lib.hid (fun w'=>Ak w' a.av a2)
 have HG:=Lib.hid (fun w'=>Ak w' a.group a3)
 have HC:=Lib.hid (fun (w':World) (hb:B w w')=>show Calls Tryz.prog 152 #[v5,.func (.func 151) #[] #[]] w' fun e oQ=>e=.returned (.bool (vZ a))/\w'=oQ from RO ((tL tY).later a5 hb))
 obtain⟨A5,c5,e5,l5⟩:=tL.slice a5
 injection e5 with e5 _
 subst e5
 have HS:=Lib.hid (aR.new (St.nil w) 40 #[.int .i64 a.kind,.string (au a.av),.string (au a.group),.int .i64 a.offset,.slice A5 a.records.length c5])
 have HK:=Lib.hid (show kindOk a=decide (0<=a.kind/\a.kind<=4) from rfl)
 obtain⟨oo,ho⟩:∃oo,kF a=oo:=⟨_,rfl⟩
 have HO:=Lib.hid (fun (w':World) (hb:B w w')=>show Calls Tryz.prog 150 #[.agg #[.int .i64 a.kind,.string (au a.av),.string (au a.group),.int .i64 a.offset,.slice A5 a.records.length c5]] w' fun e oQ=>∃ds:List Value,e=.returned (.tuple #[.agg ds.toArray,.bool (kindOk a)])/\cL.rd ay oQ ds oo/\B w' oQ from by
  rw[<-ho]
  exact Xf (HR.out _ hb))
 clear h a5 a2 a3
 go_enter Tryz.func107,Tryz.ntmps107
 go_wp2_with (first
  |(go_at_call 150;(with_reducible refine cA (HO.out _ BB.out) ?_);rintro e w1 ⟨ds,rfl,hd,hb⟩;have HD:=Lib.hid (fun w' (hb:B w1 w')=>cL.later hd hb);obtain⟨d5,rfl,_,_,_,_,Oy⟩:=cL.parts hd;obtain⟨B5,k5,e5,_⟩:=tL.slice Oy;injection e5 with e5 _;subst e5;replace HS:=Lib.hid (HS.out.on.later hb);have KG:=(aR.get HS.out).cell;have KL:=(aR.get HS.out).lt;clear hd hb)
  |(go_at_call 53;(with_reducible refine cA (VK (HR.out _ HS.out.on.b) (HD.out _ BB.out)) ?_);rintro e w2 ⟨rfl,hb⟩;replace HS:=Lib.hid (HS.out.on.later hb);replace KG:=(aR.get HS.out).cell;replace KL:=(aR.get HS.out).lt;clear hb)
  |(go_at_call 27;(with_reducible refine cA (HN.out _) ?_);rintro e w3 ⟨rfl,hb⟩;replace HS:=Lib.hid (HS.out.on.later hb);replace KG:=(aR.get HS.out).cell;replace KL:=(aR.get HS.out).lt;clear hb)
  |(go_at_call 27;(with_reducible refine cA (HG.out _) ?_);rintro e w3 ⟨rfl,hb⟩;replace HS:=Lib.hid (HS.out.on.later hb);replace KG:=(aR.get HS.out).cell;replace KL:=(aR.get HS.out).lt;clear hb)
  |(go_at_call 152;(with_reducible refine cA (HC.out _ HS.out.on.b) ?_);rintro e w3 ⟨rfl,rfl⟩))
 all_goals go_ret
 all_goals refine⟨?_,HS.out.on.b⟩
 all_goals
  go_light
  clear HN HG HR HC HK HO HD HS KG Oy
  refine congrArg (fun z=>Ending.returned (Value.int .i64 z)) (?_:_=cw a)
  unfold cw
  rw[ho]
  generalize a.records.length=n at*
  generalize vZ a=lf at*
  simp_all
  try (first|omega|(split<;>first|omega|(simp_all;omega))|(intros;exfalso;simp_all;omega))
end Go.Proofs.YtafomdobfmmleaaGreatDoor

/- Lemmas and contracts. -/
namespace Go.Proofs.YtafomdobfmmleaaGreatDoor
open Go.RowKit Go.Deep
set_option linter.unusedVariables false
theorem Jm (w:World) (e:TypeId) (s:ByteArray):B w (Lib.bytesWorld w e s):=
 ⟨rfl,rfl,rfl,by rw[Lib.bytesWorld_size];omega,fun j hj=>Lib.bytesWorld_at_old w e s j hj⟩
instance BB.abw (w w':World) (e:TypeId) (s:ByteArray) [h:BB w w']:BB w (Lib.bytesWorld w' e s):=⟨h.out.trans (Jm _ _ _)⟩
theorem rj (s:List UInt8) (w:World):(convert 9 26 (.string (au s))).run Tryz.prog w=.ok (.slice (some ⟨w.heap.size,0,none⟩) s.length (grownCap w s.length 0 5)) (Lib.bytesWorld w 5 (au s)):=by
 have iA:=Lib.run_convert_string_bytes (P:=Tryz.prog) w 9 26 5 (au s) Tryz.underlying9 Tryz.underlying26 Tryz.underlying5
 rw[sx s] at iA
 exact iA
theorem xH (s:List UInt8) (w:World) (hs:s.length<=4194304):Bs (Lib.bytesWorld w 5 (au s)) (.slice (some ⟨w.heap.size,0,none⟩) s.length (grownCap w s.length 0 5)) s:=by
 have cT:=sx s
 refine⟨⟨_,_,rfl,fun e=>(by cases e),grownCap_ge _ _ _ _,grownCap_le_maxLen _ _ _ _ (by unfold maxLen;omega),fun ad iP=>?_⟩,by unfold bz;omega⟩
 cases iP
 refine⟨fun _=>by rw[Lib.bytesWorld_size];simp,fun j u hu=>?_⟩
 have hj:j<s.length:=by
  rcases Nat.lt_or_ge j s.length with h|h
  ·exact h
  ·rw[List.getElem?_eq_none (by rw[om];exact h)] at hu;cases hu
 rw[VO,Nat.zero_add,Lib.bytesWorld_cell w _ (au s) j (by rw[cT];exact hj),<-hu,qi s j hj]
 simp[au,hj]
theorem pE {w:World} {v:Value} {bs:List UInt8} (h:Bs w v bs) (k:Int) (hk:0<=k/\k<18446744073709551616) (hl:bs.length+10<=bz):Calls Tryz.prog 112 #[v,.int .u64 k] w (Fresh w (bs++enc k.toNat)):=by
 have:=K4 h k.toNat (by omega) hl
 rwa [Int.toNat_of_nonneg hk.1] at this
theorem sK (bs x:List UInt8):Dq bs x=bs++bB x:=by simp[Dq,bB]
theorem St.toFresh {W w:World} {v:Value} {bs:List UInt8} {L:List dG} (h:St W w (rV v bs::L)):Fresh W bs (.returned v) w:=by
 obtain⟨own,hr,ho⟩:=h.get
 refine⟨v,rfl,⟨hr.1.1,?_⟩,h.b⟩
 rcases hr.1.2 with h|⟨g,cap,cur,hv,hg,r⟩
 ·exact .inl h
 ·exact .inr ⟨g,cap,cur,hv,(ho g (hr.2 g (by rw[hv];rfl))).1,r⟩
theorem wq {o:bF} (h:cw o=0):(0<=o.kind/\o.kind<=4)/\o=kF o/\(0<=o.offset/\o.offset<=9007199254740992):=by
 unfold cw at h
 split at h
 ·cases h
 rename_i h1
 simp only[not_or,Bool.not_eq_false] at h1
 split at h
 ·cases h
 split at h
 ·cases h
 split at h
 ·cases h
 split at h
 ·cases h
 rename_i h5
 exact⟨by have:=h1.1;unfold kindOk at this;simpa using this,BR.1 h1.2,by omega⟩
section
set_option maxRecDepth 20000
set_option maxHeartbeats 8000000
theorem SX {ay:Nat->Prop} {w:World} {v:Value} {bs:List UInt8} {cs:List Value} {a:bF} (hb:Bs w v bs) (h:cL.rd ay w cs a) (bS:cw a≠0):
 Calls Tryz.prog 108 #[v,.agg cs.toArray] w (Fresh w bs):=by
 have HR:=Lib.hid (fun w' (hb:B w w')=>cL.later h hb)
 obtain⟨v5,rfl,a1,a2,a3,a4,a5⟩:=cL.parts h
 obtain⟨A5,c5,e5,l5⟩:=tL.slice a5
 injection e5 with e5 _
 subst e5
 have HB:=Lib.hid hb
 have HS:=Lib.hid (aR.new (St.nil w) 40 #[.int .i64 a.kind,.string (au a.av),.string (au a.group),.int .i64 a.offset,.slice A5 a.records.length c5])
 have g0:(cw a !=0)=true:=by simpa using bS
 clear h a5 a2 a3 hb bS
 go_enter Tryz.func108,Tryz.ntmps108
 go_wp2_with (first
  |(go_at_call 153;(with_reducible refine cA (St.fresh HS.out.on (uf (HB.out.later HS.out.on.b))) ?_);rintro e w1 ⟨v1,rfl,hS⟩;replace HS:=Lib.hid hS;clear hS;have KG:=(aR.get HS.out.swap).cell)
  |(go_at_call 107;(with_reducible refine cA (uM (HR.out _ HS.out.on.b)) ?_);rintro e w2 ⟨rfl,hb⟩;replace HS:=Lib.hid (HS.out.on.later hb);clear hb;replace KG:=(aR.get HS.out.swap).cell))
 go_ret
 exact HS.out.toFresh
end
set_option maxRecDepth 20000 in
set_option maxHeartbeats 8000000 in
theorem Uw {ay:Nat->Prop} {w:World} {v:Value} {bs:List UInt8} {cs:List Value} {av group:List UInt8} {offset:Int} {records:List (List UInt8)} (hb:Bs w v bs) (h:cL.rd ay w cs ⟨0,av,group,offset,records⟩) (h0:cw ⟨0,av,group,offset,records⟩=0)
 (hl:(bs++cy ⟨0,av,group,offset,records⟩).length+30<=bz):
 Calls Tryz.prog 108 #[v,.agg cs.toArray] w (Fresh w (bs++cy ⟨0,av,group,offset,records⟩)):=by
 have HR:=Lib.hid (fun w' (hb:B w w')=>cL.later h hb)
 obtain⟨v5,rfl,a1,a2,a3,a4,a5⟩:=cL.parts h
 simp only at a2 a3 a4 a5
 have H5:=Lib.hid a5
 obtain⟨A5,c5,e5,l5⟩:=tL.slice a5
 injection e5 with e5 _
 subst e5
 have HB:=Lib.hid hb
 have HS:=Lib.hid (aR.new (St.nil w) 40 #[.int .i64 0,.string (au av),.string (au group),.int .i64 offset,.slice A5 records.length c5])
 have HT:=Lib.hid a2
 have Bn:=Lib.hid a3
 have va:=rj av
 have DT:=rj group
 have mZ:=Lib.hid (show 0<=offset/\offset<=9007199254740992 from(wq h0).2.2)
 have HL:=Lib.hid hl
 have DU:IntKind.u64.wrap offset=offset:=nJ (by have:=mZ.out;omega)
 have g0:(cw ⟨0,av,group,offset,records⟩!=0)=false:=by simp[h0]
 clear h a5 a2 a3 hb h0 hl a1 a4
 go_enter Tryz.func108,Tryz.ntmps108
 go_wp2_with (first
  |(go_at_call 153;(with_reducible refine cA (St.fresh HS.out.on (uf (HB.out.later HS.out.on.b))) ?_);rintro e w1 ⟨v1,rfl,hS⟩;replace HS:=Lib.hid hS;clear hS;have KG:=(aR.get HS.out.swap).cell;have KL:=(aR.get HS.out.swap).lt)
  |(go_at_call 107;(with_reducible refine cA (uM (HR.out _ HS.out.on.b)) ?_);rintro e w2 ⟨rfl,hb⟩;replace HS:=Lib.hid (HS.out.on.later hb);clear hb;replace KG:=(aR.get HS.out.swap).cell;replace KL:=(aR.get HS.out.swap).lt)
  |(go_at_call 112;(with_reducible refine cA (St.fresh HS.out.on (pE (HS.out.on.kG (by have:=HL.out;simp[cy] at this ⊢;omega)) _ (by have:=mZ.out;omega) (by have:=HL.out;simp[cy] at this ⊢;omega))) ?_);rintro e w1 ⟨v1,rfl,hS⟩;replace HS:=Lib.hid hS.jM;clear hS;replace KG:=(aR.get HS.out.swap).cell;replace KL:=(aR.get HS.out.swap).lt)
  |(go_at_call 154;(with_reducible refine cA (St.fresh HS.out.on (sn (HS.out.on.kG (by have:=HL.out;simp[cy,bB] at this ⊢;omega)) (xH av _ HT.out) (by have:=HL.out;simp[cy,bB] at this ⊢;omega))) ?_);rintro e w1 ⟨v1,rfl,hS⟩;replace HS:=Lib.hid hS.jM;clear hS;rw[sK] at HS;replace KG:=(aR.get HS.out.swap).cell;replace KL:=(aR.get HS.out.swap).lt))
 go_ret
 have hS:=HS.out.toFresh
 simpa[cy,bB,Int.toNat] using hS
set_option maxRecDepth 20000 in
set_option maxHeartbeats 8000000 in
theorem Ux {ay:Nat->Prop} {w:World} {v:Value} {bs:List UInt8} {cs:List Value} {av group:List UInt8} {offset:Int} {records:List (List UInt8)} (hb:Bs w v bs) (h:cL.rd ay w cs ⟨1,av,group,offset,records⟩) (h0:cw ⟨1,av,group,offset,records⟩=0)
 (hl:(bs++cy ⟨1,av,group,offset,records⟩).length+30<=bz):
 Calls Tryz.prog 108 #[v,.agg cs.toArray] w (Fresh w (bs++cy ⟨1,av,group,offset,records⟩)):=by
 have HR:=Lib.hid (fun w' (hb:B w w')=>cL.later h hb)
 obtain⟨v5,rfl,a1,a2,a3,a4,a5⟩:=cL.parts h
 simp only at a2 a3 a4 a5
 have H5:=Lib.hid a5
 obtain⟨A5,c5,e5,l5⟩:=tL.slice a5
 injection e5 with e5 _
 subst e5
 have HB:=Lib.hid hb
 have HS:=Lib.hid (aR.new (St.nil w) 40 #[.int .i64 1,.string (au av),.string (au group),.int .i64 offset,.slice A5 records.length c5])
 have HT:=Lib.hid a2
 have Bn:=Lib.hid a3
 have va:=rj av
 have DT:=rj group
 have mZ:=Lib.hid (show 0<=offset/\offset<=9007199254740992 from(wq h0).2.2)
 have HL:=Lib.hid hl
 have DU:IntKind.u64.wrap offset=offset:=nJ (by have:=mZ.out;omega)
 have g0:(cw ⟨1,av,group,offset,records⟩!=0)=false:=by simp[h0]
 clear h a5 a2 a3 hb h0 hl a1 a4
 go_enter Tryz.func108,Tryz.ntmps108
 go_wp2_with (first
  |(go_at_call 153;(with_reducible refine cA (St.fresh HS.out.on (uf (HB.out.later HS.out.on.b))) ?_);rintro e w1 ⟨v1,rfl,hS⟩;replace HS:=Lib.hid hS;clear hS;have KG:=(aR.get HS.out.swap).cell;have KL:=(aR.get HS.out.swap).lt)
  |(go_at_call 107;(with_reducible refine cA (uM (HR.out _ HS.out.on.b)) ?_);rintro e w2 ⟨rfl,hb⟩;replace HS:=Lib.hid (HS.out.on.later hb);clear hb;replace KG:=(aR.get HS.out.swap).cell;replace KL:=(aR.get HS.out.swap).lt)
  |(go_at_call 112;(with_reducible refine cA (St.fresh HS.out.on (pE (HS.out.on.kG (by have:=HL.out;simp[cy,bB] at this ⊢;omega)) _ (by have:=mZ.out;omega) (by have:=HL.out;simp[cy,bB] at this ⊢;omega))) ?_);rintro e w1 ⟨v1,rfl,hS⟩;replace HS:=Lib.hid hS.jM;clear hS;replace KG:=(aR.get HS.out.swap).cell;replace KL:=(aR.get HS.out.swap).lt)
  |(go_at_call 154;(with_reducible refine cA (St.fresh HS.out.on (sn (HS.out.on.kG (by have:=HL.out;simp[cy,bB] at this ⊢;omega)) (xH av _ HT.out) (by have:=HL.out;simp[cy,bB] at this ⊢;omega))) ?_);rintro e w1 ⟨v1,rfl,hS⟩;replace HS:=Lib.hid hS.jM;clear hS;rw[sK] at HS;replace KG:=(aR.get HS.out.swap).cell;replace KL:=(aR.get HS.out.swap).lt))
 go_ret
 have hS:=HS.out.toFresh
 simpa[cy,bB,Int.toNat] using hS
set_option maxRecDepth 20000 in
set_option maxHeartbeats 8000000 in
theorem Uy {ay:Nat->Prop} {w:World} {v:Value} {bs:List UInt8} {cs:List Value} {av group:List UInt8} {offset:Int} {records:List (List UInt8)} (hb:Bs w v bs) (h:cL.rd ay w cs ⟨4,av,group,offset,records⟩) (h0:cw ⟨4,av,group,offset,records⟩=0)
 (hl:(bs++cy ⟨4,av,group,offset,records⟩).length+30<=bz):
 Calls Tryz.prog 108 #[v,.agg cs.toArray] w (Fresh w (bs++cy ⟨4,av,group,offset,records⟩)):=by
 have HR:=Lib.hid (fun w' (hb:B w w')=>cL.later h hb)
 obtain⟨v5,rfl,a1,a2,a3,a4,a5⟩:=cL.parts h
 simp only at a2 a3 a4 a5
 have H5:=Lib.hid a5
 obtain⟨A5,c5,e5,l5⟩:=tL.slice a5
 injection e5 with e5 _
 subst e5
 have HB:=Lib.hid hb
 have HS:=Lib.hid (aR.new (St.nil w) 40 #[.int .i64 4,.string (au av),.string (au group),.int .i64 offset,.slice A5 records.length c5])
 have HT:=Lib.hid a2
 have Bn:=Lib.hid a3
 have va:=rj av
 have DT:=rj group
 have mZ:=Lib.hid (show 0<=offset/\offset<=9007199254740992 from(wq h0).2.2)
 have HL:=Lib.hid hl
 have DU:IntKind.u64.wrap offset=offset:=nJ (by have:=mZ.out;omega)
 have g0:(cw ⟨4,av,group,offset,records⟩!=0)=false:=by simp[h0]
 clear h a5 a2 a3 hb h0 hl a1 a4
 go_enter Tryz.func108,Tryz.ntmps108
 go_wp2_with (first
  |(go_at_call 153;(with_reducible refine cA (St.fresh HS.out.on (uf (HB.out.later HS.out.on.b))) ?_);rintro e w1 ⟨v1,rfl,hS⟩;replace HS:=Lib.hid hS;clear hS;have KG:=(aR.get HS.out.swap).cell;have KL:=(aR.get HS.out.swap).lt)
  |(go_at_call 107;(with_reducible refine cA (uM (HR.out _ HS.out.on.b)) ?_);rintro e w2 ⟨rfl,hb⟩;replace HS:=Lib.hid (HS.out.on.later hb);clear hb;replace KG:=(aR.get HS.out.swap).cell;replace KL:=(aR.get HS.out.swap).lt)
  |(go_at_call 112;(with_reducible refine cA (St.fresh HS.out.on (pE (HS.out.on.kG (by have:=HL.out;simp[cy,bB] at this ⊢;omega)) _ (by have:=mZ.out;omega) (by have:=HL.out;simp[cy,bB] at this ⊢;omega))) ?_);rintro e w1 ⟨v1,rfl,hS⟩;replace HS:=Lib.hid hS.jM;clear hS;replace KG:=(aR.get HS.out.swap).cell;replace KL:=(aR.get HS.out.swap).lt)
  |(go_at_call 154;(with_reducible refine cA (St.fresh HS.out.on (sn (HS.out.on.kG (by have:=HL.out;simp[cy,bB] at this ⊢;omega)) (xH av _ HT.out) (by have:=HL.out;simp[cy,bB] at this ⊢;omega))) ?_);rintro e w1 ⟨v1,rfl,hS⟩;replace HS:=Lib.hid hS.jM;clear hS;rw[sK] at HS;replace KG:=(aR.get HS.out.swap).cell;replace KL:=(aR.get HS.out.swap).lt))
 go_ret
 have hS:=HS.out.toFresh
 simpa[cy,bB,Int.toNat] using hS
set_option maxRecDepth 20000 in
set_option maxHeartbeats 8000000 in
theorem Uz {ay:Nat->Prop} {w:World} {v:Value} {bs:List UInt8} {cs:List Value} {av group:List UInt8} {offset:Int} {records:List (List UInt8)} (hb:Bs w v bs) (h:cL.rd ay w cs ⟨3,av,group,offset,records⟩) (h0:cw ⟨3,av,group,offset,records⟩=0)
 (hl:(bs++cy ⟨3,av,group,offset,records⟩).length+30<=bz):
 Calls Tryz.prog 108 #[v,.agg cs.toArray] w (Fresh w (bs++cy ⟨3,av,group,offset,records⟩)):=by
 have HR:=Lib.hid (fun w' (hb:B w w')=>cL.later h hb)
 obtain⟨v5,rfl,a1,a2,a3,a4,a5⟩:=cL.parts h
 simp only at a2 a3 a4 a5
 have H5:=Lib.hid a5
 obtain⟨A5,c5,e5,l5⟩:=tL.slice a5
 injection e5 with e5 _
 subst e5
 have HB:=Lib.hid hb
 have HS:=Lib.hid (aR.new (St.nil w) 40 #[.int .i64 3,.string (au av),.string (au group),.int .i64 offset,.slice A5 records.length c5])
 have HT:=Lib.hid a2
 have Bn:=Lib.hid a3
 have va:=rj av
 have DT:=rj group
 have mZ:=Lib.hid (show 0<=offset/\offset<=9007199254740992 from(wq h0).2.2)
 have HL:=Lib.hid hl
 have DU:IntKind.u64.wrap offset=offset:=nJ (by have:=mZ.out;omega)
 have g0:(cw ⟨3,av,group,offset,records⟩!=0)=false:=by simp[h0]
 clear h a5 a2 a3 hb h0 hl a1 a4
 go_enter Tryz.func108,Tryz.ntmps108
 go_wp2_with (first
  |(go_at_call 153;(with_reducible refine cA (St.fresh HS.out.on (uf (HB.out.later HS.out.on.b))) ?_);rintro e w1 ⟨v1,rfl,hS⟩;replace HS:=Lib.hid hS;clear hS;have KG:=(aR.get HS.out.swap).cell;have KL:=(aR.get HS.out.swap).lt)
  |(go_at_call 107;(with_reducible refine cA (uM (HR.out _ HS.out.on.b)) ?_);rintro e w2 ⟨rfl,hb⟩;replace HS:=Lib.hid (HS.out.on.later hb);clear hb;replace KG:=(aR.get HS.out.swap).cell;replace KL:=(aR.get HS.out.swap).lt)
  |(go_at_call 112;(with_reducible refine cA (St.fresh HS.out.on (pE (HS.out.on.kG (by have:=HL.out;simp[cy,bB] at this ⊢;omega)) _ (by have:=mZ.out;omega) (by have:=HL.out;simp[cy,bB] at this ⊢;omega))) ?_);rintro e w1 ⟨v1,rfl,hS⟩;replace HS:=Lib.hid hS.jM;clear hS;replace KG:=(aR.get HS.out.swap).cell;replace KL:=(aR.get HS.out.swap).lt)
  |(go_at_call 154;(with_reducible refine cA (St.fresh HS.out.on (sn (HS.out.on.kG (by have:=HL.out;simp[cy,bB] at this ⊢;omega)) (xH av _ HT.out) (by have:=HL.out;simp[cy,bB] at this ⊢;omega))) ?_);rintro e w1 ⟨v1,rfl,hS⟩;replace HS:=Lib.hid hS.jM;clear hS;rw[sK] at HS;replace KG:=(aR.get HS.out.swap).cell;replace KL:=(aR.get HS.out.swap).lt))
 have yK:=fun i=>(Lib.bytesWorld_old w1.drew 5 (au group) ⟨w.heap.size,i,none⟩ KL).trans (KG i)
 go_region_with (first
  |(go_at_call 154;(with_reducible refine cA (St.fresh HS.out.on (sn (HS.out.on.kG (by have:=HL.out;simp[cy,bB] at this ⊢;omega)) (xH group _ Bn.out) (by have:=HL.out;simp[cy,bB] at this ⊢;omega))) ?_);rintro e w1 ⟨v1,rfl,hS⟩;replace HS:=Lib.hid hS.jM;clear hS;rw[sK] at HS;replace KG:=(aR.get HS.out.swap).cell;replace KL:=(aR.get HS.out.swap).lt)
  |(go_at_call 112;(with_reducible refine cA (St.fresh HS.out.on (pE (HS.out.on.kG (by have:=HL.out;simp[cy,bB] at this ⊢;omega)) _ (by have:=mZ.out;omega) (by have:=HL.out;simp[cy,bB] at this ⊢;omega))) ?_);rintro e w1 ⟨v1,rfl,hS⟩;replace HS:=Lib.hid hS.jM;clear hS;replace KG:=(aR.get HS.out.swap).cell;replace KL:=(aR.get HS.out.swap).lt))
 all_goals
  go_wp2
  go_ret
  have hS:=HS.out.toFresh
  simpa[cy,bB,Int.toNat] using hS
end Go.Proofs.YtafomdobfmmleaaGreatDoor

/- Lemmas and contracts. -/
namespace Go.Proofs.YtafomdobfmmleaaGreatDoor
open Go.RowKit Go.Deep
set_option linter.unusedVariables false
set_option maxRecDepth 20000 in
set_option maxHeartbeats 8000000 in
theorem UA {ay:Nat->Prop} {w:World} {v:Value} {bs:List UInt8} {cs:List Value} {av group:List UInt8} {offset:Int} {records:List (List UInt8)} (hb:Bs w v bs) (h:cL.rd ay w cs ⟨2,av,group,offset,records⟩) (h0:cw ⟨2,av,group,offset,records⟩=0)
 (hl:(bs++cy ⟨2,av,group,offset,records⟩).length+30<=bz):
 Calls Tryz.prog 108 #[v,.agg cs.toArray] w (Fresh w (bs++cy ⟨2,av,group,offset,records⟩)):=by
 have HR:=Lib.hid (fun w' (hb:B w w')=>cL.later h hb)
 obtain⟨v5,rfl,a1,a2,a3,a4,a5⟩:=cL.parts h
 simp only at a2 a3 a4 a5
 have H5:=Lib.hid a5
 obtain⟨A5,c5,e5,l5⟩:=tL.slice a5
 injection e5 with e5 _
 subst e5
 have HB:=Lib.hid hb
 have HS:=Lib.hid (aR.new (St.nil w) 40 #[.int .i64 2,.string (au av),.string (au group),.int .i64 offset,.slice A5 records.length c5])
 have HT:=Lib.hid a2
 have Bn:=Lib.hid a3
 have va:=rj av
 have DT:=rj group
 have mZ:=Lib.hid (show 0<=offset/\offset<=9007199254740992 from(wq h0).2.2)
 have HL:=Lib.hid hl
 have hwn:IntKind.u64.wrap (records.length:Int)=records.length:=nJ (by omega)
 have DU:IntKind.u64.wrap offset=offset:=nJ (by have:=mZ.out;omega)
 have g0:(cw ⟨2,av,group,offset,records⟩!=0)=false:=by simp[h0]
 clear h a5 a2 a3 hb h0 hl a1 a4
 go_enter Tryz.func108,Tryz.ntmps108
 go_wp2_with (first
  |(go_at_call 153;(with_reducible refine cA (St.fresh HS.out.on (uf (HB.out.later HS.out.on.b))) ?_);rintro e w1 ⟨v1,rfl,hS⟩;replace HS:=Lib.hid hS;clear hS;have KG:=(aR.get HS.out.swap).cell;have KL:=(aR.get HS.out.swap).lt)
  |(go_at_call 107;(with_reducible refine cA (uM (HR.out _ HS.out.on.b)) ?_);rintro e w2 ⟨rfl,hb⟩;replace HS:=Lib.hid (HS.out.on.later hb);clear hb;replace KG:=(aR.get HS.out.swap).cell;replace KL:=(aR.get HS.out.swap).lt)
  |(go_at_call 112;(with_reducible refine cA (St.fresh HS.out.on (pE (HS.out.on.kG (by have:=HL.out;simp[cy,bB] at this ⊢;omega)) _ (by first|omega|(have:=mZ.out;omega)) (by have:=HL.out;simp[cy,bB] at this ⊢;omega))) ?_);rintro e w1 ⟨v1,rfl,hS⟩;replace HS:=Lib.hid hS.jM;clear hS;replace KG:=(aR.get HS.out.swap).cell;replace KL:=(aR.get HS.out.swap).lt)
  |(go_at_call 154;(with_reducible refine cA (St.fresh HS.out.on (sn (HS.out.on.kG (by have:=HL.out;simp[cy,bB] at this ⊢;omega)) (xH av _ HT.out) (by have:=HL.out;simp[cy,bB] at this ⊢;omega))) ?_);rintro e w1 ⟨v1,rfl,hS⟩;replace HS:=Lib.hid hS.jM;clear hS;rw[sK] at HS;replace KG:=(aR.get HS.out.swap).cell;replace KL:=(aR.get HS.out.swap).lt))
 have HQ:=Lib.hid (show ∀q,q<records.length->((records.take q).flatMap bB).length+(bB (records[q]?.getD [])).length<=(records.flatMap bB).length from fun q hq=>by
  have e:=congrArg (fun l=>(l.flatMap bB).length) (List.take_append_drop (q+1) records)
  rw[List.take_succ_eq_append_getElem hq] at e
  simp only[List.flatMap_append,List.length_append,List.flatMap_cons,List.flatMap_nil,List.append_nil] at e
  rw[List.getElem?_eq_getElem hq]
  simp only[Option.getD_some]
  omega)
 go_loopw [5,40] (fun v i wr=>∃(q:Nat) (z:List UInt8),q<=records.length/\i=.int .i64 q/\Hid (z=bs++enc 2++bB av++enc records.length++(records.take q).flatMap bB)/\Hid (St w wr [rV v z,aR w.heap.size 40 #[.int .i64 2,.string (au av),.string (au group),.int .i64 offset,.slice A5 records.length c5]])) (fun _ i _=>records.length-(intOf i).toNat)
 case atStart=>
  exact⟨0,bs++enc 2++bB av++enc records.length,Nat.zero_le _,rfl,Lib.hid (by simp),Lib.hid (by have hS:=HS.out;simpa using hS)⟩
 case round=>
  obtain⟨q,z,hq,rfl,HZ,HS⟩:=hrel
  by_cases hlt:q<records.length
  ·obtain⟨x,hx⟩:∃x,records[q]?=some x:=⟨_,List.getElem?_eq_getElem hlt⟩
   obtain⟨_,b,off,ds,rfl,r1,k1⟩:=tL.at H5.out hx
   obtain⟨u1,rfl⟩:=oK (tY.len r1)
   have d0:=B.cell HS.out.b (k1 0 _ rfl)
   simp only[show tY.n=1 from rfl,Nat.mul_one,Nat.add_zero] at d0
   have HX:=Lib.hid hx
   have HXB:=Lib.hid (fun (w':World) (hb:B w w')=>(tY.bs r1).later hb)
   have oO:(q:Int)<records.length:=by omega
   have OE:=Lib.hid (show z.length+x.length+20<=bz from by
    have h1:=HL.out
    have h2:=HQ.out q hlt
    rw[hx] at h2
    have h3:=congrArg List.length HZ.out
    have e:cy ⟨2,av,group,offset,records⟩=enc 2++bB av++(enc records.length++records.flatMap bB):=rfl
    have Bd:(bB x).length=(enc x.length).length+x.length:=by simp[bB]
    rw[e] at h1
    simp only[List.length_append,Option.getD_some] at h1 h2 h3
    omega)
   obtain⟨A6,c6,rfl⟩:=(tY.bs r1).rd.slice
   clear r1 k1 hx
   go_wp2_with (first
    |(go_at_call 154;(with_reducible refine cA (St.fresh HS.out.on (sn (HS.out.on.kG (by have:=OE.out;omega)) (HXB.out _ HS.out.on.b) (by have:=OE.out;simp;omega))) ?_);rintro e w1 ⟨v1,rfl,hS⟩;replace HS:=Lib.hid hS.jM;clear hS;rw[sK] at HS))
   go_roundw
   case rel=>
    refine⟨q+1,_,by omega,by go_num,?_,HS.out⟩
    show z++bB x=_
    rw[HZ.out,List.take_add_one,HX.out]
    simp
   case measure=>simp[intOf];omega
  ·have oO:¬(q:Int)<records.length:=by omega
   have Bo:=Lib.hid (show z=bs++cy ⟨2,av,group,offset,records⟩ from by
    rw[HZ.out,List.take_of_length_le (by omega)]
    simp[cy,bB])
   clear hlt hq
   go_wp2
   go_ret
   rw[<-Bo.out]
   exact HS.out.toFresh
theorem Mg {ay:Nat->Prop} {w:World} {v:Value} {bs:List UInt8} {cs:List Value} {a:bF} (hb:Bs w v bs) (h:cL.rd ay w cs a) (hl:(bs++cy a).length+30<=bz):
 Calls Tryz.prog 108 #[v,.agg cs.toArray] w (Fresh w (bs++if cw a=0 then cy a else[])):=by
 by_cases h0:cw a=0
 ·rw[if_pos h0]
  have hk:=(wq h0).1
  obtain⟨kind,av,group,offset,records⟩:=a
  simp only at hk
  have hc:kind=0\/kind=1\/kind=2\/kind=3\/kind=4:=by omega
  rcases hc with rfl|rfl|rfl|rfl|rfl
  ·exact Uw hb h h0 hl
  ·exact Ux hb h h0 hl
  ·exact UA hb h h0 hl
  ·exact Uz hb h h0 hl
  ·exact Uy hb h h0 hl
 ·rw[if_neg h0,List.append_nil]
  exact SX hb h h0
end Go.Proofs.YtafomdobfmmleaaGreatDoor

/- Lemmas and contracts. -/
namespace Go.Proofs.YtafomdobfmmleaaGreatDoor
open Go.RowKit Go.Deep
set_option linter.unusedVariables false
set_option maxRecDepth 20000 in
set_option maxHeartbeats 4000000 in
theorem Mr {w:World} {k d:Int}:Calls Tryz.prog 307 #[.agg #[.int .i64 k,.int .i64 d]] w fun e w'=>e=.returned (.int .i64 (dZ ⟨k,d⟩))/\B w w':=by
 go_enter Tryz.func307,Tryz.ntmps307
 go_wp2
 all_goals go_ret
 all_goals refine⟨?_,BB.out⟩
 all_goals
  go_light
  refine congrArg (fun z=>Ending.returned (Value.int .i64 z)) (?_:_=dZ ⟨k,d⟩)
  unfold dZ
  simp only
  split<;>first|rfl|(exfalso;omega)
set_option maxRecDepth 20000 in
set_option maxHeartbeats 4000000 in
theorem Gh {ay:Nat->Prop} {w:World} {cs:List Value} {a:jg} (h:mH.rd ay w cs a):
 Calls Tryz.prog 316 #[.agg cs.toArray] w fun e w'=>e=.returned (.int .i64 (gK a))/\B w w':=by
 obtain⟨v,rfl,a1,a2,o1,o2,o3,o4,o5⟩:=mH.parts h
 have HC:=Lib.hid (fun (w':World) (hb:B w w')=>uM (cL.mk (s:=a.op) o1 o2 o3 o4 ((tL tY).later o5 hb)))
 obtain⟨A5,c5,e5,l5⟩:=tL.slice o5
 injection e5 with e5 _
 subst e5
 clear h o5 o2 o3
 go_enter Tryz.func316,Tryz.ntmps316
 go_wp2_with (first
  |(go_at_call 107;(with_reducible refine cA (HC.out _ BB.out) ?_);rintro e w1 ⟨rfl,hb⟩;have HB:=Lib.hid ((BB.out:B w _).trans hb);clear hb))
 all_goals go_ret
 all_goals refine⟨?_,by first|exact HB.out|exact BB.out⟩
 all_goals
  go_light
  refine congrArg (fun z=>Ending.returned (Value.int .i64 z)) (?_:_=gK a)
  unfold gK
  split<;>first|rfl|(exfalso;omega)
end Go.Proofs.YtafomdobfmmleaaGreatDoor

/- Lemmas and contracts. -/
namespace Go.Proofs.YtafomdobfmmleaaGreatDoor
open Go.RowKit Go.Deep
set_option linter.unusedVariables false
def we (l:List cq) (i k:Nat):Bool:=match l[i]?,l[k]? with|some a,some b=>NR a b|_,_=>false
theorem KC (l:List cq):xV l=(List.range l.length).any fun i=>(List.range i).any fun k=>we l i k:=rfl
theorem Rb (l:List cq) (s:cq):jl (l++[s])=aK (jl l) (aK (gK s.request) (dZ s.sign)):=by
 induction l with
 |nil=>simp only[List.nil_append,jl,vX,kR]
 |cons y r ih=>simp only[List.cons_append,jl,ih,iq]
theorem RP (l r:List cq):jl (l++r)=aK (jl l) (jl r):=by
 induction l with
 |nil=>simp only[List.nil_append,jl,vX]
 |cons y r ih=>simp only[List.cons_append,jl,ih,iq]
theorem SW {l:List cq} {q:Nat} {x:cq} (h:l[q]?=some x) (h0:jl (l.take q)=0):jl (l.take (q+1))=aK (gK x.request) (dZ x.sign)/\∃r,jl l=aK (jl (l.take (q+1))) r:=by
 have e:l.take (q+1)=l.take q++[x]:=by rw[List.take_add_one,h];rfl
 refine⟨by rw[e,Rb,h0,vX],jl (l.drop (q+1)),?_⟩
 rw[<-RP,List.take_append_drop]
theorem tL.full {α:Type} {T:Ty α} {ay:Nat->Prop} {w:World} {cs:List Value} {xs:List α} (h:(tL T).rd ay w cs xs):∃A cap,cs=[.slice A xs.length cap]/\xs.length<=cap/\cap<=maxLen/\xs.length<=4194304:=by
 obtain⟨A,cap,rfl,h1,h2,_,h4,_⟩:=h
 exact⟨A,cap,rfl,h1,h2,h4⟩
set_option maxRecDepth 20000 in
set_option maxHeartbeats 8000000 in
theorem KX {ay:Nat->Prop} {w:World} {v:Value} {s:List cq} (h:(tL iI).rd ay w [v] s):
 Calls Tryz.prog 296 #[v] w fun e w'=>e=.returned (.int .i64 (fZ s))/\B w w':=by
 obtain⟨A,c,e1,fR,y5,hs⟩:=tL.full h
 injection e1 with e1 _
 subst e1
 have HR:=Lib.hid h
 obtain⟨l,cj⟩:∃l,s.length=l:=⟨_,rfl⟩
 have kZ:=Lib.hid cj
 rw[cj] at hs fR ⊢
 have abG:(c:Int)<=9223372036854775807:=by unfold maxLen at y5;omega
 clear h cj y5
 by_cases h4:4<l
 ·have g4:(4:Int)<l:=by omega
  have E:=Lib.hid (show fZ s=3 from by unfold fZ;rw[if_pos (by have:=kZ.out;omega)])
  clear h4
  go_enter Tryz.func296,Tryz.ntmps296
  go_wp2
  go_ret
  exact⟨by rw[E.out];rfl,BB.out⟩
 have g4:¬(4:Int)<l:=by omega
 have HE:=Lib.hid (show fZ s=aK (jl s) (if xV s then 5 else 0) from by unfold fZ;rw[if_neg (by have:=kZ.out;omega)])
 clear h4
 go_enter Tryz.func296,Tryz.ntmps296
 go_wp2
 go_loopw [16] (fun i wr=>∃q:Nat,q<=l/\i=.int .i64 q/\Hid (jl (s.take q)=0)/\Hid (B w wr)) (fun i _=>l-(intOf i).toNat)
 case atStart=>exact⟨0,Nat.zero_le _,rfl,by simp[Hid,jl],Below.refl _ _⟩
 case round=>
  obtain⟨q,hq,rfl,HP,HW⟩:=hrel
  by_cases hlt:q<l
  ·obtain⟨x,hx⟩:∃x,s[q]?=some x:=⟨_,List.getElem?_eq_getElem (by have:=kZ.out;omega)⟩
   obtain⟨_,b,off,cs,rfl,r1,k1⟩:=tL.at ((tL iI).later HR.out HW.out) hx
   obtain⟨Oz,rfl,a1,a2,o1,o2,o3,o4,o5,a6,a7⟩:=iI.parts r1
   have HC:=Lib.hid (fun (w':World) (hb:B wr w')=>Gh (mH.mk (s:=x.request) a1 a2 o1 o2 o3 o4 ((tL tY).later o5 hb)))
   obtain⟨eA,ec,ee,_⟩:=tL.slice o5
   injection ee with ee _
   subst ee
   have c0:=k1 0 _ rfl
   have c1:=k1 1 _ rfl
   have c2:=k1 2 _ rfl
   have c3:=k1 3 _ rfl
   have c4:=k1 4 _ rfl
   have c5:=k1 5 _ rfl
   have c6:=k1 6 _ rfl
   have c7:=k1 7 _ rfl
   have c8:=k1 8 _ rfl
   simp only[show iI.n=9 from rfl,Nat.add_zero] at c0 c1 c2 c3 c4 c5 c6 c7 c8
   have HX:=Lib.hid (SW hx HP.out)
   have HS:=Lib.hid (aR.new (St.nil wr) 183 #[.int .i64 x.request.aQ,.int .i64 x.request.time,.int .i64 x.request.op.kind,.string (au x.request.op.av),.string (au x.request.op.group),.int .i64 x.request.op.offset,.slice eA x.request.op.records.length ec,.int .i64 x.sign.key,.int .i64 x.sign.an])
   have oO:(q:Int)<l:=by omega
   clear r1 k1 hx o5 o2 o3
   go_wp2_with (first
    |(go_at_call 316;(with_reducible refine cA (HC.out _ BB.out) ?_);rintro e w1 ⟨rfl,hb⟩;replace HS:=Lib.hid (HS.out.on.later hb);have KG:=(aR.get HS.out).cell;have KL:=(aR.get HS.out).lt;clear hb c0 c1 c2 c3 c4 c5 c6 c7 c8)
    |(go_at_call 307;(with_reducible refine cA Mr ?_);rintro e w1 ⟨rfl,hb⟩;replace HS:=Lib.hid (HS.out.on.later hb);replace KG:=(aR.get HS.out).cell;replace KL:=(aR.get HS.out).lt;clear hb))
   ·go_ret
    refine⟨?_,HW.out.trans HS.out.b⟩
    obtain⟨e1,r,e2⟩:=HX.out
    have bS:gK x.request≠0:=by simpa using ‹(gK x.request !=0)=true›
    rw[HE.out,e2,e1]
    simp[aK,bS]
   ·go_ret
    refine⟨?_,HW.out.trans HS.out.b⟩
    obtain⟨e1,r,e2⟩:=HX.out
    have bS:dZ x.sign≠0:=by simpa using ‹(dZ ⟨x.sign.key,x.sign.an⟩!=0)=true›
    have hz:gK x.request=0:=by simpa using ‹(gK x.request !=0)=false›
    rw[HE.out,e2,e1,hz]
    simp[aK,bS]
   ·have hz:gK x.request=0:=by simpa using ‹(gK x.request !=0)=false›
    have DO:dZ x.sign=0:=by simpa using ‹(dZ ⟨x.sign.key,x.sign.an⟩!=0)=false›
    refine⟨⟨q+1,by omega,by go_num,?_,HW.out.trans HS.out.b⟩,by simp[intOf];omega⟩
    show jl _=0
    rw[HX.out.1,hz,DO]
    rfl
  ·have oO:¬(q:Int)<l:=by omega
   have OA:=Lib.hid (show fZ s=if xV s then 5 else 0 from by
    have:=HP.out
    rw[List.take_of_length_le (by have:=kZ.out;omega)] at this
    rw[HE.out,this,vX])
   clear hlt hq
   go_wp2
   go_loopw [35] (fun i wr=>∃q:Nat,q<=l/\i=.int .i64 q/\Hid (∀j,j<q->∀k,k<j->we s j k=false)/\Hid (B w wr)) (fun i _=>l-(intOf i).toNat)
   case atStart=>exact⟨0,Nat.zero_le _,rfl,fun j hj=>by omega,HW.out⟩
   case round=>
    obtain⟨q2,hq,rfl,HT,Bl⟩:=hrel
    by_cases hlt:q2<l
    ·obtain⟨x,hx⟩:∃x,s[q2]?=some x:=⟨_,List.getElem?_eq_getElem (by have:=kZ.out;omega)⟩
     obtain⟨_,b,off,cs,rfl,r1,k1⟩:=tL.at ((tL iI).later HR.out Bl.out) hx
     obtain⟨Oz,rfl,a1,a2,o1,o2,o3,o4,o5,a6,a7⟩:=iI.parts r1
     obtain⟨eA,ec,ee,_⟩:=tL.slice o5
     injection ee with ee _
     subst ee
     have c0:=k1 0 _ rfl
     have c1:=k1 1 _ rfl
     have c2:=k1 2 _ rfl
     have c3:=k1 3 _ rfl
     have c4:=k1 4 _ rfl
     have c5:=k1 5 _ rfl
     have c6:=k1 6 _ rfl
     have c7:=k1 7 _ rfl
     have c8:=k1 8 _ rfl
     simp only[show iI.n=9 from rfl,Nat.add_zero] at c0 c1 c2 c3 c4 c5 c6 c7 c8
     have HX:=Lib.hid hx
     have HS:=Lib.hid (aR.new (St.nil wr) 183 #[.int .i64 x.request.aQ,.int .i64 x.request.time,.int .i64 x.request.op.kind,.string (au x.request.op.av),.string (au x.request.op.group),.int .i64 x.request.op.offset,.slice eA x.request.op.records.length ec,.int .i64 x.sign.key,.int .i64 x.sign.an])
     have oO:(q2:Int)<l:=by omega
     have hqc:(q2:Int)<=c:=by omega
     clear r1 k1 hx o5 o2 o3 a1 a2 o1 o4 a6 a7
     go_wp2
     go_loopw [44] (fun i wz=>∃r:Nat,r<=q2/\i=.int .i64 r/\Hid (∀k,k<r->we s q2 k=false)/\Hid (St wr wz [aR wr.heap.size 183 #[.int .i64 x.request.aQ,.int .i64 x.request.time,.int .i64 x.request.op.kind,.string (au x.request.op.av),.string (au x.request.op.group),.int .i64 x.request.op.offset,.slice eA x.request.op.records.length ec,.int .i64 x.sign.key,.int .i64 x.sign.an]])) (fun i _=>q2-(intOf i).toNat)
     case atStart=>exact⟨0,Nat.zero_le _,rfl,fun k hk=>by omega,HS.out⟩
     case round=>
      obtain⟨r,hr,rfl,HK,HZ⟩:=hrel
      have KG:=(aR.get HZ.out).cell
      have KL:=(aR.get HZ.out).lt
      by_cases hrt:r<q2
      ·obtain⟨y,hy⟩:∃y,s[r]?=some y:=⟨_,List.getElem?_eq_getElem (by have:=kZ.out;omega)⟩
       obtain⟨_,b',NS,ds,eb,r2,k2⟩:=tL.at ((tL iI).later HR.out (Bl.out.trans HZ.out.b)) hy
       injection eb with eb
       injection eb with eb1 eb2
       subst eb1 eb2
       obtain⟨fv1,rfl,_,_,_,_,_,_,p5,_,_⟩:=iI.parts r2
       obtain⟨fA,fc,fe,_⟩:=tL.slice p5
       injection fe with fe _
       subst fe
       have d0:=k2 0 _ rfl
       have d1:=k2 1 _ rfl
       have d2:=k2 2 _ rfl
       have d3:=k2 3 _ rfl
       have d4:=k2 4 _ rfl
       have d5:=k2 5 _ rfl
       have d6:=k2 6 _ rfl
       have d7:=k2 7 _ rfl
       have d8:=k2 8 _ rfl
       simp only[show iI.n=9 from rfl,Nat.add_zero] at d0 d1 d2 d3 d4 d5 d6 d7 d8
       have HY:=Lib.hid hy
       have y6:(r:Int)<q2:=by omega
       have OB:=Lib.hid (show we s q2 r=(decide (x.request.aQ=y.request.aQ)&&decide (x.request.time=y.request.time)) from by unfold we;rw[HX.out,HY.out];rfl)
       clear r2 k2 hy p5 c0 c1 c2 c3 c4 c5 c6 c7 c8
       by_cases ht:we s q2 r=true
       ·have E:=Lib.hid (show fZ s=5 from by
         have Bm:xV s=true:=by
          rw[KC,List.any_eq_true]
          refine⟨q2,by rw[List.mem_range];have:=kZ.out;omega,?_⟩
          rw[List.any_eq_true]
          exact⟨r,by rw[List.mem_range];exact hrt,ht⟩
         rw[OA.out,Bm]
         rfl)
        have h2:=OB.out
        rw[ht] at h2
        have h3:=h2.symm
        clear h2
        simp only[Bool.and_eq_true,decide_eq_true_eq] at h3
        obtain⟨OC,OD⟩:=h3
        have g1:(x.request.aQ==y.request.aQ)=true:=by simpa using OC
        have g2:(x.request.time==y.request.time)=true:=by simpa using OD
        clear OC OD ht
        go_wp2
        go_ret
        exact⟨by rw[E.out];rfl,Bl.out.trans HZ.out.on.b⟩
       ·have HF:=Lib.hid (show we s q2 r=false from by simpa using ht)
        have h2:=OB.out
        rw[HF.out] at h2
        have hc:((x.request.aQ==y.request.aQ)=false)\/((x.request.aQ==y.request.aQ)=true/\(x.request.time==y.request.time)=false):=by
         by_cases e:x.request.aQ=y.request.aQ
         ·right
          refine⟨by simpa using e,?_⟩
          rw[decide_eq_true e,Bool.true_and] at h2
          have:=h2.symm
          simpa using this
         ·left;simpa using e
        clear h2 ht
        rcases hc with g1|⟨g1,g2⟩
        all_goals
         go_wp2
         go_roundw
         case rel=>
          refine⟨r+1,by omega,by go_num,fun k hk=>?_,HZ.out.on⟩
          by_cases e:k=r
          ·rw[e];exact HF.out
          ·exact HK.out k (by omega)
         case measure=>simp[intOf];omega
      ·have y6:¬(r:Int)<q2:=by omega
       clear c0 c1 c2 c3 c4 c5 c6 c7 c8
       go_wp2
       go_roundw
       case rel=>
        refine⟨q2+1,by omega,by go_num,fun j hj k hk=>?_,Bl.out.trans HZ.out.b⟩
        by_cases e:j=q2
        ·subst e;exact HK.out k (by omega)
        ·exact HT.out j (by omega) k hk
       case measure=>simp[intOf];omega
    ·have oO:¬(q2:Int)<l:=by omega
     have E:=Lib.hid (show fZ s=0 from by
      have ht:xV s=false:=by
       rw[KC,List.any_eq_false]
       intro j hj
       rw[Bool.not_eq_true,List.any_eq_false]
       intro k hk
       rw[List.mem_range] at hj hk
       rw[HT.out j (by have:=kZ.out;omega) k hk]
       simp
      rw[OA.out,ht]
      rfl)
     go_wp2
     go_ret
     exact⟨by rw[E.out];rfl,Bl.out⟩
end Go.Proofs.YtafomdobfmmleaaGreatDoor

/- Lemmas and contracts. -/
namespace Go.Proofs.YtafomdobfmmleaaGreatDoor
open Go.RowKit Go.Deep
set_option linter.unusedVariables false
theorem St.Zk {w0 w w':World} {A:dG} {L:List dG} (h:St w0 w L) (k:St w w' [A]):St w0 w' (A::L):=by
 obtain⟨hb,own,h1,h2,_⟩:=k
 exact h.add hb h2 (fun x e=>(h1 x e).1)
theorem F6 {s:bH} (h:dZ s=0):(0<=s.key/\s.key<21)/\1<=s.an/\s.an<=9007199254740992:=by
 unfold dZ at h
 split at h
 ·cases h
 ·omega
set_option maxRecDepth 20000 in
set_option maxHeartbeats 8000000 in
theorem Kh {w:World} {v:Value} {bs:List UInt8} {k d:Int} (hb:Bs w v bs) (hl:bs.length+60<=bz):
 Calls Tryz.prog 263 #[v,.agg #[.int .i64 k,.int .i64 d]] w (Fresh w (bs++dj ⟨k,d⟩)):=by
 have HB:=Lib.hid hb
 have HS:=Lib.hid (aR.new (St.nil w) 57 #[.int .i64 k,.int .i64 d])
 have HL:=Lib.hid hl
 have HC:=Lib.hid (fun w'=>Mr (w:=w') (k:=k) (d:=d))
 by_cases h0:dZ ⟨k,d⟩=0
 ·obtain⟨k1,d1⟩:=F6 h0
  simp only at k1 d1
  have hwk:IntKind.u64.wrap k=k:=nJ (by omega)
  have hwd:IntKind.u64.wrap d=d:=nJ (by omega)
  have HK:=Lib.hid k1
  have HD:=Lib.hid d1
  have H0:=Lib.hid (show dj ⟨k,d⟩=enc k.toNat++enc d.toNat from by unfold dj;rw[if_pos h0];rfl)
  have HE:=Lib.hid (oz (show k.toNat<18446744073709551616 by omega))
  rw[h0] at HC
  clear h0 hb hl k1 d1
  go_enter Tryz.func263,Tryz.ntmps263
  go_wp2_with (first
   |(go_at_call 307;(with_reducible refine cA (HC.out _) ?_);rintro r wn ⟨rfl,hS⟩;replace HS:=Lib.hid (HS.out.on.later hS);clear hS;have KG:=(aR.get HS.out).cell))
  go_region_held3 (fun w':World=>∀i,w'.cell? ⟨w.heap.size,i,none⟩=(#[.int .i64 k,.int .i64 d]:Array Value)[i]?) (first|exact(aR.get (St.on HS.out)).cell|exact(aR.get (St.on HS.out).swap).cell) (first
   |(go_at_call 112;(with_reducible refine cA (St.fresh HS.out.on (pE (HB.out.later HS.out.on.b) k (by have:=HK.out;omega) (by have:=HL.out;omega))) ?_);rintro r wn ⟨v1,rfl,hS⟩;replace HS:=Lib.hid hS;clear hS)
   |(go_at_call 112;(with_reducible refine cA (St.fresh HS.out.on (pE (HS.out.on.kG (by have:=HL.out;have:=HE.out;simp;omega)) d (by have:=HD.out;omega) (by have:=HL.out;have:=HE.out;simp;omega))) ?_);rintro r wn ⟨v2,rfl,hS⟩;replace HS:=Lib.hid hS.jM;clear hS))
  all_goals
   go_wp2
   go_ret
   have hS:=HS.out.toFresh
   rw[H0.out,<-List.append_assoc]
   exact hS
 ·have g0:(dZ ⟨k,d⟩!=0)=true:=by simpa using h0
  have H0:=Lib.hid (show dj ⟨k,d⟩=[] from by unfold dj;rw[if_neg h0])
  clear h0 hb hl
  go_enter Tryz.func263,Tryz.ntmps263
  go_wp2_with (first
   |(go_at_call 307;(with_reducible refine cA (HC.out _) ?_);rintro r wn ⟨rfl,hS⟩;replace HS:=Lib.hid (HS.out.on.later hS);clear hS;have KG:=(aR.get HS.out).cell)
   |(go_at_call 153;(with_reducible refine cA (St.fresh HS.out.on (uf (HB.out.later HS.out.on.b))) ?_);rintro e w1 ⟨v1,rfl,hS⟩;replace HS:=Lib.hid hS;clear hS))
  go_ret
  rw[H0.out,List.append_nil]
  exact HS.out.toFresh
theorem Nu {x:jg} (h:gK x=0):(0<=x.aQ/\x.aQ<8)/\(1<=x.time/\x.time<=9007199254740992)/\cw x.op=0:=by
 unfold gK at h
 split at h
 ·cases h
 ·exact⟨by omega,by omega,h⟩
set_option maxRecDepth 20000 in
set_option maxHeartbeats 8000000 in
theorem RQ {ay:Nat->Prop} {w:World} {cs:List Value} {a:jg} (h:mH.rd ay w cs a) (hl:(kn a).length+60<=bz):
 Calls Tryz.prog 319 #[.agg cs.toArray] w fun e w'=>∃v,e=.returned (.tuple #[v,.int .i64 (gK a)])/\St w w' [rV v (if gK a=0 then kn a else[])]:=by
 have HR:=Lib.hid (fun w' (hb:B w w')=>mH.later h hb)
 obtain⟨v,rfl,a1,a2,o1,o2,o3,o4,o5⟩:=mH.parts h
 have HO:=Lib.hid (fun (w':World) (hb:B w w')=>cL.mk (s:=a.op) o1 o2 o3 o4 ((tL tY).later o5 hb))
 obtain⟨A5,c5,e5,l5⟩:=tL.slice o5
 injection e5 with e5 _
 subst e5
 have HL:=Lib.hid hl
 have HS:=Lib.hid (aR.new (St.nil w) 181 #[.int .i64 a.aQ,.int .i64 a.time,.int .i64 a.op.kind,.string (au a.op.av),.string (au a.op.group),.int .i64 a.op.offset,.slice A5 a.op.records.length c5])
 by_cases h0:gK a=0
 ·obtain⟨q1,q2,q3⟩:=Nu h0
  have Bj:IntKind.u64.wrap a.aQ=a.aQ:=nJ (by omega)
  have iR:IntKind.u64.wrap a.time=a.time:=nJ (by omega)
  have H1:=Lib.hid q1
  have H2:=Lib.hid q2
  have H3:=Lib.hid q3
  have Ia:=Lib.hid (oz (show a.aQ.toNat<18446744073709551616 by omega))
  have HE2:=Lib.hid (oz (show a.time.toNat<18446744073709551616 by omega))
  have HC:=Lib.hid (fun (w':World) (hb:B w w')=>by have:=Gh (HR.out w' hb);rw[h0] at this;exact this)
  have H0:=Lib.hid h0
  have HB:=Lib.hid (show kn a=enc a.aQ.toNat++enc a.time.toNat++cy a.op from rfl)
  have HBL:=Lib.hid (show(enc a.aQ.toNat).length+(enc a.time.toNat).length+(cy a.op).length+60<=bz from by rw[HB.out] at hl;simp at hl;omega)
  clear h o5 o2 o3 h0 hl q1 q2 q3 a1 a2 o1 o4
  go_enter Tryz.func319,Tryz.ntmps319
  go_wp2_with (first
   |(go_at_call 316;(with_reducible refine cA (HC.out _ HS.out.on.b) ?_);rintro e w2 ⟨rfl,hb⟩;replace HS:=Lib.hid (HS.out.on.later hb);clear hb;have KG:=(aR.get HS.out).cell))
  go_region_held3 (fun w':World=>∀i,w'.cell? ⟨w.heap.size,i,none⟩=(#[.int .i64 a.aQ,.int .i64 a.time,.int .i64 a.op.kind,.string (au a.op.av),.string (au a.op.group),.int .i64 a.op.offset,.slice A5 a.op.records.length c5]:Array Value)[i]?) (first|exact(aR.get (St.on HS.out)).cell|exact(aR.get (St.on HS.out).swap).cell) (first
   |(go_at_call 112;(with_reducible refine cA (St.fresh HS.out.on (pE (Bs.nil _) a.aQ (by have:=H1.out;omega) (by simp[bz]))) ?_);rintro r wn ⟨v1,rfl,hS⟩;replace HS:=Lib.hid hS;clear hS)
   |(go_at_call 112;(with_reducible refine cA (St.fresh HS.out.on (pE (HS.out.on.kG (by have:=Ia.out;simp[bz];omega)) a.time (by have:=H2.out;omega) (by have:=Ia.out;simp[bz];omega))) ?_);rintro r wn ⟨v2,rfl,hS⟩;replace HS:=Lib.hid hS.jM;clear hS)
   |(go_at_call 108;(with_reducible refine cA (St.fresh HS.out.on (Mg (HS.out.on.kG (by have:=Ia.out;have:=HE2.out;simp[bz];omega)) (HO.out _ HS.out.on.b) (by have:=HBL.out;simp;omega))) ?_);rintro r wn ⟨v3,rfl,hS⟩;replace HS:=Lib.hid hS.jM;clear hS))
  all_goals
   go_wp2
   go_ret2
   refine⟨v3,by simp[],?_⟩
   have hS:=HS.out.jM
   rw[H3.out] at hS
   simpa[H0.out,HB.out] using hS
 ·have g0:(gK a !=0)=true:=by simpa using h0
  have H0:=Lib.hid h0
  clear h o5 o2 o3 h0 hl
  go_enter Tryz.func319,Tryz.ntmps319
  go_wp2_with (first
   |(go_at_call 316;(with_reducible refine cA (Gh (HR.out _ HS.out.on.b)) ?_);rintro e w2 ⟨rfl,hb⟩;replace HS:=Lib.hid (HS.out.on.later hb);clear hb;have KG:=(aR.get HS.out).cell))
  go_ret2
  exact⟨.slice none 0 0,by simp,by simpa[H0.out] using(rV.nil HS.out).jM⟩
theorem CG {l:List cq} (h:fZ l=0):l.length<=4/\∀x∈l,gK x.request=0/\dZ x.sign=0:=by
 unfold fZ at h
 split at h
 ·cases h
 have hp:=(bC.1 h).1
 refine⟨by omega,?_⟩
 clear h
 rename_i h4
 clear h4
 induction l with
 |nil=>intro x hx;cases hx
 |cons y r ih=>
  simp only[jl,bC] at hp
  intro x hx
  cases hx with
  |head=>exact⟨hp.1,hp.2.1⟩
  |tail _ hm=>exact ih hp.2.2 x hm
set_option maxRecDepth 20000 in
set_option maxHeartbeats 8000000 in
theorem RR {ay:Nat->Prop} {w:World} {u v:Value} {bs:List UInt8} {s:List cq} (h:(tL iI).rd ay w [u] s) (h0:fZ s=0) (hb:Bs w v bs) (hl:(bs++qt s).length+100<=bz):
 Calls Tryz.prog 308 #[u,v] w (Fresh w (bs++qt s)):=by
 obtain⟨A,c,e1,hs⟩:=tL.slice h
 injection e1 with e1 _
 subst e1
 have HR:=Lib.hid h
 have HB:=Lib.hid hb
 have HL:=Lib.hid hl
 have HZ:=Lib.hid (CG h0).2
 have hn:=(CG h0).1
 have hwn:IntKind.u64.wrap (s.length:Int)=s.length:=nJ (by omega)
 have HQ:=Lib.hid (show ∀q x,s[q]?=some x->((s.take q).flatMap mJ).length+(mJ x).length<=(s.flatMap mJ).length from fun q x hx=>by
  have hq:q<s.length:=by
   rcases Nat.lt_or_ge q s.length with h'|h'
   ·exact h'
   ·rw[List.getElem?_eq_none h'] at hx;cases hx
  have e:=congrArg (fun l=>(l.flatMap mJ).length) (List.take_append_drop (q+1) s)
  rw[List.take_add_one,hx] at e
  simp only[Option.toList_some,List.flatMap_append,List.length_append,List.flatMap_cons,List.flatMap_nil,List.append_nil] at e
  omega)
 have HS:=Lib.hid (St.nil w)
 clear h h0 hb hl
 go_enter Tryz.func308,Tryz.ntmps308
 go_wp2_with (first
  |(go_at_call 112;(with_reducible refine cA (St.fresh HS.out.on (pE (HB.out.later HS.out.on.b) (s.length:Int) (by omega) (by have:=HL.out;simp[qt] at this;omega))) ?_);rintro r wn ⟨v1,rfl,hS⟩;replace HS:=Lib.hid hS;clear hS))
 go_loopw [1,16] (fun v i wr=>∃(q:Nat) (z:List UInt8),q<=s.length/\i=.int .i64 q/\Hid (z=bs++enc s.length++(s.take q).flatMap mJ)/\Hid (St w wr [rV v z])) (fun _ i _=>s.length-(intOf i).toNat)
 case atStart=>exact⟨0,bs++enc s.length,Nat.zero_le _,rfl,Lib.hid (by simp),Lib.hid (by have hS:=HS.out;simpa using hS)⟩
 case round=>
  obtain⟨q,z,hq,rfl,Bo,HS⟩:=hrel
  by_cases hlt:q<s.length
  ·obtain⟨x,hx⟩:∃x,s[q]?=some x:=⟨_,List.getElem?_eq_getElem hlt⟩
   obtain⟨_,b,off,ds,rfl,r1,k1⟩:=tL.at HR.out hx
   obtain⟨Oz,rfl,a1,a2,o1,o2,o3,o4,o5,a6,a7⟩:=iI.parts r1
   have HX:=Lib.hid hx
   have hz:=HZ.out x (List.mem_of_getElem? hx)
   have HE:=Lib.hid hz
   have y7:=Lib.hid (show z.length+(mJ x).length+100<=bz from by
    have h1:=HL.out
    have h2:=HQ.out q x hx
    have h3:=congrArg List.length Bo.out
    have e:qt s=enc s.length++s.flatMap mJ:=rfl
    rw[e] at h1
    simp only[List.length_append] at h1 h2 h3
    omega)
   have nZ:=Lib.hid (show mJ x=bB (kn x.request)++oG x.sign from rfl)
   have Ib:=Lib.hid (show(bB (kn x.request)).length=(enc (kn x.request).length).length+(kn x.request).length from by simp[bB])
   have HRQ:=Lib.hid (fun (w':World) (hb:B w w')=>by
    have:=RQ (mH.mk (s:=x.request) a1 a2 o1 o2 o3 o4 ((tL tY).later o5 hb)) (by have h1:=y7.out;rw[nZ.out] at h1;simp only[List.length_append] at h1;have:=Ib.out;omega)
    rw[hz.1,if_pos rfl] at this
    exact this)
   obtain⟨eA,ec,ee,_⟩:=tL.slice o5
   injection ee with ee _
   subst ee
   have d0:=B.cell HS.out.b (k1 0 _ rfl)
   have d1:=B.cell HS.out.b (k1 1 _ rfl)
   have d2:=B.cell HS.out.b (k1 2 _ rfl)
   have d3:=B.cell HS.out.b (k1 3 _ rfl)
   have d4:=B.cell HS.out.b (k1 4 _ rfl)
   have d5:=B.cell HS.out.b (k1 5 _ rfl)
   have d6:=B.cell HS.out.b (k1 6 _ rfl)
   have d7:=B.cell HS.out.b (k1 7 _ rfl)
   have d8:=B.cell HS.out.b (k1 8 _ rfl)
   simp only[show iI.n=9 from rfl,Nat.add_zero] at d0 d1 d2 d3 d4 d5 d6 d7 d8
   replace HS:=Lib.hid (aR.new HS.out 183 #[.int .i64 x.request.aQ,.int .i64 x.request.time,.int .i64 x.request.op.kind,.string (au x.request.op.av),.string (au x.request.op.group),.int .i64 x.request.op.offset,.slice eA x.request.op.records.length ec,.int .i64 x.sign.key,.int .i64 x.sign.an]).swap
   have oO:(q:Int)<s.length:=by omega
   clear r1 k1 hx o5 o2 o3 hz a1 a2 o1 o4
   go_wp2_with (first
    |(go_at_call 319;(with_reducible refine cA (HRQ.out _ HS.out.on.b) ?_);rintro r wn ⟨v3,rfl,hS⟩;replace HS:=Lib.hid (HS.out.on.Zk hS);clear hS;have KG:=(aR.get HS.out.G1).cell;have KL:=(aR.get HS.out.G1).lt))
   go_region_held3 (fun w':World=>∀i,w'.cell? ⟨wr.heap.size,i,none⟩=(#[.int .i64 x.request.aQ,.int .i64 x.request.time,.int .i64 x.request.op.kind,.string (au x.request.op.av),.string (au x.request.op.group),.int .i64 x.request.op.offset,.slice eA x.request.op.records.length ec,.int .i64 x.sign.key,.int .i64 x.sign.an]:Array Value)[i]?) (first|exact(aR.get (St.on HS.out).G1).cell|exact(aR.get (St.on HS.out).swap).cell) (first
    |(go_at_call 154;(with_reducible refine cA (St.fresh HS.out.on (sn (HS.out.on.swap.kG (by have:=y7.out;omega)) (HS.out.on.kG (by have:=y7.out;have h2:=nZ.out;have h3:=Ib.out;rw[h2] at this;simp only[List.length_append] at this;omega)) (by have:=y7.out;have h2:=nZ.out;have h3:=Ib.out;rw[h2] at this;simp only[List.length_append] at this ⊢;omega))) ?_);rintro r wn ⟨v4,rfl,hS⟩;replace HS:=Lib.hid hS.jM.jM;clear hS;rw[sK] at HS)
    |(go_at_call 263;(with_reducible refine cA (St.fresh HS.out.on (Kh (HS.out.on.kG (by have:=y7.out;have h2:=nZ.out;rw[h2] at this;simp only[List.length_append] at this ⊢;omega)) (by have:=y7.out;have h2:=nZ.out;rw[h2] at this;simp only[List.length_append] at this ⊢;omega))) ?_);rintro r wn ⟨v5,rfl,hS⟩;replace HS:=Lib.hid hS.jM;clear hS))
   all_goals
    go_wp2
    go_roundw
    case rel=>
     refine⟨q+1,_,by omega,by go_num,?_,Lib.hid HS.out.jM⟩
     show _=_
     rw[Bo.out,List.take_add_one,HX.out]
     have hp:dj ⟨x.sign.key,x.sign.an⟩=oG x.sign:=by unfold dj;rw[if_pos HE.out.2]
     simp[hp,nZ.out]
    case measure=>simp[intOf];omega
  ·have oO:¬(q:Int)<s.length:=by omega
   have HZ3:=Lib.hid (show z=bs++qt s from by
    rw[Bo.out,List.take_of_length_le (by omega)]
    simp[qt])
   clear hlt hq
   go_wp2
   go_ret
   rw[<-HZ3.out]
   exact HS.out.toFresh
end Go.Proofs.YtafomdobfmmleaaGreatDoor

/- Lemmas and contracts. -/
namespace Go.Proofs.YtafomdobfmmleaaGreatDoor
open Go.RowKit Go.Deep
set_option linter.unusedVariables false
def nS (w:World):Prop:=∀w',B w w'->Lib.TabIs Tryz.prog w' "internal/strconv.uint64pow10" .u64 Lib.pow10Tab
theorem nS.later {w w':World} (h:nS w) (hb:B w w'):nS w':=fun w2 h2=>h w2 (hb.trans h2)
theorem Xg (w:World) (k:Nat) (os:Array Obj):B w (Sort.grow (w.drewN k) os):=
 ⟨rfl,rfl,rfl,by show w.heap.size<=(w.heap++os).size;rw[Array.size_append];omega,fun j hj=>by show(w.heap++os)[j]?=w.heap[j]?;exact Array.getElem?_append_left hj⟩
theorem yj {w:World} {n:Int} (h:nS w) (hn:-9223372036854775808<=n/\n<=9223372036854775807):Calls Tryz.prog 29 #[.int .i64 n] w fun e w'=>e=.returned (.string (au (Lib.itoa n)))/\B w w':=by
 have HC:=Lib.hid (Tryz.strconv_Itoa n hn.1 hn.2 w (h w (Below.refl _ _)))
 go_enter Tryz.func29,Tryz.ntmps29
 go_wp2_with (first
  |(go_at_call 61;(with_reducible refine cA HC.out ?_);rintro e wn ⟨rfl,k,os,rfl⟩))
 go_ret
 exact⟨rfl,Xg _ _ _⟩
def qI (l:List (List UInt8)):List Value:=l.map fun x=>.string (au x)
def uN (v:Value) (l:List (List UInt8)):dG:=AL 9 1 v l.length (qI l)
section
variable {W w:World} {L:List dG} {v:Value} {l:List (List UInt8)}
theorem Fm (l:List (List UInt8)):(qI l).length=l.length:=by simp[qI]
theorem SZ (l:List (List UInt8)):(qI l).toArray.toList.take (l.length*1)=qI l:=by
 rw[show(qI l).toArray.toList=qI l from by simp]
 exact List.take_of_length_le (by rw[Fm];omega)
theorem uN.new (h:St W w L) (l:List (List UInt8)) (hl:l.length<=maxLen) {cs:Array Value} (hc:cs=(qI l).toArray) {n:Nat} (hn:n=l.length):St W (w.alloc (.cells cs 9)) (uN (.slice (some ⟨w.heap.size,0,none⟩) n n) l::L):=by
 subst hc hn
 exact h.add (B.jV _ _) (A:=uN (.slice (some ⟨w.heap.size,0,none⟩) l.length l.length) l) (own:=fun x=>x=w.heap.size)
  ⟨⟨by rw[Fm];omega,.inr ⟨_,l.length,(qI l).toArray,rfl,Nat.zero_le _,heap_alloc_new w _,Nat.le_refl _,hl,by simp[Fm],SZ l⟩⟩,fun g hg=>by simpa[Value.ownBlock] using hg.symm⟩ (fun x e=>by omega)
theorem uN.cells (h:St W w (uN v l::L)):∃A c,v=.slice A l.length c/\l.length<=c/\(0<l.length->∃g,A=some ⟨g,0,none⟩/\g<w.heap.size/\∀j x,l[j]?=some x->w.cell? ⟨g,0+j,none⟩=some (.string (au x))):=by
 obtain⟨own,hr,ho⟩:=h.get
 obtain⟨⟨hlen,Hz⟩,Oo⟩:=hr
 rcases Hz with⟨rfl,hn⟩|⟨g,cap,cur,rfl,_,hg,yM,_,cT,Bp⟩
 ·exact⟨none,0,by rw[hn],by omega,fun h0=>by omega⟩
 ·refine⟨_,_,rfl,yM,fun _=>⟨g,rfl,(Array.getElem?_eq_some_iff.1 hg).1,fun j x hj=>?_⟩⟩
  rw[Nat.zero_add,cell_of_row w g j cur _ _ hg]
  have hx:(qI l)[j]?=some (.string (au x)):=by simp[qI,hj]
  rw[<-Bp] at hx
  rw[List.getElem?_take] at hx
  split at hx
  ·simpa using hx
  ·cases hx
end
theorem join_eq:∀l:List (List UInt8),Lib.join l [32]=iy l
 |[]=>rfl
 |[x]=>by rw[Lib.join_one];rfl
 |x::y::r=>by
  have:=join_eq (y::r)
  unfold Lib.join at this ⊢
  rw[show iy (x::y::r)=x++32::iy (y::r) from rfl,<-this]
  simp[List.intercalate]
theorem Xh {W w:World} {L:List dG} {v:Value} {l:List (List UInt8)} (h:St W w (uN v l::L)) (hl:(iy l).length<=140737488355328) (hn:l.length<=140737488355328) {s:ByteArray} (hs:s=au [32]):
 Calls Tryz.prog 28 #[v,.string s] w fun e w'=>e=.returned (.string (au (iy l)))/\B w w':=by
 subst hs
 obtain⟨A,c,rfl,hc,hr⟩:=uN.cells h
 by_cases h0:0<l.length
 ·obtain⟨g,rfl,hg,fy⟩:=hr h0
  have hj:(l.map au).map (fun x=>x.data.toList)=l:=by
   rw[List.map_map]
   conv=>rhs;rw[<-List.map_id l]
   refine List.map_congr_left fun x _=>?_
   simp[au]
  have:=Tryz.strings_Join g 0 c (l.map au) (au [32]) w (fun j x hx=>by
   rw[List.getElem?_map] at hx
   obtain⟨y,hy,rfl⟩:=Option.map_eq_some_iff.1 hx
   exact fy j y hy) hg (by simpa using hn) (by simpa using hc) (by rw[hj];rw[show(au [32]).data.toList=[32] from rfl,join_eq];exact hl)
  rw[hj,show(au [32]).data.toList=[32] from rfl,join_eq] at this
  simpa[au] using this
 ·have hz:l=[]:=List.eq_nil_of_length_eq_zero (by omega)
  subst hz
  refine(Tryz.strings_Join_none A c (au [32]) w).mono ?_
  rintro e w' ⟨rfl,rfl⟩
  exact⟨rfl,Below.refl _ _⟩
end Go.Proofs.YtafomdobfmmleaaGreatDoor
