/- Lemmas and contracts, part 17. -/
import Derived.Test.YtafomdobfmmleaaGreatDoorZp16
import Derived.Deep.Light
import Derived.Lib.ConvBytes
import Derived.Deep.RegionHeld3
import Derived.Deep.RegionLaw
namespace Go.Proofs.YtafomdobfmmleaaGreatDoor
set_option linter.unusedVariables false
open Go.Proofs.Tryz
set_option maxRecDepth 20000
set_option maxHeartbeats 20000000
section
open Go.RowKit Go.Deep
theorem Nx (w:World) (e:TypeId) (s:ByteArray):B w (Lib.bytesWorld w e s):=
 ⟨rfl,rfl,rfl,by rw[Lib.bytesWorld_size];omega,fun j hj=>Lib.bytesWorld_at_old w e s j hj⟩
instance BB.ahK (w w':World) (e:TypeId) (s:ByteArray) [h:BB w w']:BB w (Lib.bytesWorld w' e s):=⟨h.out.trans (Nx _ _ _)⟩
theorem adw {w:World} {v:Value} {bs:List UInt8} (h:Bs w v bs) (k:Int) (hk:0<=k/\k<18446744073709551616) (hl:bs.length+10<=aL):Calls prog 112 #[v,.int .u64 k] w (qL w (bs++enc k.toNat)):=by
 have:=Pp h k.toNat (by omega) hl
 rwa [Int.toNat_of_nonneg hk.1] at this
theorem Rq (bs x:List UInt8):B8 bs x=bs++cB x:=by simp[B8,cB]
theorem xB {o:bt} (h:bS o=0):(0<=o.kind/\o.kind<=4)/\o=jz o/\(0<=o.offset/\o.offset<=9007199254740992):=by
 unfold bS at h
 split at h
 ·cases h
 rename_i h1
 simp only[not_or,Bool.not_eq_false] at h1
 split at h
 ·cases h
 split at h
 ·cases h
 split at h
 ·cases h
 split at h
 ·cases h
 rename_i h5
 exact⟨by have:=h1.1;unfold kindOk at this;simpa using this,E6.1 h1.2,by omega⟩
section
end
end
section
open Go.RowKit Go.Deep
theorem Ge {s:bJ} (h:dw s=0):(0<=s.key/\s.key<21)/\1<=s.ah/\s.ah<=9007199254740992:=by
 unfold dw at h
 split at h
 ·cases h
 ·omega
theorem aeD {x:ju} (h:iR x=0):(0<=x.bD/\x.bD<8)/\(1<=x.time/\x.time<=9007199254740992)/\bS x.op=0:=by
 unfold iR at h
 split at h
 ·cases h
 ·exact⟨by omega,by omega,h⟩
theorem J1 {l:List bX} (h:fA l=0):l.length<=4/\∀x∈l,iR x.request=0/\dw x.sign=0:=by
 unfold fA at h
 split at h
 ·cases h
 have hp:=(bQ.1 h).1
 refine⟨by omega,?_⟩
 clear h
 rename_i h4
 clear h4
 induction l with
 |nil=>intro x hx;cases hx
 |cons y r ih=>
  simp only[lA,bQ] at hp
  intro x hx
  cases hx with
  |head=>exact⟨hp.1,hp.2.1⟩
  |tail _ hm=>exact ih hp.2.2 x hm
end
section
open Go.RowKit Go.Deep
def qT (w:World):Prop:=∀w',B w w'->Lib.TabIs prog w' "internal/strconv.uint64pow10" .u64 Lib.pow10Tab
theorem qT.later {w w':World} (h:qT w) (hb:B w w'):qT w':=fun w2 h2=>h w2 (hb.trans h2)
theorem Ru (w:World) (k:Nat) (os:Array Obj):B w (Sort.grow (w.drewN k) os):=
 ⟨rfl,rfl,rfl,by show w.heap.size<=(w.heap++os).size;rw[Array.size_append];omega,fun j hj=>by show(w.heap++os)[j]?=w.heap[j]?;exact Array.getElem?_append_left hj⟩
theorem BW {w:World} {n:Int} (h:qT w) (hn:-9223372036854775808<=n/\n<=9223372036854775807):Calls prog 29 #[.int .i64 n] w fun e w'=>e=.returned (.string (aA (Lib.itoa n)))/\B w w':=by
 have HC:=Lib.hid (Tryz.strconv_Itoa n hn.1 hn.2 w (h w (Below.refl _ _)))
 go_enter func29,ntmps29
 go_wp2_with (first
  |(go_at_call 61;(with_reducible refine qC HC.out ?_);rintro e wn ⟨rfl,k,os,rfl⟩))
 go_ret
 exact⟨rfl,Ru _ _ _⟩
def uP (l:List (List UInt8)):List Value:=l.map fun x=>.string (aA x)
def yM (v:Value) (l:List (List UInt8)):gi:=afD 9 1 v l.length (uP l)
section
variable {W w:World} {L:List gi} {v:Value} {l:List (List UInt8)}
theorem JI (l:List (List UInt8)):(uP l).length=l.length:=by simp[uP]
theorem X6 (l:List (List UInt8)):(uP l).toArray.toList.take (l.length*1)=uP l:=by
 rw[show(uP l).toArray.toList=uP l from by simp]
 exact List.take_of_length_le (by rw[JI];omega)
theorem yM.new (h:St W w L) (l:List (List UInt8)) (hl:l.length<=maxLen) {cs:Array Value} (hc:cs=(uP l).toArray) {n:Nat} (hn:n=l.length):St W (w.alloc (.cells cs 9)) (yM (.slice (some ⟨w.heap.size,0,none⟩) n n) l::L):=by
 subst hc hn
 exact h.add (B.j9 _ _) (A:=yM (.slice (some ⟨w.heap.size,0,none⟩) l.length l.length) l) (own:=fun x=>x=w.heap.size)
  ⟨⟨by rw[JI];omega,.inr ⟨_,l.length,(uP l).toArray,rfl,Nat.zero_le _,heap_alloc_new w _,Nat.le_refl _,hl,by simp[JI],X6 l⟩⟩,fun g hg=>by simpa[Value.ownBlock] using hg.symm⟩ (fun x e=>by omega)
theorem yM.cells (h:St W w (yM v l::L)):∃A c,v=.slice A l.length c/\l.length<=c/\(0<l.length->∃g,A=some ⟨g,0,none⟩/\g<w.heap.size/\∀j x,l[j]?=some x->w.cell? ⟨g,0+j,none⟩=some (.string (aA x))):=by
 obtain⟨own,hr,ho⟩:=h.get
 obtain⟨⟨hlen,Mf⟩,Tj⟩:=hr
 rcases Mf with⟨rfl,hn⟩|⟨g,cap,cur,rfl,_,hg,Ce,_,eE,Ey⟩
 ·exact⟨none,0,by rw[hn],by omega,fun h0=>by omega⟩
 ·refine⟨_,_,rfl,Ce,fun _=>⟨g,rfl,(Array.getElem?_eq_some_iff.1 hg).1,fun j x hj=>?_⟩⟩
  rw[Nat.zero_add,cell_of_row w g j cur _ _ hg]
  have hx:(uP l)[j]?=some (.string (aA x)):=by simp[uP,hj]
  rw[<-Ey] at hx
  rw[List.getElem?_take] at hx
  split at hx
  ·simpa using hx
  ·cases hx
end
theorem join_eq:∀l:List (List UInt8),Lib.join l [32]=kW l
 |[]=>rfl
 |[x]=>by rw[Lib.join_one];rfl
 |x::y::r=>by
  have:=join_eq (y::r)
  unfold Lib.join at this ⊢
  rw[show kW (x::y::r)=x++32::kW (y::r) from rfl,<-this]
  simp[List.intercalate]
theorem adx {W w:World} {L:List gi} {v:Value} {l:List (List UInt8)} (h:St W w (yM v l::L)) (hl:(kW l).length<=140737488355328) (hn:l.length<=140737488355328) {s:ByteArray} (hs:s=aA [32]):
 Calls prog 28 #[v,.string s] w fun e w'=>e=.returned (.string (aA (kW l)))/\B w w':=by
 subst hs
 obtain⟨A,c,rfl,hc,hr⟩:=yM.cells h
 by_cases h0:0<l.length
 ·obtain⟨g,rfl,hg,fH⟩:=hr h0
  have hj:(l.map aA).map (fun x=>x.data.toList)=l:=by
   rw[List.map_map]
   conv=>rhs;rw[<-List.map_id l]
   refine List.map_congr_left fun x _=>?_
   simp[aA]
  have:=Tryz.strings_Join g 0 c (l.map aA) (aA [32]) w (fun j x hx=>by
   rw[List.getElem?_map] at hx
   obtain⟨y,hy,rfl⟩:=Option.map_eq_some_iff.1 hx
   exact fH j y hy) hg (by simpa using hn) (by simpa using hc) (by rw[hj];rw[show(aA [32]).data.toList=[32] from rfl,join_eq];exact hl)
  rw[hj,show(aA [32]).data.toList=[32] from rfl,join_eq] at this
  simpa[aA] using this
 ·have hz:l=[]:=List.eq_nil_of_length_eq_zero (by omega)
  subst hz
  refine(Tryz.strings_Join_none A c (aA [32]) w).mono ?_
  rintro e w' ⟨rfl,rfl⟩
  exact⟨rfl,Below.refl _ _⟩
end
end Go.Proofs.YtafomdobfmmleaaGreatDoor
