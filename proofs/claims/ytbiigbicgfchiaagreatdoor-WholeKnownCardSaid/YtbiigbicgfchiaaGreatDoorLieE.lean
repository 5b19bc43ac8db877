/- What several proofs share, part 5: a model of memory, contracts of functions. Conditions: none. -/
import Derived.Test.YtbiigbicgfchiaaGreatDoorLieC
import Derived.Test.YtbiigbicgfchiaaGreatDoorLieD
import GoSem.Extern.BytealgMakeNoZero
/- Layer 1: a number moved by less than a limb. Conditions: none. -/
set_option linter.unusedSimpArgs false
set_option linter.unusedVariables false
set_option maxRecDepth 100000
set_option maxHeartbeats 4000000
namespace Go.Proofs.YtbiigbicgfchiaaGreatDoor
section
open Go
variable {G:Nat} {Ext:FuncId→List Value→Mem→Outc→Mem→Prop}
theorem pow64_succ (i:Nat):2^(64*(i+1))=2^(64*i)*18446744073709551616:=by rw[show 64*(i+1)=64*i+64 by omega,Nat.pow_add]
theorem zero_word (k:Nat):(0#64:BitVec 64).toNat * k=0:=Nat.zero_mul _
theorem row_set_w {S:Mem} {b k:Nat} {o:WL} {r:BitVec 64} (h:S.row? b=some (newR (wv o) 57)):Mem.row? (List.set S b { newR (wv o) 57 with cells:=(newR (wv o) 57).cells.set (0+k) (v64 r) }) b=some (newR (wv (o.set k r)) 57):=by
 rw[row_set_same h rfl,Nat.zero_add]
 simp [newR,wv,List.map_set]
theorem shr1 (x:Nat):Int.fdiv (x:Int) (2^min (Int.toNat 1) IntKind.u64.bits)=((x / 2:Nat):Int):=fdiv_nat x 2
theorem left_C (a:Option Addr) (c:Nat) (l:WL) (s:Nat) (S:Mem) (h:WIn S a c l) (hs:s<64) (hn:l.length<100000) :
  C Tryz.prog G Ext 156 [.slice a l.length c,vi s] S fun v S'=>∃ (ro:Nat) (o:WL),v=.slice (some ⟨ro,0,none⟩) (l.length+1) (l.length+1)∧S.length≤ro∧Cons S S'∧S'.row? ro=some (newR (wv o) 57)∧o.length=l.length+1∧wnum o=wnum l*2^s:=by
 have hmin:min (Int.toNat (s:Int)) IntKind.u64.bits=s:=by rw[bits_u64,Int.toNat_natCast];omega
 refine C.fn Tryz.func156 rfl (by kernel_rfl) rfl (go ?_)
 have hw1:IntKind.i64.wrap ((l.length:Int)+1)=((l.length+1:Nat):Int):=by rw[wrap64 (by omega) (by omega)];rfl
 refine L.mk (n:=l.length+1) (m:=l.length+1) (bytes:=8) (zv:=v64 0#64) rfl rfl hw1 rfl hw1 (Nat.le_refl _) (by omega) rfl rfl ?_
 have hro:Mem.row? (S++[newR (List.replicate (l.length+1) (v64 0#64)) 57]) S.length=some (newR (wv (List.replicate (l.length+1) 0#64)) 57):=by
  rw[row_push_new rfl];simp [wv]
 have hc:=Cons.push S (newR (List.replicate (l.length+1) (v64 0#64)) 57)
 generalize S++[newR (List.replicate (l.length+1) (v64 0#64)) 57]=S1 at *
 obtain⟨ro,hro0⟩:∃ ro,ro=S.length:=⟨_,rfl⟩
 rw[← hro0] at hro ⊢
 refine go ?_
 refine W.loop (fun j e T=>∃ (i:Nat) (o:WL) (x0:BitVec 64),j=l.length - i∧i≤l.length∧e 1=vi s∧e 5=.slice (some ⟨ro,0,none⟩) (l.length+1) (l.length+1)∧e 12=.slice a l.length c∧e 13=vi l.length∧e 14=vi i∧Cons S T∧T.row? ro=some (newR (wv o) 57)∧o.length=l.length+1∧o[i]?=some x0∧x0.toNat<2^s∧wnum o=wnum (l.take i)*2^s∧∀ p,i<p→p<l.length+1→o[p]?=some 0#64) l.length
  ⟨0,List.replicate (l.length+1) 0#64,0#64,by omega,by omega,rfl,rfl,rfl,rfl,rfl,hc,hro,by simp,by simp,Nat.two_pow_pos s,by rw[wnum_zeros];simp [wnum],fun p _ hp=>by simp [hp]⟩ ?_
 clear hro hc
 rintro j e T ⟨i,o,x0,rfl,hi,e1,e5,e12,e13,e14,hkT,hro,hol,hx0,hxs,hsum,hz⟩
 refine W.env5 e1 e5 e12 e13 e14 (go ?_)
 refine W.ite rfl (fun h=>?_) (fun h=>?_)
 ·have hin:i<l.length:=by have:=of_decide_eq_true h;omega
  clear h
  obtain⟨x,hx⟩:∃ x,l[i]?=some x:=⟨_,List.getElem?_eq_getElem hin⟩
  have hxl:=x.isLt
  have hz1:=hz (i+1) (by omega) (by omega)
  have hsl:Slv T 1 (.slice (some ⟨ro,0,none⟩) (l.length+1) (l.length+1)) (l.length+1) (wv o):=Slv.all hro rfl (by rw[wv_len,hol,Nat.mul_one])
  refine go ?_
  refine L.el (h.1.cons hkT) (k:=i) rfl (wv_get hx) rfl rfl rfl rfl (fun _=>rfl) rfl (fun p=>go ?_)
  refine L.el hsl (k:=i) rfl (wv_get hx0) rfl rfl rfl rfl (fun _=>rfl) rfl (fun p=>go ?_)
  have hup:=up_word (x:=x.toNat) hs hxs
  obtain⟨r,hr⟩:=word_of (up_low (x:=x.toNat) hs hxs)
  obtain⟨r2,hr2⟩:=word_of (Nat.lt_trans (up_over hs hxl) (by rw[← show (2:Nat)^64=18446744073709551616 by decide];exact Nat.pow_lt_pow_right (by decide) hs))
  have hov:r2.toNat<2^s:=by rw[hr2];exact up_over hs hxl
  rw[hmin,shl_nat,or_nat x0.isLt (Nat.mod_lt _ (by decide)),← hr]
  refine L.elst hro rfl (by show 0+(l.length+1)≤(wv o).length;rw[wv_len,hol];omega) (k:=i) rfl (by omega) rfl rfl rfl rfl (fun _=>rfl) (fun _=>rfl) rfl rfl rfl (fun p=>?_)
  have hro2:=row_set_w (k:=i) (r:=r) hro
  have hk6:=hkT.set ro { newR (wv o) 57 with cells:=(newR (wv o) 57).cells.set (0+i) (v64 r) } (by omega)
  generalize List.set T ro _=T6 at *
  refine go ?_
  refine L.shr (63 - s) rfl rfl ?_ (by rw[bits_u64];omega) rfl ?_
  ·rw[wrap64 (by omega) (by omega)];omega
  rw[shr1,fdivn,← hr2]
  refine L.elst hro2 rfl (by show 0+(l.length+1)≤(wv (o.set i r)).length;rw[wv_len,List.length_set,hol];omega) (k:=i+1) (by rw[wrap64 (by omega) (by omega)];rfl) (by omega) rfl rfl rfl rfl (fun _=>rfl) (fun _=>rfl) rfl rfl rfl (fun p=>?_)
  have hro3:=row_set_w (k:=i+1) (r:=r2) hro2
  have hk7:=hk6.set ro { newR (wv (o.set i r)) 57 with cells:=(newR (wv (o.set i r)) 57).cells.set (0+(i+1)) (v64 r2) } (by omega)
  generalize List.set T6 ro _=T7 at *
  refine go ?_
  have hs1:=wnum_set (y:=r) hx0
  have hs2:=wnum_set (l:=o.set i r) (q:=i+1) (x:=0#64) (y:=r2) (by rw[List.getElem?_set,if_neg (by omega)];exact hz1)
  refine⟨l.length - (i+1),by omega,i+1,(o.set i r).set (i+1) r2,r2,rfl,by omega,rfl,rfl,rfl,rfl,?_,hk7,hro3,by simpa using hol,?_,hov,?_,fun p hp1 hp2=>?_⟩
  ·refine(force_eq rfl).trans ?_
   rw[wrap64 (by omega) (by omega)];rfl
  ·rw[List.getElem?_set,if_pos rfl,if_pos (by rw[List.length_set,hol];omega)]
  ·rw[wnum_take_succ hx]
   rw[zero_word,pow64_succ] at hs2
   rw[← hr,← hr2] at hup
   have e3:(r.toNat+18446744073709551616*r2.toNat)*2^(64*i)=(x0.toNat+x.toNat * 2^s)*2^(64*i):=by rw[hup]
   rw[Nat.add_mul,Nat.add_mul,Nat.mul_comm 18446744073709551616,Nat.mul_assoc,Nat.mul_comm 18446744073709551616] at e3
   rw[Nat.add_mul,Nat.mul_comm _ x.toNat,Nat.mul_right_comm]
   omega
  ·rw[List.getElem?_set,if_neg (by omega),List.getElem?_set,if_neg (by omega)];exact hz p (by omega) hp2
 ·have hin:i=l.length:=by have:=of_decide_eq_false h;omega
  subst hin
  clear h
  rw[List.take_length] at hsum
  refine go ?_
  exact⟨.inr rfl,_,rfl,ro,o,rfl,by omega,hkT,hro,hol,hsum⟩
theorem shl1 (x:Nat):IntKind.u64.wrap ((x:Int)*2^min (Int.toNat 1) IntKind.u64.bits)=((x*2 % 18446744073709551616:Nat):Int):=shl_nat x 1
theorem dnAt_val {l:WL} {s i:Nat} {x:BitVec 64} (hs:s<64) (h:l[i]?=some x):(dnAt l s i).toNat=dnW x.toNat (l.getD (i+1) 0#64).toNat s:=by
 unfold dnAt
 rw[List.getD_eq_getElem?_getD,h,Option.getD_some,BitVec.toNat_ofNat]
 exact Nat.mod_eq_of_lt (dn_lt hs x.isLt)
theorem right_C (a:Option Addr) (c:Nat) (l:WL) (s:Nat) (S:Mem) (h:WIn S a c l) (hs:s<64) (hn:l.length<100000) :
  C Tryz.prog G Ext 158 [.slice a l.length c,vi s] S fun v S'=>∃ (ro:Nat),v=.slice (some ⟨ro,0,none⟩) l.length l.length∧S.length≤ro∧Cons S S'∧S'.row? ro=some (newR (wv (dnL l s)) 57):=by
 have hmin:min (Int.toNat (s:Int)) IntKind.u64.bits=s:=by rw[bits_u64,Int.toNat_natCast];omega
 refine C.fn Tryz.func158 rfl (by kernel_rfl) rfl (go ?_)
 refine L.mk (n:=l.length) (m:=l.length) (bytes:=8) (zv:=v64 0#64) rfl rfl rfl rfl rfl (Nat.le_refl _) (by omega) rfl rfl ?_
 have hro:Mem.row? (S++[newR (List.replicate l.length (v64 0#64)) 57]) S.length=some (newR (wv (List.replicate l.length 0#64)) 57):=by
  rw[row_push_new rfl];simp [wv]
 have hc:=Cons.push S (newR (List.replicate l.length (v64 0#64)) 57)
 generalize S++[newR (List.replicate l.length (v64 0#64)) 57]=S1 at *
 obtain⟨ro,hro0⟩:∃ ro,ro=S.length:=⟨_,rfl⟩
 rw[← hro0] at hro ⊢
 refine go ?_
 refine W.loop (fun j e T=>∃ (i:Nat) (o:WL),j=l.length - i∧i≤l.length∧e 0=.slice a l.length c∧e 1=vi s∧e 5=.slice (some ⟨ro,0,none⟩) l.length l.length∧e 11=vi l.length∧e 12=vi i∧Cons S T∧T.row? ro=some (newR (wv o) 57)∧o.length=l.length∧∀ p,p<i→o[p]?=some (dnAt l s p)) l.length
  ⟨0,List.replicate l.length 0#64,by omega,by omega,rfl,rfl,rfl,rfl,rfl,hc,hro,by simp,fun p hp=>by omega⟩ ?_
 clear hro hc
 rintro j e T ⟨i,o,rfl,hi,e0,e1,e5,e11,e12,hkT,hro,hol,hz⟩
 refine W.env5 e0 e1 e5 e11 e12 (go ?_)
 refine W.ite rfl (fun h=>?_) (fun h=>?_)
 ·have hin:i<l.length:=by have:=of_decide_eq_true h;omega
  clear h
  obtain⟨x,hx⟩:∃ x,l[i]?=some x:=⟨_,List.getElem?_eq_getElem hin⟩
  have hxl:=x.isLt
  have hdv:=dnAt_val hs hx
  obtain⟨r1,hr1⟩:=word_of (n:=x.toNat / 2^s) (Nat.lt_of_le_of_lt (Nat.div_le_self _ _) hxl)
  have hi1:IntKind.i64.wrap ((i:Int)+1)=((i+1:Nat):Int):=by rw[wrap64 (by omega) (by omega)];rfl
  refine go ?_
  refine L.el (h.1.cons hkT) (k:=i) rfl (wv_get hx) rfl rfl rfl rfl (fun _=>rfl) rfl (fun p=>go ?_)
  rw[hmin,fdivn,← hr1]
  refine L.elst hro rfl (by show 0+l.length≤(wv o).length;rw[wv_len,hol];omega) (k:=i) rfl hin rfl rfl rfl rfl (fun _=>rfl) (fun _=>rfl) rfl rfl rfl (fun p=>?_)
  have hro2:=row_set_w (k:=i) (r:=r1) hro
  have hk6:=hkT.set ro { newR (wv o) 57 with cells:=(newR (wv o) 57).cells.set (0+i) (v64 r1) } (by omega)
  generalize List.set T ro _=T6 at *
  refine go ?_
  refine W.ite rfl (fun h=>?_) (fun h=>?_)
  ·have hi2:i+1<l.length:=by rw[hi1] at h;have:=of_decide_eq_true h;omega
   clear h
   obtain⟨y,hy⟩:∃ y,l[i+1]?=some y:=⟨_,List.getElem?_eq_getElem hi2⟩
   rw[List.getD_eq_getElem?_getD,hy,Option.getD_some] at hdv
   unfold dnW at hdv
   rw[← hr1] at hdv
   have hsl:Slv T6 1 (.slice (some ⟨ro,0,none⟩) l.length l.length) l.length (wv (o.set i r1)):=Slv.all hro2 rfl (by rw[wv_len,List.length_set,hol,Nat.mul_one])
   have hg:(o.set i r1)[i]?=some r1:=by rw[List.getElem?_set,if_pos rfl,if_pos (by omega)]
   refine go ?_
   refine L.el hsl (k:=i) rfl (wv_get hg) rfl rfl rfl rfl (fun _=>rfl) rfl (fun p=>go ?_)
   refine L.el (h.1.cons hk6) (k:=i+1) hi1 (wv_get hy) rfl rfl rfl rfl (fun _=>rfl) rfl (fun p=>go ?_)
   refine L.shl (63 - s) rfl rfl ?_ (by rw[bits_u64];omega) rfl ?_
   ·rw[wrap64 (by omega) (by omega)];omega
   rw[shl1,shl_nat]
   refine go ?_
   rw[or_nat r1.isLt (Nat.mod_lt _ (by decide)),← hdv]
   refine L.elst hro2 rfl (by show 0+l.length≤(wv (o.set i r1)).length;rw[wv_len,List.length_set,hol];omega) (k:=i) rfl hin rfl rfl rfl rfl (fun _=>rfl) (fun _=>rfl) rfl rfl rfl (fun p=>?_)
   have hro3:=row_set_w (k:=i) (r:=dnAt l s i) hro2
   have hk7:=hk6.set ro { newR (wv (o.set i r1)) 57 with cells:=(newR (wv (o.set i r1)) 57).cells.set (0+i) (v64 (dnAt l s i)) } (by omega)
   generalize List.set T6 ro _=T7 at *
   refine go ?_
   refine⟨l.length - (i+1),by omega,i+1,(o.set i r1).set i (dnAt l s i),rfl,by omega,rfl,rfl,rfl,rfl,(force_eq rfl).trans (congrArg (Value.int .i64) hi1),hk7,hro3,by simpa using hol,fun p hp=>?_⟩
   rcases Nat.lt_or_eq_of_le (Nat.le_of_lt_succ hp) with h1 | rfl
   ·rw[List.getElem?_set,if_neg (by omega),List.getElem?_set,if_neg (by omega)];exact hz p h1
   ·rw[List.getElem?_set,if_pos rfl,if_pos (by rw[List.length_set];omega)]
  ·have hi2:l.length≤i+1:=by rw[hi1] at h;have:=of_decide_eq_false h;omega
   clear h
   rw[List.getD_eq_getElem?_getD,List.getElem?_eq_none hi2] at hdv
   have hd0:dnAt l s i=r1:=by
    apply BitVec.eq_of_toNat_eq
    rw[hdv,hr1]
    show x.toNat / 2^s ||| 0*2 % 18446744073709551616*2^(63 - s) % 18446744073709551616=_
    rw[Nat.zero_mul,Nat.zero_mod]
    exact Nat.or_zero _
   refine go ?_
   refine⟨l.length - (i+1),by omega,i+1,o.set i r1,rfl,by omega,rfl,rfl,rfl,rfl,(force_eq rfl).trans (congrArg (Value.int .i64) hi1),hk6,hro2,by simpa using hol,fun p hp=>?_⟩
   rcases Nat.lt_or_eq_of_le (Nat.le_of_lt_succ hp) with h1 | rfl
   ·rw[List.getElem?_set,if_neg (by omega)];exact hz p h1
   ·rw[List.getElem?_set,if_pos rfl,if_pos (by omega),hd0]
 ·have hin:i=l.length:=by have:=of_decide_eq_false h;omega
  subst hin
  clear h
  have hfin:o=dnL l s:=by
   apply List.ext_getElem?
   intro p
   by_cases hp:p<l.length
   ·rw[hz p hp]
    unfold dnL
    rw[List.getElem?_map,List.getElem?_range hp];rfl
   ·rw[List.getElem?_eq_none (by omega),List.getElem?_eq_none (by rw[dnL_len];omega)]
  rw[hfin] at hro
  refine go ?_
  exact⟨.inr rfl,_,rfl,ro,rfl,by omega,hkT,hro⟩
end
section
open Go
variable {G:Nat} {Ext:FuncId→List Value→Mem→Outc→Mem→Prop}
theorem word_ofN {n:Nat} (h:n<18446744073709551616):∃ r:BitVec 64,r.toNat=n:=⟨BitVec.ofNat 64 n,by rw[BitVec.toNat_ofNat];exact Nat.mod_eq_of_lt h⟩
theorem sub_one {x y l:Nat} (hx:x<18446744073709551616) (hy:y<18446744073709551616) (hl:l≤1):(x+18446744073709551616 - y - l) % 18446744073709551616+(y+l)=x+18446744073709551616*(if x<y+l then 1 else 0):=by
 split<;>omega
def subL (l1 l2:WL):WL:=if small l1 && small l2 then (if wnum l1<wnum l2 then [] else toldL (toW (wnum l1 - wnum l2))) else []
def subE (l1 l2:WL):Int:=if small l1 && small l2 then (if wnum l1<wnum l2 then 10 else toldE (toW (wnum l1 - wnum l2))) else 3
theorem natSub_C (a1 a2:Option Addr) (c1 c2:Nat) (l1 l2:WL) (S:Mem) (h1:WIn S a1 c1 l1) (h2:WIn S a2 c2 l2) :
  C Tryz.prog G Ext 71 [.slice a1 l1.length c1,.slice a2 l2.length c2] S fun v S'=>∃ d:Hd,v=.tuple #[d.v,.int .i64 (subE l1 l2)]∧RetW S S' d (subL l1 l2):=by
 refine C.fn Tryz.func71 rfl (by kernel_rfl) rfl (go ?_)
 refine L.bs [WS.v ⟨a1,c1,l1⟩,WS.v ⟨a2,c2,l2⟩] rfl rfl rfl rfl rfl rfl ?_
 have hc:Cons S (S++[newR [WS.v ⟨a1,c1,l1⟩,WS.v ⟨a2,c2,l2⟩] 22]):=Cons.push _ _
 have hs:Slv (S++[newR [WS.v ⟨a1,c1,l1⟩,WS.v ⟨a2,c2,l2⟩] 22]) 1 (.slice (some ⟨S.length,0,none⟩) 2 2) 2 ([WS.mk a1 c1 l1,WS.mk a2 c2 l2].map WS.v):=Slv.all (row_push_new rfl) rfl rfl
 generalize S++[newR [WS.v ⟨a1,c1,l1⟩,WS.v ⟨a2,c2,l2⟩] 22]=S1 at *
 refine L.cl (fit_C _ [⟨a1,c1,l1⟩,⟨a2,c2,l2⟩] S1 hs (fun w hw=>by
  simp only [List.mem_cons,List.not_mem_nil,or_false] at hw
  rcases hw with rfl | rfl
  ·exact h1.cons hc
  ·exact h2.cons hc) (by simp)) rfl rfl ?_
 rintro _ _ ⟨rfl,rfl⟩
 refine⟨nofun,go ?_⟩
 refine W.ite rfl (fun h=>?_) (fun h=>?_)
 ·have hsm:(small l1 && small l2)=false:=by
   have h0:=h
   simp at h0
   cases hq:small l1<;>simp_all
  refine go ?_
  exact⟨.inr rfl,_,rfl,Hd0,(by unfold subE;rw[hsm];rfl),by unfold subL;rw[hsm];exact RetW.nil hc⟩
 have hsm:(small l1 && small l2)=true:=by
  have h0:=h
  simp at h0
  cases hq:small l1<;>simp_all
 clear h
 have hsm2:=hsm
 rw[Bool.and_eq_true] at hsm2
 rename Mem=>S1
 have hI1:=h1.cons hc
 have hI2:=h2.cons hc
 refine go ?_
 refine L.cl (natCmp_C a1 a2 c1 c2 l1 l2 _ hI1 hI2) rfl rfl ?_
 rintro _ _ ⟨rfl,rfl⟩
 refine⟨nofun,go ?_⟩
 refine W.ite rfl (fun h=>?_) (fun h=>?_)
 ·have hlt:wnum l1<wnum l2:=by
   have h0:=of_decide_eq_true h
   unfold cmpI at h0
   split at h0
   ·omega
   ·split at h0<;>omega
  clear h
  refine go ?_
  exact⟨.inr rfl,_,rfl,Hd0,(by unfold subE;rw[hsm,if_pos rfl,if_pos hlt];rfl),by unfold subL;rw[hsm,if_pos rfl,if_pos hlt];exact RetW.nil hc⟩
 have hge:¬ wnum l1<wnum l2:=by
  intro hlt
  have h0:=of_decide_eq_false h
  unfold cmpI at h0
  rw[if_pos (by omega)] at h0
  omega
 clear h
 refine go ?_
 refine L.cl (trim_C a1 c1 l1 _ hI1) rfl rfl ?_
 rintro _ _ ⟨rfl,rfl⟩
 refine⟨nofun,go ?_⟩
 refine L.cl (trim_C a2 c2 l2 _ hI2) rfl rfl ?_
 rintro _ _ ⟨rfl,rfl⟩
 refine⟨nofun,?_⟩
 rename Mem=>S1
 have hF1:=hI1.form
 have hF2:=hI2.form
 have hll:(fm l2).length≤(fm l1).length:=by
  refine Classical.byContradiction fun hc=>?_
  have:=cmp_len (l1:=l1) (l2:=l2) (by omega)
  omega
 have b1:(fm l1).length≤128:=of_decide_eq_true hsm2.1
 have eE:subE l1 l2=toldE (toW (wnum (fm l1) - wnum (fm l2))):=by unfold subE;rw[hsm,if_pos rfl,if_neg hge,show wnum (fm l1)=wnum l1 from wnum_toW _,show wnum (fm l2)=wnum l2 from wnum_toW _]
 have eL:subL l1 l2=toldL (toW (wnum (fm l1) - wnum (fm l2))):=by unfold subL;rw[hsm,if_pos rfl,if_neg hge,show wnum (fm l1)=wnum l1 from wnum_toW _,show wnum (fm l2)=wnum l2 from wnum_toW _]
 have hge2:wnum (fm l2)≤wnum (fm l1):=by rw[show wnum (fm l1)=wnum l1 from wnum_toW _,show wnum (fm l2)=wnum l2 from wnum_toW _];omega
 rw[eE,eL]
 clear hsm hsm2 eE eL hI1 hI2 hs hge
 generalize fm l1=f1 at *
 generalize fm l2=f2 at *
 refine go ?_
 refine L.mk (n:=f1.length) (m:=f1.length) (bytes:=8) (zv:=v64 0#64) rfl rfl rfl rfl rfl (Nat.le_refl _) (by omega) rfl rfl ?_
 have hro:Mem.row? (S1++[newR (List.replicate f1.length (v64 0#64)) 57]) S1.length=some (newR (wv (List.replicate f1.length 0#64)) 57):=by
  rw[row_push_new rfl];simp [wv]
 have hk5:=Cons.push S1 (newR (List.replicate f1.length (v64 0#64)) 57)
 have hSr:S.length≤S1.length:=hc.len
 generalize S1++[newR (List.replicate f1.length (v64 0#64)) 57]=S3 at *
 obtain⟨ro,hro0⟩:∃ ro,ro=S1.length:=⟨_,rfl⟩
 rw[← hro0] at hro hSr ⊢
 refine go ?_
 refine W.loop (fun j e T=>∃ (i:Nat) (o:WL) (cr:Nat),j=f1.length - i∧i≤f1.length∧e 0=.slice a1 f1.length c1∧e 1=.slice a2 f2.length c2∧e 6=.slice (some ⟨ro,0,none⟩) f1.length f1.length∧e 7=.int .u64 (cr:Int)∧e 27=vi f1.length∧e 28=vi i∧Cons S1 T∧T.row? ro=some (newR (wv o) 57)∧o.length=f1.length∧cr≤1∧wnum o+wnum (f2.take i)=wnum (f1.take i)+cr*2^(64*i)∧∀ p,i≤p→p<f1.length→o[p]?=some 0#64) f1.length
  ⟨0,List.replicate f1.length 0#64,0,by omega,by omega,rfl,rfl,rfl,rfl,rfl,rfl,hk5,hro,by simp,by omega,by rw[wnum_zeros];simp [wnum],fun p _ hp=>by simp [hp]⟩ ?_
 clear hro hk5
 rintro j e T ⟨i,o,cr,rfl,hi,e0,e1,e6,e7,e27,e28,hkT,hro,hol,hcr,hsum,hz⟩
 refine W.env6 e0 e1 e6 e7 e27 e28 (go ?_)
 refine W.ite rfl (fun h=>?_) (fun h=>?_)
 ·have hin:i<f1.length:=by have:=of_decide_eq_true h;omega
  clear h
  obtain⟨x,hx⟩:∃ x,f1[i]?=some x:=⟨_,List.getElem?_eq_getElem hin⟩
  have hxl:=x.isLt
  have hz0:=hz i (Nat.le_refl _) hin
  refine go ?_
  refine W.ite rfl (fun h=>?_) (fun h=>?_)
  ·have hi2:i<f2.length:=by have:=of_decide_eq_true h;omega
   clear h
   obtain⟨y,hy⟩:∃ y,f2[i]?=some y:=⟨_,List.getElem?_eq_getElem hi2⟩
   have hyl:=y.isLt
   have hty:=wnum_take_succ hy
   refine go ?_
   refine L.el (hF2.1.cons hkT) (k:=i) rfl (wv_get hy) rfl rfl rfl rfl (fun _=>rfl) rfl (fun p=>go ?_)
   refine L.el (hF1.1.cons hkT) (k:=i) rfl (wv_get hx) rfl rfl rfl rfl (fun _=>rfl) rfl (fun p=>go ?_)
   refine L.sub64 (a:=x.toNat) (b:=y.toNat) (c:=cr) hcr rfl rfl (go ?_)
   obtain⟨r,hrv⟩:=word_ofN (show (x.toNat+18446744073709551616 - y.toNat - cr) % 18446744073709551616<18446744073709551616 from Nat.mod_lt _ (by decide))
   have hst:=sub_one (x:=x.toNat) (y:=y.toNat) (l:=cr) (by omega) (by omega) hcr
   rw[← hrv] at hst ⊢
   obtain⟨cr2,hcr2⟩:∃ cr2,cr2=(if x.toNat<y.toNat+cr then 1 else 0:Nat):=⟨_,rfl⟩
   have hcl:cr2≤1:=by rw[hcr2];split<;>omega
   rw[← hcr2] at hst ⊢
   refine L.elst hro rfl (by show 0+f1.length≤(wv o).length;rw[wv_len,hol];omega) (k:=i) rfl (by omega) rfl rfl rfl rfl (fun _=>rfl) (fun _=>rfl) rfl rfl rfl (fun p=>?_)
   have hr2:Mem.row? (List.set T ro { newR (wv o) 57 with cells:=(newR (wv o) 57).cells.set (0+i) (v64 r) }) ro=some (newR (wv (o.set i r)) 57):=by
    rw[row_set_same hro rfl,Nat.zero_add]
    simp [newR,wv,List.map_set]
   have hk6:=hkT.set ro { newR (wv o) 57 with cells:=(newR (wv o) 57).cells.set (0+i) (v64 r) } (by omega)
   have hws:=wnum_set (y:=r) hz0
   generalize List.set T ro _=T6 at *
   refine go ?_
   refine⟨f1.length - (i+1),by omega,i+1,o.set i r,cr2,rfl,by omega,rfl,rfl,rfl,rfl,rfl,?_,hk6,hr2,by simpa using hol,hcl,?_,fun p hp1 hp2=>?_⟩
   ·refine(force_eq rfl).trans ?_
    rw[wrap64 (by omega) (by omega)];rfl
   ·rw[wnum_take_succ hx,hty]
    have hz1:(0#64:BitVec 64).toNat * 2^(64*i)=0:=Nat.zero_mul _
    rw[hz1] at hws
    have hp:2^(64*(i+1))=2^(64*i)*18446744073709551616:=by rw[show 64*(i+1)=64*i+64 by omega,Nat.pow_add]
    rw[hp]
    have e3:(r.toNat+(y.toNat+cr))*2^(64*i)=(x.toNat+18446744073709551616*cr2)*2^(64*i):=by rw[hst]
    rw[Nat.add_mul,Nat.add_mul,Nat.add_mul,Nat.mul_comm _ cr2,Nat.mul_assoc] at e3
    rw[Nat.mul_comm (2^(64*i)) 18446744073709551616,Nat.mul_comm _ x.toNat,Nat.mul_comm _ (y.toNat)]
    omega
   ·rw[List.getElem?_set,if_neg (by omega)];exact hz p (by omega) hp2
  ·have hi2:f2.length≤i:=by have:=of_decide_eq_false h;omega
   clear h
   have hty:wnum (f2.take (i+1))=wnum (f2.take i)+2^(64*i)*0:=by rw[take_more hi2];omega
   refine go ?_
   refine L.el (hF1.1.cons hkT) (k:=i) rfl (wv_get hx) rfl rfl rfl rfl (fun _=>rfl) rfl (fun p=>go ?_)
   refine L.sub64 (a:=x.toNat) (b:=0) (c:=cr) hcr rfl rfl (go ?_)
   obtain⟨r,hrv⟩:=word_ofN (show (x.toNat+18446744073709551616 - 0 - cr) % 18446744073709551616<18446744073709551616 from Nat.mod_lt _ (by decide))
   have hst:=sub_one (x:=x.toNat) (y:=0) (l:=cr) (by omega) (by omega) hcr
   rw[← hrv] at hst ⊢
   obtain⟨cr2,hcr2⟩:∃ cr2,cr2=(if x.toNat<0+cr then 1 else 0:Nat):=⟨_,rfl⟩
   have hcl:cr2≤1:=by rw[hcr2];split<;>omega
   rw[← hcr2] at hst ⊢
   refine L.elst hro rfl (by show 0+f1.length≤(wv o).length;rw[wv_len,hol];omega) (k:=i) rfl (by omega) rfl rfl rfl rfl (fun _=>rfl) (fun _=>rfl) rfl rfl rfl (fun p=>?_)
   have hr2:Mem.row? (List.set T ro { newR (wv o) 57 with cells:=(newR (wv o) 57).cells.set (0+i) (v64 r) }) ro=some (newR (wv (o.set i r)) 57):=by
    rw[row_set_same hro rfl,Nat.zero_add]
    simp [newR,wv,List.map_set]
   have hk6:=hkT.set ro { newR (wv o) 57 with cells:=(newR (wv o) 57).cells.set (0+i) (v64 r) } (by omega)
   have hws:=wnum_set (y:=r) hz0
   generalize List.set T ro _=T6 at *
   refine go ?_
   refine⟨f1.length - (i+1),by omega,i+1,o.set i r,cr2,rfl,by omega,rfl,rfl,rfl,rfl,rfl,?_,hk6,hr2,by simpa using hol,hcl,?_,fun p hp1 hp2=>?_⟩
   ·refine(force_eq rfl).trans ?_
    rw[wrap64 (by omega) (by omega)];rfl
   ·rw[wnum_take_succ hx,hty]
    have hz1:(0#64:BitVec 64).toNat * 2^(64*i)=0:=Nat.zero_mul _
    rw[hz1] at hws
    have hp:2^(64*(i+1))=2^(64*i)*18446744073709551616:=by rw[show 64*(i+1)=64*i+64 by omega,Nat.pow_add]
    rw[hp]
    have e3:(r.toNat+(0+cr))*2^(64*i)=(x.toNat+18446744073709551616*cr2)*2^(64*i):=by rw[hst]
    rw[Nat.add_mul,Nat.add_mul,Nat.add_mul,Nat.mul_comm _ cr2,Nat.mul_assoc] at e3
    rw[Nat.mul_comm (2^(64*i)) 18446744073709551616,Nat.mul_comm _ x.toNat,Nat.mul_comm _ (0)]
    omega
   ·rw[List.getElem?_set,if_neg (by omega)];exact hz p (by omega) hp2
 ·have hin:i=f1.length:=by have:=of_decide_eq_false h;omega
  subst hin
  clear h
  rw[List.take_length,List.take_of_length_le (show f2.length≤f1.length by omega)] at hsum
  have hlt:=wnum_lt o
  rw[hol] at hlt
  have hcr0:cr=0:=by
   rcases Nat.lt_or_ge 0 cr with h | h
   ·have h1:cr=1:=by omega
    subst h1
    rw[Nat.one_mul] at hsum
    omega
   ·omega
  subst hcr0
  rw[Nat.zero_mul,Nat.add_zero] at hsum
  have hnum:wnum o=wnum f1 - wnum f2:=by omega
  have hO:WOwn T S.length (some ⟨ro,0,none⟩) f1.length o:=WOwn.row hro hol hSr (by omega)
  refine go ?_
  refine L.cl (told_C S _ _ o T hO (hc.trans hkT)) rfl (by rw[hol];rfl) ?_
  rintro _ _ ⟨rfl,d2,rfl,hR2⟩
  refine⟨nofun,go ?_⟩
  have t:=told_fm o
  unfold fm at t
  rw[hnum] at t
  rw[← t.1] at hR2
  exact⟨.inr rfl,_,rfl,d2,by rw[t.2];rfl,hR2⟩
end
section
open Go Ie
variable {Ext:FuncId→List Value→Mem→Outc→Mem→Prop}
theorem mid_slv {S:Mem} {b n c:Nat} {lo m hi:WL} (hr:S.row? b=some (newR (wv (lo++m++hi)) 57)) (hm:m.length=n):Slv S 1 (.slice (some ⟨b,lo.length,none⟩) n c) n (wv m):=by
 have hn:lo.length+n*1≤(newR (wv (lo++m++hi)) 57).cells.length:=by
  show _≤(wv (lo++m++hi)).length
  rw[wv_len,List.length_append,List.length_append];omega
 have:=Slv.of (c:=c) hr hn (.inl rfl)
 have e:((newR (wv (lo++m++hi)) 57).cells.drop lo.length).take (n*1)=wv m:=by
  show ((wv (lo++m++hi)).drop lo.length).take (n*1)=wv m
  unfold wv
  rw[← List.map_drop,← List.map_take,List.append_assoc,List.drop_left,Nat.mul_one,← hm,List.take_left]
 rwa [e] at this
theorem mid_set {S:Mem} {b k:Nat} {lo m hi:WL} {r:BitVec 64} (h:S.row? b=some (newR (wv (lo++m++hi)) 57)) (hk:k<m.length):Mem.row? (List.set S b { newR (wv (lo++m++hi)) 57 with cells:=(newR (wv (lo++m++hi)) 57).cells.set (lo.length+k) (v64 r) }) b=some (newR (wv (lo++m.set k r++hi)) 57):=by
 rw[row_set_same h rfl]
 have e:(lo++m++hi).set (lo.length+k) r=lo++m.set k r++hi:=by
  rw[List.append_assoc,List.append_assoc,List.set_append,if_neg (by omega),Nat.add_sub_cancel_left,List.set_append,if_pos hk]
 show some (newR ((wv (lo++m++hi)).set (lo.length+k) (v64 r)) 57)=_
 rw[← e]
 unfold wv
 rw[List.map_set]
theorem WIn.keepb {S S':Mem} {b c:Nat} {a:Option Addr} {l:WL} (h:WIn S a c l) (hk:Keep b S S') (hf:∀ x,a=some x→x.block≠b):WIn S' a c l:=⟨h.1.keepb hk hf,h.2⟩
theorem take_two {l:WL} {n:Nat} {x y:BitVec 64} (hl:l.length=n+2) (hx:l[n]?=some x) (hy:l[n+1]?=some y):wnum l=wnum (l.take n)+2^(64*n)*(y.toNat * 18446744073709551616+x.toNat):=by
 have h1:=wnum_take_succ hx
 have h2:=wnum_take_succ hy
 rw[List.take_of_length_le (by omega),h1,pow64_succ] at h2
 rw[h2,Nat.mul_add,Nat.mul_assoc,Nat.mul_comm 18446744073709551616];omega
def Est (f m0:WL) (q:Nat):Prop:=q<18446744073709551616∧wnum m0<(q+1)*wnum f
theorem digit_C (b c:Nat) (av:Option Addr) (cv:Nat) (lo m0 hi f:WL) (S:Mem) (hr:S.row? b=some (newR (wv (lo++m0++hi)) 57)) (hv:WIn S av cv f) (hne:∀ x,av=some x→x.block≠b)
  (hm0:m0.length=f.length+1) (hf:0<f.length) (hcan:Canon f) (hfl:f.length<100000) (hlt:wnum m0<wnum f*18446744073709551616) :
  C Tryz.prog gN Ext 157 [.slice (some ⟨b,lo.length,none⟩) (f.length+1) c,.slice av f.length cv] S fun v T=>∃ (q:BitVec 64) (m:WL),v=v64 q∧T.length=S.length∧Keep b S T∧T.row? b=some (newR (wv (lo++m++hi)) 57)∧m.length=f.length+1∧wnum m+q.toNat * wnum f=wnum m0∧wnum m<wnum f:=by
 obtain⟨n,hn⟩:∃ n,f.length=n+1:=⟨f.length - 1,by omega⟩
 obtain⟨t,ht⟩:∃ t,f[n]?=some t:=⟨_,List.getElem?_eq_getElem (by omega)⟩
 have ht0:t.toNat≠0:=fun e=>hcan (by
  rw[List.getLast?_eq_getElem?,hn,Nat.add_sub_cancel,ht]
  exact congrArg some (BitVec.eq_of_toNat_eq (by simpa using e)))
 obtain⟨x1,hx1⟩:∃ x,m0[n]?=some x:=⟨_,List.getElem?_eq_getElem (by omega)⟩
 obtain⟨x2,hx2⟩:∃ x,m0[n+1]?=some x:=⟨_,List.getElem?_eq_getElem (by omega)⟩
 have hm2:=take_two (by omega) hx1 hx2
 have hfv:=wnum_take_succ ht
 rw[List.take_of_length_le (by omega)] at hfv
 have hlo1:=wnum_lt (m0.take n)
 rw[List.length_take,Nat.min_eq_left (by omega)] at hlo1
 have hn1:IntKind.i64.wrap ((f.length:Int) - 1)=(n:Int):=by rw[wrap64 (by omega) (by omega)];omega
 have hsl0:Slv S 1 (.slice (some ⟨b,lo.length,none⟩) (f.length+1) c) (f.length+1) (wv m0):=mid_slv hr (by omega)
 refine C.fn Tryz.func157 rfl (by kernel_rfl) rfl (go ?_)
 refine L.el hsl0 (k:=f.length) rfl (wv_get (by rw[hn];exact hx2)) rfl rfl rfl rfl (fun _=>rfl) rfl (fun p=>go ?_)
 refine L.el hv.1 (k:=n) hn1 (wv_get ht) rfl rfl rfl rfl (fun _=>rfl) rfl (fun p=>go ?_)
 refine W.mono (R:=fun x e' S'=>x=.nrm∧S'=S∧∃ q:Nat,e' 0=.slice (some ⟨b,lo.length,none⟩) (f.length+1) c∧e' 1=.slice av f.length cv∧e' 5=vi f.length∧e' 6=.int .u64 (q:Int)∧Est f m0 q) ?_ ?_
 ·refine W.ite rfl (fun h=>?_) (fun h=>?_)
  ·have hxt:x2.toNat<t.toNat:=by have:=of_decide_eq_true h;omega
   clear h
   refine go ?_
   refine L.el hsl0 (k:=f.length) rfl (wv_get (by rw[hn];exact hx2)) rfl rfl rfl rfl (fun _=>rfl) rfl (fun p=>go ?_)
   refine L.el hsl0 (k:=n) hn1 (wv_get hx1) rfl rfl rfl rfl (fun _=>rfl) rfl (fun p=>go ?_)
   refine L.el hv.1 (k:=n) hn1 (wv_get ht) rfl rfl rfl rfl (fun _=>rfl) rfl (fun p=>?_)
   refine L.cl (div64_C x2.toNat x1.toNat t.toNat S hxt x1.isLt t.isLt) rfl rfl ?_
   rintro _ _ ⟨rfl,rfl⟩
   refine⟨nofun,go ?_⟩
   refine⟨rfl,rfl,_,rfl,rfl,rfl,rfl,?_,est_top hm2 hlo1 hfv (by omega)⟩
   have:=x1.isLt
   exact Nat.div_lt_of_lt_mul (by have:=Nat.mul_le_mul_right 18446744073709551616 (Nat.succ_le_of_lt hxt);rw[Nat.succ_mul] at this;omega)
  ·refine go ?_
   refine⟨rfl,rfl,18446744073709551615,rfl,rfl,rfl,rfl,by decide,?_⟩
   rw[Nat.mul_comm];exact hlt
 clear hx1 hx2 hm2 hlo1
 rintro _ e S1 ⟨rfl,hS1,q,e0,e1,e5,e6,hq,hest⟩
 subst hS1
 rename Mem=>S
 refine W.env4 e0 e1 e5 e6 (go ?_)
 refine W.loop (fun j e T=>∃ (i:Nat) (m:WL) (cr l:Nat),j=f.length - i∧i≤f.length∧e 0=.slice (some ⟨b,lo.length,none⟩) (f.length+1) c∧e 1=.slice av f.length cv∧e 5=vi f.length∧e 6=.int .u64 (q:Int)∧e 7=.int .u64 (cr:Int)∧e 8=.int .u64 (l:Int)∧e 46=vi f.length∧e 47=vi i∧T.length=S.length∧Keep b S T∧T.row? b=some (newR (wv (lo++m++hi)) 57)∧m.length=f.length+1∧cr<18446744073709551616∧l≤1∧wnum m+q*wnum (f.take i)=wnum m0+(cr+l)*2^(64*i)) f.length
  ⟨0,m0,0,0,by omega,by omega,rfl,rfl,rfl,rfl,rfl,rfl,rfl,rfl,rfl,Keep.refl _ _,hr,hm0,by decide,by decide,by simp [wnum]⟩ ?_
 rintro j e T ⟨i,m,cr,l,rfl,hi2,e0,e1,e5,e6,e7,e8,e46,e47,hln,hk,hro,hml,hcr,hl,hsum⟩
 refine W.env8 e0 e1 e5 e6 e7 e8 e46 e47 (go ?_)
 refine W.ite rfl (fun h=>?_) (fun h=>?_)
 ·have hin:i<f.length:=by have:=of_decide_eq_true h;omega
  clear h
  obtain⟨y,hy⟩:∃ y,f[i]?=some y:=⟨_,List.getElem?_eq_getElem hin⟩
  obtain⟨x,hx⟩:∃ x,m[i]?=some x:=⟨_,List.getElem?_eq_getElem (by omega)⟩
  have hsl:Slv T 1 (.slice (some ⟨b,lo.length,none⟩) (f.length+1) c) (f.length+1) (wv m):=mid_slv hro hml
  obtain⟨qw,hqw⟩:=word_of hq
  have hxl:=x.isLt
  have hyl:=y.isLt
  obtain⟨XY,hXY⟩:∃ XY,XY=q*y.toNat:=⟨_,rfl⟩
  have hXYl:XY≤18446744073709551615*18446744073709551615:=by rw[hXY];exact Nat.mul_le_mul (by omega) (by omega)
  have hlo2:(qw*y).toNat=XY % 18446744073709551616:=by rw[BitVec.toNat_mul,hXY,hqw]
  have hhi2:(hiW qw y).toNat=XY / 18446744073709551616:=by rw[hiW_val,hXY,hqw]
  refine go ?_
  refine L.el (hv.keepb hk hne).1 (k:=i) rfl (wv_get hy) rfl rfl rfl rfl (fun _=>rfl) rfl (fun p=>?_)
  rw[← hqw]
  refine L.cl (mul64_C qw y T) rfl rfl ?_
  rintro _ T5 ⟨rfl,hT5⟩
  have hT5:=hT5.symm
  subst hT5
  refine⟨nofun,go ?_⟩
  rw[hlo2,hhi2]
  refine L.add64 (a:=XY % 18446744073709551616) (b:=cr) (c:=0) (by omega) rfl rfl (go ?_)
  rw[uadd (a:=XY / 18446744073709551616) (b:=(XY % 18446744073709551616+cr+0) / 18446744073709551616) (by omega)]
  rw[show (XY % 18446744073709551616+cr+0) % 18446744073709551616=(XY+cr) % 18446744073709551616 by omega,show XY / 18446744073709551616+(XY % 18446744073709551616+cr+0) / 18446744073709551616=(XY+cr) / 18446744073709551616 by omega]
  refine L.el hsl (k:=i) rfl (wv_get hx) rfl rfl rfl rfl (fun _=>rfl) rfl (fun p=>go ?_)
  refine L.sub64 (a:=x.toNat) (b:=(XY+cr) % 18446744073709551616) (c:=l) hl rfl rfl (go ?_)
  obtain⟨r,hrv⟩:=word_of (show (x.toNat+18446744073709551616 - (XY+cr) % 18446744073709551616 - l) % 18446744073709551616<18446744073709551616 from Nat.mod_lt _ (by decide))
  have hst:=sub_step (W:=0) (V:=0) (C:=0) (P:=0) hxl hyl hq hcr hl
  rw[← hXY,← hrv] at hst
  rw[← hrv]
  obtain⟨l2,hl2⟩:∃ l2,l2=(if x.toNat<(XY+cr) % 18446744073709551616+l then 1 else 0:Nat):=⟨_,rfl⟩
  have hll:l2≤1:=by rw[hl2];split<;>omega
  rw[← hl2] at hst ⊢
  refine L.elst hro rfl (by show lo.length+(f.length+1)≤(wv (lo++m++hi)).length;rw[wv_len,List.length_append,List.length_append,hml];omega) (k:=i) rfl (by omega) rfl rfl rfl rfl (fun _=>rfl) (fun _=>rfl) rfl rfl rfl (fun p=>?_)
  have hro2:=mid_set (k:=i) (r:=r) hro (by omega)
  have hk6:=hk.trans (Keep.set b T { newR (wv (lo++m++hi)) 57 with cells:=(newR (wv (lo++m++hi)) 57).cells.set (lo.length+i) (v64 r) })
  have hln6:(List.set T b { newR (wv (lo++m++hi)) 57 with cells:=(newR (wv (lo++m++hi)) 57).cells.set (lo.length+i) (v64 r) }).length=S.length:=by rw[List.length_set,hln]
  have hws:=wnum_set (y:=r) hx
  generalize List.set T b _=T6 at *
  refine go ?_
  rw[hqw]
  refine⟨f.length - (i+1),by omega,i+1,m.set i r,(XY+cr) / 18446744073709551616,l2,rfl,by omega,rfl,rfl,rfl,rfl,rfl,rfl,rfl,?_,hln6,hk6,hro2,by simpa using hml,by omega,hll,?_⟩
  ·refine(force_eq rfl).trans ?_
   rw[wrap64 (by omega) (by omega)];rfl
  ·rw[wnum_take_succ hy,pow64_succ]
   have e3:(r.toNat+(XY+cr+l))*2^(64*i)=(x.toNat+18446744073709551616*((XY+cr) / 18446744073709551616+l2))*2^(64*i):=by rw[hst]
   rw[Nat.add_mul,Nat.add_mul (XY+cr),Nat.add_mul XY,Nat.add_mul x.toNat,Nat.mul_comm 18446744073709551616,Nat.mul_assoc,Nat.mul_comm 18446744073709551616] at e3
   rw[Nat.add_mul cr] at hsum
   have e4:q*(2^(64*i)*y.toNat)=XY*2^(64*i):=by rw[hXY,Nat.mul_assoc,Nat.mul_comm y.toNat]
   rw[Nat.mul_add,e4]
   omega
 have hin:i=f.length:=by have:=of_decide_eq_false h;omega
 subst hin
 clear h
 rw[List.take_length] at hsum
 obtain⟨x,hx⟩:∃ x,m[f.length]?=some x:=⟨_,List.getElem?_eq_getElem (by omega)⟩
 have hxl:=x.isLt
 have hsl:Slv T 1 (.slice (some ⟨b,lo.length,none⟩) (f.length+1) c) (f.length+1) (wv m):=mid_slv hro hml
 refine go ?_
 refine L.el hsl (k:=f.length) rfl (wv_get hx) rfl rfl rfl rfl (fun _=>rfl) rfl (fun p=>go ?_)
 refine L.sub64 (a:=x.toNat) (b:=cr) (c:=l) hl rfl rfl (go ?_)
 obtain⟨r,hrv⟩:=word_of (show (x.toNat+18446744073709551616 - cr - l) % 18446744073709551616<18446744073709551616 from Nat.mod_lt _ (by decide))
 have hst:=sub_one (x:=x.toNat) (y:=cr) (l:=l) hxl hcr hl
 rw[← hrv] at hst ⊢
 obtain⟨l2,hl2⟩:∃ l2,l2=(if x.toNat<cr+l then 1 else 0:Nat):=⟨_,rfl⟩
 have hll:l2≤1:=by rw[hl2];split<;>omega
 rw[← hl2] at hst ⊢
 refine L.elst hro rfl (by show lo.length+(f.length+1)≤(wv (lo++m++hi)).length;rw[wv_len,List.length_append,List.length_append,hml];omega) (k:=f.length) rfl (by omega) rfl rfl rfl rfl (fun _=>rfl) (fun _=>rfl) rfl rfl rfl (fun p=>?_)
 have hro2:=mid_set (k:=f.length) (r:=r) hro (by omega)
 have hk6:=hk.trans (Keep.set b T { newR (wv (lo++m++hi)) 57 with cells:=(newR (wv (lo++m++hi)) 57).cells.set (lo.length+f.length) (v64 r) })
 have hln6:(List.set T b { newR (wv (lo++m++hi)) 57 with cells:=(newR (wv (lo++m++hi)) 57).cells.set (lo.length+f.length) (v64 r) }).length=S.length:=by rw[List.length_set,hln]
 have hws:=wnum_set (y:=r) hx
 generalize List.set T b _=T6 at *
 refine go ?_
 have hsum2:wnum (m.set f.length r)+q*wnum f=wnum m0+l2*2^(64*(f.length+1)):=by
  rw[pow64_succ]
  have e3:(r.toNat+(cr+l))*2^(64*f.length)=(x.toNat+18446744073709551616*l2)*2^(64*f.length):=by rw[hst]
  rw[Nat.add_mul,Nat.add_mul x.toNat,Nat.mul_comm 18446744073709551616,Nat.mul_assoc,Nat.mul_comm 18446744073709551616] at e3
  omega
 clear hsum hst hws hsl hro hrv hx hk hln hcr hl hl2
 have hml2:(m.set f.length r).length=f.length+1:=by simpa using hml
 clear hml
 generalize m.set f.length r=m1 at *
 refine W.loop (fun j e T=>∃ (m:WL) (q l:Nat),j=q∧e 0=.slice (some ⟨b,lo.length,none⟩) (f.length+1) c∧e 1=.slice av f.length cv∧e 5=vi f.length∧e 6=.int .u64 (q:Int)∧e 8=.int .u64 (l:Int)∧T.length=S.length∧Keep b S T∧T.row? b=some (newR (wv (lo++m++hi)) 57)∧m.length=f.length+1∧l≤1∧wnum m+q*wnum f=wnum m0+l*2^(64*(f.length+1))∧Est f m0 q) q
  ⟨m1,q,l2,rfl,rfl,rfl,rfl,rfl,rfl,hln6,hk6,hro2,hml2,hll,hsum2,hq,hest⟩ ?_
 clear hsum2 hll hml2 hro2 hk6 hln6 hest hq e0 e1 e5 e6 e7 e8 e46 e47
 clear e
 rintro j e T ⟨m,q,l,rfl,e0,e1,e5,e6,e8,hln,hk,hro,hml,hl,hsum,hq,hest⟩
 refine W.env5 e0 e1 e5 e6 e8 (go ?_)
 refine W.ite rfl (fun h=>?_) (fun h=>?_)
 rotate_left
 ·have hl0:l=0:=by have:=of_decide_eq_false h;omega
  subst hl0
  rw[Nat.zero_mul,Nat.add_zero] at hsum
  clear h
  obtain⟨qw,hqw⟩:=word_of hq
  refine go ?_
  rw[← hqw]
  refine⟨.inr rfl,_,rfl,qw,m,rfl,hln,hk,hro,hml,by rw[hqw];exact hsum,?_⟩
  rw[Nat.add_mul,Nat.one_mul] at hest
  omega
 have hl1:l=1:=by have:=of_decide_eq_true h;omega
 subst hl1
 clear h
 rw[Nat.one_mul] at hsum
 have hmlt:=wnum_lt m
 rw[hml] at hmlt
 have hq1:1≤j:=by
  rcases Nat.eq_zero_or_pos j with h0 | h0
  ·subst h0;rw[Nat.zero_mul] at hsum;omega
  ·exact h0
 have hwq:IntKind.u64.wrap ((j:Int) - 1)=((j - 1:Nat):Int):=usub (b:=1) hq hq1
 have hqs:j*wnum f=(j - 1)*wnum f+wnum f:=by
  conv=>lhs;rw[show j=j - 1+1 by omega,Nat.add_mul,Nat.one_mul]
 refine go ?_
 refine W.loop (fun k e T=>∃ (i:Nat) (m2:WL) (cr:Nat),k=f.length - i∧i≤f.length∧e 0=.slice (some ⟨b,lo.length,none⟩) (f.length+1) c∧e 1=.slice av f.length cv∧e 5=vi f.length∧e 6=.int .u64 ((j - 1:Nat):Int)∧e 8=.int .u64 1∧e 13=.int .u64 (cr:Int)∧e 100=vi f.length∧e 101=vi i∧T.length=S.length∧Keep b S T∧T.row? b=some (newR (wv (lo++m2++hi)) 57)∧m2.length=f.length+1∧cr≤1∧wnum m2+cr*2^(64*i)=wnum m+wnum (f.take i)) f.length
  ⟨0,m,0,by omega,by omega,rfl,rfl,rfl,(force_eq rfl).trans (congrArg (Value.int .u64) hwq),rfl,rfl,rfl,rfl,hln,hk,hro,hml,by decide,by simp [wnum]⟩ ?_
 clear hln hk hro hml e0 e1 e5 e6 e8
 clear e
 obtain⟨m1,hm1⟩:∃ m1,m1=m:=⟨_,rfl⟩
 rw[← hm1] at hmlt hsum ⊢
 clear hm1 m
 rintro k e T ⟨i,m,cr,rfl,hi2,e0,e1,e5,e6,e8,e13,e100,e101,hln,hk,hro,hml,hcr,hsm⟩
 refine W.env8 e0 e1 e5 e6 e8 e13 e100 e101 ?_
 have hsl:Slv T 1 (.slice (some ⟨b,lo.length,none⟩) (f.length+1) c) (f.length+1) (wv m):=mid_slv hro hml
 refine go ?_
 refine W.ite rfl (fun h=>?_) (fun h=>?_)
 ·have hin:i<f.length:=by have:=of_decide_eq_true h;omega
  clear h
  obtain⟨y,hy⟩:∃ y,f[i]?=some y:=⟨_,List.getElem?_eq_getElem hin⟩
  obtain⟨x,hx⟩:∃ x,m[i]?=some x:=⟨_,List.getElem?_eq_getElem (by omega)⟩
  have hxl:=x.isLt
  have hyl:=y.isLt
  refine go ?_
  refine L.el hsl (k:=i) rfl (wv_get hx) rfl rfl rfl rfl (fun _=>rfl) rfl (fun p=>go ?_)
  refine L.el (hv.keepb hk hne).1 (k:=i) rfl (wv_get hy) rfl rfl rfl rfl (fun _=>rfl) rfl (fun p=>go ?_)
  refine L.add64 (a:=x.toNat) (b:=y.toNat) (c:=cr) hcr rfl rfl (go ?_)
  obtain⟨r,hrv⟩:=word_of (show (x.toNat+y.toNat+cr) % 18446744073709551616<18446744073709551616 from Nat.mod_lt _ (by decide))
  rw[← hrv]
  refine L.elst hro rfl (by show lo.length+(f.length+1)≤(wv (lo++m++hi)).length;rw[wv_len,List.length_append,List.length_append,hml];omega) (k:=i) rfl (by omega) rfl rfl rfl rfl (fun _=>rfl) (fun _=>rfl) rfl rfl rfl (fun p=>?_)
  have hro2:=mid_set (k:=i) (r:=r) hro (by omega)
  have hk6:=hk.trans (Keep.set b T { newR (wv (lo++m++hi)) 57 with cells:=(newR (wv (lo++m++hi)) 57).cells.set (lo.length+i) (v64 r) })
  have hln6:(List.set T b { newR (wv (lo++m++hi)) 57 with cells:=(newR (wv (lo++m++hi)) 57).cells.set (lo.length+i) (v64 r) }).length=S.length:=by rw[List.length_set,hln]
  have hws:=wnum_set (y:=r) hx
  generalize List.set T b _=T6 at *
  refine go ?_
  refine⟨f.length - (i+1),by omega,i+1,m.set i r,(x.toNat+y.toNat+cr) / 18446744073709551616,rfl,by omega,rfl,rfl,rfl,rfl,rfl,rfl,rfl,?_,hln6,hk6,hro2,by simpa using hml,by omega,?_⟩
  ·refine(force_eq rfl).trans ?_
   rw[wrap64 (by omega) (by omega)];rfl
  ·rw[wnum_take_succ hy,pow64_succ]
   have e3:(r.toNat+(x.toNat+y.toNat+cr) / 18446744073709551616*18446744073709551616)*2^(64*i)=(x.toNat+y.toNat+cr)*2^(64*i):=by rw[hrv];congr 1;omega
   rw[Nat.add_mul,Nat.add_mul (x.toNat+y.toNat),Nat.add_mul x.toNat,Nat.mul_assoc,Nat.mul_comm 18446744073709551616] at e3
   rw[Nat.mul_comm _ y.toNat]
   omega
 have hin:i=f.length:=by have:=of_decide_eq_false h;omega
 subst hin
 clear h
 rw[List.take_length] at hsm
 obtain⟨x,hx⟩:∃ x,m[f.length]?=some x:=⟨_,List.getElem?_eq_getElem (by omega)⟩
 have hxl:=x.isLt
 refine go ?_
 refine L.el hsl (k:=f.length) rfl (wv_get hx) rfl rfl rfl rfl (fun _=>rfl) rfl (fun p=>go ?_)
 refine L.add64 (a:=x.toNat) (b:=0) (c:=cr) hcr rfl rfl (go ?_)
 obtain⟨r,hrv⟩:=word_of (show (x.toNat+0+cr) % 18446744073709551616<18446744073709551616 from Nat.mod_lt _ (by decide))
 rw[← hrv]
 obtain⟨c2,hc2⟩:∃ c2,c2=(x.toNat+0+cr) / 18446744073709551616:=⟨_,rfl⟩
 have hc2l:c2≤1:=by omega
 rw[← hc2]
 refine L.elst hro rfl (by show lo.length+(f.length+1)≤(wv (lo++m++hi)).length;rw[wv_len,List.length_append,List.length_append,hml];omega) (k:=f.length) rfl (by omega) rfl rfl rfl rfl (fun _=>rfl) (fun _=>rfl) rfl rfl rfl (fun p=>?_)
 have hro2:=mid_set (k:=f.length) (r:=r) hro (by omega)
 have hk6:=hk.trans (Keep.set b T { newR (wv (lo++m++hi)) 57 with cells:=(newR (wv (lo++m++hi)) 57).cells.set (lo.length+f.length) (v64 r) })
 have hln6:(List.set T b { newR (wv (lo++m++hi)) 57 with cells:=(newR (wv (lo++m++hi)) 57).cells.set (lo.length+f.length) (v64 r) }).length=S.length:=by rw[List.length_set,hln]
 have hws:=wnum_set (y:=r) hx
 generalize List.set T b _=T6 at *
 have hsum2:wnum (m.set f.length r)+(j - 1)*wnum f=wnum m0+(1 - c2)*2^(64*(f.length+1)):=by
  have e3:(r.toNat+c2*18446744073709551616)*2^(64*f.length)=(x.toNat+cr)*2^(64*f.length):=by rw[hrv,hc2];congr 1;omega
  rw[Nat.add_mul,Nat.add_mul x.toNat,Nat.mul_assoc,Nat.mul_comm 18446744073709551616] at e3
  rw[pow64_succ] at hsum ⊢
  rcases Nat.lt_or_ge c2 1 with h0 | h0
  ·rw[show c2=0 by omega,Nat.zero_mul] at e3
   rw[show 1 - c2=1 by omega,Nat.one_mul]
   omega
  ·rw[show c2=1 by omega,Nat.one_mul] at e3
   rw[show 1 - c2=0 by omega,Nat.zero_mul]
   omega
 have hest2:Est f m0 (j - 1):=by
  refine⟨by omega,?_⟩
  rw[Nat.sub_add_cancel hq1]
  omega
 refine go ?_
 refine⟨j - 1,by omega,m.set f.length r,j - 1,1 - c2,rfl,rfl,rfl,rfl,rfl,?_,hln6,hk6,hro2,by simpa using hml,by omega,hsum2,hest2⟩
 exact(force_eq rfl).trans (congrArg (Value.int .u64) (usub (a:=1) (b:=c2) (by decide) hc2l))
end
section
open Go Ie
variable {Ext:FuncId→List Value→Mem→Outc→Mem→Prop}
theorem div_step {lo m hi m' V:WL} {q j n:Nat} (hlo:lo.length=j) (hm:m.length=n+1) (hm':m'.length=n+1) (hV:V.length=n) (h:wnum (lo++m++hi)<wnum V*2^(64*(j+1))) :
  wnum m<wnum V*18446744073709551616∧(wnum m'+q*wnum V=wnum m→wnum m'<wnum V→wnum (lo++m'++hi)+q*2^(64*j)*wnum V=wnum (lo++m++hi)∧wnum (lo++m'++hi)<wnum V*2^(64*j)):=by
 have eo:wnum (lo++m++hi)=wnum lo+2^(64*j)*(wnum m+2^(64*(n+1))*wnum hi):=by rw[List.append_assoc,wnum_append lo,wnum_append m,hlo,hm]
 have eo':wnum (lo++m'++hi)=wnum lo+2^(64*j)*(wnum m'+2^(64*(n+1))*wnum hi):=by rw[List.append_assoc,wnum_append lo,wnum_append m',hlo,hm']
 rw[eo] at h ⊢
 rw[eo']
 have hVl:=wnum_lt V
 rw[hV] at hVl
 have hlol:=wnum_lt lo
 rw[hlo] at hlol
 have hp:=Nat.two_pow_pos (64*j)
 rw[pow64_succ j,← Nat.mul_assoc] at h
 have hz:wnum hi=0:=by
  refine Classical.byContradiction fun hc=>?_
  have h1:2^(64*(n+1))*1≤2^(64*(n+1))*wnum hi:=Nat.mul_le_mul_left _ (by omega)
  have h2:2^(64*j)*2^(64*(n+1))≤2^(64*j)*(wnum m+2^(64*(n+1))*wnum hi):=Nat.mul_le_mul_left _ (by omega)
  have h3:wnum V*2^(64*j)*18446744073709551616≤2^(64*n)*2^(64*j)*18446744073709551616:=Nat.mul_le_mul_right _ (Nat.mul_le_mul_right _ (by omega))
  rw[pow64_succ n] at h2
  have e:2^(64*n)*2^(64*j)*18446744073709551616=2^(64*j)*(2^(64*n)*18446744073709551616):=by rw[Nat.mul_comm (2^(64*n)),Nat.mul_assoc]
  rw[pow64_succ n] at h h1
  omega
 rw[hz,Nat.mul_zero,Nat.add_zero] at h ⊢
 rw[Nat.add_zero]
 constructor
 ·have h1:2^(64*j)*wnum m<2^(64*j)*(wnum V*18446744073709551616):=by
   rw[← Nat.mul_assoc,Nat.mul_comm _ (wnum V)];omega
  exact Nat.lt_of_mul_lt_mul_left h1
 ·intro e1 e2
  constructor
  ·rw[← e1,Nat.mul_add,Nat.mul_comm q,Nat.mul_assoc];omega
  ·have h1:2^(64*j)*(wnum m'+1)≤2^(64*j)*wnum V:=Nat.mul_le_mul_left _ e2
   rw[Nat.mul_comm (wnum V)]
   rw[Nat.mul_add] at h1
   omega
theorem take_low {l:WL} {n:Nat} (h:wnum l<2^(64*n)):wnum (l.take n)=wnum l:=by
 by_cases hn:n≤l.length
 ·have h1:=wnum_append (l.take n) (l.drop n)
  rw[List.take_append_drop,List.length_take,Nat.min_eq_left hn] at h1
  have:wnum (l.drop n)=0:=by
   refine Classical.byContradiction fun hc=>?_
   have:2^(64*n)*1≤2^(64*n)*wnum (l.drop n):=Nat.mul_le_mul_left _ (by omega)
   omega
  rw[this,Nat.mul_zero] at h1
  omega
 ·rw[List.take_of_length_le (by omega)]
theorem part_row {b n c k h:Nat} {lv hv:Value} {kd kd':IntKind} (hl:lv=.int kd (k:Int)) (hh:hv=.int kd' (h:Int)) (hk:k≤h) (hc:h≤c) (hcU:c<UNK) (hkc:k<c):aslice 1 (some ⟨b,0,none⟩) n c (some lv) (some hv) none=some (.slice (some ⟨b,k,none⟩) (h - k) (c - k)):=by
 rw[aslice_at (.inr ⟨kd,congrArg some hl⟩) (.inr ⟨kd',congrArg some hh⟩) hk (by unfold knownCap;rw[if_pos hcU];exact hc),if_pos hcU]
 unfold acut
 rw[if_neg (by omega)]
 show some (Value.slice (some (Addr.add ⟨b,0,none⟩ (k*1))) (h - k) (c - k))=_
 rw[add_one,Nat.zero_add]
theorem WOwn.nil {S:Mem} (N:Nat):WOwn S N none 0 []:=⟨⟨Slv.nil _ _ _ _,by decide,fun _=>rfl,by decide⟩,nofun⟩
theorem moved_len {f:WL} {t:BitVec 64} {n s:Nat} (hn:f.length=n+1) (ht:f[n]?=some t) (ht0:t≠0#64) (hs:s=64 - blen t.toNat):(toW (wnum f*2^s)).length=n+1∧s<64:=by
 have hb64:blen t.toNat≤64:=blen_le.2 t.isLt
 have hne:t.toNat≠0:=fun e=>ht0 (BitVec.eq_of_toNat_eq (by simpa using e))
 have hb0:0<blen t.toNat:=by unfold blen;rw[if_neg hne];omega
 have hb:=blen_top (l:=f) (x:=t) (by rw[List.getLast?_eq_getElem?,hn,Nat.add_sub_cancel];exact ht) ht0
 rw[hn,Nat.add_sub_cancel] at hb
 have h1:wnum f<2^(64*n+blen t.toNat):=blen_le.1 (by omega)
 have h2:wnum f*2^s<2^(64*(n+1)):=by
  have:2^(64*n+blen t.toNat)*2^s=2^(64*(n+1)):=by rw[← Nat.pow_add];congr 1;omega
  rw[← this]
  exact Nat.mul_lt_mul_of_pos_right h1 (Nat.two_pow_pos s)
 have h3:=(toW_len _ (n+1)).2 h2
 have h4:¬ (toW (wnum f*2^s)).length≤n:=by
  intro hc
  have:=(toW_len _ n).1 hc
  have h5:¬ wnum f<2^(64*n):=fun hc2=>by have:=blen_le.2 hc2;omega
  have h6:wnum f*1≤wnum f*2^s:=Nat.mul_le_mul_left _ (Nat.two_pow_pos s)
  omega
 exact⟨by omega,by omega⟩
def DivR (S S':Mem) (v:Value) (a b:WL):Prop:=∃ (aq:Option Addr) (cq:Nat) (lq:WL) (ar:Option Addr) (cr:Nat) (lr:WL),v=.tuple #[.slice aq lq.length cq,.slice ar lr.length cr]∧Cons S S'∧WOwn S' S.length aq cq lq∧WOwn S' S.length ar cr lr∧wnum lq=wnum a / wnum b∧wnum lr=wnum a % wnum b∧lq.length≤a.length+1∧lr.length≤a.length∧∀ x y,aq=some x→ar=some y→x.block≠y.block
theorem div_C (a1 a2:Option Addr) (c1 c2:Nat) (f1 f2:WL) (S:Mem) (h1:WIn S a1 c1 f1) (h2:WIn S a2 c2 f2) (k1:Canon f1) (k2:Canon f2) (hne:0<f2.length) (n1:f1.length<1000) (n2:f2.length<1000) :
  C Tryz.prog gN Ext 131 [.slice a1 f1.length c1,.slice a2 f2.length c2] S fun v S'=>DivR S S' v f1 f2:=by
 refine C.fn Tryz.func131 rfl (by kernel_rfl) rfl (go ?_)
 refine L.cl (natCmp_C a1 a2 c1 c2 f1 f2 _ h1 h2) rfl rfl ?_
 rintro _ _ ⟨rfl,rfl⟩
 refine⟨nofun,?_⟩
 rename Mem=>S
 refine go ?_
 refine W.ite rfl (fun h=>?_) (fun h=>?_)
 ·have hlt:wnum f1<wnum f2:=by
   have h0:=of_decide_eq_true h
   unfold cmpI at h0
   split at h0
   ·omega
   ·split at h0<;>omega
  clear h
  refine go ?_
  refine L.cl (clone_C a1 c1 f1 _ h1) rfl rfl ?_
  rintro _ S2 ⟨d,rfl,hR⟩
  refine⟨nofun,?_⟩
  obtain⟨hO,hv⟩:=hR.own
  refine go ?_
  refine⟨.inr rfl,_,rfl,none,0,[],d.ad,d.c,f1,?_,hR.1,WOwn.nil _,hO,?_,?_,by simp,Nat.le_refl _,nofun⟩
  ·rw[← hv];rfl
  ·rw[Nat.div_eq_of_lt hlt];rfl
  ·rw[Nat.mod_eq_of_lt hlt]
 have hge:wnum f2≤wnum f1:=by
  refine Classical.byContradiction fun hc=>?_
  have h0:=of_decide_eq_false h
  unfold cmpI at h0
  rw[if_pos (by omega)] at h0
  omega
 clear h
 obtain⟨n,hn⟩:∃ n,f2.length=n+1:=⟨f2.length - 1,by omega⟩
 have hll:f2.length≤f1.length:=by
  refine Classical.byContradiction fun hc=>?_
  have:=cmp_len (l1:=f1) (l2:=f2) (by unfold fm;rw[toW_wnum k1,toW_wnum k2];omega)
  omega
 obtain⟨t,ht⟩:∃ t,f2[n]?=some t:=⟨_,List.getElem?_eq_getElem (by omega)⟩
 have ht0:t≠0#64:=fun e=>k2 (by rw[List.getLast?_eq_getElem?,hn,Nat.add_sub_cancel,ht,e])
 obtain⟨s,hs⟩:∃ s,s=64 - blen t.toNat:=⟨_,rfl⟩
 obtain⟨hVn,hs64⟩:=moved_len hn ht ht0 hs
 have hn1:IntKind.i64.wrap ((f2.length:Int) - 1)=(n:Int):=by rw[wrap64 (by omega) (by omega)];omega
 refine go ?_
 refine L.el h2.1 (k:=n) hn1 (wv_get ht) rfl rfl rfl rfl (fun _=>rfl) rfl (fun p=>?_)
 refine L.cl (lz_C t.toNat t.isLt S) rfl rfl ?_
 rintro _ _ ⟨rfl,rfl⟩
 refine⟨nofun,?_⟩
 rename Mem=>S
 rw[← hs]
 refine go ?_
 refine L.cl (left_C a1 c1 f1 s S h1 hs64 (by omega)) rfl rfl ?_
 rintro _ S1 ⟨ru,o,rfl,hru,kc1,hu,hol,hon⟩
 refine⟨fun _=>kc1,go ?_⟩
 refine L.cl (left_C a2 c2 f2 s S1 (h2.cons kc1) hs64 (by omega)) rfl rfl ?_
 rintro _ S2 ⟨rv,o2,rfl,hrv,kc2,hv,hol2,hon2⟩
 refine⟨fun _=>kc2,?_⟩
 have hO2:WOwn S2 S1.length (some ⟨rv,0,none⟩) (f2.length+1) o2:=WOwn.row hv hol2 hrv (by omega)
 refine L.cl (trim_C (some ⟨rv,0,none⟩) (f2.length+1) o2 S2 hO2.1) rfl (by rw[hol2];rfl) ?_
 rintro _ _ ⟨rfl,rfl⟩
 refine⟨nofun,?_⟩
 rename Mem=>S2
 have hVI:=hO2.1.form
 have hVc:Canon (fm o2):=canon_toW _
 have hVw:wnum (fm o2)=wnum f2*2^s:=(wnum_toW _).trans hon2
 have hVl:(fm o2).length=n+1:=by unfold fm;rw[hon2];exact hVn
 generalize fm o2=V at *
 clear hO2 hol2 hon2 hv
 have hu2:S2.row? ru=some (newR (wv o) 57):=kc2.row' hu
 have hruS:ru<S1.length:=row_lt hu
 have hk2:=kc1.trans kc2
 obtain⟨nq,hnq⟩:∃ nq,nq=f1.length - f2.length+1:=⟨_,rfl⟩
 have hwq:IntKind.i64.wrap (IntKind.i64.wrap ((f1.length:Int) - (f2.length:Int))+1)=(nq:Int):=by
  rw[wrap64 (x:=(f1.length:Int) - (f2.length:Int)) (by omega) (by omega),wrap64 (by omega) (by omega)];omega
 refine go ?_
 refine L.mk (n:=nq) (m:=nq) (bytes:=8) (zv:=v64 0#64) rfl rfl hwq rfl hwq (Nat.le_refl _) (by omega) rfl rfl ?_
 have hrq:Mem.row? (S2++[newR (List.replicate nq (v64 0#64)) 57]) S2.length=some (newR (wv (List.replicate nq 0#64)) 57):=by
  rw[row_push_new rfl];simp [wv]
 have kc3:=Cons.push S2 (newR (List.replicate nq (v64 0#64)) 57)
 generalize S2++[newR (List.replicate nq (v64 0#64)) 57]=S3 at *
 obtain⟨rq,hrq0⟩:∃ rq,rq=S2.length:=⟨_,rfl⟩
 rw[← hrq0] at hrq ⊢
 have hu3:=kc3.row' hu2
 have hV3:=hVI.cons kc3
 have hk3:=hk2.trans kc3
 have hS12:S1.length≤S2.length:=kc2.len
 have hrqu:rq≠ru:=by omega
 have hrvq:rv<S2.length:=by
  refine Classical.byContradiction fun hc=>?_
  obtain⟨_,a,c,e,h0 | ⟨b,o,r,e2,e3,_⟩⟩:=hVI.1
  ·omega
  ·cases e;cases e2
   have:=row_lt e3
   omega
 have hinit:wnum o<wnum V*2^(64*nq):=by
  rw[hon,hVw,Nat.mul_right_comm]
  refine Nat.mul_lt_mul_of_pos_right ?_ (Nat.two_pow_pos s)
  have a1:=wnum_lt f1
  have a2:=toW_ge (N:=wnum f2) (by rw[toW_wnum k2];omega)
  rw[toW_wnum k2] at a2
  have a3:=Nat.mul_le_mul_right (2^(64*nq)) a2
  rw[← Nat.pow_add,show 64*(f2.length - 1)+64*nq=64*f1.length by omega] at a3
  omega
 refine go ?_
 refine W.loop (fun i e T=>∃ (o ql:WL),i≤nq∧e 6=vi s∧e 7=.slice (some ⟨ru,0,none⟩) (f1.length+1) (f1.length+1)∧e 8=.slice (some ⟨rv,0,none⟩) V.length (f2.length+1)∧e 9=.slice (some ⟨rq,0,none⟩) nq nq∧e 10=.int .i64 ((i:Int) - 1)∧Cons S T∧T.row? ru=some (newR (wv o) 57)∧o.length=f1.length+1∧T.row? rq=some (newR (wv ql) 57)∧ql.length=nq∧WIn T (some ⟨rv,0,none⟩) (f2.length+1) V∧wnum ql*wnum V+wnum o=wnum f1*2^s∧wnum o<wnum V*2^(64*i)∧∀ p,p<i→ql[p]?=some 0#64) nq
  ⟨o,List.replicate nq 0#64,Nat.le_refl _,rfl,rfl,rfl,rfl,congrArg (Value.int .i64) (wrap64 (by omega) (by omega)),hk3,hu3,hol,hrq,by simp,hV3,by rw[wnum_zeros,Nat.zero_mul,Nat.zero_add,hon],hinit,fun p hp=>by simp [hp]⟩ ?_
 clear hu hu2 hu3 hV3 hVI hk3 hk2 hrq kc3 hinit hon hol
 clear o
 rintro i e T ⟨o,ql,hi,e6,e7,e8,e9,e10,hkT,hu,hol,hrq,hql,hVT,hsum,hlt,hz⟩
 refine W.env5 e6 e7 e8 e9 e10 (go ?_)
 refine W.ite rfl (fun h=>?_) (fun h=>?_)
 ·have hi1:1≤i:=by have:=of_decide_eq_true h;omega
  clear h
  obtain⟨j,rfl⟩:∃ j,i=j+1:=⟨i - 1,by omega⟩
  have hm:(((j+1:Nat):Int) - 1)=(j:Int):=by omega
  rw[hm]
  obtain⟨lo,hlo⟩:∃ lo,lo=o.take j:=⟨_,rfl⟩
  obtain⟨m0,hm0⟩:∃ m0,m0=(o.drop j).take (n+2):=⟨_,rfl⟩
  obtain⟨hi',hhi⟩:∃ hi',hi'=(o.drop j).drop (n+2):=⟨_,rfl⟩
  have hoe:o=lo++m0++hi':=by rw[hlo,hm0,hhi,List.append_assoc,List.take_append_drop,List.take_append_drop]
  have hlol:lo.length=j:=by rw[hlo,List.length_take];omega
  have hm0l:m0.length=V.length+1:=by rw[hm0,List.length_take,List.length_drop];omega
  rw[hoe] at hu hlt
  have hstep:=fun (m':WL) (q:Nat) (hm':m'.length=V.length+1)=>div_step (lo:=lo) (m:=m0) (hi:=hi') (m':=m') (V:=V) (q:=q) hlol hm0l hm' rfl hlt
  have hq0:=hz j (by omega)
  have hwj:IntKind.i64.wrap (IntKind.i64.wrap ((j:Int)+(V.length:Int))+1)=((j+V.length+1:Nat):Int):=by
   rw[wrap64 (x:=(j:Int)+(V.length:Int)) (by omega) (by omega),wrap64 (by omega) (by omega)];rfl
  refine go ?_
  refine L.is (.slice (some ⟨ru,lo.length,none⟩) (V.length+1) (f1.length+1 - j)) ?_ rfl ?_
  ·refine(slice_at0 rfl rfl rfl).trans ((part_row (kd:=.i64) (kd':=.i64) (k:=j) (h:=j+V.length+1) rfl (congrArg (Value.int .i64) hwj) (by omega) (by omega) (by unfold UNK;omega) (by omega)).trans ?_)
   rw[hlol]
   congr 2
   omega
  refine go ?_
  refine L.cl (digit_C ru (f1.length+1 - j) (some ⟨rv,0,none⟩) (f2.length+1) lo m0 hi' V T hu hVT (fun x hx=>by cases hx;show rv≠ru;omega) hm0l (by omega) hVc (by omega) (hstep m0 0 hm0l).1) rfl rfl ?_
  rintro _ T2 ⟨q,m,rfl,hTl,kT2,hu2,hml,hqm,hmV⟩
  obtain⟨hs1,hs2⟩:=(hstep m q.toNat hml).2 hqm hmV
  refine⟨nofun,?_⟩
  have hrq2:=kT2.row hrq hrqu
  refine L.elst hrq2 rfl (by show 0+nq≤(wv ql).length;rw[wv_len,hql];omega) (k:=j) rfl (by omega) rfl rfl rfl rfl (fun _=>rfl) (fun _=>rfl) rfl rfl rfl (fun p=>?_)
  have hrq3:=row_set_w (k:=j) (r:=q) hrq2
  have hu3:Mem.row? (List.set T2 rq { newR (wv ql) 57 with cells:=(newR (wv ql) 57).cells.set (0+j) (v64 q) }) ru=some (newR (wv (lo++m++hi')) 57):=by
   rw[row_set_other _ hrqu];exact hu2
  have hV2:WIn T2 (some ⟨rv,0,none⟩) (f2.length+1) V:=hVT.keepb kT2 (fun x hx=>by cases hx;show rv≠ru;omega)
  have hV3:=hV2.keepb (Keep.set rq T2 { newR (wv ql) 57 with cells:=(newR (wv ql) 57).cells.set (0+j) (v64 q) }) (fun x hx=>by cases hx;show rv≠rq;omega)
  have hk6:Cons S (List.set T2 rq { newR (wv ql) 57 with cells:=(newR (wv ql) 57).cells.set (0+j) (v64 q) }):=(kT2.mono hkT hru).set rq _ (by have:=kc1.len;omega)
  have hws:=wnum_set (y:=q) hq0
  rw[zero_word] at hws
  generalize List.set T2 rq _=T6 at *
  refine go ?_
  refine⟨j,by omega,lo++m++hi',ql.set j q,by omega,rfl,rfl,rfl,rfl,(force_eq rfl).trans (congrArg (Value.int .i64) (wrap64 (by omega) (by omega))),hk6,hu3,?_,hrq3,by simpa using hql,hV3,?_,hs2,fun p hp=>?_⟩
  ·have:(lo++m0++hi').length=f1.length+1:=by rw[← hoe];exact hol
   simp only [List.length_append] at this ⊢
   omega
  ·rw[← hsum,hoe,← hs1,show wnum (ql.set j q)=wnum ql+q.toNat * 2^(64*j) by omega,Nat.add_mul];omega
  ·rw[List.getElem?_set,if_neg (by omega)];exact hz p (by omega)
 have hi0:i=0:=by have:=of_decide_eq_false h;omega
 subst hi0
 clear h
 rw[Nat.mul_zero,Nat.pow_zero,Nat.mul_one] at hlt
 have hVlt:=wnum_lt V
 have hOu:WOwn T S.length (some ⟨ru,0,none⟩) (f1.length+1) o:=WOwn.row hu hol hru (by omega)
 have hIu:WIn T (some ⟨ru,0,none⟩) (f1.length+1) (o.take V.length):=by
  have hle:V.length≤o.length:=by omega
  have h0:=hOu.1.1.cut0 hle
  have hlen:(o.take V.length).length=V.length:=by rw[List.length_take];omega
  refine⟨?_,by rw[hlen];have:=hOu.1.2.1;omega,nofun,by rw[hlen];omega⟩
  rw[hlen]
  rwa [show (wv o).take V.length=wv (o.take V.length) by rw[wv,← List.map_take];rfl] at h0
 have hlen:(o.take V.length).length=V.length:=by rw[List.length_take];omega
 have htk:wnum (o.take V.length)=wnum o:=take_low (by omega)
 rw[hVw] at hsum hlt
 obtain⟨hdq,hdr⟩:=div_moved hsum.symm hlt
 have hOq:WOwn T S.length (some ⟨rq,0,none⟩) nq ql:=WOwn.row hrq hql (by have:=kc1.len;omega) (by omega)
 have hTq:rq<T.length:=row_lt hrq
 refine go ?_
 refine L.is (.slice (some ⟨ru,0,none⟩) (o.take V.length).length (f1.length+1)) ?_ rfl ?_
 ·rw[hlen]
  exact(slice_at0 rfl rfl rfl).trans (aslice_to (a:=some ⟨ru,0,none⟩) (c:=f1.length+1) (h:=V.length) (kd:=.i64) rfl (by unfold knownCap;rw[if_pos (by unfold UNK;omega)];omega) nofun)
 refine go ?_
 refine L.cl (right_C (some ⟨ru,0,none⟩) (f1.length+1) (o.take V.length) s T hIu hs64 (by omega)) rfl rfl ?_
 rintro _ T2 ⟨rr,rfl,hrr,kT2,hr⟩
 refine⟨fun _=>kT2,go ?_⟩
 have hOr:WOwn T2 S.length (some ⟨rr,0,none⟩) (o.take V.length).length (dnL (o.take V.length) s):=WOwn.row hr (dnL_len _ _) (by have:=hkT.len;omega) (by omega)
 refine⟨.inr rfl,_,rfl,some ⟨rq,0,none⟩,nq,ql,some ⟨rr,0,none⟩,_,dnL (o.take V.length) s,?_,hkT.trans kT2,hOq.cons kT2,hOr,hdq.symm,?_,by omega,by rw[dnL_len];omega,fun x y hx hy=>?_⟩
 ·rw[hql,dnL_len];rfl
 ·rw[dnL_num _ hs64,htk,hdr]
 ·cases hx;cases hy
  show rq≠rr
  omega
end
end Go.Proofs.YtbiigbicgfchiaaGreatDoor
set_option exponentiation.threshold 20000
namespace Go.Proofs.YtbiigbicgfchiaaGreatDoor
section
open Go Ie
variable {Ext:FuncId→List Value→Mem→Outc→Mem→Prop}
def divQ (l1 l2:WL):WL:=if small l1 && small l2 then (if wnum l2=0 then [] else toW (wnum l1 / wnum l2)) else []
def divM (l1 l2:WL):WL:=if small l1 && small l2 then (if wnum l2=0 then [] else toW (wnum l1 % wnum l2)) else []
def divE (l1 l2:WL):Int:=if small l1 && small l2 then (if wnum l2=0 then 11 else 0) else 3
theorem fm_nil (l:WL):(fm l).length=0↔wnum l=0:=by
 constructor
 ·intro h
  have h2:=wnum_toW (wnum l)
  rw[show toW (wnum l)=[] from List.length_eq_zero_iff.1 h] at h2
  exact h2.symm
 ·intro h
  unfold fm
  rw[h,toW_zero];rfl
theorem Hd.at {a:Option Addr} {n c:Nat} {d:Hd} {b:Nat} (h:Value.slice a n c=d.v) (hb:d.a=some b):a=some ⟨b,0,none⟩:=by
 unfold Hd.v at h
 rw[hb] at h
 injection h with h1
theorem natDiv_C (a1 a2:Option Addr) (c1 c2:Nat) (l1 l2:WL) (S:Mem) (h1:WIn S a1 c1 l1) (h2:WIn S a2 c2 l2) :
  C Tryz.prog gN Ext 99 [.slice a1 l1.length c1,.slice a2 l2.length c2] S fun v S'=>∃ d d2:Hd,v=.tuple #[d.v,d2.v,.int .i64 (divE l1 l2)]∧RetW S S' d (divQ l1 l2)∧RetW S S' d2 (divM l1 l2)∧∀ x y,d.a=some x→d2.a=some y→x≠y:=by
 refine C.fn Tryz.func99 rfl (by kernel_rfl) rfl (go ?_)
 refine L.bs [WS.v ⟨a1,c1,l1⟩,WS.v ⟨a2,c2,l2⟩] rfl rfl rfl rfl rfl rfl ?_
 have hc:Cons S (S++[newR [WS.v ⟨a1,c1,l1⟩,WS.v ⟨a2,c2,l2⟩] 22]):=Cons.push _ _
 have hs:Slv (S++[newR [WS.v ⟨a1,c1,l1⟩,WS.v ⟨a2,c2,l2⟩] 22]) 1 (.slice (some ⟨S.length,0,none⟩) 2 2) 2 ([WS.mk a1 c1 l1,WS.mk a2 c2 l2].map WS.v):=Slv.all (row_push_new rfl) rfl rfl
 generalize S++[newR [WS.v ⟨a1,c1,l1⟩,WS.v ⟨a2,c2,l2⟩] 22]=S1 at *
 refine L.cl (fit_C _ [⟨a1,c1,l1⟩,⟨a2,c2,l2⟩] S1 hs (fun w hw=>by
  simp only [List.mem_cons,List.not_mem_nil,or_false] at hw
  rcases hw with rfl | rfl
  ·exact h1.cons hc
  ·exact h2.cons hc) (by simp)) rfl rfl ?_
 rintro _ _ ⟨rfl,rfl⟩
 refine⟨nofun,go ?_⟩
 refine W.ite rfl (fun h=>?_) (fun h=>?_)
 ·have hsm:(small l1 && small l2)=false:=by
   have h0:=h
   simp at h0
   cases hq:small l1<;>simp_all
  refine go ?_
  exact⟨.inr rfl,_,rfl,Hd0,Hd0,(by unfold divE;rw[hsm];rfl),(by unfold divQ;rw[hsm];exact RetW.nil hc),(by unfold divM;rw[hsm];exact RetW.nil hc),nofun⟩
 have hsm:(small l1 && small l2)=true:=by
  have h0:=h
  simp at h0
  cases hq:small l1<;>simp_all
 clear h
 have hsm2:=hsm
 rw[Bool.and_eq_true] at hsm2
 rename Mem=>S1
 have hI1:=h1.cons hc
 have hI2:=h2.cons hc
 have b1:(fm l1).length≤128:=of_decide_eq_true hsm2.1
 have b2:(fm l2).length≤128:=of_decide_eq_true hsm2.2
 refine go ?_
 refine L.cl (trim_C a1 c1 l1 _ hI1) rfl rfl ?_
 rintro _ _ ⟨rfl,rfl⟩
 refine⟨nofun,go ?_⟩
 refine L.cl (trim_C a2 c2 l2 _ hI2) rfl rfl ?_
 rintro _ _ ⟨rfl,rfl⟩
 refine⟨nofun,?_⟩
 rename Mem=>S1
 refine go ?_
 refine W.ite rfl (fun h=>?_) (fun h=>?_)
 ·have h0:wnum l2=0:=by
   refine(fm_nil l2).1 ?_
   have:=eq_of_beq h
   omega
  clear h
  refine go ?_
  exact⟨.inr rfl,_,rfl,Hd0,Hd0,(by unfold divE;rw[hsm,if_pos rfl,if_pos h0];rfl),(by unfold divQ;rw[hsm,if_pos rfl,if_pos h0];exact RetW.nil hc),(by unfold divM;rw[hsm,if_pos rfl,if_pos h0];exact RetW.nil hc),nofun⟩
 have hlp:0<(fm l2).length:=by
  refine Nat.pos_of_ne_zero fun e=>?_
  rw[e] at h
  cases h
 have h0:wnum l2≠0:=fun e=>by have:=(fm_nil l2).2 e;omega
 clear h
 refine go ?_
 refine L.cl (div_C a1 a2 c1 c2 (fm l1) (fm l2) S1 hI1.form hI2.form (canon_toW _) (canon_toW _) hlp (by omega) (by omega)) rfl rfl ?_
 rintro _ S2 ⟨aq,cq,lq,ar,cr,lr,rfl,kc,hq,hr,eq,er,hql,hrl,hap⟩
 refine⟨fun _=>kc,?_⟩
 rw[show wnum (fm l1)=wnum l1 from wnum_toW _,show wnum (fm l2)=wnum l2 from wnum_toW _] at eq er
 have hk:=hc.trans kc
 refine go ?_
 refine L.cl (trim_C aq cq lq S2 hq.1) rfl rfl ?_
 rintro _ _ ⟨rfl,rfl⟩
 refine⟨nofun,?_⟩
 refine L.cl (clip_C aq cq (fm lq) _ hq.1.form) rfl rfl ?_
 rintro _ _ ⟨rfl,rfl⟩
 refine⟨nofun,go ?_⟩
 refine L.cl (trim_C ar cr lr _ hr.1) rfl rfl ?_
 rintro _ _ ⟨rfl,rfl⟩
 refine⟨nofun,?_⟩
 refine L.cl (clip_C ar cr (fm lr) _ hr.1.form) rfl rfl ?_
 rintro _ _ ⟨rfl,rfl⟩
 refine⟨nofun,go ?_⟩
 obtain⟨d,hd,hR⟩:=(hq.form.mono hc.len).clip hk
 obtain⟨d2,hd2,hR2⟩:=(hr.form.mono hc.len).clip hk
 refine⟨.inr rfl,_,rfl,d,d2,?_,?_,?_,fun x y hx hy=>?_⟩
 ·rw[← hd,← hd2];unfold divE;rw[hsm,if_pos rfl,if_neg h0];rfl
 ·unfold divQ;rw[hsm,if_pos rfl,if_neg h0,← eq];exact hR
 ·unfold divM;rw[hsm,if_pos rfl,if_neg h0,← er];exact hR2
 ·exact hap _ _ (Hd.at hd hx) (Hd.at hd2 hy)
end
section
open Go
def WPre (S:Mem) (a:Option Addr) (c:Nat) (l:WL):Prop:=Slv S 1 (.slice a l.length c) l.length (wv l)∧l.length≤knownCap c∧(a=none→c=0)
theorem WPre.win {S:Mem} {a:Option Addr} {c:Nat} {l:WL} (h:WPre S a c l) (hl:l.length<1099511627776):WIn S a c l:=⟨h.1,h.2.1,h.2.2,hl⟩
def RefW (S S':Mem) (v:Value) (l:WL):Prop:=Cons S S'∧∃ a c,v=.slice a l.length c∧WIn S' a c l
theorem grow_win {N:Nat} {S:Mem} {el:TypeId} {a:Option Addr} {c:Nat} {l:WL} (h:Grow N S el 1 (.slice a l.length c) l.length (wv l)) (hl:l.length<1099511627776):WIn S a c l:=by
 refine⟨h.slv,?_,?_,hl⟩
 ·obtain⟨h1,⟨hv,h0⟩ | ⟨b,hb,hv,hr⟩⟩:=h
  ·rw[h0];exact Nat.zero_le _
  ·cases hv;rw[knownCap_unk];exact Nat.le_refl _
 ·intro ha
  obtain⟨h1,⟨hv,h0⟩ | ⟨b,hb,hv,hr⟩⟩:=h
  ·injection hv
  ·rw[ha] at hv;injection hv with e1;cases e1
section
variable {P:Program} {G:Nat} {Ext:FuncId→List Value→Mem→Outc→Mem→Prop} {e:Env} {S:Mem} {fl:Bool} {ops:Array Oper} {K:Kont}
variable {rest:List Oper} {dst:Option Tmp} {ty:TypeId} {pos:String} {af:Array Edge} {gd:Option (Nat × Bool)}
theorem L.bsW {t:TypeId} {len:Nat} {parts:Array (Nat × Operand)} (l:WL) (hb:bldOk P t=some (57,1)) (hl:len=l.length) (hsm:Nat.ble len 16777216=true)
  (hp:parts.toList.map (fun p=>(p.1,e.eval p.2))=((wv l).zipIdx 0).map fun p=>(p.2,p.1)) (hlen:Nat.ble l.length 1000=true) (hw:awanted ops ⟨dst,.buildSlice t len parts,ty,pos,af,gd⟩ e=true)
  (h:∀ b T,Cons S T→WIn T (some ⟨b,0,none⟩) l.length l→L P G Ext fl ops rest (e.put dst (.slice (some ⟨b,0,none⟩) l.length l.length)) T K) :
  L P G Ext fl ops (⟨dst,.buildSlice t len parts,ty,pos,af,gd⟩ :: rest) e S K:=by
 subst hl
 have hlen:=Nat.le_of_ble_eq_true hlen
 have hr:Mem.row? (S++[newR (wv l) 57]) S.length=some (newR (wv l) 57):=row_push_new rfl
 refine L.bs (wv l) hb (wv_len l).symm hsm hp (wv_one l) hw (h S.length _ (Cons.push _ _) ⟨Slv.all hr rfl (by rw[wv_len,Nat.mul_one]),?_,nofun,by omega⟩)
 unfold knownCap
 rw[if_pos (by unfold UNK;omega)]
 exact Nat.le_refl _
end
end
section
open Go Ie
variable {Ext:FuncId→List Value→Mem→Outc→Mem→Prop}
theorem small_num (l:WL):small l=decide (wnum l<2^8192):=by
 unfold small
 exact decide_eq_decide.2 (toW_len (wnum l) 128)
theorem small_of {l:WL} (h:wnum l<2^8192):small l=true:=by rw[small_num];exact decide_eq_true h
theorem num_len {l:WL} {k:Nat} (h:l.length≤k):wnum l<2^(64*k):=Nat.lt_of_lt_of_le (wnum_lt l) (Nat.pow_le_pow_right (by decide) (by omega))
theorem told_num {N:Nat} (h:N<2^8192):toldL (toW N)=toW N∧toldE (toW N)=0:=by
 have hs:small (toW N)=true:=small_of (by rw[wnum_toW];exact h)
 unfold toldL toldE
 rw[hs,if_pos rfl,if_pos rfl]
 exact⟨by unfold fm;rw[wnum_toW],rfl⟩
theorem mul_num {l1 l2:WL} (h1:wnum l1<2^8192) (h2:wnum l2<2^8192) (h:wnum l1*wnum l2<2^8192):mulL l1 l2=toW (wnum l1*wnum l2)∧mulE l1 l2=0:=by
 unfold mulL mulE
 rw[small_of h1,small_of h2]
 exact told_num h
theorem add_num {l1 l2:WL} (h1:wnum l1<2^8192) (h2:wnum l2<2^8192) (h:wnum l1+wnum l2<2^8192):addL l1 l2=toW (wnum l1+wnum l2)∧addE l1 l2=0:=by
 unfold addL addE
 rw[small_of h1,small_of h2]
 exact told_num h
theorem sub_num {l1 l2:WL} (h1:wnum l1<2^8192) (h2:wnum l2<2^8192) (h:wnum l2≤wnum l1):subL l1 l2=toW (wnum l1 - wnum l2)∧subE l1 l2=0:=by
 unfold subL subE
 rw[small_of h1,small_of h2]
 have:=told_num (N:=wnum l1 - wnum l2) (by omega)
 simp only [Bool.and_self,if_true]
 rw[if_neg (by omega),if_neg (by omega)]
 exact this
theorem div_num {l1 l2:WL} (h1:wnum l1<2^8192) (h2:wnum l2<2^8192) (h:wnum l2≠0):divQ l1 l2=toW (wnum l1 / wnum l2)∧divM l1 l2=toW (wnum l1 % wnum l2)∧divE l1 l2=0:=by
 unfold divQ divM divE
 rw[small_of h1,small_of h2]
 simp only [Bool.and_self,if_true]
 rw[if_neg h,if_neg h,if_neg h]
 exact⟨rfl,rfl,rfl⟩
theorem div_zero {l1 l2:WL} (h1:wnum l1<2^8192) (h2:wnum l2<2^8192) (h:wnum l2=0):divQ l1 l2=[]∧divM l1 l2=[]∧divE l1 l2=11:=by
 unfold divQ divM divE
 rw[small_of h1,small_of h2]
 simp only [Bool.and_self,if_true]
 rw[if_pos h,if_pos h,if_pos h]
 exact⟨rfl,rfl,rfl⟩
theorem RetW.win {S S':Mem} {d:Hd} {l:WL} (h:RetW S S' d l):WIn S' d.ad d.c l:=h.own.1.1
theorem RetW.val {S S':Mem} {d:Hd} {l:WL} (h:RetW S S' d l):d.v=.slice d.ad l.length d.c:=h.own.2
end
section
open Go
def zv (n:Bool) (l:WL):Int:=if n then -((wnum l:Nat):Int) else ((wnum l:Nat):Int)
theorem zv_true (l:WL):zv true l=-((wnum l:Nat):Int):=rfl
theorem zv_false (l:WL):zv false l=((wnum l:Nat):Int):=rfl
theorem zv_abs (n:Bool) (l:WL):(zv n l).natAbs=wnum l:=by
 cases n
 ·rw[zv_false];omega
 ·rw[zv_true];omega
theorem zv_not (n:Bool) (l:WL):zv (!n) l=- zv n l:=by
 cases n
 ·rfl
 ·show ((wnum l:Nat):Int)=- -((wnum l:Nat):Int);omega
theorem zv_sgn (n:Bool) (l:WL):decide (zv n l<0)=(n && decide (0<wnum l)):=by
 cases n
 ·rw[zv_false,Bool.false_and];exact decide_eq_false (by omega)
 ·rw[zv_true,Bool.true_and];exact decide_eq_decide.2 (by omega)
theorem toW_pos_len {N:Nat}:0<(toW N).length↔0<N:=by
 constructor
 ·intro h
  refine Nat.pos_of_ne_zero fun h0=>?_
  rw[h0,toW_zero] at h
  simp at h
 ·intro h
  refine Nat.pos_of_ne_zero fun h0=>?_
  have:=List.length_eq_zero_iff.1 h0
  have e:=wnum_toW N
  rw[this] at e
  have:N=0:=e.symm
  omega
theorem zv_toW (n:Bool) (N:Nat):zv n (toW N)=if n then -(N:Int) else (N:Int):=by unfold zv;rw[wnum_toW]
theorem zadd_same (n:Bool) (l k:WL):zv n l+zv n k=zv n (toW (wnum l+wnum k)):=by
 rw[zv_toW]
 cases n
 ·rw[zv_false,zv_false];simp
 ·rw[zv_true,zv_true,if_pos rfl];omega
theorem zadd_ge {n m:Bool} (hn:n≠m) {l k:WL} (h:wnum k≤wnum l):zv n l+zv m k=zv n (toW (wnum l - wnum k)):=by
 rw[zv_toW]
 cases n<;>cases m
 ·exact absurd rfl hn
 ·rw[zv_false,zv_true];simp only [Bool.false_eq_true,if_false];omega
 ·rw[zv_false,zv_true,if_pos rfl];omega
 ·exact absurd rfl hn
theorem zadd_lt {n m:Bool} (hn:n≠m) {l k:WL} (h:wnum l≤wnum k):zv n l+zv m k=zv m (toW (wnum k - wnum l)):=by
 rw[Int.add_comm,zadd_ge (Ne.symm hn) h]
theorem zmul (n m:Bool) (l k:WL):zv n l*zv m k=zv (n != m) (toW (wnum l*wnum k)):=by
 rw[zv_toW]
 cases n<;>cases m<;>simp [zv,Int.mul_neg,Int.neg_mul]
theorem zdiv (n m:Bool) (l k:WL):(zv n l).tdiv (zv m k)=zv (n != m) (toW (wnum l / wnum k)):=by
 rw[zv_toW]
 cases n<;>cases m<;>simp [zv,Int.neg_tdiv,Int.tdiv_neg,Int.ofNat_tdiv]
theorem zmod (n m:Bool) (l k:WL):(zv n l).tmod (zv m k)=zv n (toW (wnum l % wnum k)):=by
 have e:Int.tmod ((wnum l:Nat):Int) ((wnum k:Nat):Int)=((wnum l % wnum k:Nat):Int):=(Int.ofNat_tmod _ _).symm
 rw[zv_toW]
 cases n<;>cases m<;>simp only [zv,if_true,if_false,Bool.false_eq_true,Int.neg_tmod,Int.tmod_neg,e]
def zfit (l:WL):Bool:=decide (wnum l<2^4096)
theorem zfit_bits (l:WL):decide (((blen (wnum l):Nat):Int) > 4096)=!zfit l:=by
 unfold zfit
 rw[← decide_not]
 refine decide_eq_decide.2 ?_
 have:=@blen_le (wnum l) 4096
 omega
def zE (z:Int):Int:=if z.natAbs<2^4096 then 0 else 3
def zL (E:Int) (z:Int):WL:=if E=0 then toW z.natAbs else []
def zN (E:Int) (z:Int):Bool:=if E=0 then decide (z<0) else false
def ZAns (S S':Mem) (v:Value) (E:Int) (z:Int):Prop:=∃ d:Hd,v=.tuple #[.agg #[.bool (zN E z),d.v],.int .i64 E]∧RetW S S' d (zL E z)
theorem ZAns.no {S S':Mem} {E:Int} {z:Int} (k:Cons S S') (h:E≠0):ZAns S S' (.tuple #[.agg #[.bool false,.slice none 0 0],.int .i64 E]) E z:=
 ⟨Hd0,by unfold zN;rw[if_neg h];rfl,by unfold zL;rw[if_neg h];exact RetW.nil k⟩
theorem ZAns.ok {S S1 S':Mem} {d:Hd} {z:Int} {b:Bool} (k:Cons S S1) (h:RetW S1 S' d (toW z.natAbs)) (hb:b=decide (z<0)):ZAns S S' (.tuple #[.agg #[.bool b,d.v],.int .i64 0]) 0 z:=⟨d,by rw[hb];rfl,h.pre k⟩
end
section
open Go
variable {G:Nat} {Ext:FuncId→List Value→Mem→Outc→Mem→Prop}
def Book (S:Mem) (rb:Nat) (ws bs:List Hd) (ps:List Nat):Prop:=
 ∃ hw hb:Hd,S.row? rb=some (newR [hw.v,hb.v] 33)∧HdOk S 22 hw (ws.map Hd.v)∧HdOk S 62 hb (bs.map Hd.v)∧rb∈ps ∧
  (∀ b,hw.a=some b→b∈ps∧b≠rb)∧(∀ b,hb.a=some b→b∈ps∧b≠rb∧hw.a≠some b)
theorem Book.keep {S S1:Mem} {rb:Nat} {ws bs:List Hd} {ps cs:List Nat} (h:Book S rb ws bs ps) (k:KeepL cs S S1) (hd:∀ b∈cs,b ∉ ps):Book S1 rb ws bs ps:=by
 obtain⟨hw,hb,h1,h2,h3,h4,h5,h6⟩:=h
 exact⟨hw,hb,k.row h1 (fun hm=>hd _ hm h4),h2.keep k (fun b e hm=>hd _ hm (h5 b e).1),h3.keep k (fun b e hm=>hd _ hm (h6 b e).1),h4,h5,h6⟩
theorem Book.cons {S S1:Mem} {rb:Nat} {ws bs:List Hd} {ps:List Nat} (h:Book S rb ws bs ps) (k:Cons S S1):Book S1 rb ws bs ps:=h.keep (k.keepL []) (by simp)
theorem Book.new (S:Mem):Book (S++[newR [.slice none 0 0,.slice none 0 0] 33]) S.length [] [] [S.length]:=
 ⟨⟨none,0,0⟩,⟨none,0,0⟩,row_push_new rfl,HdOk.nil _ _,HdOk.nil _ _,by simp,nofun,nofun⟩
def Sub2 (S:Mem) (ps ps':List Nat):Prop:=∀ r∈ps',r∈ps∨S.length≤r
theorem words_C (S:Mem) (h:Hd) (rb:Nat) (ws bs:List Hd) (ps:List Nat) (hB:Book S rb ws bs ps) (hn:ws.length<1000000) :
  C Tryz.prog G Ext 62 [.pointer (some ⟨rb,0,none⟩),h.v] S fun v S'=>∃ ps',Book S' rb (ws++[h]) bs ps'∧Sub2 S ps ps'∧KeepL ps S S':=by
 obtain⟨hw,hb,hr,h2,h3,h4,h5,h6⟩:=hB
 refine C.fn Tryz.func62 rfl (by kernel_rfl) rfl (go ?_)
 refine L.ld (cell_of hr rfl) rfl rfl rfl (go ?_)
 refine L.pushH (h:=hw) rfl h2 rfl rfl rfl rfl rfl (by have:=h2.len;rw[List.length_map] at this;omega) rfl (fun _=>rfl) (fun p h' S1 k1 k2 k3 k4=>?_)
 obtain⟨b',k5,k6⟩:=k3
 have hne:rb ∉ hw.a.toList:=fun hm=>by
  have:=(h5 rb (by simpa using hm)).2
  exact this rfl
 have hr1:=k4.row hr hne
 refine go ?_
 refine L.st (ad:=⟨rb,0,none⟩) (vs:=[h'.v]) (write_of hr1 rfl (by simp [newR]) rfl) rfl rfl rfl rfl ?_
 rw[putFrom_one _ _ _ (by simp [newR])]
 refine go ?_
 have hlt:=row_lt hr
 have hk:=Keep.set rb S1 { newR [hw.v,hb.v] 33 with cells:=List.set (newR [hw.v,hb.v] 33).cells 0 h'.v }
 have hkl:=Keep.keepL (bs:=[rb]) hk (by simp)
 refine⟨.inl rfl,_,rfl,b' :: ps,⟨h',hb,row_set_same hr1 rfl,?_,?_,by simp [h4],?_,?_⟩,?_,?_⟩
 ·rw[List.map_append];exact k1.keep hkl (fun b e hm=>by rw[k5] at e;cases e;simp at hm;omega)
 ·exact(h3.keep k4 (fun b e hm=>(h6 b e).2.2 (by simpa using hm))).keep hkl (fun b e hm=>(h6 b e).2.1 (by simpa using hm))
 ·intro b e;rw[k5] at e;cases e;exact⟨by simp,by omega⟩
 ·intro b e
  have:=h3.lt e
  exact⟨by simp [(h6 b e).1],(h6 b e).2.1,fun e2=>by rw[k5] at e2;cases e2;omega⟩
 ·intro r hm
  rcases List.mem_cons.1 hm with rfl | hm
  ·exact .inr k6
  ·exact .inl hm
 ·refine(k4.mono ?_).then hkl (by simp [h4])
  intro r hm
  exact(h5 r (by simpa using hm)).1
end
section
open Go
variable {G:Nat} {Ext:FuncId→List Value→Mem→Outc→Mem→Prop}
def mkW (k n:Nat):List Value:=(List.range n).map fun (i:Nat)=>v64 (mk k i)
def mkB (k n:Nat):List Value:=(List.range n).map fun (i:Nat)=>v8 ((mk k i).setWidth 8)
theorem mkW_succ (k n:Nat):mkW k (n+1)=mkW k n++[v64 (mk k n)]:=by simp [mkW,List.range_succ]
theorem mkB_succ (k n:Nat):mkB k (n+1)=mkB k n++[v8 ((mk k n).setWidth 8)]:=by simp [mkB,List.range_succ]
theorem mkW_get {k n i:Nat} (h:i<n):(mkW k n)[i]?=some (v64 (mk k i)):=by simp [mkW,h]
theorem mkB_get {k n i:Nat} (h:i<n):(mkB k n)[i]?=some (v8 ((mk k i).setWidth 8)):=by simp [mkB,h]
theorem take_set_succ {l m:List Value} {w:Value} {i:Nat} (h:l.take i=m) (hi:i<l.length):(l.set i w).take (i+1)=m++[w]:=by
 rw[List.take_add_one,List.getElem?_set_self hi,List.take_set_of_le (Nat.le_refl i),h];rfl
def blks (hs:List Hd):List Nat:=hs.filterMap Hd.a
theorem blks_mem {hs:List Hd} {h:Hd} {b:Nat} {k:Nat} (hk:hs[k]?=some h) (hb:h.a=some b):b∈blks hs:=List.mem_filterMap.2 ⟨h,List.mem_of_getElem? hk,hb⟩
theorem blks_at {hs:List Hd} {b:Nat} (h:b∈blks hs):∃ (k:Nat) (d:Hd),hs[k]?=some d∧d.a=some b:=by
 obtain⟨d,h1,h2⟩:=List.mem_filterMap.1 h
 obtain⟨k,h3⟩:=List.getElem?_of_mem h1
 exact⟨k,d,h3,h2⟩
def Own (hs:List Hd):Prop:=∀ (i j:Nat) (h d:Hd) (b:Nat),hs[i]?=some h→hs[j]?=some d→h.a=some b→d.a=some b→i=j
def Alive (S:Mem) (el:TypeId) (hs:List Hd):Prop:=∀ (i:Nat) (h:Hd),hs[i]?=some h→h.n≤1000000000000∧∃ l,HdOk S el h l
def Marked (S:Mem) (el:TypeId) (f:Nat→Nat→List Value) (x:Nat) (hs:List Hd):Prop:=∀ (i:Nat) (h:Hd),hs[i]?=some h→HdOk S el h (f i (h.n+x))
theorem Alive.keep {S S1:Mem} {el:TypeId} {hs:List Hd} {bs:List Nat} (h:Alive S el hs) (k:KeepL bs S S1) (hd:∀ b∈bs,b ∉ blks hs):Alive S1 el hs:=fun i d hi=>
 ⟨(h i d hi).1,(h i d hi).2.imp fun l h2=>h2.keep k fun b e hm=>hd b hm (blks_mem hi e)⟩
set_option maxHeartbeats 1000000 in
theorem apart_C (S:Mem) (rb:Nat) (ws bs:List Hd) (ps:List Nat) (hB:Book S rb ws bs ps) (hn:ws.length<1000000∧bs.length<1000000) (hAws:Alive S 57 ws) (hAbs:Alive S 5 bs)
  (hOws:Own ws) (hObs:Own bs) (hdws:∀ b∈blks ws,b ∉ ps) (hdbs:∀ b∈blks bs,b ∉ ps) (hdd:∀ b∈blks ws,b ∉ blks bs) :
  C Tryz.prog G Ext 16 [.pointer (some ⟨rb,0,none⟩)] S fun v S'=>v=.bool true∧KeepL (blks ws++blks bs) S S':=by
 refine C.fn Tryz.func16 rfl (by kernel_rfl) rfl ?_
 have hBws:=hB
 refine go ?_
 refine W.loop (fun j e S'=>∃ k:Nat,j=ws.length - k∧k≤ws.length∧e 0=.pointer (some ⟨rb,0,none⟩)∧e 3=vi k∧KeepL (blks ws) S S'∧(∀ (i:Nat) (h:Hd),ws[i]?=some h→if i<k then HdOk S' 57 h (mkW i h.n) else ∃ l,HdOk S' 57 h l)) ws.length
  ⟨0,by omega,by omega,rfl,rfl,KeepL.refl _ _,fun i h hi=>by rw[if_neg (by omega)];exact(hAws i h hi).2⟩ ?_
 rintro j e S' ⟨k,rfl,hk,e0,ek,hkeep,hst⟩
 refine W.env2 e0 ek ?_
 obtain⟨hw,hb,hr,h2,h3,h4,h5,h6⟩:=hBws.keep hkeep hdws
 have hlen:=h2.len
 rw[List.length_map] at hlen
 refine go ?_
 refine L.ld (cell_of hr rfl) rfl rfl rfl (go ?_)
 refine W.ite rfl (fun h=>?_) (fun h=>?_)
 ·have hkl:k<ws.length:=by simp at h;omega
  obtain⟨hh,hkh⟩:∃ hh,ws[k]?=some hh:=⟨_,List.getElem?_eq_getElem hkl⟩
  have hel:(ws.map Hd.v)[k]?=some hh.v:=by rw[List.getElem?_map,hkh];rfl
  obtain⟨l0,hl0⟩:∃ l,HdOk S' 57 hh l:=by have:=hst k hh hkh;rwa [if_neg (by omega)] at this
  have hnb:∀ b,hh.a=some b→b≠rb:=fun b e hm=>hdws b (blks_mem hkh e) (hm ▸ h4)
  have hnw:∀ b,hh.a=some b→hw.a≠some b:=fun b e hm=>hdws b (blks_mem hkh e) (h5 b hm).1
  have hsm:=(hAws k hh hkh).1
  clear h
  refine go ?_
  refine W.loop (fun j e S''=>∃ (i:Nat) (l:List Value),j=hh.n - i∧i≤hh.n∧e 0=.pointer (some ⟨rb,0,none⟩)∧e 3=vi k∧e 4=vi i∧KeepL hh.a.toList S' S''∧HdOk S'' 57 hh l∧l.take i=mkW k i) hh.n
   ⟨0,l0,by omega,by omega,rfl,rfl,rfl,KeepL.refl _ _,hl0,rfl⟩ ?_
  rintro j e S'' ⟨i,l,rfl,hi,e0,ek,ei,hkp,hl,htk⟩
  refine W.env3 e0 ek ei ?_
  have hr2:=hkp.row hr (fun hm=>hnb rb (by simpa using hm) rfl)
  have hx2:=h2.keep hkp (fun b e hm=>hnw b (by simpa using hm) e)
  refine go ?_
  refine L.ld (cell_of hr2 rfl) rfl rfl rfl (go ?_)
  refine L.el hx2.slv rfl hel rfl rfl rfl rfl (fun _=>rfl) rfl (fun p=>go ?_)
  refine W.ite rfl (fun h=>?_) (fun h=>?_)
  ·have hin:i<hh.n:=by simp at h;omega
   obtain⟨a,n,c⟩:=hh
   obtain⟨b,rfl⟩:∃ b,a=some b:=by
    obtain⟨_,⟨_,h0,_⟩ | ⟨b,_,h0,_⟩⟩:=hl
    ·dsimp only at h0 hin;omega
    ·exact⟨b,h0⟩
   obtain⟨r,hrr,hro,hrl,hrt⟩:=hl.row
   have hll:=hl.len
   dsimp only at hin hll hi
   refine go ?_
   refine L.ld (cell_of hr2 rfl) rfl rfl rfl (go ?_)
   refine L.el hx2.slv rfl hel rfl rfl rfl rfl (fun _=>rfl) rfl (fun p=>go ?_)
   refine L.cl (mark_C _ _ _) rfl rfl ?_
   rintro _ _ ⟨rfl,rfl⟩
   refine⟨fun _=>Cons.refl _,?_⟩
   refine L.elst hrr hro (by omega) rfl hin rfl rfl rfl rfl (fun _=>rfl) (fun _=>rfl) rfl rfl rfl (fun p=>go ?_)
   rw[Nat.zero_add]
   refine⟨n - (i+1),by show n - (i+1)<n - i;omega,i+1,_,rfl,by show i+1≤n;omega,rfl,rfl,?_,?_,hl.set _ hrr,?_⟩
   ·refine(force_eq rfl).trans ?_
    rw[wrap64 (by omega) (by dsimp only at hsm;omega)];rfl
   ·exact hkp.trans ((Keep.set b _ _).keepL (by simp))
   ·rw[mkW_succ];exact take_set_succ htk (by omega)
  ·have hin:i=hh.n:=by simp at h;omega
   subst hin
   refine go ?_
   refine⟨ws.length - (k+1),by omega,k+1,rfl,by omega,rfl,?_,?_,?_⟩
   ·refine(force_eq rfl).trans ?_
    rw[wrap64 (by omega) (by omega)];rfl
   ·exact hkeep.trans (hkp.mono fun b hm=>blks_mem hkh (by simpa using hm))
   ·intro i h hi'
    by_cases hik:i=k
    ·subst hik
     rw[hkh] at hi';cases hi'
     rw[if_pos (by omega)]
     rw[List.take_of_length_le (Nat.le_of_eq hl.len)] at htk
     rw[← htk];exact hl
    ·have hne:∀ b,h.a=some b→b ∉ hh.a.toList:=fun b e hm=>hik (hOws i k h hh b hi' hkh e (by simpa using hm))
     have:=hst i h hi'
     split at this
     ·rw[if_pos (by omega)];exact this.keep hkp hne
     ·rw[if_neg (by omega)]
      obtain⟨l',hl'⟩:=this
      exact⟨l',hl'.keep hkp hne⟩
 have hkl:k=ws.length:=by simp at h;omega
 subst hkl
 have hMws:Marked S' 57 mkW 0 ws:=fun i h hi=>by
  have:=hst i h hi
  have hlt:=(List.getElem?_eq_some_iff.1 hi).1
  rw[if_pos hlt] at this
  exact this
 clear hst h hr h2 h3 h5 h6 hlen ek
 rename Mem=>S1
 have hBbs:=hBws.keep hkeep hdws
 have hAbs:=hAbs.keep hkeep hdd
 have hkeep1:=hkeep
 clear hBws hkeep e0 hk
 refine go ?_
 refine W.loop (fun j e S'=>∃ k:Nat,j=bs.length - k∧k≤bs.length∧e 0=.pointer (some ⟨rb,0,none⟩)∧e 5=vi k∧KeepL (blks bs) S1 S'∧(∀ (i:Nat) (h:Hd),bs[i]?=some h→if i<k then HdOk S' 5 h (mkB i h.n) else ∃ l,HdOk S' 5 h l)) bs.length
  ⟨0,by omega,by omega,rfl,rfl,KeepL.refl _ _,fun i h hi=>by rw[if_neg (by omega)];exact(hAbs i h hi).2⟩ ?_
 rintro j e S' ⟨k,rfl,hk,e0,ek,hkeep,hst⟩
 refine W.env2 e0 ek ?_
 obtain⟨hw,hb,hr,h2,h3,h4,h5,h6⟩:=hBbs.keep hkeep hdbs
 have hlen:=h3.len
 rw[List.length_map] at hlen
 refine go ?_
 refine L.ld (cell_of hr rfl) rfl rfl rfl (go ?_)
 refine W.ite rfl (fun h=>?_) (fun h=>?_)
 ·have hkl:k<bs.length:=by simp at h;omega
  obtain⟨hh,hkh⟩:∃ hh,bs[k]?=some hh:=⟨_,List.getElem?_eq_getElem hkl⟩
  have hel:(bs.map Hd.v)[k]?=some hh.v:=by rw[List.getElem?_map,hkh];rfl
  obtain⟨l0,hl0⟩:∃ l,HdOk S' 5 hh l:=by have:=hst k hh hkh;rwa [if_neg (by omega)] at this
  have hnb:∀ b,hh.a=some b→b≠rb:=fun b e hm=>hdbs b (blks_mem hkh e) (hm ▸ h4)
  have hnw:∀ b,hh.a=some b→hb.a≠some b:=fun b e hm=>hdbs b (blks_mem hkh e) (h6 b hm).1
  have hsm:=(hAbs k hh hkh).1
  clear h
  refine go ?_
  refine W.loop (fun j e S''=>∃ (i:Nat) (l:List Value),j=hh.n - i∧i≤hh.n∧e 0=.pointer (some ⟨rb,0,none⟩)∧e 5=vi k∧e 6=vi i∧KeepL hh.a.toList S' S''∧HdOk S'' 5 hh l∧l.take i=mkB k i) hh.n
   ⟨0,l0,by omega,by omega,rfl,rfl,rfl,KeepL.refl _ _,hl0,rfl⟩ ?_
  rintro j e S'' ⟨i,l,rfl,hi,e0,ek,ei,hkp,hl,htk⟩
  refine W.env3 e0 ek ei ?_
  have hr2:=hkp.row hr (fun hm=>hnb rb (by simpa using hm) rfl)
  have hx2:=h3.keep hkp (fun b e hm=>hnw b (by simpa using hm) e)
  refine go ?_
  refine L.ld (cell_of hr2 rfl) rfl rfl rfl (go ?_)
  refine L.el hx2.slv rfl hel rfl rfl rfl rfl (fun _=>rfl) rfl (fun p=>go ?_)
  refine W.ite rfl (fun h=>?_) (fun h=>?_)
  ·have hin:i<hh.n:=by simp at h;omega
   obtain⟨a,n,c⟩:=hh
   obtain⟨b,rfl⟩:∃ b,a=some b:=by
    obtain⟨_,⟨_,h0,_⟩ | ⟨b,_,h0,_⟩⟩:=hl
    ·dsimp only at h0 hin;omega
    ·exact⟨b,h0⟩
   obtain⟨r,hrr,hro,hrl,hrt⟩:=hl.row
   have hll:=hl.len
   dsimp only at hin hll hi
   refine go ?_
   refine L.ld (cell_of hr2 rfl) rfl rfl rfl (go ?_)
   refine L.el hx2.slv rfl hel rfl rfl rfl rfl (fun _=>rfl) rfl (fun p=>go ?_)
   refine L.cl (mark_C _ _ _) rfl rfl ?_
   rintro _ _ ⟨rfl,rfl⟩
   refine⟨fun _=>Cons.refl _,go ?_⟩
   refine L.elst hrr hro (by omega) rfl hin rfl rfl rfl rfl (fun _=>rfl) (fun _=>rfl) rfl rfl rfl (fun p=>go ?_)
   rw[Nat.zero_add]
   refine⟨n - (i+1),by show n - (i+1)<n - i;omega,i+1,_,rfl,by show i+1≤n;omega,rfl,rfl,?_,?_,hl.set _ hrr,?_⟩
   ·refine(force_eq rfl).trans ?_
    rw[wrap64 (by omega) (by dsimp only at hsm;omega)];rfl
   ·exact hkp.trans ((Keep.set b _ _).keepL (by simp))
   ·rw[mkB_succ,show v8 ((mk k i).setWidth 8)=.int .u8 (IntKind.u8.wrap ((mk k i).toNat:Int)) by rw[u8_of_v64]];exact take_set_succ htk (by omega)
  ·have hin:i=hh.n:=by simp at h;omega
   subst hin
   refine go ?_
   refine⟨bs.length - (k+1),by omega,k+1,rfl,by omega,rfl,?_,?_,?_⟩
   ·refine(force_eq rfl).trans ?_
    rw[wrap64 (by omega) (by omega)];rfl
   ·exact hkeep.trans (hkp.mono fun b hm=>blks_mem hkh (by simpa using hm))
   ·intro i h hi'
    by_cases hik:i=k
    ·subst hik
     rw[hkh] at hi';cases hi'
     rw[if_pos (by omega)]
     rw[List.take_of_length_le (Nat.le_of_eq hl.len)] at htk
     rw[← htk];exact hl
    ·have hne:∀ b,h.a=some b→b ∉ hh.a.toList:=fun b e hm=>hik (hObs i k h hh b hi' hkh e (by simpa using hm))
     have:=hst i h hi'
     split at this
     ·rw[if_pos (by omega)];exact this.keep hkp hne
     ·rw[if_neg (by omega)]
      obtain⟨l',hl'⟩:=this
      exact⟨l',hl'.keep hkp hne⟩
 have hkl:k=bs.length:=by simp at h;omega
 subst hkl
 have hMbs:Marked S' 5 mkB 0 bs:=fun i h hi=>by
  have:=hst i h hi
  have hlt:=(List.getElem?_eq_some_iff.1 hi).1
  rw[if_pos hlt] at this
  exact this
 clear hst h hr h2 h3 h5 h6 hlen ek
 rename Mem=>S2
 have hBws:=hBbs.keep hkeep hdbs
 have hMbs2:Marked S2 5 mkB 0 bs:=hMbs
 have hMws:Marked S2 57 mkW 0 ws:=fun i h hi=>(hMws i h hi).keep hkeep (fun b e hm=>hdd b (blks_mem hi e) hm)
 have hkeep2:KeepL (blks ws++blks bs) S S2:=(hkeep1.mono (by simp +contextual)).trans (hkeep.mono (by simp +contextual))
 clear hBbs hkeep hkeep1 e0 hk
 refine go ?_
 refine W.loop (fun j e S'=>∃ (k:Nat) (dw:List Hd) (hxw:Hd),j=ws.length - k∧k≤ws.length∧e 0=.pointer (some ⟨rb,0,none⟩)∧e 8=vi k∧e 7=hxw.v∧e 0=.pointer (some ⟨rb,0,none⟩)∧dw.length=k∧KeepL (blks ws) S2 S'∧HdOk S' 22 hxw (dw.map Hd.v) ∧
   (∀ b,hxw.a=some b→List.length S2≤b)∧(∀ (i:Nat) (d:Hd),dw[i]?=some d→(∃ h,ws[i]?=some h∧HdOk S' 57 d (mkW i (h.n+64))∧d.n=h.n+64)∧∃ b,d.a=some b∧List.length S2≤b∧hxw.a≠some b) ∧
   (∀ (i:Nat) (h:Hd),ws[i]?=some h→k≤i→HdOk S' 57 h (mkW i h.n))) ws.length
  ⟨0,[],⟨none,0,0⟩,by omega,by omega,rfl,rfl,rfl,rfl,rfl,KeepL.refl _ _,HdOk.nil _ _,nofun,fun i d hi=>by simp at hi,fun i h hi _=>hMws i h hi⟩ ?_
 rintro j e S' ⟨k,dw,hxw,rfl,hk,e0,ek,ex,eo,hdl,hkeep,hhx,hxb,hds,hst⟩
 refine W.env4 e0 ek ex eo ?_
 obtain⟨hw,hb,hr,h2,h3,h4,h5,h6⟩:=hBws.keep hkeep hdws
 have hlen:=h2.len
 rw[List.length_map] at hlen
 refine go ?_
 refine L.ld (cell_of hr rfl) rfl rfl rfl (go ?_)
 refine W.ite rfl (fun h=>?_) (fun h=>?_)
 ·have hkl:k<ws.length:=by simp at h;omega
  obtain⟨hh,hkh⟩:∃ hh,ws[k]?=some hh:=⟨_,List.getElem?_eq_getElem hkl⟩
  have hel:(ws.map Hd.v)[k]?=some hh.v:=by rw[List.getElem?_map,hkh];rfl
  have hl0:=hst k hh hkh (Nat.le_refl _)
  have hnb:∀ b,hh.a=some b→b≠rb:=fun b e hm=>hdws b (blks_mem hkh e) (hm ▸ h4)
  have hnw:∀ b,hh.a=some b→hw.a≠some b:=fun b e hm=>hdws b (blks_mem hkh e) (h5 b hm).1
  have hlt:∀ b,hh.a=some b→b<List.length S2:=fun b e=>by
   have:=hMws k hh hkh
   exact this.lt e
  have hsm:=(hAws k hh hkh).1
  have hSl:=hkeep.1
  clear h
  refine go ?_
  refine L.ld (cell_of hr rfl) rfl rfl rfl (go ?_)
  refine L.el h2.slv rfl hel rfl rfl rfl rfl (fun _=>rfl) rfl (fun p=>go ?_)
  refine W.loop (fun j e S''=>∃ (i:Nat) (hl:Hd),j=64 - i∧i≤64∧e 0=.pointer (some ⟨rb,0,none⟩)∧e 8=vi k∧e 7=hxw.v∧e 0=.pointer (some ⟨rb,0,none⟩)∧e 9=hl.v∧e 10=vi i∧KeepL hh.a.toList S' S''∧HdOk S'' 57 hl (mkW k (hh.n+i))∧hl.n=hh.n+i∧((i=0∧hl.a=hh.a)∨∃ b,hl.a=some b∧List.length S'≤b)) 64
   ⟨0,hh,by omega,by omega,rfl,rfl,rfl,rfl,rfl,rfl,KeepL.refl _ _,hl0,rfl,.inl ⟨rfl,rfl⟩⟩ ?_
  rintro j e S'' ⟨i,hl,rfl,hi,e0,ek,ex,eo,el,ei,hkp,hhl,hln,hla⟩
  refine W.env6 e0 ek ex eo el ei ?_
  have hr2:=hkp.row hr (fun hm=>hnb rb (by simpa using hm) rfl)
  have hx2:=h2.keep hkp (fun b e hm=>hnw b (by simpa using hm) e)
  refine go ?_
  refine W.ite rfl (fun h=>?_) (fun h=>?_)
  ·have hin:i<64:=by simp at h;omega
   refine go ?_
   refine L.ld (cell_of hr2 rfl) rfl rfl rfl (go ?_)
   refine L.el hx2.slv rfl hel rfl rfl rfl rfl (fun _=>rfl) rfl (fun p=>go ?_)
   refine L.cl (mark_C _ _ _) rfl rfl ?_
   rintro _ _ ⟨rfl,rfl⟩
   refine⟨fun _=>Cons.refl _,?_⟩
   refine L.pushH (h:=hl) rfl hhl rfl rfl rfl rfl rfl (by omega) rfl (fun _=>rfl) (fun p h' S9 k1 k2 k3 k4=>?_)
   rw[wrap64 (by omega) (by omega)] at k1
   refine go ?_
   obtain⟨b',k5,k6⟩:=k3
   have hSl2:=hkp.1
   refine⟨64 - (i+1),by omega,i+1,h',rfl,by omega,rfl,rfl,rfl,rfl,rfl,?_,?_,?_,by omega,.inr ⟨b',k5,by omega⟩⟩
   ·refine(force_eq rfl).trans ?_
    rw[wrap64 (by omega) (by omega)];rfl
   ·refine hkp.then k4 ?_
    intro r hm
    rcases hla with ⟨_,hla⟩ | ⟨b,hla,hlb⟩
    ·rw[hla] at hm;exact .inl hm
    ·rw[hla] at hm;simp at hm;exact .inr (by omega)
   ·rw[show hh.n+(i+1)=(hh.n+i)+1 by omega,mkW_succ]
    exact k1
  ·have hin:i=64:=by simp at h;omega
   subst hin
   obtain⟨bl,hla,hlb⟩:∃ b,hl.a=some b∧List.length S'≤b:=by
    rcases hla with ⟨h0,_⟩ | h0
    ·omega
    ·exact h0
   have hbl:=hhl.lt hla
   have hxk:HdOk S'' 22 hxw (dw.map Hd.v):=hhx.keep hkp (fun b e hm=>by have:=hxb b e;have:=hlt b (by simpa using hm);omega)
   have hxn:=hxk.len
   rw[List.length_map] at hxn
   refine go ?_
   refine L.pushH (h:=hxw) rfl hxk rfl rfl rfl rfl rfl (by omega) rfl (fun _=>rfl) (fun p h' S9 k1 k2 k3 k4=>?_)
   obtain⟨b',k5,k6⟩:=k3
   refine go ?_
   have hSl2:=hkp.1
   have hkS:KeepL (blks ws) S' S'':=hkp.mono fun b hm=>blks_mem hkh (by simpa using hm)
   have hk4:∀ r∈hxw.a.toList,r∈blks ws∨List.length S2≤r:=fun r hm=>.inr (hxb r (by simpa using hm))
   refine⟨ws.length - (k+1),by omega,k+1,dw++[hl],h',rfl,by omega,rfl,?_,rfl,rfl,by simp [hdl],(hkeep.trans hkS).then k4 hk4,by rw[List.map_append];exact k1,?_,?_,?_⟩
   ·refine(force_eq rfl).trans ?_
    rw[wrap64 (by omega) (by omega)];rfl
   ·intro b e;rw[k5] at e;cases e;omega
   ·intro i d hi'
    rw[List.getElem?_append] at hi'
    split at hi'
    ·obtain⟨⟨h9,q1,q2,q3⟩,b9,q4,q5,q6⟩:=hds i d hi'
     have q7:=q2.lt q4
     refine⟨⟨h9,q1,(q2.keep hkp (fun b e hm=>?_)).keep k4 (fun b e hm=>?_),q3⟩,b9,q4,q5,fun e=>?_⟩
     ·rw[q4] at e;cases e
      have:=hlt _ (by simpa using hm:hh.a=some b9);omega
     ·rw[q4] at e;cases e
      exact q6 (by simpa using hm)
     ·rw[k5] at e;cases e;omega
    ·rename_i hge
     rw[List.getElem?_singleton] at hi'
     split at hi'
     ·rename_i h0
      cases hi'
      have hik:i=k:=by omega
      subst hik
      refine⟨⟨hh,hkh,hhl.keep k4 (fun b e hm=>?_),hln⟩,bl,hla,by omega,fun e=>?_⟩
      ·rw[hla] at e;cases e
       have:=hhx.lt (by simpa using hm:hxw.a=some bl)
       omega
      ·rw[k5] at e;cases e;omega
     ·cases hi'
   ·intro i h hi' hge
    have hq:=hst i h hi' (by omega)
    refine(hq.keep hkp (fun b e hm=>?_)).keep k4 (fun b e hm=>?_)
    ·have:=hOws i k h hh b hi' hkh e (by simpa using hm);omega
    ·have:=hxb b (by simpa using hm)
     have:=(hMws i h hi').lt e
     omega
 have hkl:k=ws.length:=by simp at h;omega
 clear h hr h2 h3 h5 h6 hlen ek e0 hst
 subst hkl
 rename Mem=>S3
 have hBbs:=hBws.keep hkeep hdws
 have hMbs:Marked S3 5 mkB 0 bs:=fun i h hi=>(hMbs i h hi).keep hkeep (fun b e hm=>hdd b hm (blks_mem hi e))
 have hhxdw:=hhx
 have hdsdw:=hds
 have hxbw:=hxb
 have hkeep3:KeepL (blks ws++blks bs) S S3:=hkeep2.trans (hkeep.mono (by simp +contextual))
 have hS23:=hkeep.1
 clear hkeep hkeep2 hhx hds hxb hBws hk
 refine go ?_
 refine W.loop (fun j e S'=>∃ (k:Nat) (ds:List Hd) (hx:Hd),j=bs.length - k∧k≤bs.length∧e 0=.pointer (some ⟨rb,0,none⟩)∧e 12=vi k∧e 11=hx.v∧e 7=hxw.v∧ds.length=k∧KeepL (blks bs) S3 S'∧HdOk S' 62 hx (ds.map Hd.v) ∧
   (∀ b,hx.a=some b→List.length S3≤b)∧(∀ (i:Nat) (d:Hd),ds[i]?=some d→(∃ h,bs[i]?=some h∧HdOk S' 5 d (mkB i (h.n+64))∧d.n=h.n+64)∧∃ b,d.a=some b∧List.length S3≤b∧hx.a≠some b) ∧
   (∀ (i:Nat) (h:Hd),bs[i]?=some h→k≤i→HdOk S' 5 h (mkB i h.n))) bs.length
  ⟨0,[],⟨none,0,0⟩,by omega,by omega,rfl,rfl,rfl,rfl,rfl,KeepL.refl _ _,HdOk.nil _ _,nofun,fun i d hi=>by simp at hi,fun i h hi _=>hMbs i h hi⟩ ?_
 rintro j e S' ⟨k,ds,hx,rfl,hk,e0,ek,ex,eo,hdl,hkeep,hhx,hxb,hds,hst⟩
 refine W.env4 e0 ek ex eo ?_
 obtain⟨hw,hb,hr,h2,h3,h4,h5,h6⟩:=hBbs.keep hkeep hdbs
 have hlen:=h3.len
 rw[List.length_map] at hlen
 refine go ?_
 refine L.ld (cell_of hr rfl) rfl rfl rfl (go ?_)
 refine W.ite rfl (fun h=>?_) (fun h=>?_)
 ·have hkl:k<bs.length:=by simp at h;omega
  obtain⟨hh,hkh⟩:∃ hh,bs[k]?=some hh:=⟨_,List.getElem?_eq_getElem hkl⟩
  have hel:(bs.map Hd.v)[k]?=some hh.v:=by rw[List.getElem?_map,hkh];rfl
  have hl0:=hst k hh hkh (Nat.le_refl _)
  have hnb:∀ b,hh.a=some b→b≠rb:=fun b e hm=>hdbs b (blks_mem hkh e) (hm ▸ h4)
  have hnw:∀ b,hh.a=some b→hb.a≠some b:=fun b e hm=>hdbs b (blks_mem hkh e) (h6 b hm).1
  have hlt:∀ b,hh.a=some b→b<List.length S3:=fun b e=>by
   have:=hMbs k hh hkh
   exact this.lt e
  have hsm:=(hAbs k hh hkh).1
  have hSl:=hkeep.1
  clear h
  refine go ?_
  refine L.ld (cell_of hr rfl) rfl rfl rfl (go ?_)
  refine L.el h3.slv rfl hel rfl rfl rfl rfl (fun _=>rfl) rfl (fun p=>go ?_)
  refine W.loop (fun j e S''=>∃ (i:Nat) (hl:Hd),j=64 - i∧i≤64∧e 0=.pointer (some ⟨rb,0,none⟩)∧e 12=vi k∧e 11=hx.v∧e 7=hxw.v∧e 13=hl.v∧e 14=vi i∧KeepL hh.a.toList S' S''∧HdOk S'' 5 hl (mkB k (hh.n+i))∧hl.n=hh.n+i∧((i=0∧hl.a=hh.a)∨∃ b,hl.a=some b∧List.length S'≤b)) 64
   ⟨0,hh,by omega,by omega,rfl,rfl,rfl,rfl,rfl,rfl,KeepL.refl _ _,hl0,rfl,.inl ⟨rfl,rfl⟩⟩ ?_
  rintro j e S'' ⟨i,hl,rfl,hi,e0,ek,ex,eo,el,ei,hkp,hhl,hln,hla⟩
  refine W.env6 e0 ek ex eo el ei ?_
  have hr2:=hkp.row hr (fun hm=>hnb rb (by simpa using hm) rfl)
  have hx2:=h3.keep hkp (fun b e hm=>hnw b (by simpa using hm) e)
  refine go ?_
  refine W.ite rfl (fun h=>?_) (fun h=>?_)
  ·have hin:i<64:=by simp at h;omega
   refine go ?_
   refine L.ld (cell_of hr2 rfl) rfl rfl rfl (go ?_)
   refine L.el hx2.slv rfl hel rfl rfl rfl rfl (fun _=>rfl) rfl (fun p=>go ?_)
   refine L.cl (mark_C _ _ _) rfl rfl ?_
   rintro _ _ ⟨rfl,rfl⟩
   refine⟨fun _=>Cons.refl _,go ?_⟩
   refine L.pushH (h:=hl) rfl hhl rfl rfl rfl rfl rfl (by omega) rfl (fun _=>rfl) (fun p h' S9 k1 k2 k3 k4=>?_)
   rw[wrap64 (by omega) (by omega)] at k1
   refine go ?_
   obtain⟨b',k5,k6⟩:=k3
   have hSl2:=hkp.1
   refine⟨64 - (i+1),by omega,i+1,h',rfl,by omega,rfl,rfl,rfl,rfl,rfl,?_,?_,?_,by omega,.inr ⟨b',k5,by omega⟩⟩
   ·refine(force_eq rfl).trans ?_
    rw[wrap64 (by omega) (by omega)];rfl
   ·refine hkp.then k4 ?_
    intro r hm
    rcases hla with ⟨_,hla⟩ | ⟨b,hla,hlb⟩
    ·rw[hla] at hm;exact .inl hm
    ·rw[hla] at hm;simp at hm;exact .inr (by omega)
   ·rw[show hh.n+(i+1)=(hh.n+i)+1 by omega,mkB_succ]
    (rw[u8_of_v64] at k1;exact k1)
  ·have hin:i=64:=by simp at h;omega
   subst hin
   obtain⟨bl,hla,hlb⟩:∃ b,hl.a=some b∧List.length S'≤b:=by
    rcases hla with ⟨h0,_⟩ | h0
    ·omega
    ·exact h0
   have hbl:=hhl.lt hla
   have hxk:HdOk S'' 62 hx (ds.map Hd.v):=hhx.keep hkp (fun b e hm=>by have:=hxb b e;have:=hlt b (by simpa using hm);omega)
   have hxn:=hxk.len
   rw[List.length_map] at hxn
   refine go ?_
   refine L.pushH (h:=hx) rfl hxk rfl rfl rfl rfl rfl (by omega) rfl (fun _=>rfl) (fun p h' S9 k1 k2 k3 k4=>?_)
   obtain⟨b',k5,k6⟩:=k3
   refine go ?_
   have hSl2:=hkp.1
   have hkS:KeepL (blks bs) S' S'':=hkp.mono fun b hm=>blks_mem hkh (by simpa using hm)
   have hk4:∀ r∈hx.a.toList,r∈blks bs∨List.length S3≤r:=fun r hm=>.inr (hxb r (by simpa using hm))
   refine⟨bs.length - (k+1),by omega,k+1,ds++[hl],h',rfl,by omega,rfl,?_,rfl,rfl,by simp [hdl],(hkeep.trans hkS).then k4 hk4,by rw[List.map_append];exact k1,?_,?_,?_⟩
   ·refine(force_eq rfl).trans ?_
    rw[wrap64 (by omega) (by omega)];rfl
   ·intro b e;rw[k5] at e;cases e;omega
   ·intro i d hi'
    rw[List.getElem?_append] at hi'
    split at hi'
    ·obtain⟨⟨h9,q1,q2,q3⟩,b9,q4,q5,q6⟩:=hds i d hi'
     have q7:=q2.lt q4
     refine⟨⟨h9,q1,(q2.keep hkp (fun b e hm=>?_)).keep k4 (fun b e hm=>?_),q3⟩,b9,q4,q5,fun e=>?_⟩
     ·rw[q4] at e;cases e
      have:=hlt _ (by simpa using hm:hh.a=some b9);omega
     ·rw[q4] at e;cases e
      exact q6 (by simpa using hm)
     ·rw[k5] at e;cases e;omega
    ·rename_i hge
     rw[List.getElem?_singleton] at hi'
     split at hi'
     ·rename_i h0
      cases hi'
      have hik:i=k:=by omega
      subst hik
      refine⟨⟨hh,hkh,hhl.keep k4 (fun b e hm=>?_),hln⟩,bl,hla,by omega,fun e=>?_⟩
      ·rw[hla] at e;cases e
       have:=hhx.lt (by simpa using hm:hx.a=some bl)
       omega
      ·rw[k5] at e;cases e;omega
     ·cases hi'
   ·intro i h hi' hge
    have hq:=hst i h hi' (by omega)
    refine(hq.keep hkp (fun b e hm=>?_)).keep k4 (fun b e hm=>?_)
    ·have:=hObs i k h hh b hi' hkh e (by simpa using hm);omega
    ·have:=hxb b (by simpa using hm)
     have:=(hMbs i h hi').lt e
     omega
 have hkl:k=bs.length:=by simp at h;omega
 clear h hr h2 h3 h5 h6 hlen ek e0 hst
 subst hkl
 rename Mem=>S4
 have hkeep4:KeepL (blks ws++blks bs) S S4:=hkeep3.trans (hkeep.mono (by simp +contextual))
 have hblt:∀ b∈blks bs,b<List.length S2:=fun b hm=>by
  obtain⟨k,d,h1,h2⟩:=blks_at hm
  exact(hMbs2 k d h1).lt h2
 have hhxdw:=hhxdw.keep hkeep (fun b e hm=>by have:=hxbw b e;have:=hblt b hm;omega)
 have hdsdw:∀ (i:Nat) (d:Hd),dw[i]?=some d→(∃ h,ws[i]?=some h∧HdOk S4 57 d (mkW i (h.n+64))∧d.n=h.n+64)∧True:=fun i d hi=>by
  obtain⟨⟨h9,q1,q2,q3⟩,b9,q4,q5,q6⟩:=hdsdw i d hi
  exact⟨⟨h9,q1,q2.keep hkeep (fun b e hm=>by rw[q4] at e;cases e;have:=hblt _ hm;omega),q3⟩,trivial⟩
 have hhxds:=hhx
 have hdsds:=hds
 clear hkeep hkeep3 hhx hds hxb hBbs hk hxbw
 refine go ?_
 refine W.loop (fun j e S'=>∃ k:Nat,j=dw.length - k∧k≤dw.length∧S4=S'∧e 7=hxw.v∧e 15=vi k∧e 11=hx.v) dw.length ⟨0,by omega,by omega,rfl,rfl,rfl,rfl⟩ ?_
 rintro j e S' ⟨k,rfl,hk,rfl,ex,ek,eo⟩
 refine W.env3 ex ek eo ?_
 have hlen:=hhxdw.len
 rw[List.length_map] at hlen
 refine go ?_
 refine W.ite rfl (fun h=>?_) (fun h=>?_)
 ·have hkl:k<dw.length:=by simp at h;omega
  obtain⟨dd,hkd⟩:∃ dd,dw[k]?=some dd:=⟨_,List.getElem?_eq_getElem hkl⟩
  have hel:(dw.map Hd.v)[k]?=some dd.v:=by rw[List.getElem?_map,hkd];rfl
  obtain⟨⟨hh,hkh,hdok,hdn⟩,_⟩:=hdsdw k dd hkd
  rw[← hdn] at hdok
  have hsm:=(hAws k hh hkh).1
  clear h
  refine go ?_
  refine W.loop (fun j e S''=>∃ i:Nat,j=dd.n - i∧i≤dd.n∧S4=S''∧e 7=hxw.v∧e 15=vi k∧e 11=hx.v∧e 16=vi i) dd.n ⟨0,by omega,by omega,rfl,rfl,rfl,rfl,rfl⟩ ?_
  rintro j e S'' ⟨i,rfl,hi,rfl,ex,ek,eo,ei⟩
  refine W.env4 ex ek eo ei (go ?_)
  refine L.el hhxdw.slv rfl hel rfl rfl rfl rfl (fun _=>rfl) rfl (fun p=>go ?_)
  refine W.ite rfl (fun h=>?_) (fun h=>?_)
  ·have hin:i<dd.n:=by simp at h;omega
   refine go ?_
   refine L.el hhxdw.slv rfl hel rfl rfl rfl rfl (fun _=>rfl) rfl (fun p=>go ?_)
   refine L.el hdok.slv rfl (mkW_get hin) rfl rfl rfl rfl (fun _=>rfl) rfl (fun p=>go ?_)
   refine L.cl (mark_C _ _ _) rfl rfl ?_
   rintro _ _ ⟨rfl,rfl⟩
   refine⟨fun _=>Cons.refl _,go ?_⟩
   refine W.ite rfl (fun h=>?_) (fun h=>?_)
   ·exfalso;(simp at h)
   ·refine go ?_
    refine⟨dd.n - (i+1),by omega,i+1,rfl,by omega,rfl,rfl,rfl,rfl,?_⟩
    refine(force_eq rfl).trans ?_
    rw[wrap64 (by omega) (by omega)];rfl
  ·refine go ?_
   refine⟨dw.length - (k+1),by omega,k+1,rfl,by omega,rfl,rfl,?_,rfl⟩
   refine(force_eq rfl).trans ?_
   rw[wrap64 (by omega) (by omega)];rfl
 clear h ek hlen
 refine go ?_
 refine W.loop (fun j e S'=>∃ k:Nat,j=ds.length - k∧k≤ds.length∧S4=S'∧e 11=hx.v∧e 17=vi k∧e 11=hx.v) ds.length ⟨0,by omega,by omega,rfl,rfl,rfl,rfl⟩ ?_
 rintro j e S' ⟨k,rfl,hk,rfl,ex,ek,eo⟩
 refine W.env3 ex ek eo ?_
 have hlen:=hhxds.len
 rw[List.length_map] at hlen
 refine go ?_
 refine W.ite rfl (fun h=>?_) (fun h=>?_)
 ·have hkl:k<ds.length:=by simp at h;omega
  obtain⟨dd,hkd⟩:∃ dd,ds[k]?=some dd:=⟨_,List.getElem?_eq_getElem hkl⟩
  have hel:(ds.map Hd.v)[k]?=some dd.v:=by rw[List.getElem?_map,hkd];rfl
  obtain⟨⟨hh,hkh,hdok,hdn⟩,_⟩:=hdsds k dd hkd
  rw[← hdn] at hdok
  have hsm:=(hAbs k hh hkh).1
  clear h
  refine go ?_
  refine W.loop (fun j e S''=>∃ i:Nat,j=dd.n - i∧i≤dd.n∧S4=S''∧e 11=hx.v∧e 17=vi k∧e 11=hx.v∧e 18=vi i) dd.n ⟨0,by omega,by omega,rfl,rfl,rfl,rfl,rfl⟩ ?_
  rintro j e S'' ⟨i,rfl,hi,rfl,ex,ek,eo,ei⟩
  refine W.env4 ex ek eo ei (go ?_)
  refine L.el hhxds.slv rfl hel rfl rfl rfl rfl (fun _=>rfl) rfl (fun p=>go ?_)
  refine W.ite rfl (fun h=>?_) (fun h=>?_)
  ·have hin:i<dd.n:=by simp at h;omega
   refine go ?_
   refine L.el hhxds.slv rfl hel rfl rfl rfl rfl (fun _=>rfl) rfl (fun p=>go ?_)
   refine L.el hdok.slv rfl (mkB_get hin) rfl rfl rfl rfl (fun _=>rfl) rfl (fun p=>go ?_)
   refine L.cl (mark_C _ _ _) rfl rfl ?_
   rintro _ _ ⟨rfl,rfl⟩
   refine⟨fun _=>Cons.refl _,go ?_⟩
   refine W.ite rfl (fun h=>?_) (fun h=>?_)
   ·exfalso;(rw[u8_of_v64] at h;simp at h)
   ·refine go ?_
    refine⟨dd.n - (i+1),by omega,i+1,rfl,by omega,rfl,rfl,rfl,rfl,?_⟩
    refine(force_eq rfl).trans ?_
    rw[wrap64 (by omega) (by omega)];rfl
  ·refine go ?_
   refine⟨ds.length - (k+1),by omega,k+1,rfl,by omega,rfl,rfl,?_,rfl⟩
   refine(force_eq rfl).trans ?_
   rw[wrap64 (by omega) (by omega)];rfl
 clear h ek hlen
 refine go ?_
 exact⟨.inr rfl,_,rfl,rfl,hkeep4⟩
end
section
open Go
variable {G:Nat} {Ext:FuncId→List Value→Mem→Outc→Mem→Prop}
theorem Alive.nil (S:Mem) (el:TypeId):Alive S el []:=fun i h hi=>by simp at hi
theorem Own.nil:Own []:=fun i j h d b hi=>by simp at hi
theorem blks_nil:blks []=[]:=rfl
theorem Alive.lt {S:Mem} {el:TypeId} {hs:List Hd} (h:Alive S el hs) {b:Nat} (hb:b∈blks hs):b<S.length:=by
 obtain⟨k,d,h1,h2⟩:=blks_at hb
 obtain⟨_,l,h3⟩:=h k d h1
 exact h3.lt h2
end
section
open Go
variable {G:Nat} {Ext:FuncId→List Value→Mem→Outc→Mem→Prop}
theorem mem_blks' {ds:List Hd} {d:Hd} {b:Nat}:b∈blks (ds++[d])↔b∈blks ds∨d.a=some b:=by
 unfold blks
 rw[List.filterMap_append,List.mem_append]
 refine or_congr_right ?_
 cases h:d.a with
 | none=>simp [h]
 | some x=>simp [h,eq_comm]
theorem Book.trim {S:Mem} {rb:Nat} {ws bs:List Hd} {ps:List Nat} (h:Book S rb ws bs ps):Book S rb ws bs (ps.filter (·<S.length)):=by
 obtain⟨hw,hb,h1,h2,h3,h4,h5,h6⟩:=h
 refine⟨hw,hb,h1,h2,h3,List.mem_filter.2 ⟨h4,decide_eq_true (row_lt h1)⟩,fun b e=>⟨List.mem_filter.2 ⟨(h5 b e).1,decide_eq_true (h2.lt e)⟩,(h5 b e).2⟩,fun b e=>⟨List.mem_filter.2 ⟨(h6 b e).1,decide_eq_true (h3.lt e)⟩,(h6 b e).2⟩⟩
end
section
open Go
section
variable {P:Program} {G:Nat} {Ext:FuncId→List Value→Mem→Outc→Mem→Prop} {e:Env} {S:Mem} {fl:Bool} {ops:Array Oper} {K:Kont}
variable {rest:List Oper} {dst:Option Tmp} {op:Op} {ty:TypeId} {pos:String} {af:Array Edge} {gd:Option (Nat × Bool)}
theorem L.nr (cells:List Value) (el:TypeId) (hw:awanted ops ⟨dst,op,ty,pos,af,gd⟩ e=true) (hp:aeff P ⟨dst,op,ty,pos,af,gd⟩ e.eval S=some (.pointer (some ⟨S.length,0,none⟩),S++[newR cells el]))
  (h:∀ b T,S.length≤b→Cons S T→T.row? b=some (newR cells el)→L P G Ext fl ops rest (e.put dst (.pointer (some ⟨b,0,none⟩))) T K):L P G Ext fl ops (⟨dst,op,ty,pos,af,gd⟩ :: rest) e S K:=
 L.eff hw hp (h S.length _ (Nat.le_refl _) (Cons.push _ _) (row_push_new rfl))
theorem L.st2 {t:TypeId} {a x:Operand} {b:Nat} {x0 y0 u v:Value} {el:TypeId} (hr:S.row? b=some (newR [x0,y0] el)) (h1:oneCell u=true) (h2:oneCell v=true) (hw:awanted ops ⟨dst,.store t a x,ty,pos,af,gd⟩ e=true) (ha:e.eval a=.pointer (some ⟨b,0,none⟩))
  (hx:(e.eval x).cells.toList=[u,v]) (hn:cellsOf' P t=some 2) (h:∀ T,Keep b S T→T.row? b=some (newR [u,v] el)→L P G Ext fl ops rest (e.put dst undef) T K):L P G Ext fl ops (⟨dst,.store t a x,ty,pos,af,gd⟩ :: rest) e S K:=by
 refine L.st (ad:=⟨b,0,none⟩) (vs:=[u,v]) (write_of (o:=0) hr rfl (Nat.le_refl 2) (by simp [h1,h2])) hw ha hx hn ?_
 exact h _ (Keep.set _ _ _) (by rw[row_set_same hr rfl];rfl)
theorem L.stw {t:TypeId} {a x:Operand} {b:Nat} {cells:List Value} {el:TypeId} (vs:List Value) (hr:S.row? b=some (newR cells el)) (hlen:vs.length=cells.length) (h1:vs.all oneCell=true) (hw:awanted ops ⟨dst,.store t a x,ty,pos,af,gd⟩ e=true) (ha:e.eval a=.pointer (some ⟨b,0,none⟩))
  (hx:(e.eval x).cells.toList=vs) (hn:cellsOf' P t=some vs.length) (h:∀ T,Keep b S T→T.row? b=some (newR vs el)→L P G Ext fl ops rest (e.put dst undef) T K):L P G Ext fl ops (⟨dst,.store t a x,ty,pos,af,gd⟩ :: rest) e S K:=by
 refine L.st (ad:=⟨b,0,none⟩) (vs:=vs) (write_of (o:=0) hr rfl (by show 0+vs.length≤cells.length;omega) h1) hw ha hx hn ?_
 refine h _ (Keep.set _ _ _) ?_
 rw[row_set_same hr rfl]
 show some (newR (putFrom cells 0 vs) el)=_
 unfold putFrom
 rw[Nat.zero_add,hlen,List.drop_length]
 simp
end
theorem load2 {P:Program} {T:Mem} {b:Nat} {u v:Value} {el t:TypeId} (hr:T.row? b=some (newR [u,v] el)) (hl:aggSize P t=some 2):aloadAt P t (.pointer (some ⟨b,0,none⟩)) T=some (.agg #[u,v]):=
 aload_agg rfl hl (cellsAt_of (o:=0) (n:=2) hr (Nat.le_refl 2))
section
variable {P:Program} {G:Nat} {Ext:FuncId→List Value→Mem→Outc→Mem→Prop} {e:Env} {S:Mem} {fl:Bool} {ops:Array Oper} {K:Kont}
variable {rest:List Oper} {dst:Option Tmp} {ty:TypeId} {pos:String} {af:Array Edge} {gd:Option (Nat × Bool)}
theorem L.z2 {t:TypeId} {x:Operand} {b:Nat} {el:TypeId} {u v:Value} (hr:S.row? b=some (newR [u,v] el)) (hw:awanted ops ⟨dst,.load t x,ty,pos,af,gd⟩ e=true) (hx:e.eval x=.pointer (some ⟨b,0,none⟩)) (hl:aggSize P t=some 2)
  (h:L P G Ext fl ops rest (e.put dst (.agg #[u,v])) S K):L P G Ext fl ops (⟨dst,.load t x,ty,pos,af,gd⟩ :: rest) e S K:=
 L.ldA (a:=⟨b,0,none⟩) (n:=2) (cellsAt_of (o:=0) (n:=2) hr (Nat.le_refl 2)) hw hx hl h
end
theorem res2 {P:Program} {fn:Func} {e:Env} {S:Mem} {a s:Nat} {t:TypeId} {u:Value} (hfn:fn.results.toList=[.cell a t,.tmp s]) (h:aloadAt P t (e a) S=some u):aresults P fn e S=some (.tuple #[u,e s]):=by simp [aresults,hfn,ares1,h]
theorem res1 {P:Program} {fn:Func} {e:Env} {S:Mem} {a:Nat} {t:TypeId} {u:Value} (hfn:fn.results.toList=[.cell a t]) (h:aloadAt P t (e a) S=some u):aresults P fn e S=some u:=by simp [aresults,hfn,ares1,h]
theorem RetW.kp {S0 S1 T T':Mem} {d:Hd} {l:WL} {b:Nat} (h:RetW S1 T d l) (k:Keep b T T') (hb:b<S1.length) (hc:Cons S0 T') (h01:S0.length≤S1.length):RetW S0 T' d l:=
 ⟨hc,h.2.1,h.2.2.1.keep (bs:=[b]) (k.keepL (by simp)) (fun x hx=>by have:=h.2.2.2 x hx;simp;omega),fun x hx=>Nat.le_trans h01 (h.2.2.2 x hx)⟩
end
section
open Go
theorem cmp_swap (a b:Int):cmpI b a=- cmpI a b:=by
 unfold cmpI
 split<;>split<;>(try split)<;>omega
theorem cmp_sub (a b:Int):cmpI a b=cmpI (a - b) 0:=by
 unfold cmpI
 split<;>split<;>(try split)<;>(try split)<;>omega
theorem cmp_pos {a:Int} (h:0<a):cmpI a 0=1:=by unfold cmpI;rw[if_neg (by omega),if_pos h]
theorem cmp_neg {a:Int} (h:a<0):cmpI a 0=-1:=by unfold cmpI;rw[if_pos h]
theorem cmp_zero:cmpI 0 0=0:=by decide
theorem cmp_eq (a b:Int):cmpI a b=0↔a=b:=by
 unfold cmpI
 split
 ·omega
 ·split<;>omega
theorem cmp_zv (n:Bool) (l:WL):cmpI (zv n l) 0=if n then - cmpI ((wnum l:Nat):Int) 0 else cmpI ((wnum l:Nat):Int) 0:=by
 cases n
 ·rfl
 ·rw[zv_true,if_pos rfl,← cmp_swap,cmp_sub 0]
  congr 1
  omega
end
section
open Go Ie
variable {Ext:FuncId→List Value→Mem→Outc→Mem→Prop}
abbrev wT:TypeId:=24
section
variable {G:Nat} {Ext:FuncId→List Value→Mem→Outc→Mem→Prop} {e:Env} {S:Mem} {fl:Bool} {ops:Array Oper} {K:Kont}
variable {rest:List Oper} {dst:Option Tmp} {ty:TypeId} {pos:String} {af:Array Edge} {gd:Option (Nat × Bool)}
theorem L.b0 (hw:awanted ops ⟨dst,.build wT #[],ty,pos,af,gd⟩ e=true) (h:L Tryz.prog G Ext fl ops rest (e.put dst (.agg #[.bool false,.slice none 0 0])) S K) :
  L Tryz.prog G Ext fl ops (⟨dst,.build wT #[],ty,pos,af,gd⟩ :: rest) e S K:=
 L.bd #[.bool false,.slice none 0 0] (pl:=[]) (z:=.agg #[.bool false,.slice none 0 0]) rfl rfl rfl (by kernel_rfl) hw h
theorem L.b2 {x y:Operand} {b:Bool} {a:Option Addr} {n c:Nat} (hx:e.eval x=.bool b) (hy:e.eval y=.slice a n c) (hw:awanted ops ⟨dst,.build wT #[(0,x),(1,y)],ty,pos,af,gd⟩ e=true)
  (h:L Tryz.prog G Ext fl ops rest (e.put dst (.agg #[.bool b,.slice a n c])) S K):L Tryz.prog G Ext fl ops (⟨dst,.build wT #[(0,x),(1,y)],ty,pos,af,gd⟩ :: rest) e S K:=
 L.bd #[.bool b,.slice a n c] (pl:=[(0,.bool b),(1,.slice a n c)]) (z:=.agg #[.bool false,.slice none 0 0]) rfl (by show [(0,e.eval x),(1,e.eval y)]=_;rw[hx,hy]) rfl (by kernel_rfl) hw h
end
def wZ (n:Bool) (v:Value):Value:=.agg #[.bool n,v]
theorem zE_fit {n:Bool} {l:WL}:zE (zv n l)=if zfit l then 0 else 3:=by
 unfold zE zfit
 rw[zv_abs]
 by_cases h:wnum l<2^4096
 ·rw[if_pos h,decide_eq_true h];rfl
 ·rw[if_neg h,decide_eq_false h];rfl
theorem zfit_small {l:WL} (h:zfit l=true):wnum l<2^4096:=of_decide_eq_true h
theorem up4 {n:Nat} (h:n<2^4096):n<2^8192:=Nat.lt_of_lt_of_le h (Nat.pow_le_pow_right (by decide) (by decide))
theorem zMake_C (n:Bool) (a:Option Addr) (c:Nat) (l:WL) (S:Mem) (h:WIn S a c l):C Tryz.prog gN Ext 33 [.bool n,.slice a l.length c] S fun v S'=>ZAns S S' v (zE (zv n l)) (zv n l):=by
 refine C.fn Tryz.func33 rfl (by kernel_rfl) rfl (go ?_)
 refine L.nr [.bool false,.slice none 0 0] wT rfl rfl (fun b1 Tb1 gb1 kb1 rb1=>go ?_)
 refine L.cs (bits_C a c l Tb1 (h.cons kb1)) rfl rfl (go ?_)
 rw[zfit_bits,zE_fit]
 cases hz:zfit l
 ·refine go ?_
  refine W.ite rfl (fun h=>?_) (fun h=>?_)
  ·refine go ?_
   refine L.b0 rfl ?_
   refine L.st2 rb1 rfl rfl rfl rfl rfl rfl (fun T2 kk r2=>go ?_)
   exact⟨.inr rfl,_,res2 rfl (load2 r2 rfl),.no (kk.mono kb1 gb1) (by decide)⟩
  ·cases h
 ·have hb:=zfit_small hz
  have hsm:=small_of (up4 hb)
  refine W.condF rfl (go ?_)
  refine L.cl (norm_C a c l Tb1 (h.cons kb1)) rfl rfl ?_
  rintro _ T2 ⟨d,rfl,r⟩
  refine⟨fun _=>r.1,?_⟩
  rw[show toldE l=0 by unfold toldE;rw[if_pos hsm]]
  rw[show toldL l=toW (wnum l) by unfold toldL;rw[if_pos hsm]] at r
  rw[r.val]
  have hrow:=Cons.row (h:=r.1) rb1
  have hlt:=row_lt rb1
  have fin:∀ T3,Keep b1 T2 T3→RetW S T3 d (toW (zv n l).natAbs):=fun T3 kk=>by
   rw[zv_abs]
   exact r.kp kk hlt (kk.mono (kb1.trans r.1) gb1) kb1.len
  cases n
  ·refine go ?_
   refine L.b2 rfl rfl rfl (go ?_)
   refine L.st2 hrow rfl rfl rfl rfl rfl rfl (fun T3 kk r2=>go ?_)
   rw[← r.val] at r2
   exact⟨.inr rfl,_,res2 rfl (load2 r2 rfl),.ok (Cons.refl S) (fin T3 kk) (by rw[zv_sgn];rfl)⟩
  ·refine go ?_
   refine L.b2 rfl rfl rfl (go ?_)
   refine L.st2 hrow rfl rfl rfl rfl rfl rfl (fun T3 kk r2=>go ?_)
   rw[← r.val] at r2
   refine⟨.inr rfl,_,res2 rfl (load2 r2 rfl),.ok (Cons.refl S) (fin T3 kk) ?_⟩
   rw[zv_sgn,Bool.true_and]
   have:=@toW_pos_len (wnum l)
   exact decide_eq_decide.2 (by omega)
theorem zIx_C (n:Bool) (S:Mem):C Tryz.prog gN Ext 93 [.bool n] S fun v S'=>v=vi (if n then 1 else 0)∧S'=S:=by
 refine C.fn Tryz.func93 rfl (by kernel_rfl) rfl (go ?_)
 cases n
 ·refine W.condF rfl (go ?_)
  exact⟨.inr rfl,_,rfl,rfl,rfl⟩
 ·refine W.ite rfl (fun h=>?_) (fun h=>?_)
  ·clear h
   refine go ?_
   exact⟨.inr rfl,_,rfl,rfl,rfl⟩
  ·cases h
theorem zSigns_C (a b:Bool) (S:Mem):C Tryz.prog gN Ext 66 [.bool a,.bool b] S fun v S'=>v=.bool (a != b)∧Cons S S':=by
 refine C.fn Tryz.func66 rfl (by kernel_rfl) rfl (go ?_)
 refine L.bd #[.bool false,.bool true] (pl:=[(0,.bool false),(1,.bool true)]) (z:=.agg #[.bool false,.bool false]) rfl rfl rfl (by kernel_rfl) rfl ?_
 refine L.bd #[.bool true,.bool false] (pl:=[(0,.bool true),(1,.bool false)]) (z:=.agg #[.bool false,.bool false]) rfl rfl rfl (by kernel_rfl) rfl ?_
 refine L.bd #[.bool false,.bool true,.bool true,.bool false] (pl:=[(0,.agg #[.bool false,.bool true]),(1,.agg #[.bool true,.bool false])]) (z:=.agg #[.bool false,.bool false,.bool false,.bool false]) rfl rfl rfl (by kernel_rfl) rfl ?_
 refine L.nr [.bool false,.bool false,.bool false,.bool false] 90 rfl rfl (fun b1 T1 g1 k1 r1=>?_)
 refine L.stw [.bool false,.bool true,.bool true,.bool false] r1 rfl rfl rfl rfl rfl rfl (fun T2 kk r2=>?_)
 have k2:Cons S T2:=kk.mono k1 g1
 refine go ?_
 refine L.cs (zIx_C a T2) rfl rfl (go ?_)
 refine L.cs (zIx_C b T2) rfl rfl ?_
 refine L.ixA (b:=b1) (o:=0) (n:=2) (k:=if a then 1 else 0) (sz:=2) rfl (by split<;>decide) rfl rfl rfl rfl ?_
 refine L.ixA (b:=b1) (o:=0+(if a then 1 else 0)*2) (n:=2) (k:=if b then 1 else 0) (sz:=1) rfl (by split<;>decide) rfl rfl rfl rfl ?_
 refine L.ld (a:=⟨b1,0+(if a then 1 else 0)*2+(if b then 1 else 0)*1,none⟩) (v:=.bool (a != b)) (cell_of r2 (by cases a<;>cases b<;>rfl) (.inl rfl)) rfl rfl rfl (go ?_)
 exact⟨.inr rfl,_,rfl,rfl,k2⟩
theorem zMade_C (n:Bool) (S:Mem):C Tryz.prog gN Ext 65 [.bool n] S fun v S'=>∃ bx,v=.func (.func 92) #[] #[.pointer (some ⟨bx,0,none⟩)]∧Cons S S'∧S'.row? bx=some (newR [.bool n] 4):=by
 refine C.fn Tryz.func65 rfl (by kernel_rfl) rfl (go ?_)
 refine L.nr [.bool n] 4 rfl rfl (fun b1 T1 g1 k1 r1=>go ?_)
 refine⟨.inr rfl,_,rfl,b1,?_,k1,r1⟩
 show Value.func _ (Array.map _ #[]) (Array.map _ #[_])=_
 rw[List.map_toArray,List.map_toArray]
 rfl
theorem zMade1_C (n:Bool) (a:Option Addr) (c bx:Nat) (l:WL) (S:Mem) (h:WIn S a c l) (hr:S.row? bx=some (newR [.bool n] 4)) :
  C Tryz.prog gN Ext 92 [.slice a l.length c,.int .i64 0,.pointer (some ⟨bx,0,none⟩)] S fun v S'=>ZAns S S' v (zE (zv n l)) (zv n l):=by
 refine C.fn Tryz.func92 rfl (by kernel_rfl) rfl (go ?_)
 refine L.nr [.bool false,.slice none 0 0] wT rfl rfl (fun b1 Tb1 gb1 kb1 rb1=>go ?_)
 refine W.condF rfl (go ?_)
 refine L.zf (Cons.row (h:=kb1) hr) rfl rfl rfl rfl rfl (go ?_)
 refine L.cl (zMake_C n a c l Tb1 (h.cons kb1)) rfl rfl ?_
 rintro _ T2 ⟨d,rfl,r⟩
 refine⟨fun _=>r.1,go ?_⟩
 have hrow:=Cons.row (h:=r.1) rb1
 have hlt:=row_lt rb1
 refine L.st2 hrow rfl rfl rfl rfl rfl rfl (fun T3 kk r2=>go ?_)
 exact⟨.inr rfl,_,res2 rfl (load2 r2 rfl),d,rfl,r.kp kk hlt (kk.mono (kb1.trans r.1) gb1) kb1.len⟩
theorem zFit1_C (n:Bool) (a:Option Addr) (c:Nat) (l:WL) (S:Mem) (h:WIn S a c l):C Tryz.prog gN Ext 87 [wZ n (.slice a l.length c)] S fun v S'=>v=.bool (!zfit l)∧Cons S S':=by
 refine C.fn Tryz.func87 rfl (by kernel_rfl) rfl (go ?_)
 refine L.nr [.bool n,(.slice a l.length c)] wT rfl rfl (fun b1 Tb1 gb1 kb1 rb1=>go ?_)
 refine L.zf rb1 rfl rfl rfl rfl rfl ?_
 refine L.cs (bits_C a c l Tb1 (h.cons kb1)) rfl rfl (go ?_)
 exact⟨.inr rfl,_,rfl,congrArg Value.bool (zfit_bits l),kb1⟩
abbrev ZW:=Bool × WS
def zc (zs:List ZW):List Value:=zs.flatMap fun z=>[.bool z.1,z.2.v]
theorem zc_len (zs:List ZW):(zc zs).length=2*zs.length:=by
 induction zs with
 | nil=>rfl
 | cons z zs ih=>show (_ :: _ :: zc zs).length=_;rw[List.length_cons,List.length_cons,ih,List.length_cons];omega
theorem zc_get {zs:List ZW} {i:Nat} {z:ZW} (h:zs[i]?=some z):((zc zs).drop (2*i)).take 2=[.bool z.1,z.2.v]:=by
 induction zs generalizing i with
 | nil=>simp at h
 | cons y zs ih=>
  cases i with
  | zero=>cases h;rfl
  | succ i=>exact ih (i:=i) (by simpa using h)
section
variable {P:Program} {G:Nat} {Ext:FuncId→List Value→Mem→Outc→Mem→Prop} {e:Env} {S:Mem} {fl:Bool} {ops:Array Oper} {K:Kont}
variable {rest:List Oper} {dst:Option Tmp} {ty:TypeId} {pos:String} {af:Array Edge} {gd:Option (Nat × Bool)}
theorem L.bz {t:TypeId} {len:Nat} {parts:Array (Nat × Operand)} (zs:List ZW) (hb:bldOk P t=some (wT,2)) (hl:len=zs.length) (hsm:Nat.ble (len*2) 16777216=true)
  (hp:parts.toList.map (fun p=>(p.1,e.eval p.2))=((zs.map fun z=>wZ z.1 z.2.v).zipIdx 0).map fun p=>(p.2,p.1)) (hw:awanted ops ⟨dst,.buildSlice t len parts,ty,pos,af,gd⟩ e=true)
  (h:∀ b T,S.length≤b→Cons S T→T.row? b=some (newR (zc zs) wT)→L P G Ext fl ops rest (e.put dst (.slice (some ⟨b,0,none⟩) len len)) T K):L P G Ext fl ops (⟨dst,.buildSlice t len parts,ty,pos,af,gd⟩ :: rest) e S K:=by
 refine L.bsN (zs.map fun z=>wZ z.1 z.2.v) hb (by rw[List.length_map];exact hl) hsm rfl hp (fun w hw=>?_) hw ?_
 ·obtain⟨z,_,rfl⟩:=List.mem_map.1 hw
  rfl
 ·have e:((zs.map fun z=>wZ z.1 z.2.v).flatMap fun w=>w.cells.toList)=zc zs:=by
   unfold zc
   rw[List.flatMap_map]
   rfl
  rw[e]
  exact h S.length _ (Nat.le_refl _) (Cons.push _ _) (row_push_new rfl)
end
theorem zIndex_C (b:Nat) (zs:List ZW) (S:Mem) (hr:S.row? b=some (newR (zc zs) wT)) (hw:∀ z∈zs,WIn S z.2.a z.2.c z.2.l) (hn:zs.length<1000000) :
  C Tryz.prog gN Ext 125 [.slice (some ⟨b,0,none⟩) zs.length zs.length,.func (.func 87) #[] #[]] S fun v S'=>(∃ i:Int,v=.int .i64 i∧decide (i≥0)=!(zs.all fun z=>zfit z.2.l))∧Cons S S':=by
 refine C.fn Tryz.func125 rfl (by kernel_rfl) rfl (go ?_)
 refine W.loop (fun j e T=>∃ i:Nat,j=zs.length - i∧i≤zs.length∧Cons S T∧e 0=.slice (some ⟨b,0,none⟩) zs.length zs.length∧e 1=.func (.func 87) #[] #[]∧e 7=vi zs.length∧e 8=vi i∧∀ k z,k<i→zs[k]?=some z→zfit z.2.l=true) zs.length
  ⟨0,by omega,by omega,Cons.refl _,rfl,rfl,rfl,rfl,fun k z hk=>by omega⟩ ?_
 rintro j e T ⟨i,rfl,hi,hc,e0,e1,e7,e8,hs⟩
 refine W.env4 e0 e1 e7 e8 ?_
 clear e0 e1 e7 e8
 refine go ?_
 refine W.ite rfl (fun h=>?_) (fun h=>?_)
 ·have hin:i<zs.length:=by have:=of_decide_eq_true h;omega
  obtain⟨z,hzi⟩:∃ z,zs[i]?=some z:=⟨_,List.getElem?_eq_getElem hin⟩
  clear h
  refine go ?_
  refine L.ix (b:=b) (o:=0) (n:=zs.length) (c:=zs.length) (k:=i) (sz:=2) rfl hin rfl rfl rfl rfl ?_
  have hca:T.cellsAt ⟨b,0+i*2,none⟩ 2=some [.bool z.1,z.2.v]:=by
   rw[cellsAt_of (o:=0+i*2) (n:=2) (Cons.row (h:=hc) hr) (by show 0+i*2+2≤(zc zs).length;rw[zc_len];omega),show 0+i*2=2*i by omega]
   exact congrArg some (zc_get hzi)
  refine L.ldA (a:=⟨b,0+i*2,none⟩) (n:=2) hca rfl rfl rfl ?_
  refine L.cv (zFit1_C z.1 z.2.a z.2.c z.2.l T ((hw z (List.mem_of_getElem? hzi)).cons hc)) rfl rfl fun T2 k2=>go ?_
  refine W.ite rfl (fun h=>?_) (fun h=>?_)
  ·have hb:zfit z.2.l=false:=by simpa using h
   refine go ?_
   refine⟨.inr rfl,_,rfl,⟨(i:Int),rfl,?_⟩,hc.trans k2⟩
   have:(zs.all fun z=>zfit z.2.l)=false:=by
    rw[List.all_eq_false]
    exact⟨z,List.mem_of_getElem? hzi,by rw[hb];decide⟩
   rw[this]
   exact decide_eq_true (by omega)
  ·have hb:zfit z.2.l=true:=by simpa using h
   refine go ?_
   refine⟨zs.length - (i+1),by omega,i+1,rfl,by omega,hc.trans k2,rfl,rfl,rfl,?_,fun k z' hk hk'=>?_⟩
   ·refine(force_eq rfl).trans ?_
    rw[wrap64 (by omega) (by omega)];rfl
   ·rcases Nat.lt_or_eq_of_le (Nat.le_of_lt_succ hk) with h1 | rfl
    ·exact hs k z' h1 hk'
    ·rw[hzi] at hk';cases hk';exact hb
 ·have hin:i=zs.length:=by have:=of_decide_eq_false h;omega
  subst hin
  refine go ?_
  refine⟨.inr rfl,_,rfl,⟨-1,rfl,?_⟩,hc⟩
  have:(zs.all fun z=>zfit z.2.l)=true:=by
   rw[List.all_eq_true]
   intro z hz
   obtain⟨k,hk⟩:=List.getElem?_of_mem hz
   exact hs k z (List.getElem?_eq_some_iff.1 hk).1 hk
  rw[this];rfl
theorem zFit_C (b:Nat) (zs:List ZW) (S:Mem) (hr:S.row? b=some (newR (zc zs) wT)) (hw:∀ z∈zs,WIn S z.2.a z.2.c z.2.l) (hn:zs.length<1000000) :
  C Tryz.prog gN Ext 56 [.slice (some ⟨b,0,none⟩) zs.length zs.length] S fun v S'=>v=.bool (zs.all fun z=>zfit z.2.l)∧Cons S S':=by
 refine C.fn Tryz.func56 rfl (by kernel_rfl) rfl (go ?_)
 refine L.cl (R:=fun v S'=>v=.bool (!(zs.all fun z=>zfit z.2.l))∧Cons S S') ?_ rfl rfl ?_
 ·refine C.fn Tryz.func86 rfl (by kernel_rfl) rfl (go ?_)
  refine L.cl (zIndex_C b zs S hr hw hn) rfl rfl ?_
  rintro _ T ⟨⟨i,rfl,hi⟩,k⟩
  refine⟨fun _=>k,go ?_⟩
  exact⟨.inr rfl,_,rfl,congrArg Value.bool hi,k⟩
 rintro _ T ⟨rfl,k⟩
 refine⟨fun _=>k,go ?_⟩
 exact⟨.inr rfl,_,rfl,congrArg Value.bool (Bool.not_not _),k⟩
end
section
open Go Ie
variable {Ext:FuncId→List Value→Mem→Outc→Mem→Prop}
def zE2 (l k:WL) (z:Int):Int:=if zfit l && zfit k then zE z else 3
theorem zfin {S M T T9 T10:Mem} {d:Hd} {l:WL} {b:Nat} {x:Row} (kM:Cons S M) (hc:Cons M T) (r:RetW T T9 d l) (kk:Keep b T9 T10) (g:S.length≤b) (hb:M.row? b=some x):RetW S T10 d l:=
 r.kp kk (row_lt (Cons.row (h:=hc) hb)) (kk.mono ((kM.trans hc).trans r.1) g) (kM.trans hc).len
theorem zAdd_C (n m:Bool) (a1 a2:Option Addr) (c1 c2:Nat) (l k:WL) (S:Mem) (h1:WIn S a1 c1 l) (h2:WIn S a2 c2 k) :
  C Tryz.prog gN Ext 30 [wZ n (.slice a1 l.length c1),wZ m (.slice a2 k.length c2)] S fun v S'=>ZAns S S' v (zE2 l k (zv n l+zv m k)) (zv n l+zv m k):=by
 refine C.fn Tryz.func30 rfl (by kernel_rfl) rfl (go ?_)
 refine L.nr [.bool n,.slice a1 l.length c1] wT rfl rfl (fun b2 Tb2 gb2 kb2 rb2=>?_)
 refine L.nr [.bool m,.slice a2 k.length c2] wT rfl rfl (fun b3 Tb3 gb3 kb3 rb3=>?_)
 refine L.nr [.bool false,.slice none 0 0] wT rfl rfl (fun b4 Tb4 gb4 kb4 rb4=>?_)
 have kM:=(kb2.trans kb3).trans kb4
 have g4:S.length≤b4:=Nat.le_trans (kb2.trans kb3).len gb4
 replace rb2:=Cons.row (h:=kb3.trans kb4) rb2
 replace rb3:=Cons.row (h:=kb4) rb3
 replace h1:=h1.cons kM
 replace h2:=h2.cons kM
 have hc:=Cons.refl Tb4
 clear kb2 kb3 kb4 gb2 gb3 gb4
 refine go ?_
 refine L.z2 (Cons.row (h:=hc) rb2) rfl rfl rfl ?_
 refine L.z2 (Cons.row (h:=hc) rb3) rfl rfl rfl ?_
 refine L.bz [(n,⟨a1,c1,l⟩),(m,⟨a2,c2,k⟩)] rfl rfl rfl rfl rfl (fun bs Ts gs ks rs=>?_)
 replace hc:=hc.trans ks
 refine L.cl (zFit_C bs [(n,⟨a1,c1,l⟩),(m,⟨a2,c2,k⟩)] Ts rs (fun z hz=>by
  simp only [List.mem_cons,List.not_mem_nil,or_false] at hz
  rcases hz with rfl | rfl
  ·exact h1.cons hc
  ·exact h2.cons hc) (by simp)) rfl rfl ?_
 rintro _ Tf ⟨rfl,kf⟩
 refine⟨fun _=>kf,?_⟩
 replace hc:=hc.trans kf
 clear rs gs ks kf
 rw[show (([(n,WS.mk a1 c1 l),(m,WS.mk a2 c2 k)]:List ZW).all fun z=>zfit z.2.l)=(zfit l && zfit k) by simp]
 unfold zE2
 cases hz:(zfit l && zfit k)
 ·refine go ?_
  refine W.ite rfl (fun h=>?_) (fun h=>?_)
  ·refine go ?_
   refine L.b0 rfl ?_
   refine L.st2 (Cons.row (h:=hc) rb4) rfl rfl rfl rfl rfl rfl (fun T2 kk r2=>go ?_)
   exact⟨.inr rfl,_,res2 rfl (load2 r2 rfl),.no (kk.mono (kM.trans hc) g4) (by decide)⟩
  ·cases h
 rw[Bool.and_eq_true] at hz
 have q1:=zfit_small hz.1
 have q2:=zfit_small hz.2
 have q3:wnum l+wnum k<2^8192:=by
  have:(2:Nat)^4097≤2^8192:=Nat.pow_le_pow_right (by decide) (by decide)
  have e:(2:Nat)^4097=2^4096*2:=Nat.pow_succ ..
  omega
 replace q1:=up4 q1
 replace q2:=up4 q2
 rw[if_pos rfl]
 refine go ?_
 refine W.condF rfl (go ?_)
 refine L.zf (Cons.row (h:=hc) rb2) rfl rfl rfl rfl rfl (go ?_)
 refine L.zf (Cons.row (h:=hc) rb3) rfl rfl rfl rfl rfl (go ?_)
 by_cases hnm:n=m
 ·subst hnm
  rw[show (n==n)=true from beq_self_eq_true n]
  refine W.ite rfl (fun h=>?_) (fun h=>?_)
  ·clear h
   refine go ?_
   refine L.zf (Cons.row (h:=hc) rb2) rfl rfl rfl rfl rfl ?_
   refine L.cl (zMade_C n _) rfl rfl ?_
   rintro _ Tm ⟨bx,rfl,km,rx⟩
   refine⟨fun _=>km,?_⟩
   replace hc:=hc.trans km
   clear km
   refine go ?_
   refine L.zf (Cons.row (h:=hc) rb2) rfl rfl rfl rfl rfl (go ?_)
   refine L.zf (Cons.row (h:=hc) rb3) rfl rfl rfl rfl rfl ?_
   refine L.cl (natAdd_C _ _ _ _ l k _ (h1.cons hc) (h2.cons hc)) rfl rfl ?_
   rintro _ Tn ⟨dn,rfl,rn⟩
   refine⟨fun _=>rn.1,?_⟩
   rw[(add_num (l1:=l) (l2:=k) q1 q2 q3).2]
   rw[(add_num (l1:=l) (l2:=k) q1 q2 q3).1] at rn
   rw[rn.val]
   replace hc:=hc.trans rn.1
   refine go ?_
   rw[zadd_same]
   refine L.cl (zMade1_C n _ _ bx _ Tn rn.win (Cons.row (h:=rn.1) rx)) rfl rfl ?_
   rintro _ T9 ⟨d9,rfl,r9⟩
   refine⟨fun _=>r9.1,go ?_⟩
   refine L.st2 (Cons.row (h:=hc.trans r9.1) rb4) rfl rfl rfl rfl rfl rfl (fun T10 kk r10=>go ?_)
   exact⟨.inr rfl,_,res2 rfl (load2 r10 rfl),d9,rfl,zfin kM hc r9 kk g4 rb4⟩
  ·cases h
 ·rw[show (n==m)=false from beq_eq_false_iff_ne.2 hnm]
  refine W.condF rfl (go ?_)
  refine L.zf (Cons.row (h:=hc) rb2) rfl rfl rfl rfl rfl (go ?_)
  refine L.zf (Cons.row (h:=hc) rb3) rfl rfl rfl rfl rfl ?_
  refine L.cs (natCmp_C a1 a2 c1 c2 l k _ (h1.cons hc) (h2.cons hc)) rfl rfl (go ?_)
  refine W.ite rfl (fun h=>?_) (fun h=>?_)
  ·have hge:wnum k≤wnum l:=by
    have:=of_decide_eq_true h
    unfold cmpI at this
    split at this<;>omega
   clear h
   refine go ?_
   refine L.zf (Cons.row (h:=hc) rb2) rfl rfl rfl rfl rfl ?_
   refine L.cl (zMade_C n _) rfl rfl ?_
   rintro _ Tm ⟨bx,rfl,km,rx⟩
   refine⟨fun _=>km,?_⟩
   replace hc:=hc.trans km
   clear km
   refine go ?_
   refine L.zf (Cons.row (h:=hc) rb2) rfl rfl rfl rfl rfl (go ?_)
   refine L.zf (Cons.row (h:=hc) rb3) rfl rfl rfl rfl rfl ?_
   refine L.cl (natSub_C _ _ _ _ l k _ (h1.cons hc) (h2.cons hc)) rfl rfl ?_
   rintro _ Tn ⟨dn,rfl,rn⟩
   refine⟨fun _=>rn.1,?_⟩
   rw[(sub_num (l1:=l) (l2:=k) q1 q2 hge).2]
   rw[(sub_num (l1:=l) (l2:=k) q1 q2 hge).1] at rn
   rw[rn.val]
   replace hc:=hc.trans rn.1
   refine go ?_
   rw[zadd_ge hnm hge]
   refine L.cl (zMade1_C n _ _ bx _ Tn rn.win (Cons.row (h:=rn.1) rx)) rfl rfl ?_
   rintro _ T9 ⟨d9,rfl,r9⟩
   refine⟨fun _=>r9.1,go ?_⟩
   refine L.st2 (Cons.row (h:=hc.trans r9.1) rb4) rfl rfl rfl rfl rfl rfl (fun T10 kk r10=>go ?_)
   exact⟨.inr rfl,_,res2 rfl (load2 r10 rfl),d9,rfl,zfin kM hc r9 kk g4 rb4⟩
  ·have hge:wnum l≤wnum k:=by
    have:=of_decide_eq_false h
    unfold cmpI at this
    split at this<;>omega
   clear h
   refine go ?_
   refine L.zf (Cons.row (h:=hc) rb3) rfl rfl rfl rfl rfl ?_
   refine L.cl (zMade_C m _) rfl rfl ?_
   rintro _ Tm ⟨bx,rfl,km,rx⟩
   refine⟨fun _=>km,?_⟩
   replace hc:=hc.trans km
   clear km
   refine go ?_
   refine L.zf (Cons.row (h:=hc) rb3) rfl rfl rfl rfl rfl (go ?_)
   refine L.zf (Cons.row (h:=hc) rb2) rfl rfl rfl rfl rfl ?_
   refine L.cl (natSub_C _ _ _ _ k l _ (h2.cons hc) (h1.cons hc)) rfl rfl ?_
   rintro _ Tn ⟨dn,rfl,rn⟩
   refine⟨fun _=>rn.1,?_⟩
   rw[(sub_num (l1:=k) (l2:=l) q2 q1 hge).2]
   rw[(sub_num (l1:=k) (l2:=l) q2 q1 hge).1] at rn
   rw[rn.val]
   replace hc:=hc.trans rn.1
   refine go ?_
   rw[zadd_lt hnm hge]
   refine L.cl (zMade1_C m _ _ bx _ Tn rn.win (Cons.row (h:=rn.1) rx)) rfl rfl ?_
   rintro _ T9 ⟨d9,rfl,r9⟩
   refine⟨fun _=>r9.1,go ?_⟩
   refine L.st2 (Cons.row (h:=hc.trans r9.1) rb4) rfl rfl rfl rfl rfl rfl (fun T10 kk r10=>go ?_)
   exact⟨.inr rfl,_,res2 rfl (load2 r10 rfl),d9,rfl,zfin kM hc r9 kk g4 rb4⟩
theorem zSub_C (n m:Bool) (a1 a2:Option Addr) (c1 c2:Nat) (l k:WL) (S:Mem) (h1:WIn S a1 c1 l) (h2:WIn S a2 c2 k) :
  C Tryz.prog gN Ext 31 [wZ n (.slice a1 l.length c1),wZ m (.slice a2 k.length c2)] S fun v S'=>ZAns S S' v (zE2 l k (zv n l - zv m k)) (zv n l - zv m k):=by
 refine C.fn Tryz.func31 rfl (by kernel_rfl) rfl (go ?_)
 refine L.nr [.bool n,.slice a1 l.length c1] wT rfl rfl (fun b2 Tb2 gb2 kb2 rb2=>?_)
 refine L.nr [.bool m,.slice a2 k.length c2] wT rfl rfl (fun b3 Tb3 gb3 kb3 rb3=>?_)
 refine L.nr [.bool false,.slice none 0 0] wT rfl rfl (fun b4 Tb4 gb4 kb4 rb4=>?_)
 have kM:=(kb2.trans kb3).trans kb4
 have g4:S.length≤b4:=Nat.le_trans (kb2.trans kb3).len gb4
 replace rb2:=Cons.row (h:=kb3.trans kb4) rb2
 replace rb3:=Cons.row (h:=kb4) rb3
 replace h1:=h1.cons kM
 replace h2:=h2.cons kM
 have hc:=Cons.refl Tb4
 clear kb2 kb3 kb4 gb2 gb3 gb4
 refine go ?_
 refine L.z2 (Cons.row (h:=hc) rb2) rfl rfl rfl (go ?_)
 refine L.zf (Cons.row (h:=hc) rb3) rfl rfl rfl rfl rfl (go ?_)
 refine L.zf (Cons.row (h:=hc) rb3) rfl rfl rfl rfl rfl ?_
 rw[show zv n l - zv m k=zv n l+zv (!m) k by rw[zv_not];omega]
 refine L.b2 rfl rfl rfl ?_
 refine L.cl (zAdd_C n (!m) a1 a2 c1 c2 l k _ (h1.cons hc) (h2.cons hc)) rfl rfl ?_
 rintro _ T9 ⟨d9,rfl,r9⟩
 refine⟨fun _=>r9.1,go ?_⟩
 refine L.st2 (Cons.row (h:=hc.trans r9.1) rb4) rfl rfl rfl rfl rfl rfl (fun T10 kk r10=>go ?_)
 exact⟨.inr rfl,_,res2 rfl (load2 r10 rfl),d9,rfl,zfin kM hc r9 kk g4 rb4⟩
theorem zMul_C (n m:Bool) (a1 a2:Option Addr) (c1 c2:Nat) (l k:WL) (S:Mem) (h1:WIn S a1 c1 l) (h2:WIn S a2 c2 k) (hS:SinOk S) (hG:gN≤S.length) :
  C Tryz.prog gN Ext 24 [wZ n (.slice a1 l.length c1),wZ m (.slice a2 k.length c2)] S fun v S'=>ZAns S S' v (zE2 l k (zv n l*zv m k)) (zv n l*zv m k):=by
 refine C.fn Tryz.func24 rfl (by kernel_rfl) rfl (go ?_)
 refine L.nr [.bool n,.slice a1 l.length c1] wT rfl rfl (fun b2 Tb2 gb2 kb2 rb2=>?_)
 refine L.nr [.bool m,.slice a2 k.length c2] wT rfl rfl (fun b3 Tb3 gb3 kb3 rb3=>?_)
 refine L.nr [.bool false,.slice none 0 0] wT rfl rfl (fun b4 Tb4 gb4 kb4 rb4=>?_)
 have kM:=(kb2.trans kb3).trans kb4
 have g4:S.length≤b4:=Nat.le_trans (kb2.trans kb3).len gb4
 replace rb2:=Cons.row (h:=kb3.trans kb4) rb2
 replace rb3:=Cons.row (h:=kb4) rb3
 replace h1:=h1.cons kM
 replace h2:=h2.cons kM
 have hc:=Cons.refl Tb4
 clear kb2 kb3 kb4 gb2 gb3 gb4
 refine go ?_
 refine L.z2 (Cons.row (h:=hc) rb2) rfl rfl rfl ?_
 refine L.z2 (Cons.row (h:=hc) rb3) rfl rfl rfl ?_
 refine L.bz [(n,⟨a1,c1,l⟩),(m,⟨a2,c2,k⟩)] rfl rfl rfl rfl rfl (fun bs Ts gs ks rs=>?_)
 replace hc:=hc.trans ks
 refine L.cl (zFit_C bs [(n,⟨a1,c1,l⟩),(m,⟨a2,c2,k⟩)] Ts rs (fun z hz=>by
  simp only [List.mem_cons,List.not_mem_nil,or_false] at hz
  rcases hz with rfl | rfl
  ·exact h1.cons hc
  ·exact h2.cons hc) (by simp)) rfl rfl ?_
 rintro _ Tf ⟨rfl,kf⟩
 refine⟨fun _=>kf,?_⟩
 replace hc:=hc.trans kf
 clear rs gs ks kf
 rw[show (([(n,WS.mk a1 c1 l),(m,WS.mk a2 c2 k)]:List ZW).all fun z=>zfit z.2.l)=(zfit l && zfit k) by simp]
 unfold zE2
 cases hz:(zfit l && zfit k)
 ·refine go ?_
  refine W.ite rfl (fun h=>?_) (fun h=>?_)
  ·refine go ?_
   refine L.b0 rfl ?_
   refine L.st2 (Cons.row (h:=hc) rb4) rfl rfl rfl rfl rfl rfl (fun T2 kk r2=>go ?_)
   exact⟨.inr rfl,_,res2 rfl (load2 r2 rfl),.no (kk.mono (kM.trans hc) g4) (by decide)⟩
  ·cases h
 rw[Bool.and_eq_true] at hz
 have q1:=zfit_small hz.1
 have q2:=zfit_small hz.2
 have q3:wnum l*wnum k<2^8192:=by
  have:=Nat.mul_lt_mul'' q1 q2
  rwa [← Nat.pow_add] at this
 replace q1:=up4 q1
 replace q2:=up4 q2
 rw[if_pos rfl]
 refine go ?_
 refine W.condF rfl (go ?_)
 refine L.zf (Cons.row (h:=hc) rb2) rfl rfl rfl rfl rfl (go ?_)
 refine L.zf (Cons.row (h:=hc) rb3) rfl rfl rfl rfl rfl ?_
 refine L.cv (zSigns_C n m _) rfl rfl fun Tg kg=>?_
 replace hc:=hc.trans kg
 refine L.cl (zMade_C (n != m) _) rfl rfl ?_
 rintro _ Tm ⟨bx,rfl,km,rx⟩
 refine⟨fun _=>km,?_⟩
 replace hc:=hc.trans km
 clear km
 refine go ?_
 refine L.zf (Cons.row (h:=hc) rb2) rfl rfl rfl rfl rfl (go ?_)
 refine L.zf (Cons.row (h:=hc) rb3) rfl rfl rfl rfl rfl ?_
 refine L.cl (mul_C _ _ _ _ l k _ (h1.cons hc) (h2.cons hc) (hS.cons (kM.trans hc)) (Nat.le_trans hG (kM.trans hc).len)) rfl rfl ?_
 rintro _ Tn ⟨dn,rfl,rn⟩
 refine⟨fun _=>rn.1,?_⟩
 rw[(mul_num (l1:=l) (l2:=k) q1 q2 q3).2]
 rw[(mul_num (l1:=l) (l2:=k) q1 q2 q3).1] at rn
 rw[rn.val]
 replace hc:=hc.trans rn.1
 refine go ?_
 rw[zmul]
 refine L.cl (zMade1_C (n != m) _ _ bx _ Tn rn.win (Cons.row (h:=rn.1) rx)) rfl rfl ?_
 rintro _ T9 ⟨d9,rfl,r9⟩
 refine⟨fun _=>r9.1,go ?_⟩
 refine L.st2 (Cons.row (h:=hc.trans r9.1) rb4) rfl rfl rfl rfl rfl rfl (fun T10 kk r10=>go ?_)
 exact⟨.inr rfl,_,res2 rfl (load2 r10 rfl),d9,rfl,zfin kM hc r9 kk g4 rb4⟩
theorem zNeg_C (n:Bool) (a1:Option Addr) (c1:Nat) (l:WL) (S:Mem) (h1:WIn S a1 c1 l) :
  C Tryz.prog gN Ext 32 [wZ n (.slice a1 l.length c1)] S fun v S'=>ZAns S S' v (zE (- zv n l)) (- zv n l):=by
 refine C.fn Tryz.func32 rfl (by kernel_rfl) rfl (go ?_)
 refine L.nr [.bool n,.slice a1 l.length c1] wT rfl rfl (fun b2 Tb2 gb2 kb2 rb2=>?_)
 refine L.nr [.bool false,.slice none 0 0] wT rfl rfl (fun b4 Tb4 gb4 kb4 rb4=>?_)
 have kM:=kb2.trans kb4
 have g4:S.length≤b4:=Nat.le_trans kb2.len gb4
 replace rb2:=Cons.row (h:=kb4) rb2
 replace h1:=h1.cons kM
 have hc:=Cons.refl Tb4
 clear kb2 kb4 gb2 gb4
 refine go ?_
 refine L.zf (Cons.row (h:=hc) rb2) rfl rfl rfl rfl rfl (go ?_)
 refine L.zf (Cons.row (h:=hc) rb2) rfl rfl rfl rfl rfl ?_
 rw[← zv_not]
 refine L.cl (zMake_C (!n) a1 c1 l _ (h1.cons hc)) rfl rfl ?_
 rintro _ T9 ⟨d9,rfl,r9⟩
 refine⟨fun _=>r9.1,go ?_⟩
 refine L.st2 (Cons.row (h:=hc.trans r9.1) rb4) rfl rfl rfl rfl rfl rfl (fun T10 kk r10=>go ?_)
 exact⟨.inr rfl,_,res2 rfl (load2 r10 rfl),d9,rfl,zfin kM hc r9 kk g4 rb4⟩
end
section
open Go Ie
variable {Ext:FuncId→List Value→Mem→Outc→Mem→Prop}
def zDE (l k:WL):Int:=if zfit l && zfit k then (if wnum k=0 then 11 else 0) else 3
theorem res3 {P:Program} {fn:Func} {e:Env} {S:Mem} {a b s:Nat} {t:TypeId} {u w:Value} (hfn:fn.results.toList=[.cell a t,.cell b t,.tmp s]) (h:aloadAt P t (e a) S=some u) (h2:aloadAt P t (e b) S=some w):aresults P fn e S=some (.tuple #[u,w,e s]):=by simp [aresults,hfn,ares1,h,h2]
theorem zq_sgn (n m:Bool) (l k:WL):decide ((zv n l).tdiv (zv m k)<0)=((n != m) && decide (((toW (wnum l / wnum k)).length:Int) > 0)):=by
 rw[zdiv,zv_sgn,wnum_toW]
 congr 1
 have:=@toW_pos_len (wnum l / wnum k)
 exact decide_eq_decide.2 (by omega)
theorem zr_sgn (n m:Bool) (l k:WL):decide ((zv n l).tmod (zv m k)<0)=(n && decide (((toW (wnum l % wnum k)).length:Int) > 0)):=by
 rw[zmod,zv_sgn,wnum_toW]
 congr 1
 have:=@toW_pos_len (wnum l % wnum k)
 exact decide_eq_decide.2 (by omega)
def DivZ (S S':Mem) (v:Value) (E q r:Int):Prop:=∃ d d2:Hd,v=.tuple #[.agg #[.bool (zN E q),d.v],.agg #[.bool (zN E r),d2.v],.int .i64 E]∧RetW S S' d (zL E q)∧RetW S S' d2 (zL E r)
theorem DivZ.no {S S':Mem} {E q r:Int} (k:Cons S S') (h:E≠0):DivZ S S' (.tuple #[.agg #[.bool false,.slice none 0 0],.agg #[.bool false,.slice none 0 0],.int .i64 E]) E q r:=
 ⟨Hd0,Hd0,by unfold zN;rw[if_neg h,if_neg h];rfl,by unfold zL;rw[if_neg h];exact RetW.nil k,by unfold zL;rw[if_neg h];exact RetW.nil k⟩
theorem DivZ.ok {S S':Mem} (n m:Bool) (l k:WL) {d d2:Hd} (b1 b2:Bool) (h1:b1=((n != m) && decide (((toW (wnum l / wnum k)).length:Int) > 0))) (h2:b2=(n && decide (((toW (wnum l % wnum k)).length:Int) > 0))) (f1:RetW S S' d (toW (wnum l / wnum k))) (f2:RetW S S' d2 (toW (wnum l % wnum k))) :
  DivZ S S' (.tuple #[.agg #[.bool b1,d.v],.agg #[.bool b2,d2.v],.int .i64 0]) 0 ((zv n l).tdiv (zv m k)) ((zv n l).tmod (zv m k)):=by
 rw[← zq_sgn] at h1
 rw[← zr_sgn n m l k] at h2
 refine⟨d,d2,by rw[h1,h2];rfl,?_,?_⟩
 ·have e:zL 0 ((zv n l).tdiv (zv m k))=toW (wnum l / wnum k):=by
   rw[zdiv];unfold zL;rw[if_pos rfl,zv_abs,wnum_toW]
  rw[e];exact f1
 ·have e:zL 0 ((zv n l).tmod (zv m k))=toW (wnum l % wnum k):=by
   rw[zmod];unfold zL;rw[if_pos rfl,zv_abs,wnum_toW]
  rw[e];exact f2
theorem zfin2 {S M T T9 Tg T10 T11:Mem} {d:Hd} {l:WL} {b4 b5:Nat} {x y:Row} (kM:Cons S M) (hc0:Cons M T) (r:RetW T T9 d l) (kg:Cons T9 Tg) (kk:Keep b4 Tg T10) (kk3:Keep b5 T10 T11) (g4:S.length≤b4) (g5:S.length≤b5) (hb4:M.row? b4=some x) (hb5:M.row? b5=some y):RetW S T11 d l:=by
 have l4:=row_lt hb4
 have l5:=row_lt hb5
 have lT:=hc0.len
 refine⟨kk3.mono (kk.mono ((kM.trans hc0).trans (r.1.trans kg)) g4) g5,r.2.1,((r.2.2.1.cons kg).keep (bs:=[b4]) (kk.keepL (by simp)) (fun x hx=>?_)).keep (bs:=[b5]) (kk3.keepL (by simp)) (fun x hx=>?_),fun x hx=>?_⟩
 ·have:=r.2.2.2 x hx;simp;omega
 ·have:=r.2.2.2 x hx;simp;omega
 ·exact Nat.le_trans (kM.trans hc0).len (r.2.2.2 x hx)
theorem zDivided_C (n m:Bool) (a1 a2:Option Addr) (c1 c2:Nat) (l k:WL) (S:Mem) (h1:WIn S a1 c1 l) (h2:WIn S a2 c2 k) :
  C Tryz.prog gN Ext 68 [wZ n (.slice a1 l.length c1),wZ m (.slice a2 k.length c2)] S fun v S'=>DivZ S S' v (zDE l k) ((zv n l).tdiv (zv m k)) ((zv n l).tmod (zv m k)):=by
 refine C.fn Tryz.func68 rfl (by kernel_rfl) rfl (go ?_)
 refine L.nr [.bool n,.slice a1 l.length c1] wT rfl rfl (fun b2 Tb2 gb2 kb2 rb2=>?_)
 refine L.nr [.bool m,.slice a2 k.length c2] wT rfl rfl (fun b3 Tb3 gb3 kb3 rb3=>?_)
 refine L.nr [.bool false,.slice none 0 0] wT rfl rfl (fun b4 Tb4 gb4 kb4 rb4=>?_)
 refine L.nr [.bool false,.slice none 0 0] wT rfl rfl (fun b5 Tb5 gb5 kb5 rb5=>?_)
 have kM:=((kb2.trans kb3).trans kb4).trans kb5
 have g4:S.length≤b4:=Nat.le_trans (kb2.trans kb3).len gb4
 have g5:S.length≤b5:=Nat.le_trans ((kb2.trans kb3).trans kb4).len gb5
 have n45:b5≠b4:=by have:=row_lt rb4;omega
 replace rb2:=Cons.row (h:=(kb3.trans kb4).trans kb5) rb2
 replace rb3:=Cons.row (h:=kb4.trans kb5) rb3
 replace rb4:=Cons.row (h:=kb5) rb4
 replace h1:=h1.cons kM
 replace h2:=h2.cons kM
 have hc:=Cons.refl Tb5
 clear kb2 kb3 kb4 kb5 gb2 gb3 gb4 gb5
 refine go ?_
 refine L.z2 (Cons.row (h:=hc) rb2) rfl rfl rfl ?_
 refine L.z2 (Cons.row (h:=hc) rb3) rfl rfl rfl ?_
 refine L.bz [(n,⟨a1,c1,l⟩),(m,⟨a2,c2,k⟩)] rfl rfl rfl rfl rfl (fun bs Ts gs ks rs=>?_)
 replace hc:=hc.trans ks
 refine L.cl (zFit_C bs [(n,⟨a1,c1,l⟩),(m,⟨a2,c2,k⟩)] Ts rs (fun z hz=>by
  simp only [List.mem_cons,List.not_mem_nil,or_false] at hz
  rcases hz with rfl | rfl
  ·exact h1.cons hc
  ·exact h2.cons hc) (by simp)) rfl rfl ?_
 rintro _ Tf ⟨rfl,kf⟩
 refine⟨fun _=>kf,?_⟩
 replace hc:=hc.trans kf
 clear rs gs ks kf
 rw[show (([(n,WS.mk a1 c1 l),(m,WS.mk a2 c2 k)]:List ZW).all fun z=>zfit z.2.l)=(zfit l && zfit k) by simp]
 unfold zDE
 cases hz:(zfit l && zfit k)
 ·refine go ?_
  refine W.ite rfl (fun h=>?_) (fun h=>?_)
  ·refine go ?_
   refine L.b0 rfl ?_
   refine L.b0 rfl ?_
   refine L.st2 (Cons.row (h:=hc) rb4) rfl rfl rfl rfl rfl rfl (fun T2 kk r2=>?_)
   have rb5':=kk.row (Cons.row (h:=hc) rb5) n45
   refine L.st2 rb5' rfl rfl rfl rfl rfl rfl (fun T3 kk3 r3=>?_)
   replace r2:=kk3.row r2 (Ne.symm n45)
   refine go ?_
   exact⟨.inr rfl,_,res3 rfl (load2 r2 rfl) (load2 r3 rfl),.no (kk3.mono (kk.mono (kM.trans hc) g4) g5) (by decide)⟩
  ·cases h
 rw[Bool.and_eq_true] at hz
 have q1:=up4 (zfit_small hz.1)
 have q2:=up4 (zfit_small hz.2)
 rw[if_pos rfl]
 refine go ?_
 refine W.condF rfl (go ?_)
 refine L.zf (Cons.row (h:=hc) rb2) rfl rfl rfl rfl rfl (go ?_)
 refine L.zf (Cons.row (h:=hc) rb3) rfl rfl rfl rfl rfl ?_
 by_cases hk0:wnum k=0
 ·have hd:=div_zero q1 q2 hk0
  rw[if_pos hk0]
  refine L.cl (natDiv_C a1 a2 c1 c2 l k _ (h1.cons hc) (h2.cons hc)) rfl rfl ?_
  rintro _ Tn ⟨dn,dn2,rfl,rn,rn2,_⟩
  refine⟨fun _=>rn.1,?_⟩
  rw[hd.2.2]
  replace hc:=hc.trans rn.1
  refine go ?_
  refine W.ite rfl (fun h=>?_) (fun h=>?_)
  ·refine go ?_
   refine L.b0 rfl ?_
   refine L.b0 rfl (go ?_)
   refine L.st2 (Cons.row (h:=hc) rb4) rfl rfl rfl rfl rfl rfl (fun T2 kk r2=>?_)
   have rb5':=kk.row (Cons.row (h:=hc) rb5) n45
   refine L.st2 rb5' rfl rfl rfl rfl rfl rfl (fun T3 kk3 r3=>?_)
   replace r2:=kk3.row r2 (Ne.symm n45)
   refine go ?_
   exact⟨.inr rfl,_,res3 rfl (load2 r2 rfl) (load2 r3 rfl),.no (kk3.mono (kk.mono (kM.trans hc) g4) g5) (by decide)⟩
  ·cases h
 ·have hd:=div_num q1 q2 hk0
  rw[if_neg hk0]
  have hc0:=hc
  refine L.cl (natDiv_C a1 a2 c1 c2 l k _ (h1.cons hc) (h2.cons hc)) rfl rfl ?_
  rintro _ Tn ⟨dn,dn2,rfl,rn,rn2,_⟩
  refine⟨fun _=>rn.1,?_⟩
  rw[hd.2.2]
  rw[hd.1] at rn
  rw[hd.2.1] at rn2
  rw[rn.val,rn2.val]
  replace hc:=hc.trans rn.1
  refine go ?_
  refine W.condF rfl (go ?_)
  refine L.zf (Cons.row (h:=hc) rb2) rfl rfl rfl rfl rfl (go ?_)
  refine L.zf (Cons.row (h:=hc) rb3) rfl rfl rfl rfl rfl ?_
  refine L.cv (zSigns_C n m _) rfl rfl fun Tg kg=>?_
  replace hc:=hc.trans kg
  cases n<;>cases m
  ·refine go ?_
   refine L.b2 rfl rfl rfl (go ?_)
   refine L.zf (Cons.row (h:=hc) rb2) rfl rfl rfl rfl rfl (go ?_)
   refine L.b2 rfl rfl rfl ?_
   refine L.st2 (Cons.row (h:=hc) rb4) rfl rfl rfl rfl rfl rfl (fun T2 kk r2=>?_)
   have rb5':=kk.row (Cons.row (h:=hc) rb5) n45
   refine L.st2 rb5' rfl rfl rfl rfl rfl rfl (fun T3 kk3 r3=>?_)
   replace r2:=kk3.row r2 (Ne.symm n45)
   refine go ?_
   rw[← rn.val] at r2
   rw[← rn2.val] at r3
   exact⟨.inr rfl,_,res3 rfl (load2 r2 rfl) (load2 r3 rfl),.ok false false l k _ _ rfl rfl (zfin2 kM hc0 rn kg kk kk3 g4 g5 rb4 rb5) (zfin2 kM hc0 rn2 kg kk kk3 g4 g5 rb4 rb5)⟩
  ·refine go ?_
   refine L.b2 rfl rfl rfl (go ?_)
   refine L.zf (Cons.row (h:=hc) rb2) rfl rfl rfl rfl rfl (go ?_)
   refine L.b2 rfl rfl rfl ?_
   refine L.st2 (Cons.row (h:=hc) rb4) rfl rfl rfl rfl rfl rfl (fun T2 kk r2=>?_)
   have rb5':=kk.row (Cons.row (h:=hc) rb5) n45
   refine L.st2 rb5' rfl rfl rfl rfl rfl rfl (fun T3 kk3 r3=>?_)
   replace r2:=kk3.row r2 (Ne.symm n45)
   refine go ?_
   rw[← rn.val] at r2
   rw[← rn2.val] at r3
   exact⟨.inr rfl,_,res3 rfl (load2 r2 rfl) (load2 r3 rfl),.ok false true l k _ _ rfl rfl (zfin2 kM hc0 rn kg kk kk3 g4 g5 rb4 rb5) (zfin2 kM hc0 rn2 kg kk kk3 g4 g5 rb4 rb5)⟩
  ·refine go ?_
   refine L.b2 rfl rfl rfl (go ?_)
   refine L.zf (Cons.row (h:=hc) rb2) rfl rfl rfl rfl rfl (go ?_)
   refine L.b2 rfl rfl rfl ?_
   refine L.st2 (Cons.row (h:=hc) rb4) rfl rfl rfl rfl rfl rfl (fun T2 kk r2=>?_)
   have rb5':=kk.row (Cons.row (h:=hc) rb5) n45
   refine L.st2 rb5' rfl rfl rfl rfl rfl rfl (fun T3 kk3 r3=>?_)
   replace r2:=kk3.row r2 (Ne.symm n45)
   refine go ?_
   rw[← rn.val] at r2
   rw[← rn2.val] at r3
   exact⟨.inr rfl,_,res3 rfl (load2 r2 rfl) (load2 r3 rfl),.ok true false l k _ _ rfl rfl (zfin2 kM hc0 rn kg kk kk3 g4 g5 rb4 rb5) (zfin2 kM hc0 rn2 kg kk kk3 g4 g5 rb4 rb5)⟩
  ·refine go ?_
   refine L.b2 rfl rfl rfl (go ?_)
   refine L.zf (Cons.row (h:=hc) rb2) rfl rfl rfl rfl rfl (go ?_)
   refine L.b2 rfl rfl rfl ?_
   refine L.st2 (Cons.row (h:=hc) rb4) rfl rfl rfl rfl rfl rfl (fun T2 kk r2=>?_)
   have rb5':=kk.row (Cons.row (h:=hc) rb5) n45
   refine L.st2 rb5' rfl rfl rfl rfl rfl rfl (fun T3 kk3 r3=>?_)
   replace r2:=kk3.row r2 (Ne.symm n45)
   refine go ?_
   rw[← rn.val] at r2
   rw[← rn2.val] at r3
   exact⟨.inr rfl,_,res3 rfl (load2 r2 rfl) (load2 r3 rfl),.ok true true l k _ _ rfl rfl (zfin2 kM hc0 rn kg kk kk3 g4 g5 rb4 rb5) (zfin2 kM hc0 rn2 kg kk kk3 g4 g5 rb4 rb5)⟩
theorem zQuo_C (n m:Bool) (a1 a2:Option Addr) (c1 c2:Nat) (l k:WL) (S:Mem) (h1:WIn S a1 c1 l) (h2:WIn S a2 c2 k) :
  C Tryz.prog gN Ext 26 [wZ n (.slice a1 l.length c1),wZ m (.slice a2 k.length c2)] S fun v S'=>ZAns S S' v (zDE l k) ((zv n l).tdiv (zv m k)):=by
 refine C.fn Tryz.func26 rfl (by kernel_rfl) rfl (go ?_)
 refine L.nr [.bool n,.slice a1 l.length c1] wT rfl rfl (fun b2 Tb2 gb2 kb2 rb2=>?_)
 refine L.nr [.bool m,.slice a2 k.length c2] wT rfl rfl (fun b3 Tb3 gb3 kb3 rb3=>?_)
 refine L.nr [.bool false,.slice none 0 0] wT rfl rfl (fun b4 Tb4 gb4 kb4 rb4=>?_)
 have kM:=(kb2.trans kb3).trans kb4
 have g4:S.length≤b4:=Nat.le_trans (kb2.trans kb3).len gb4
 replace rb2:=Cons.row (h:=kb3.trans kb4) rb2
 replace rb3:=Cons.row (h:=kb4) rb3
 replace h1:=h1.cons kM
 replace h2:=h2.cons kM
 have hc:=Cons.refl Tb4
 clear kb2 kb3 kb4 gb2 gb3 gb4
 refine go ?_
 refine L.z2 (Cons.row (h:=hc) rb2) rfl rfl rfl ?_
 refine L.z2 (Cons.row (h:=hc) rb3) rfl rfl rfl ?_
 refine L.cl (zDivided_C n m a1 a2 c1 c2 l k _ (h1.cons hc) (h2.cons hc)) rfl rfl ?_
 rintro _ Tn ⟨dn,dn2,rfl,rn,rn2⟩
 refine⟨fun _=>rn.1,?_⟩
 have hc0:=hc
 replace hc:=hc.trans rn.1
 refine go ?_
 refine L.nr [.bool false,.slice none 0 0] wT rfl rfl (fun b6 T6 g6 k6 r6=>?_)
 refine L.nr [.bool false,.slice none 0 0] wT rfl rfl (fun b7 T7 g7 k7 r7=>?_)
 have n67:b7≠b6:=by have:=row_lt r6;omega
 replace r6:=Cons.row (h:=k7) r6
 refine L.st2 r6 rfl rfl rfl rfl rfl rfl (fun T8 kk8 r8=>?_)
 refine L.st2 (kk8.row r7 n67) rfl rfl rfl rfl rfl rfl (fun T9 kk9 r9=>?_)
 replace r8:=kk9.row r8 (Ne.symm n67)
 have l4:=row_lt (Cons.row (h:=hc) rb4)
 have k79:Cons Tn T9:=kk9.mono (kk8.mono (k6.trans k7) g6) (Nat.le_trans k6.len g7)
 replace rn:=rn.post k79
 replace rn2:=rn2.post k79
 replace hc:=hc.trans k79
 refine go ?_
 refine L.z2 r8 rfl rfl rfl (go ?_)
 refine L.st2 (Cons.row (h:=hc) rb4) rfl rfl rfl rfl rfl rfl (fun T10 kk r10=>go ?_)
 exact⟨.inr rfl,_,res2 rfl (load2 r10 rfl),dn,rfl,zfin kM hc0 rn kk g4 rb4⟩
theorem zRem_C (n m:Bool) (a1 a2:Option Addr) (c1 c2:Nat) (l k:WL) (S:Mem) (h1:WIn S a1 c1 l) (h2:WIn S a2 c2 k) :
  C Tryz.prog gN Ext 27 [wZ n (.slice a1 l.length c1),wZ m (.slice a2 k.length c2)] S fun v S'=>ZAns S S' v (zDE l k) ((zv n l).tmod (zv m k)):=by
 refine C.fn Tryz.func27 rfl (by kernel_rfl) rfl (go ?_)
 refine L.nr [.bool n,.slice a1 l.length c1] wT rfl rfl (fun b2 Tb2 gb2 kb2 rb2=>?_)
 refine L.nr [.bool m,.slice a2 k.length c2] wT rfl rfl (fun b3 Tb3 gb3 kb3 rb3=>?_)
 refine L.nr [.bool false,.slice none 0 0] wT rfl rfl (fun b4 Tb4 gb4 kb4 rb4=>?_)
 have kM:=(kb2.trans kb3).trans kb4
 have g4:S.length≤b4:=Nat.le_trans (kb2.trans kb3).len gb4
 replace rb2:=Cons.row (h:=kb3.trans kb4) rb2
 replace rb3:=Cons.row (h:=kb4) rb3
 replace h1:=h1.cons kM
 replace h2:=h2.cons kM
 have hc:=Cons.refl Tb4
 clear kb2 kb3 kb4 gb2 gb3 gb4
 refine go ?_
 refine L.z2 (Cons.row (h:=hc) rb2) rfl rfl rfl ?_
 refine L.z2 (Cons.row (h:=hc) rb3) rfl rfl rfl ?_
 refine L.cl (zDivided_C n m a1 a2 c1 c2 l k _ (h1.cons hc) (h2.cons hc)) rfl rfl ?_
 rintro _ Tn ⟨dn,dn2,rfl,rn,rn2⟩
 refine⟨fun _=>rn.1,?_⟩
 have hc0:=hc
 replace hc:=hc.trans rn.1
 refine go ?_
 refine L.nr [.bool false,.slice none 0 0] wT rfl rfl (fun b6 T6 g6 k6 r6=>?_)
 refine L.nr [.bool false,.slice none 0 0] wT rfl rfl (fun b7 T7 g7 k7 r7=>?_)
 have n67:b7≠b6:=by have:=row_lt r6;omega
 replace r6:=Cons.row (h:=k7) r6
 refine L.st2 r6 rfl rfl rfl rfl rfl rfl (fun T8 kk8 r8=>?_)
 refine L.st2 (kk8.row r7 n67) rfl rfl rfl rfl rfl rfl (fun T9 kk9 r9=>?_)
 replace r8:=kk9.row r8 (Ne.symm n67)
 have l4:=row_lt (Cons.row (h:=hc) rb4)
 have k79:Cons Tn T9:=kk9.mono (kk8.mono (k6.trans k7) g6) (Nat.le_trans k6.len g7)
 replace rn:=rn.post k79
 replace rn2:=rn2.post k79
 replace hc:=hc.trans k79
 refine go ?_
 refine L.z2 r9 rfl rfl rfl (go ?_)
 refine L.st2 (Cons.row (h:=hc) rb4) rfl rfl rfl rfl rfl rfl (fun T10 kk r10=>go ?_)
 exact⟨.inr rfl,_,res2 rfl (load2 r10 rfl),dn2,rfl,zfin kM hc0 rn2 kk g4 rb4⟩
theorem nilZ (S:Mem):WIn S none 0 []:=⟨Slv.nil _ _ _ _,by decide,fun _=>rfl,by decide⟩
theorem cmpI_vals (a b:Int):cmpI a b=-1∨cmpI a b=0∨cmpI a b=1:=by
 unfold cmpI
 split
 ·exact .inl rfl
 ·split
  ·exact .inr (.inr rfl)
  ·exact .inr (.inl rfl)
theorem zSign_C (n:Bool) (a1:Option Addr) (c1:Nat) (l:WL) (S:Mem) (h1:WIn S a1 c1 l) :
  C Tryz.prog gN Ext 28 [wZ n (.slice a1 l.length c1)] S fun v S'=>v=.int .i64 (cmpI (zv n l) 0)∧Cons S S':=by
 refine C.fn Tryz.func28 rfl (by kernel_rfl) rfl (go ?_)
 refine L.nr [.bool n,.slice a1 l.length c1] wT rfl rfl (fun b2 Tb2 gb2 kb2 rb2=>?_)
 have hc:=Cons.refl Tb2
 refine go ?_
 refine L.zf (Cons.row (h:=hc) rb2) rfl rfl rfl rfl rfl ?_
 refine L.cs (natCmp_C a1 none c1 0 l [] _ (h1.cons kb2) (nilZ _)) rfl rfl (go ?_)
 refine L.zf (Cons.row (h:=hc) rb2) rfl rfl rfl rfl rfl (go ?_)
 rw[cmp_zv]
 cases n
 ·refine W.condF rfl (go ?_)
  exact⟨.inr rfl,_,rfl,rfl,kb2⟩
 ·refine W.condT rfl (go ?_)
  refine⟨.inr rfl,_,rfl,?_,kb2⟩
  show Value.int .i64 (IntKind.i64.wrap (0 - cmpI ((wnum l:Nat):Int) ((wnum []:Nat):Int)))=_
  rw[if_pos rfl]
  have e:cmpI ((wnum l:Nat):Int) ((wnum []:Nat):Int)=cmpI ((wnum l:Nat):Int) 0:=rfl
  rw[e]
  rcases cmpI_vals ((wnum l:Nat):Int) 0 with h | h | h<;>rw[h]<;>rfl
end
section
open Go
variable {G:Nat} {Ext:FuncId→List Value→Mem→Outc→Mem→Prop}
def preB (a b:BL):Bool:=decide (b.length≤a.length) && decide (a.take b.length=b)
theorem hasPrefix0_C (a b:BL) (S:Mem):C Tryz.prog G Ext 142 [.string (strB a),.string (strB b)] S fun v S'=>v=.bool (preB a b)∧S'=S:=by
 refine C.fn Tryz.func142 rfl (by kernel_rfl) rfl (go ?_)
 refine L.tlen rfl rfl rfl rfl (go ?_)
 refine L.tlen rfl rfl rfl rfl (go ?_)
 cases hb:decide ((a.length:Int)≥(b.length:Int))
 ·have hlt:¬ b.length≤a.length:=by have:=of_decide_eq_false hb;omega
  refine go ?_
  exact⟨.inr rfl,_,rfl,by unfold preB;rw[decide_eq_false hlt];rfl,rfl⟩
 ·have hle:b.length≤a.length:=by have:=of_decide_eq_true hb;omega
  refine go ?_
  refine L.tlen rfl rfl rfl rfl ?_
  refine L.upto (l:=a) (i:=b.length) rfl rfl hle rfl rfl (go ?_)
  rw[strB_same]
  exact⟨.inr rfl,_,rfl,by unfold preB;rw[decide_eq_true hle];rfl,rfl⟩
theorem hasPrefix_C (a b:BL) (S:Mem):C Tryz.prog G Ext 137 [.string (strB a),.string (strB b)] S fun v S'=>v=.bool (preB a b)∧S'=S:=by
 refine C.fn Tryz.func137 rfl (by kernel_rfl) rfl (go ?_)
 refine L.cl (hasPrefix0_C a b S) rfl rfl ?_
 rintro _ _ ⟨rfl,rfl⟩
 refine⟨nofun,go ?_⟩
 exact⟨.inr rfl,_,rfl,rfl,rfl⟩
theorem bitsMul_C (a b:Nat) (S:Mem) (h:a*b<18446744073709551616) (ha:a<18446744073709551616) (hb:b<18446744073709551616):C Tryz.prog G Ext 136 [.int .u64 (a:Int),.int .u64 (b:Int)] S fun v S'=>v=.tuple #[.int .u64 0,.int .u64 ((a*b:Nat):Int)]∧S'=S:=by
 obtain⟨x,hx⟩:∃ x:BitVec 64,x.toNat=a:=⟨BitVec.ofNat 64 a,by rw[BitVec.toNat_ofNat];exact Nat.mod_eq_of_lt ha⟩
 obtain⟨y,hy⟩:∃ y:BitVec 64,y.toNat=b:=⟨BitVec.ofNat 64 b,by rw[BitVec.toNat_ofNat];exact Nat.mod_eq_of_lt hb⟩
 subst hx;subst hy
 refine C.fn Tryz.func136 rfl (by kernel_rfl) rfl (go ?_)
 refine W.condF rfl (go ?_)
 refine L.cl (mul64_C x y S) rfl rfl ?_
 rintro _ _ ⟨rfl,rfl⟩
 refine⟨nofun,go ?_⟩
 refine⟨.inr rfl,_,rfl,(force_eq rfl).trans ?_,rfl⟩
 have h1:(hiW x y).toNat=0:=by rw[hiW_val,Nat.div_eq_of_lt h]
 have h2:(x*y).toNat=x.toNat * y.toNat:=by rw[BitVec.toNat_mul];exact Nat.mod_eq_of_lt h
 rw[h1,h2]
 rfl
theorem repeat0_C (n:Nat) (hn:n≤64) (S:Mem):C Tryz.prog G Ext 116 [.string (strB [48#8]),vi n] S fun v S'=>v=.string (strB (List.replicate n 48#8))∧S'=S:=by
 refine C.fn Tryz.func116 rfl (by kernel_rfl) rfl (go ?_)
 refine W.ite rfl (fun h=>?_) (fun h=>?_)
 ·have h0:n=0:=by have:=eq_of_beq h;omega
  subst h0
  refine go ?_
  exact⟨.inr rfl,_,rfl,rfl,rfl⟩
 clear h
 refine go ?_
 refine W.ite rfl (fun h=>?_) (fun h=>?_)
 ·have h0:n=1:=by have:=eq_of_beq h;omega
  subst h0
  refine go ?_
  exact⟨.inr rfl,_,rfl,rfl,rfl⟩
 clear h
 refine go ?_
 refine W.ite rfl (fun h=>?_) (fun h=>?_)
 ·exfalso;have:=of_decide_eq_true h;omega
 clear h
 have hw1:IntKind.u64.wrap ((1:Nat):Int)=((1:Nat):Int):=wrapU64 (by omega) (by omega)
 have hw2:IntKind.u64.wrap (n:Int)=(n:Int):=wrapU64 (by omega) (by omega)
 have hw3:IntKind.i64.wrap (n:Int)=(n:Int):=wrap64 (by omega) (by omega)
 refine go ?_
 refine L.tlen (a:=[48#8]) rfl rfl rfl rfl (go ?_)
 refine L.cl (bitsMul_C 1 n S (by omega) (by omega) (by omega)) rfl ((show acall _ _=some (_,[.int .u64 (IntKind.u64.wrap ((1:Nat):Int)),.int .u64 (IntKind.u64.wrap (n:Int))]) from rfl).trans (by rw[hw1,hw2])) ?_
 rintro _ _ ⟨rfl,rfl⟩
 refine⟨nofun,?_⟩
 rw[Nat.one_mul]
 rename Mem=>S
 refine go ?_
 refine W.ite rfl (fun h=>?_) (fun h=>?_)
 ·exfalso;have:=of_decide_eq_true h;omega
 clear h
 refine go ?_
 refine L.tlen (a:=[48#8]) rfl rfl rfl rfl ?_
 rw[hw3]
 refine go ?_
 refine W.condF rfl (go ?_)
 refine W.condF rfl (go ?_)
 refine W.condF rfl (go ?_)
 refine W.condT rfl (go ?_)
 refine W.condT rfl ?_
 have d1:decide ((n:Int)≤128)=true:=decide_eq_true (by omega)
 have d2:decide ((n:Int)≤64)=true:=decide_eq_true (by omega)
 refine go ?_
 rw[d1]
 refine go ?_
 refine L.cl (hasPrefix_C (List.replicate 128 32#8) [48#8] S) rfl rfl ?_
 rintro _ _ ⟨rfl,rfl⟩
 refine⟨nofun,?_⟩
 rename Mem=>S
 rw[show preB (List.replicate 128 32#8) [48#8]=false from by decide]
 refine go ?_
 refine W.condF rfl (go ?_)
 rw[d1]
 refine go ?_
 refine L.cl (hasPrefix_C (List.replicate 128 45#8) [48#8] S) rfl rfl ?_
 rintro _ _ ⟨rfl,rfl⟩
 refine⟨nofun,?_⟩
 rename Mem=>S
 rw[show preB (List.replicate 128 45#8) [48#8]=false from by decide]
 refine go ?_
 refine W.condF rfl (go ?_)
 rw[d2]
 refine go ?_
 refine L.cl (hasPrefix_C (List.replicate 64 48#8) [48#8] S) rfl rfl ?_
 rintro _ _ ⟨rfl,rfl⟩
 refine⟨nofun,?_⟩
 rename Mem=>S
 rw[show preB (List.replicate 64 48#8) [48#8]=true from by decide]
 refine go ?_
 refine W.condT rfl (go ?_)
 refine L.upto (l:=List.replicate 64 48#8) (i:=n) rfl rfl (by rw[List.length_replicate];exact hn) rfl rfl (go ?_)
 refine⟨.inr rfl,_,rfl,?_,rfl⟩
 rw[List.take_replicate,Nat.min_eq_left hn]
 rfl
end
section
open Go
variable {G:Nat} {Ext:FuncId→List Value→Mem→Outc→Mem→Prop}
theorem noEscape_fn:ExternFn Tryz.prog 185 Extern.AbiNoEscape.same:=⟨_,Tryz.func185,by kernel_rfl,rfl,by kernel_rfl,by kernel_rfl⟩
def bldR (u v:Value):Row:=newR [u,v] 127
theorem copyCheck_C (rb:Nat) (u v:Value) (S:Mem) (hr:S.row? rb=some (bldR u v)) (hu:u=.pointer none∨u=.pointer (some ⟨rb,0,none⟩)) :
  C Tryz.prog G Ext 164 [.pointer (some ⟨rb,0,none⟩)] S fun w S'=>S'=S.set rb (bldR (.pointer (some ⟨rb,0,none⟩)) v):=by
 refine C.fn Tryz.func164 rfl (by kernel_rfl) rfl (go ?_)
 refine L.ld (a:=⟨rb,0,none⟩) (v:=u) (cell_of (o:=0) hr rfl (.inl rfl)) rfl rfl rfl ?_
 rcases hu with rfl | rfl
 ·refine go ?_
  refine W.condT rfl (go ?_)
  refine L.sem (v:=.pointer (some ⟨rb,0,none⟩)) rfl (sim_unsafe1 (t0:=127) rfl rfl rfl (by decide) rfl hr (Nat.le_of_ble_eq_true rfl)) (Nat.le_of_ble_eq_true rfl) (fun _=>Cons.refl _) ?_
  refine L.ext (v:=.pointer (some ⟨rb,0,none⟩)) rfl rfl noEscape_fn (fun ρ args' h=>?_) ?_
  ·obtain⟨v',rfl,hv⟩:∃ v',args'=[v']∧VR ρ (.pointer (some ⟨rb,0,none⟩)) v':=by
    obtain⟨h1,h2⟩:=h
    match args',h1 with
    | [x],_=>exact⟨x,rfl,h2 0 _ _ rfl rfl⟩
   exact⟨v',hv,fun w=>rfl⟩
  refine L.sem (v:=.pointer (some ⟨rb,0,none⟩)) rfl (sim_unsafe2 (u:=127) rfl rfl rfl rfl hr rfl (by kernel_rfl)) (Nat.le_of_ble_eq_true rfl) (fun _=>Cons.refl _) (go ?_)
  refine L.st (ad:=⟨rb,0,none⟩) (vs:=[.pointer (some ⟨rb,0,none⟩)]) (write_of (o:=0) hr rfl (Nat.le_of_ble_eq_true rfl) rfl) rfl rfl rfl rfl (go ?_)
  exact⟨.inl rfl,_,rfl,rfl⟩
 ·refine go ?_
  refine W.condF rfl (go ?_)
  refine L.ld (a:=⟨rb,0,none⟩) (v:=.pointer (some ⟨rb,0,none⟩)) (cell_of (o:=0) hr rfl (.inl rfl)) rfl rfl rfl (go ?_)
  refine L.psim (v:=.bool false) rfl ?_ ?_
  ·exact psim_same (t0:=127) (a:=⟨rb,0,none⟩) .neq (.inr rfl) rfl rfl (by decide) rfl rfl
  refine go ?_
  refine W.condF rfl (go ?_)
  refine⟨.inl rfl,_,rfl,?_⟩
  refine List.ext_getElem? fun i=>?_
  rw[List.getElem?_set]
  split
  ·rename_i h;subst h;rw[if_pos (row_lt hr)];exact(Mem.row?_some hr).1
  ·rfl
section
variable {P:Program} {G:Nat} {Ext:FuncId→List Value→Mem→Outc→Mem→Prop} {e:Env} {S:Mem} {fl:Bool} {ops:Array Oper} {K:Kont}
variable {rest:List Oper} {dst dst2:Option Tmp} {d:Tmp} {ty ty2:TypeId} {pos pos2:String} {af af2:Array Edge} {gd gd2:Option (Nat × Bool)}
theorem L.pushC {t ts xs el:TypeId} {s y:Operand} {bytes:Nat} {h:Hd} {w:Value} {l:List Value} (hok:appOk P ts xs=some (el,1,bytes)) (hg:HdOk S el h l)
  (hb:bldOk P t=some (el,1)) (hy:e.eval y=w) (h1:oneCell w=true)
  (w1:awanted ops ⟨some d,.buildSlice t 1 #[(0,y)],ty,pos,af,gd⟩ e=true)
  (hs:(e.put (some d) (.slice (some ⟨S.length,0,none⟩) 1 1)).eval s=h.v) (hroom:h.n+1≤1099511627776) (hby:(Nat.ble 1 bytes && Nat.ble bytes 64)=true)
  (w2:∀ p,awanted ops ⟨dst2,.call ⟨.builtin .append,#[s,.tmp d],#[ts,xs]⟩,ty2,pos2,af2,gd2⟩ (e.put (some d) p)=true)
  (k:∀ p h' S',HdOk S' el h' (l++[w])→h'.n=h.n+1→h'.c=UNK+h'.n→(∃ b,h'.a=some b∧S.length≤b)→KeepL h.a.toList S S'→L P G Ext fl ops rest ((e.put (some d) p).put dst2 (Hd.v h')) S' K) :
  L P G Ext fl ops (⟨some d,.buildSlice t 1 #[(0,y)],ty,pos,af,gd⟩ :: ⟨dst2,.call ⟨.builtin .append,#[s,.tmp d],#[ts,xs]⟩,ty2,pos2,af2,gd2⟩ :: rest) e S K:=by
 refine L.bs [w] hb rfl rfl (by simp [hy]) (by simp [h1]) w1 ?_
 have hc:Cons S (S++[newR [w] el]):=Cons.push _ _
 have hx:Slv (S++[newR [w] el]) 1 (.slice (some ⟨S.length,0,none⟩) 1 1) 1 [w]:=Slv.all (row_push_new rfl) rfl (by simp)
 obtain⟨h',S',q1,q2,q3,q4,⟨b,q5,q6⟩,q7⟩:=app_hd (x:=.slice (some ⟨S.length,0,none⟩) 1 1) hok (hg.cons hc) (hx.first (Nat.le_refl 1)) rfl rfl (by simp [h1]) (roomy_of hroom hby) (by omega)
 exact L.eff (w2 _) (aeff_append rfl rfl (by rw[hs];simpa [Env.eval,Env.put] using q1)) (k _ h' S' q2 q3 q4 ⟨b,q5,by simp at q6;omega⟩ ((hc.keepL _).trans q7))
theorem psim_data0 {x:Operand} {ts:Array TypeId} {n c:Nat} (hx:e.eval x=.slice none n c) (hc:c<UNK):PSim P ⟨dst,.call ⟨.builtin .unsafeSliceData,#[x],ts⟩,ty,pos,af,gd⟩ e.eval (.pointer none):=fun ρ ev' hv=>by
 have h1:=hv x (by simp [Op.operands,Call.operands])
 rw[hx] at h1
 obtain⟨n',c',h3⟩:∃ n' c',ev' x=.slice none n' c':=by
  generalize ev' x=u at h1
  cases h1 with
  | slNil _ _=>exact⟨_,_,rfl⟩
  | slE a c'=>unfold UNK at hc;omega
 refine⟨_,.ptrNil,fun w=>pureRun_sound ?_ w⟩
 have hb:Builtin.unsafeSliceData_ ts ty #[.slice none n' c']=pure (.pointer none):=rfl
 simp [execOp,resolve,h3,pureRun_bind,invoke,builtin,hb]
end
def BldS (S0 S:Mem) (rb:Nat) (l:BL):Prop:=Cons S0 S∧S0.length≤rb∧∃ u,∃ d:Hd,S.row? rb=some (bldR u d.v)∧(u=.pointer none∨u=.pointer (some ⟨rb,0,none⟩))∧HdOk S 5 d (bv l)∧(∀ b,d.a=some b→S0.length≤b∧b≠rb)∧(d.a=none∨(d.c=UNK+d.n∧0<d.n))
theorem keepL_set (S:Mem) (b:Nat) (x:Row):KeepL [b] S (S.set b x):=⟨by simp,fun r hr hn=>by
 rw[List.getElem?_set_ne (fun h=>hn (by simp [h]))]⟩
theorem string_C {S0:Mem} (rb:Nat) (l:BL) (S:Mem) (hB:BldS S0 S rb l) (hl:l.length<1000000000) :
  C Tryz.prog G Ext 141 [.pointer (some ⟨rb,0,none⟩)] S fun w S'=>w=.string (strB l)∧Cons S0 S':=by
 obtain⟨hC,hrb,u,d,hr,hu,hd,ha,hcap⟩:=hB
 refine C.fn Tryz.func141 rfl (by kernel_rfl) rfl ?_
 have hln:=hd.len
 rw[bv_len] at hln
 refine go ?_
 refine L.ld (a:=⟨rb,1,none⟩) (v:=d.v) (cell_of (o:=1) hr rfl (.inl rfl)) rfl rfl rfl ?_
 obtain⟨hd1,⟨h2,h3,h4⟩ | ⟨b,r,h2,h3,h4,h5,h6,h7⟩⟩:=id hd
 ·have hl0:l=[]:=List.length_eq_zero_iff.1 (by omega)
  subst hl0
  have hdv:d.v=.slice none 0 0:=by unfold Hd.v;rw[h2,h3,h4];rfl
  rw[hdv]
  refine L.psim (v:=.pointer none) rfl ?_ ?_
  ·exact psim_data0 (n:=0) (c:=0) rfl (by decide)
  refine go ?_
  refine L.ld (a:=⟨rb,1,none⟩) (v:=d.v) (cell_of (o:=1) hr rfl (.inl rfl)) rfl rfl rfl ?_
  rw[hdv]
  refine go ?_
  refine L.string0 rfl rfl rfl rfl (go ?_)
  exact⟨.inr rfl,_,rfl,rfl,hC⟩
 ·obtain⟨hc,hpn⟩:d.c=UNK+d.n∧0<d.n:=hcap.resolve_left (by rw[h2];nofun)
  have hrg:r=grownR (bv l) 5 1:=by
   rcases h7 with ⟨h8,h9⟩ | ⟨_,h9⟩
   ·omega
   ·exact h9
  subst hrg
  have hdv:d.v=.slice (some ⟨b,0,none⟩) l.length (UNK+l.length):=by unfold Hd.v;rw[h2,hc,← hln];rfl
  rw[hdv]
  have hpos:0<l.length:=by omega
  refine L.psim (v:=.pointer (some ⟨b,0,none⟩)) rfl ?_ ?_
  ·exact psim_data (n:=l.length) (c:=UNK+l.length) rfl hpos (by rw[knownCap_unk];exact Nat.le_refl _)
  refine go ?_
  refine L.ld (a:=⟨rb,1,none⟩) (v:=d.v) (cell_of (o:=1) hr rfl (.inl rfl)) rfl rfl rfl ?_
  rw[hdv]
  refine go ?_
  obtain⟨dp,hdp⟩:∃ dp,Tryz.prog.depth=dp+1:=⟨Tryz.prog.depth - 1,by have:1≤Tryz.prog.depth:=Nat.le_of_ble_eq_true (by kernel_rfl);omega⟩
  refine L.string (u:=5) l rfl rfl rfl h3 rfl (by show (bv l).take l.length=_;rw[List.take_of_length_le (by rw[bv_len];exact Nat.le_refl _)];rfl) hpos (by omega) (by show l.length≤(bv l).length;rw[bv_len];exact Nat.le_refl _) rfl rfl rfl hdp (by kernel_rfl) rfl (go ?_)
  exact⟨.inr rfl,_,rfl,rfl,(keepL_set _ _ _).cons0 hC (fun b' hb=>by simp at hb;have:=ha b h2;omega)⟩
end
section
open Go
theorem digits_size (n t:Nat) (acc:Array Value):(Extern.BytealgMakeNoZero.digits n t acc).size=acc.size+n:=by
 induction n generalizing t acc with
 | zero=>rfl
 | succ n ih=>rw[Extern.BytealgMakeNoZero.digits,ih,Array.size_push];omega
theorem nz_match {motive:Array Value→Type} (n:Int) (h1:(n:Int)→motive #[.int .i64 n]) (h2:(x:Array Value)→motive x):Extern.BytealgMakeNoZero.makeNoZero.match_3 motive #[.int .i64 n] h1 h2=h1 n:=rfl
theorem noZero_run {P:Program} {rs:Array TypeId} {t el:TypeId} {n:Nat} (hr:rs[0]?=some t) (hu:P.underlying t=some (.slice el)) (hn:n≤1000000000) (w:World) :
  ∃ cap b,n≤cap∧(Extern.BytealgMakeNoZero.makeNoZero #[3] rs #[.int .i64 (n:Int)]).run P w=.ok (.slice (some ⟨w.heap.size,0,none⟩) n cap) (w.drew.drew.alloc (.cells (Extern.BytealgMakeNoZero.digits cap b #[]) el)):=by
 refine ⟨(Question.appendCap n 0 el).cut (w.tape w.drawn (.appendCap n 0 el)), (Question.extern "internal/bytealg.MakeNoZero.bytes" 0).cut (w.drew.tape w.drew.drawn (.extern "internal/bytealg.MakeNoZero.bytes" 0)), by simp [Question.cut], ?_⟩
 delta Extern.BytealgMakeNoZero.makeNoZero
 rw[nz_match]
 have h0:((decide ((n:Int)<0) || decide ((n:Int) > 2^48))=true)=False:=by
  simp only [Bool.or_eq_true,decide_eq_true_eq,eq_iff_iff,iff_false,not_or]
  constructor
  ·omega
  ·have e:(2:Int)^48=281474976710656:=by decide
   rw[e];omega
 simp only [hr,Sem.run_bind,run_underlying' hu,Result.andThen_ok,h0,if_false,Sem.run_pure,run_choose,Question.forced,Bool.false_eq_true,World.drew_eq,run_askRoom,newRow,run_newObj,World.alloc_eq,Int.toNat_natCast]
 rfl
section
variable {P:Program} {G:Nat} {Ext:FuncId→List Value→Mem→Outc→Mem→Prop} {e:Env} {S:Mem} {fl:Bool} {ops:Array Oper} {K:Kont} {rest:List Oper}
theorem L.noZero {dst:Option Tmp} {op:Op} {ty:TypeId} {pos:String} {af:Array Edge} {gd:Option (Nat × Bool)} {f:FuncId} {rs:Array TypeId} {t el:TypeId} {n:Nat} (hw:awanted ops ⟨dst,op,ty,pos,af,gd⟩ e=true) (hc:acall ⟨dst,op,ty,pos,af,gd⟩ e.eval=some (f,[.int .i64 (n:Int)])) (hf:ExternFn P f (Extern.BytealgMakeNoZero.makeNoZero #[3] rs))
  (hr:rs[0]?=some t) (hu:P.underlying t=some (.slice el)) (hn:n≤1000000000)
  (h:L P G Ext fl ops rest (e.put dst (.slice (some ⟨S.length,0,none⟩) n (UNK+0))) (S++[grownR [] el 1]) K):L P G Ext fl ops (⟨dst,op,ty,pos,af,gd⟩ :: rest) e S K:=by
 have hk:opKind P ⟨dst,op,ty,pos,af,gd⟩=4:=acall_kind hc
 refine L.sem hw (fun ρ a w K Q hv hS hG hK=>?_) (by omega) (fun _=>Cons.push _ _) h (hna:=isAlloc_of (P:=P) (by omega))
 obtain⟨args',h1,h2⟩:=extern_run (w:=w) hc hv hf
 have ha:args'=[.int .i64 (n:Int)]:=by
  obtain⟨q1,q2⟩:=h1
  match args',q1 with
  | [x],_=>rw[(q2 0 _ _ rfl rfl).scalar_eq rfl]
 subst ha
 obtain⟨cap,b,hcap,hrun⟩:=noZero_run (P:=P) hr hu hn w
 have hsz:(Extern.BytealgMakeNoZero.digits cap b #[]).size=cap:=by rw[digits_size];simp
 obtain⟨ρ',k1,k2,k3⟩:=hS.drew.drew.push (w':=w.drew.drew.alloc (.cells (Extern.BytealgMakeNoZero.digits cap b #[]) el)) (grownR [] el 1) _ (0,0) rfl rfl rfl rfl 1 (by simp [grownR]) nofun (fun _=>rfl) rfl (fun j _ h=>by simp at h) (fun j u hu=>by simp [grownR] at hu)
 refine wp_value (h2 _ _ hrun) (hK _ ρ' _ ?_ k2 (((Stp.drew ρ S w).trans (Stp.drew ρ S w.drew)).trans k3))
 refine .sl _ _ _ _ _ ⟨_,k1,rfl⟩ rfl rfl ⟨fun h=>by omega,fun _=>⟨by omega,_,k1,fun _=>?_⟩⟩
 show cap*1≤_
 rw[hsz,Nat.mul_one]
 exact Nat.le_refl _
end
theorem noZero_fn:ExternFn Tryz.prog 186 (Extern.BytealgMakeNoZero.makeNoZero #[3] #[62]):=⟨_,Tryz.func186,by kernel_rfl,rfl,by kernel_rfl,by kernel_rfl⟩
end
section
open Go
section
variable {P:Program} {G:Nat} {Ext:FuncId→List Value→Mem→Outc→Mem→Prop} {e:Env} {S:Mem} {fl:Bool} {ops:Array Oper} {K:Kont}
variable {rest:List Oper} {dst:Option Tmp} {ty:TypeId} {pos:String} {af:Array Edge} {gd:Option (Nat × Bool)}
theorem L.cp0 {td xs:TypeId} {d x:Operand} {a:Option Addr} {n c:Nat} (hok:copyOk P td=true) (hd:e.eval d=.slice a n c) (hx:e.eval x=.slice none 0 0)
  (hw:awanted ops ⟨dst,.call ⟨.builtin .copy,#[d,x],#[td,xs]⟩,ty,pos,af,gd⟩ e=true)
  (h:L P G Ext fl ops rest (e.put dst (vi 0)) S K) :
  L P G Ext fl ops (⟨dst,.call ⟨.builtin .copy,#[d,x],#[td,xs]⟩,ty,pos,af,gd⟩ :: rest) e S K:=by
 refine L.eff hw ?_ h
 unfold copyOk at hok
 split at hok
 ·rename_i el hu
  split at hok
  ·rename_i i hi
   simp only [aeff]
   show acopy P td (e.eval d) (e.eval x) S=_
   rw[hd,hx]
   have h0:Nat.min 0 n=0:=Nat.zero_min n
   simp only [acopy,hu,hi,show lenOf' (.slice none 0 0)=some 0 from rfl,h0,firstOf_nil,Option.bind_some]
   cases a with
   | some a=>exact(if_pos trivial).trans rfl
   | none=>rfl
  ·cases hok
 ·cases hok
theorem text_cells (l:BL):firstOf S 1 l.length (.string (strB l))=some (bv l):=by
 show some (((strB l).data.toList.take l.length).map fun b=>Value.int .u8 b.toNat)=_
 have h1:(strB l).data.toList.length=l.length:=strB_size l
 rw[List.take_of_length_le (by omega)]
 congr 1
 show List.map (fun b:UInt8=>Value.int .u8 (b.toNat:Int)) ((l.map fun x=>UInt8.ofNat x.toNat).toArray.toList)=_
 rw[List.map_map]
 unfold bv
 refine List.map_congr_left fun x _=>?_
 show Value.int .u8 ((UInt8.ofNat x.toNat).toNat:Int)=_
 rw[byte_back]
theorem L.appT {ts xs el:TypeId} {s x:Operand} {bytes:Nat} {h:Hd} {t:BL} {l:List Value} (hok:appOk P ts xs=some (el,1,bytes)) (hg:HdOk S el h l)
  (hs:e.eval s=h.v) (hx:e.eval x=.string (strB t)) (hroom:h.n+t.length≤1099511627776) (hby:(Nat.ble 1 bytes && Nat.ble bytes 64)=true) (hpos:0<t.length)
  (hw:awanted ops ⟨dst,.call ⟨.builtin .append,#[s,x],#[ts,xs]⟩,ty,pos,af,gd⟩ e=true)
  (k:∀ h' S',HdOk S' el h' (l++bv t)→h'.n=h.n+t.length→h'.c=UNK+h'.n→(∃ b,h'.a=some b∧S.length≤b)→KeepL h.a.toList S S'→L P G Ext fl ops rest (e.put dst (Hd.v h')) S' K) :
  L P G Ext fl ops (⟨dst,.call ⟨.builtin .append,#[s,x],#[ts,xs]⟩,ty,pos,af,gd⟩ :: rest) e S K:=by
 obtain⟨h',S',q1,q2,q3,q4,q5,q7⟩:=app_hd (x:=.string (strB t)) hok hg (text_cells t) (congrArg some (strB_size t)) (bv_len t) (by unfold bv;rw[List.all_map];exact List.all_eq_true.2 fun _ _=>rfl) (roomy_of hroom hby) hpos
 exact L.eff hw (aeff_append rfl rfl (by rw[hs,hx];exact q1)) (k h' S' q2 q3 q4 q5 q7)
end
variable {G:Nat} {Ext:FuncId→List Value→Mem→Outc→Mem→Prop}
def BldT (S0 S:Mem) (rb:Nat) (l:BL):Prop:=Cons S0 S∧S0.length≤rb∧∃ u,∃ d:Hd,S.row? rb=some (bldR u d.v)∧(u=.pointer none∨u=.pointer (some ⟨rb,0,none⟩))∧HdOk S 5 d (bv l)∧(∀ b,d.a=some b→S0.length≤b∧b≠rb)∧(d.a=none∨d.c=UNK+d.n)
theorem BldT.new (S0:Mem):BldT S0 (S0++[bldR (.pointer none) (.slice none 0 0)]) S0.length []:=
 ⟨Cons.push _ _,Nat.le_refl _,_,⟨none,0,0⟩,row_push_new rfl,.inl rfl,HdOk.nil _ _,nofun,.inl rfl⟩
theorem BldT.full {S0 S:Mem} {rb:Nat} {l:BL} (h:BldT S0 S rb l) (hl:0<l.length):BldS S0 S rb l:=by
 obtain⟨h1,h2,u,d,h3,h4,h5,h6,h7⟩:=h
 have hn:=h5.len
 rw[bv_len] at hn
 exact⟨h1,h2,u,d,h3,h4,h5,h6,h7.imp id fun h=>⟨h,by omega⟩⟩
theorem bgrow_C (rb n:Nat) (u:Value) (S:Mem) (hr:S.row? rb=some (bldR u (.slice none 0 0))) (hn:n≤1000000000) :
  C Tryz.prog G Ext 165 [.pointer (some ⟨rb,0,none⟩),vi n] S fun w S'=>S'=(S++[grownR [] 5 1]).set rb (bldR u (.slice (some ⟨S.length,0,none⟩) 0 (UNK+0))):=by
 refine C.fn Tryz.func165 rfl (by kernel_rfl) rfl ?_
 have hlt:=row_lt hr
 have hc:Cons S (S++[grownR [] 5 1]):=Cons.push _ _
 have hr2:Mem.row? (S++[grownR [] 5 1]) rb=some (bldR u (.slice none 0 0)):=hc.row' hr
 have hw1:IntKind.i64.wrap (IntKind.i64.wrap (2*0)+(n:Int))=(n:Int):=by
  rw[show IntKind.i64.wrap (2*0)=0 from rfl,wrap64 (by omega) (by omega)];omega
 refine go ?_
 refine L.ld (a:=⟨rb,1,none⟩) (v:=.slice none 0 0) (cell_of (o:=1) hr rfl (.inl rfl)) rfl rfl rfl (go ?_)
 refine L.noZero (n:=n) rfl ?_ noZero_fn rfl rfl hn ?_
 ·exact(show acall _ _=some (186,[Value.int .i64 (IntKind.i64.wrap (IntKind.i64.wrap (2*0)+(n:Int)))]) from rfl).trans (by rw[hw1])
 refine go ?_
 refine L.ld (a:=⟨rb,1,none⟩) (v:=.slice none 0 0) (cell_of (o:=1) hr2 rfl (.inl rfl)) rfl rfl rfl (go ?_)
 refine L.ld (a:=⟨rb,1,none⟩) (v:=.slice none 0 0) (cell_of (o:=1) hr2 rfl (.inl rfl)) rfl rfl rfl ?_
 refine L.cp0 rfl rfl rfl rfl (go ?_)
 refine L.st (ad:=⟨rb,1,none⟩) (vs:=[.slice (some ⟨S.length,0,none⟩) 0 (UNK+0)]) (write_of (o:=1) hr2 rfl (Nat.le_of_ble_eq_true rfl) rfl) rfl rfl rfl rfl (go ?_)
 exact⟨.inl rfl,_,rfl,rfl⟩
theorem growB_C {S0:Mem} (rb n:Nat) (S:Mem) (hB:BldT S0 S rb []) (hnone:∃ u,S.row? rb=some (bldR u (.slice none 0 0))) (hn:n≤1000000000) :
  C Tryz.prog G Ext 138 [.pointer (some ⟨rb,0,none⟩),vi n] S fun w S'=>BldT S0 S' rb []:=by
 obtain⟨hC,hrb,u,d,hr,hu,hd,ha,hcap⟩:=hB
 obtain⟨u2,hr2⟩:=hnone
 have he:(u=u2∧d.v=.slice none 0 0):=by
  rw[hr] at hr2
  have h1:=congrArg Row.cells (Option.some.inj hr2)
  have h2:[u,d.v]=[u2,.slice none 0 0]:=h1
  simp only [List.cons.injEq,and_true] at h2
  exact h2
 rw[he.2] at hr
 refine C.fn Tryz.func138 rfl (by kernel_rfl) rfl (go ?_)
 refine L.cl (copyCheck_C rb u _ S hr hu) rfl rfl ?_
 rintro _ S1 hS1
 refine⟨nofun,?_⟩
 have hr1:S1.row? rb=some (bldR (.pointer (some ⟨rb,0,none⟩)) (.slice none 0 0)):=by rw[hS1];exact row_set_same hr rfl
 have hk1:KeepL [rb] S S1:=by rw[hS1];exact keepL_set _ _ _
 have hC1:Cons S0 S1:=hk1.cons0 hC (fun b hb=>by simp at hb;omega)
 clear hS1 hk1
 have hlt:=row_lt hr1
 refine go ?_
 refine W.ite rfl (fun h=>?_) (fun h=>?_)
 ·exfalso;have:=of_decide_eq_true h;omega
 clear h
 refine go ?_
 refine L.ld (a:=⟨rb,1,none⟩) (v:=.slice none 0 0) (cell_of (o:=1) hr1 rfl (.inl rfl)) rfl rfl rfl (go ?_)
 refine L.ld (a:=⟨rb,1,none⟩) (v:=.slice none 0 0) (cell_of (o:=1) hr1 rfl (.inl rfl)) rfl rfl rfl (go ?_)
 refine W.ite rfl (fun h=>?_) (fun h=>?_)
 ·refine go ?_
  refine L.cl (bgrow_C rb n _ S1 hr1 hn) rfl rfl ?_
  rintro _ S2 hS2
  refine⟨nofun,?_⟩
  have hlt2:rb<(S1++[grownR [] 5 1]).length:=by simp;omega
  have hk:Cons S0 S2:=by rw[hS2];exact(hC1.pushr _).set _ _ hrb
  have hr3:S2.row? rb=some (bldR (.pointer (some ⟨rb,0,none⟩)) (.slice (some ⟨S1.length,0,none⟩) 0 (UNK+0))):=by
   rw[hS2]
   exact row_set_same (r:=bldR (.pointer (some ⟨rb,0,none⟩)) (.slice none 0 0)) ((Cons.push S1 _).row' hr1) rfl
  have hr4:S2.row? S1.length=some (grownR [] 5 1):=by
   rw[hS2,row_set_other _ (by omega)]
   exact row_push_new rfl
  have hln:=hC1.len
  refine go ?_
  exact⟨.inl rfl,_,rfl,hk,hrb,_,⟨some S1.length,0,UNK+0⟩,hr3,.inr rfl,HdOk.grown hr4 rfl,(by rintro b ⟨⟩;omega),.inr rfl⟩
 ·refine go ?_
  exact⟨.inl rfl,_,rfl,hC1,hrb,_,⟨none,0,0⟩,hr1,.inr rfl,HdOk.nil _ _,nofun,.inl rfl⟩
theorem writeString_C {S0:Mem} (rb:Nat) (t l:BL) (S:Mem) (hB:BldT S0 S rb l) (hl:l.length+t.length<1000000000) :
  C Tryz.prog G Ext 139 [.pointer (some ⟨rb,0,none⟩),.string (strB t)] S fun w S'=>BldT S0 S' rb (l++t):=by
 obtain⟨hC,hrb,u,d,hr,hu,hd,ha,hcap⟩:=hB
 refine C.fn Tryz.func139 rfl (by kernel_rfl) rfl (go ?_)
 refine L.cl (copyCheck_C rb u d.v S hr hu) rfl rfl ?_
 rintro _ S1 hS1
 refine⟨nofun,?_⟩
 have hr1:S1.row? rb=some (bldR (.pointer (some ⟨rb,0,none⟩)) d.v):=by rw[hS1];exact row_set_same hr rfl
 have hk1:KeepL [rb] S S1:=by rw[hS1];exact keepL_set _ _ _
 have hC1:Cons S0 S1:=hk1.cons0 hC (fun b hb=>by simp at hb;omega)
 have hd1:=hd.keep hk1 (fun b e=>by simpa using (ha b e).2)
 have hln:=hd.len
 rw[bv_len] at hln
 clear hS1 hk1 hr hd
 refine go ?_
 refine L.ld (a:=⟨rb,1,none⟩) (v:=d.v) (cell_of (o:=1) hr1 rfl (.inl rfl)) rfl rfl rfl (go ?_)
 rcases Nat.eq_zero_or_pos t.length with h0 | hpos
 ·have ht:t=[]:=List.length_eq_zero_iff.1 h0
  subst ht
  refine L.eff (v:=d.v) (S1:=S1) rfl (aeff_append rfl rfl ?_) ?_
  ·show aappend Tryz.prog 62 9 d.v (.string (strB [])) S1=some (d.v,S1)
   obtain⟨dx,i,z,hu1,hu2,hi,hdd,hz,hzz1,hzz2,hsz,hby⟩:=appOk_some (show appOk Tryz.prog 62 9=some (5,1,1) by kernel_rfl)
   have hcond:¬ (z.cells.size≠i.size∨¬ z.cells.toList.all scalar=true):=fun h=>h.elim (fun h=>h hzz1) (fun h=>h hzz2)
   have hdv:d.v=.slice (d.a.map fun b=>⟨b,0,none⟩) d.n d.c:=rfl
   have hf:=hd1.slv.first (Nat.le_refl d.n)
   rw[hdv] at hf ⊢
   have ht0:firstOf S1 1 0 (.string (strB []))=some []:=text_cells []
   rw[hsz] at hcond
   rw[aappend_eq hu1 hu2 hi hdd hz (m:=0) rfl,hsz,ht0,hf]
   simp only [Option.bind_some]
   rw[if_neg hcond]
   rcases hcap with hn | hc
   ·obtain⟨_,⟨h2,h3,h4⟩ | ⟨b,r,h2,_⟩⟩:=hd1
    ·rw[h2,h3,h4];rfl
    ·rw[hn] at h2;cases h2
   ·rw[if_pos (by rw[hc,knownCap_unk];omega)]
    obtain⟨_,⟨h2,h3,h4⟩ | ⟨b,r,h2,_⟩⟩:=hd1
    ·unfold UNK at hc;omega
    ·rw[h2];rfl
  refine go ?_
  refine L.st (ad:=⟨rb,1,none⟩) (vs:=[d.v]) (write_of (o:=1) hr1 rfl (Nat.le_of_ble_eq_true rfl) rfl) rfl rfl rfl rfl ?_
  rw[show ({ bldR (.pointer (some ⟨rb,0,none⟩)) d.v with cells:=putFrom (bldR (.pointer (some ⟨rb,0,none⟩)) d.v).cells 1 [d.v] }:Row)=bldR (.pointer (some ⟨rb,0,none⟩)) d.v from rfl]
  have hk3:=keepL_set S1 rb (bldR (.pointer (some ⟨rb,0,none⟩)) d.v)
  refine go ?_
  refine L.tlen rfl rfl rfl rfl (go ?_)
  refine⟨.inr rfl,_,rfl,hk3.cons0 hC1 (fun b hb=>by simp at hb;omega),hrb,_,d,row_set_same hr1 rfl,.inr rfl,?_,ha,hcap⟩
  rw[List.append_nil]
  exact hd1.keep hk3 (fun b e=>by simpa using (ha b e).2)
 refine L.appT (t:=t) (bytes:=1) rfl hd1 rfl rfl (by omega) rfl hpos rfl ?_
 rintro h' S2 u1 u2 uc ⟨b',u3,u5⟩ u4
 have hne:rb ∉ d.a.toList:=fun hm=>by
  have:=ha rb (by simpa using hm);omega
 have hr2:=u4.row hr1 hne
 have hC2:Cons S0 S2:=u4.cons0 hC1 (fun b hb=>(ha b (by simpa using hb)).1)
 have hlt:=row_lt hr1
 refine go ?_
 refine L.st (ad:=⟨rb,1,none⟩) (vs:=[h'.v]) (write_of (o:=1) hr2 rfl (Nat.le_of_ble_eq_true rfl) rfl) rfl rfl rfl rfl ?_
 rw[show ({ bldR (.pointer (some ⟨rb,0,none⟩)) d.v with cells:=putFrom (bldR (.pointer (some ⟨rb,0,none⟩)) d.v).cells 1 [h'.v] }:Row)=bldR (.pointer (some ⟨rb,0,none⟩)) h'.v from rfl]
 have hk3:=keepL_set S2 rb (bldR (.pointer (some ⟨rb,0,none⟩)) h'.v)
 refine go ?_
 refine L.tlen rfl rfl rfl rfl (go ?_)
 refine⟨.inr rfl,_,rfl,hk3.cons0 hC2 (fun b hb=>by simp at hb;omega),hrb,_,h',row_set_same hr2 rfl,.inr rfl,?_,fun b hb=>?_,.inr uc⟩
 ·have h3:=u1.keep hk3 (fun b hb hm=>by
   rw[u3] at hb;cases hb
   simp at hm;omega)
  rw[bv_app];exact h3
 ·rw[u3] at hb;cases hb
  have:=hC1.len
  omega
end
section
open Go
variable {G:Nat} {Ext:FuncId→List Value→Mem→Outc→Mem→Prop}
def tv (ps:List BL):List Value:=ps.map fun p=>.string (strB p)
theorem tv_len (ps:List BL):(tv ps).length=ps.length:=by simp [tv]
theorem tv_get {ps:List BL} {i:Nat} {p:BL} (h:ps[i]?=some p):(tv ps)[i]?=some (.string (strB p)):=by simp [tv,h]
theorem reverse_C (b n c:Nat) (ps:List BL) (S:Mem) (hr:S.row? b=some (grownR (tv ps) 9 1)) (hn:ps.length=n) (hlt:n<1000000) :
  C Tryz.prog G Ext 117 [.slice (some ⟨b,0,none⟩) n c] S fun v S'=>Keep b S S'∧S'.row? b=some (grownR (tv ps.reverse) 9 1):=by
 refine C.fn Tryz.func117 rfl (by kernel_rfl) rfl (go ?_)
 refine W.loop (fun k e T=>∃ (i j:Int) (l:List BL),k=(j - i+1).toNat∧0≤i∧i+j=(n:Int) - 1∧e 0=.slice (some ⟨b,0,none⟩) n c∧e 2=.int .i64 i∧e 3=.int .i64 j∧-1≤j∧j<n∧i≤n∧Keep b S T∧T.row? b=some (grownR (tv l) 9 1)∧l.length=n∧i≤j+2 ∧
   ∀ p:Nat,p<n→l[p]?=if (p:Int)<i∨j<p then ps[n - 1 - p]? else ps[p]?) n
  ⟨0,(n:Int) - 1,ps,by omega,by omega,by omega,rfl,rfl,congrArg (Value.int .i64) (wrap64 (by omega) (by omega)),by omega,by omega,by omega,Keep.refl _ _,hr,hn,by omega,fun p hp=>by rw[if_neg (by omega)]⟩ ?_
 rintro k e T ⟨i,j,l,rfl,hi,hij,e0,e2,e3,hj1,hj2,hi2,hk,hrT,hll,hij2,hz⟩
 refine W.env3 e0 e2 e3 (go ?_)
 refine W.ite rfl (fun h=>?_) (fun h=>?_)
 ·have hlt2:i<j:=of_decide_eq_true h
  clear h
  obtain⟨i,rfl⟩:∃ i':Nat,i=(i':Int):=⟨i.toNat,by omega⟩
  obtain⟨j,rfl⟩:∃ j':Nat,j=(j':Int):=⟨j.toNat,by omega⟩
  obtain⟨x,hx⟩:∃ x,l[i]?=some x:=⟨_,List.getElem?_eq_getElem (by omega)⟩
  obtain⟨y,hy⟩:∃ y,l[j]?=some y:=⟨_,List.getElem?_eq_getElem (by omega)⟩
  have hsl:Slv T 1 (.slice (some ⟨b,0,none⟩) n c) n (tv l):=Slv.all hrT rfl (by rw[tv_len,hll,Nat.mul_one])
  refine go ?_
  refine L.el hsl (k:=j) rfl (tv_get hy) rfl rfl rfl rfl (fun _=>rfl) rfl (fun p=>go ?_)
  refine L.el hsl (k:=i) rfl (tv_get hx) rfl rfl rfl rfl (fun _=>rfl) rfl (fun p=>?_)
  refine L.elst hrT rfl (by show 0+n≤(tv l).length;rw[tv_len,hll];omega) (k:=i) rfl (by omega) rfl rfl rfl rfl (fun _=>rfl) (fun _=>rfl) rfl rfl rfl (fun p=>?_)
  have h1:Mem.row? (List.set T b { grownR (tv l) 9 1 with cells:=(grownR (tv l) 9 1).cells.set (0+i) (.string (strB y)) }) b=some (grownR (tv (l.set i y)) 9 1):=by
   rw[row_set_same hrT rfl,Nat.zero_add]
   simp [grownR,tv,List.map_set]
  have hk1:=hk.trans (Keep.set b T { grownR (tv l) 9 1 with cells:=(grownR (tv l) 9 1).cells.set (0+i) (.string (strB y)) })
  generalize List.set T b _=T1 at *
  refine L.elst h1 rfl (by show 0+n≤(tv (l.set i y)).length;rw[tv_len,List.length_set,hll];omega) (k:=j) rfl (by omega) rfl rfl rfl rfl (fun _=>rfl) (fun _=>rfl) rfl rfl rfl (fun p=>?_)
  have h2:Mem.row? (List.set T1 b { grownR (tv (l.set i y)) 9 1 with cells:=(grownR (tv (l.set i y)) 9 1).cells.set (0+j) (.string (strB x)) }) b=some (grownR (tv ((l.set i y).set j x)) 9 1):=by
   rw[row_set_same h1 rfl,Nat.zero_add]
   simp [grownR,tv,List.map_set]
  have hk2:=hk1.trans (Keep.set b T1 { grownR (tv (l.set i y)) 9 1 with cells:=(grownR (tv (l.set i y)) 9 1).cells.set (0+j) (.string (strB x)) })
  generalize List.set T1 b _=T2 at *
  refine go ?_
  have hxp:=hz i (by omega)
  have hyp:=hz j (by omega)
  rw[if_neg (by omega),hx] at hxp
  rw[if_neg (by omega),hy] at hyp
  refine⟨((j:Int) - 1 - ((i:Int)+1)+1).toNat,by omega,(i:Int)+1,(j:Int) - 1,(l.set i y).set j x,rfl,by omega,by omega,rfl,congrArg (Value.int .i64) (wrap64 (by omega) (by omega)),congrArg (Value.int .i64) (wrap64 (by omega) (by omega)),by omega,by omega,by omega,hk2,h2,by simpa using hll,by omega,fun p hp=>?_⟩
  rw[List.getElem?_set,List.getElem?_set]
  by_cases hpj:j=p
  ·rw[if_pos hpj,if_pos (by rw[List.length_set];omega),if_pos (by omega),← hpj,hxp,show n - 1 - j=i by omega]
  ·rw[if_neg hpj]
   by_cases hpi:i=p
   ·rw[if_pos hpi,if_pos (by omega),if_pos (by omega),← hpi,hyp,show n - 1 - i=j by omega]
   ·rw[if_neg hpi,hz p hp]
    by_cases hq:(p:Int)<i∨(j:Int)<p
    ·rw[if_pos hq,if_pos (by omega)]
    ·rw[if_neg hq,if_neg (by omega)]
 ·have hge:¬ i<j:=of_decide_eq_false h
  clear h
  have hfin:l=ps.reverse:=by
   apply List.ext_getElem?
   intro p
   by_cases hp:p<n
   ·rw[List.getElem?_reverse (by omega),hn,hz p hp]
    by_cases hq:(p:Int)<i∨j<p
    ·rw[if_pos hq]
    ·rw[if_neg hq]
     congr 1;omega
   ·rw[List.getElem?_eq_none (by omega),List.getElem?_eq_none (by simp;omega)]
  rw[hfin] at hrT
  refine go ?_
  exact⟨.inl rfl,_,rfl,hk,hrT⟩
theorem flat_succ {ps:List BL} {i:Nat} {p:BL} (h:ps[i]?=some p):(ps.take (i+1)).flatten=(ps.take i).flatten++p:=by
 rw[List.take_add_one,h]
 simp
theorem flat_le (ps:List BL) (i:Nat):(ps.take i).flatten.length≤ps.flatten.length:=by
 conv=>rhs;rw[← List.take_append_drop i ps,List.flatten_append,List.length_append]
 omega
theorem join_C (a:Option Addr) (c n:Nat) (ps:List BL) (S:Mem) (hs:Slv S 1 (.slice a n c) n (tv ps)) (hn:ps.length=n) (hc:Cut n c) (hlt:n<1000000) (htot:ps.flatten.length<100000000) (hne:∀ p∈ps,p≠[]) :
  C Tryz.prog G Ext 118 [.slice a n c,.string (strB [])] S fun v S'=>v=.string (strB ps.flatten)∧Cons S S':=by
 refine C.fn Tryz.func118 rfl (by kernel_rfl) rfl (go ?_)
 refine W.ite rfl (fun h=>?_) (fun h=>?_)
 ·have h0:ps=[]:=List.length_eq_zero_iff.1 (by have:=eq_of_beq h;omega)
  subst h0
  refine go ?_
  exact⟨.inr rfl,_,rfl,rfl,Cons.refl _⟩
 have hn0:n≠0:=fun e=>by rw[e] at h;cases h
 clear h
 obtain⟨p0,hp0⟩:∃ p,ps[0]?=some p:=⟨_,List.getElem?_eq_getElem (by omega)⟩
 refine go ?_
 refine W.ite rfl (fun h=>?_) (fun h=>?_)
 ·have h1:ps.length=1:=by have:=eq_of_beq h;omega
  clear h
  have hps:ps=[p0]:=by
   match ps,h1,hp0 with
   | [q],_,hp0=>simp at hp0;rw[hp0]
  subst hps
  refine go ?_
  refine L.el hs (k:=0) rfl (tv_get hp0) rfl rfl rfl rfl (fun _=>rfl) rfl (fun p=>go ?_)
  exact⟨.inr rfl,_,rfl,by simp;rfl,Cons.refl _⟩
 have hn1:n≠1:=fun e=>by rw[e] at h;cases h
 clear h
 refine go ?_
 refine L.tlen (a:=[]) rfl rfl rfl rfl (go ?_)
 refine W.condF rfl (go ?_)
 refine W.mono (R:=fun x e' T=>x=.exit 1∧T=S∧e' 0=.slice a n c∧e' 1=.string (strB [])∧e' 5=vi ps.flatten.length) ?_ ?_
 ·refine W.loop (fun j e T=>T=S∧∃ i:Nat,j=n - i∧i≤n∧e 0=.slice a n c∧e 1=.string (strB [])∧e 5=vi (ps.take i).flatten.length∧e 39=.slice a n c∧e 40=vi n∧e 41=vi i) n
   ⟨rfl,0,by omega,by omega,rfl,rfl,rfl,rfl,rfl,rfl⟩ ?_
  rintro j e T ⟨rfl,i,rfl,hi,e0,e1,e5,e39,e40,e41⟩
  refine W.env6 e0 e1 e5 e39 e40 e41 (go ?_)
  refine W.ite rfl (fun h=>?_) (fun h=>?_)
  ·have hin:i<n:=by have:=of_decide_eq_true h;omega
   clear h
   obtain⟨p,hp⟩:∃ p,ps[i]?=some p:=⟨_,List.getElem?_eq_getElem (by omega)⟩
   have h1:=flat_succ hp
   have h2:=flat_le ps (i+1)
   have h3:=flat_le ps i
   rw[h1,List.length_append] at h2
   refine go ?_
   refine L.el hs (k:=i) rfl (tv_get hp) rfl rfl rfl rfl (fun _=>rfl) rfl (fun p=>go ?_)
   refine L.tlen rfl rfl rfl rfl (go ?_)
   refine W.ite rfl (fun h=>?_) (fun h=>?_)
   ·exfalso
    have h4:=of_decide_eq_true h
    rw[wrap64 (by omega) (by omega)] at h4
    omega
   clear h
   refine go ?_
   refine L.tlen rfl rfl rfl rfl (go ?_)
   refine⟨n - (i+1),by omega,rfl,i+1,rfl,by omega,rfl,rfl,?_,rfl,rfl,congrArg (Value.int .i64) (wrap64 (by omega) (by omega))⟩
   rw[h1,List.length_append]
   exact(force_eq rfl).trans (congrArg (Value.int .i64) (wrap64 (by omega) (by omega)))
  ·have hin:i=n:=by have:=of_decide_eq_false h;omega
   clear h
   rw[List.take_of_length_le (by omega)]
   refine go ?_
   exact⟨rfl,rfl,rfl,rfl,rfl⟩
 rintro _ e T ⟨rfl,hT,e0,e1,e5⟩
 subst hT
 rename Mem=>S
 refine W.env3 e0 e1 e5 (go ?_)
 refine L.eff (v:=.pointer (some ⟨S.length,0,none⟩)) (S1:=S++[bldR (.pointer none) (.slice none 0 0)]) rfl rfl ?_
 have hB:=BldT.new S
 have hrb0:Mem.row? (S++[bldR (.pointer none) (.slice none 0 0)]) S.length=some (bldR (.pointer none) (.slice none 0 0)):=row_push_new rfl
 generalize S++[bldR (.pointer none) (.slice none 0 0)]=T at *
 obtain⟨rb,hrb⟩:∃ r,r=S.length:=⟨_,rfl⟩
 rw[← hrb] at hB hrb0 ⊢
 refine go ?_
 refine L.cl (growB_C rb ps.flatten.length T hB ⟨_,hrb0⟩ (by omega)) rfl rfl ?_
 rintro _ T1 hB1
 refine⟨nofun,?_⟩
 clear hB hrb0
 refine go ?_
 refine L.el (hs.cons hB1.1) (k:=0) rfl (tv_get hp0) rfl rfl rfl rfl (fun _=>rfl) rfl (fun p=>?_)
 have h1:=flat_succ hp0
 have h3:=flat_le ps 1
 rw[h1,List.take_zero,List.flatten_nil,List.nil_append] at h3
 refine L.cl (writeString_C rb p0 [] T1 hB1 (by simp;omega)) rfl rfl ?_
 rintro _ T2 hB2
 refine⟨nofun,?_⟩
 rw[← List.flatten_nil,← List.take_zero (l:=ps),← h1] at hB2
 clear hB1
 refine go ?_
 obtain⟨a',c',q1,q2,q3,_⟩:=slv_part (lo:=some (.int .i64 ((1:Nat):Int))) (hi:=none) (k:=1) (h:=n) (hs.cons hB2.1) (.inr ⟨.i64,rfl⟩) (.inl ⟨rfl,rfl⟩) (by omega) (Nat.le_refl _) hc
 refine L.is (.slice a' (n - 1) c') ((slice_at0 rfl rfl rfl).trans q1) rfl (go ?_)
 have hpart:∀ T,Cons S T→Slv T 1 (.slice a' (n - 1) c') (n - 1) (((tv ps).drop 1).take (n - 1)):=fun T hT=>by
  obtain⟨a2,c2,r1,r2,_⟩:=slv_part (lo:=some (.int .i64 ((1:Nat):Int))) (hi:=none) (k:=1) (h:=n) (hs.cons hT) (.inr ⟨.i64,rfl⟩) (.inl ⟨rfl,rfl⟩) (by omega) (Nat.le_refl _) hc
  rw[q1] at r1
  have:=Option.some.inj r1
  rw[← this] at r2
  exact r2
 clear q2 q3
 refine W.loop (fun j e T=>∃ i:Nat,j=n - 1 - i∧i≤n - 1∧e 1=.string (strB [])∧e 8=.pointer (some ⟨rb,0,none⟩)∧e 63=.slice a' (n - 1) c'∧e 64=vi (n - 1)∧e 65=vi i∧BldT S T rb (ps.take (i+1)).flatten) (n - 1)
  ⟨0,by omega,by omega,rfl,rfl,rfl,rfl,rfl,hB2⟩ ?_
 clear hB2
 rintro j e T ⟨i,rfl,hi,e1,e8,e63,e64,e65,hB⟩
 refine W.env5 e1 e8 e63 e64 e65 (go ?_)
 refine W.ite rfl (fun h=>?_) (fun h=>?_)
 ·have hin:i<n - 1:=by have:=of_decide_eq_true h;omega
  clear h
  obtain⟨p,hp⟩:∃ p,ps[i+1]?=some p:=⟨_,List.getElem?_eq_getElem (by omega)⟩
  have hget:(((tv ps).drop 1).take (n - 1))[i]?=some (.string (strB p)):=by
   rw[List.getElem?_take,if_pos hin,List.getElem?_drop,Nat.add_comm 1]
   exact tv_get hp
  have h4:=flat_succ hp
  have h5:=flat_le ps (i+1)
  have h6:=flat_le ps (i+1+1)
  rw[h4,List.length_append] at h6
  refine go ?_
  refine L.el (hpart T hB.1) (k:=i) rfl hget rfl rfl rfl rfl (fun _=>rfl) rfl (fun _=>go ?_)
  refine L.cl (writeString_C rb [] _ T hB (by rw[List.length_nil];omega)) rfl rfl ?_
  rintro _ T2 hB2
  refine⟨nofun,?_⟩
  rw[List.append_nil] at hB2
  refine go ?_
  refine L.cl (writeString_C rb p _ T2 hB2 (by omega)) rfl rfl ?_
  rintro _ T3 hB3
  refine⟨nofun,?_⟩
  rw[← h4] at hB3
  refine go ?_
  exact⟨n - 1 - (i+1),by omega,i+1,rfl,by omega,rfl,rfl,rfl,rfl,congrArg (Value.int .i64) (wrap64 (by omega) (by omega)),hB3⟩
 ·have hin:i=n - 1:=by have:=of_decide_eq_false h;omega
  clear h
  rw[List.take_of_length_le (by omega)] at hB
  have hpos:0<ps.flatten.length:=by
   have h7:=hne p0 (List.mem_of_getElem? hp0)
   have h8:0<p0.length:=List.length_pos_iff.2 h7
   omega
  refine go ?_
  refine L.cl (string_C rb ps.flatten T (hB.full hpos) (by omega)) rfl rfl ?_
  rintro _ T2 ⟨rfl,hk⟩
  refine⟨nofun,go ?_⟩
  exact⟨.inr rfl,_,rfl,rfl,hk⟩
end
section
open Go
def digB (n:Nat):BitVec 8:=BitVec.ofNat 8 (48+n % 10)
def pad:Nat→Nat→BL
 | 0,_=>[]
 | k+1,n=>pad k (n / 10)++[digB n]
def dec (n:Nat):BL:=if n<10 then [digB n] else dec (n / 10)++[digB n]
termination_by n
decreasing_by omega
theorem digB_val (n:Nat):(digB n).toNat=48+n % 10:=by
 unfold digB;rw[BitVec.toNat_ofNat];omega
theorem pad_len (k n:Nat):(pad k n).length=k:=by
 induction k generalizing n with
 | zero=>rfl
 | succ k ih=>rw[pad,List.length_append,ih];rfl
theorem dec_small {n:Nat} (h:n<10):dec n=[digB n]:=by rw[dec,if_pos h]
theorem dec_big {n:Nat} (h:10≤n):dec n=dec (n / 10)++[digB n]:=by rw[dec,if_neg (by omega)]
theorem dec_pad {k n:Nat} (h1:n<10^(k+1)) (h2:k=0∨10^k≤n):dec n=pad (k+1) n:=by
 induction k generalizing n with
 | zero=>rw[dec_small (by simpa using h1)];rfl
 | succ k ih=>
  have hk:10^(k+1)≤n:=by
   rcases h2 with h2 | h2
   ·omega
   ·exact h2
  have hp:=Nat.pow_pos (n:=k) (show 0<10 by decide)
  rw[Nat.pow_succ] at hk
  rw[Nat.pow_succ] at h1
  rw[dec_big (by omega),ih (by omega) (by omega)];rfl
theorem pad_add (j k n:Nat):pad (j+k) n=pad j (n / 10^k)++pad k n:=by
 induction k generalizing n with
 | zero=>simp [pad]
 | succ k ih=>
  show pad (j+k) (n / 10)++[digB n]=_
  rw[ih,pad,List.append_assoc,Nat.div_div_eq_div_mul,Nat.pow_succ,Nat.mul_comm 10]
theorem pad_mod (k n:Nat):pad k (n % 10^k)=pad k n:=by
 induction k generalizing n with
 | zero=>rfl
 | succ k ih=>
  have h1:n % 10^(k+1) / 10=n / 10 % 10^k:=by
   rw[Nat.pow_succ,Nat.mul_comm,Nat.mod_mul_right_div_self]
  have h2:digB (n % 10^(k+1))=digB n:=by
   unfold digB
   rw[Nat.mod_mod_of_dvd _ ⟨10^k,by rw[Nat.pow_succ,Nat.mul_comm]⟩]
  rw[pad,pad,h1,h2,ih]
theorem dec_len_pos (n:Nat):0<(dec n).length:=by
 by_cases h:n<10
 ·rw[dec_small h];exact Nat.one_pos
 ·rw[dec_big (by omega)];simp
theorem dec_split {k n:Nat} (h:10^k≤n):dec n=dec (n / 10^k)++pad k n:=by
 induction k generalizing n with
 | zero=>simp [pad]
 | succ k ih=>
  have hp:=Nat.pow_pos (n:=k) (show 0<10 by decide)
  rw[Nat.pow_succ] at h
  rw[dec_big (by omega),ih (by omega),pad,List.append_assoc,Nat.div_div_eq_div_mul,Nat.pow_succ,Nat.mul_comm 10]
theorem pad_zero (k:Nat):pad k 0=List.replicate k 48#8:=by
 induction k with
 | zero=>rfl
 | succ k ih=>rw[pad,Nat.zero_div,ih,List.replicate_succ'];rfl
theorem pad_zeros {j k n:Nat} (h:n<10^j):pad (k+j) n=List.replicate k 48#8++pad j n:=by
 rw[pad_add,Nat.div_eq_of_lt h,pad_zero]
theorem dec_of_len {n:Nat}:∃ k,(dec n).length=k+1∧n<10^(k+1)∧(k=0∨10^k≤n)∧dec n=pad (k+1) n:=by
 have key:∃ k,n<10^(k+1)∧(k=0∨10^k≤n):=by
  induction n using Nat.strongRecOn with
  | _ n ih=>
   by_cases h:n<10
   ·exact⟨0,by simpa using h,.inl rfl⟩
   ·obtain⟨k,h1,h2⟩:=ih (n / 10) (by omega)
    refine⟨k+1,by rw[Nat.pow_succ];omega,.inr ?_⟩
    rcases h2 with rfl | h2
    ·simp;omega
    ·rw[Nat.pow_succ];omega
 obtain⟨k,h1,h2⟩:=key
 exact⟨k,by rw[dec_pad h1 h2,pad_len],h1,h2,dec_pad h1 h2⟩
theorem dec_fill {k n:Nat} (h:n<10^k) (hk:0<k):(dec n).length≤k∧List.replicate (k - (dec n).length) 48#8++dec n=pad k n:=by
 obtain⟨m,h1,h2,h3,h4⟩:=dec_of_len (n:=n)
 have hm:m+1≤k:=by
  rcases h3 with rfl | h3
  ·omega
  ·refine Classical.byContradiction fun hc=>?_
   have:=Nat.pow_le_pow_right (n:=10) (by decide) (show k≤m by omega)
   omega
 refine⟨by omega,?_⟩
 rw[h4,pad_len,← pad_zeros h2]
 congr 1;omega
end
end Go.Proofs.YtbiigbicgfchiaaGreatDoor
