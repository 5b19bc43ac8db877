/- What several proofs share, part 6: a model of memory, contracts of functions. Conditions: none. -/
import Derived.Test.YtbiigbicgfchiaaGreatDoorLieC
import Derived.Test.YtbiigbicgfchiaaGreatDoorLieD
import Derived.Test.YtbiigbicgfchiaaGreatDoorLieE
/- Texts: a word in decimal. Conditions: none. -/
set_option linter.unusedSimpArgs false
set_option linter.unusedVariables false
set_option maxRecDepth 100000
set_option maxHeartbeats 4000000
namespace Go.Proofs.YtbiigbicgfchiaaGreatDoor
section
open Go
variable {G:Nat} {Ext:FuncId→List Value→Mem→Outc→Mem→Prop}
def SM:ByteArray:=⟨(([48,48,48,49,48,50,48,51,48,52,48,53,48,54,48,55,48,56,48,57,49,48,49,49,49,50,49,51,49,52,49,53,49,54,49,55,49,56,49,57,50,48,50,49,50,50,50,51,50,52]:List UInt8)++[50,53,50,54,50,55,50,56,50,57,51,48,51,49,51,50,51,51,51,52,51,53,51,54,51,55,51,56,51,57,52,48,52,49,52,50,52,51,52,52,52,53,52,54,52,55,52,56,52,57]++([53,48,53,49,53,50,53,51,53,52,53,53,53,54,53,55,53,56,53,57,54,48,54,49,54,50,54,51,54,52,54,53,54,54,54,55,54,56,54,57,55,48,55,49,55,50,55,51,55,52]++[55,53,55,54,55,55,55,56,55,57,56,48,56,49,56,50,56,51,56,52,56,53,56,54,56,55,56,56,56,57,57,48,57,49,57,50,57,51,57,52,57,53,57,54,57,55,57,56,57,57])).toArray⟩
theorem sm_tab {k:Nat} (h:k<100):SM[2*k]?=some (UInt8.ofNat (48+k / 10))∧SM[2*k+1]?=some (UInt8.ofNat (48+k % 10)):=by
 have:∀ i:Fin 100,SM[2*i.val]?=some (UInt8.ofNat (48+i.val / 10))∧SM[2*i.val+1]?=some (UInt8.ofNat (48+i.val % 10)):=by decide +kernel
 exact this ⟨k,h⟩
theorem pad_get {k p n:Nat} (h:p<k):(pad k n)[p]?=some (digB (n / 10^(k - 1 - p))):=by
 induction k generalizing n with
 | zero=>omega
 | succ k ih=>
  rw[pad]
  by_cases hp:p<k
  ·rw[List.getElem?_append_left (by rw[pad_len];exact hp),ih hp,Nat.div_div_eq_div_mul,show k+1 - 1 - p=k - 1 - p+1 by omega,Nat.pow_succ,Nat.mul_comm 10]
  ·have:p=k:=by omega
   subst this
   rw[List.getElem?_append_right (by rw[pad_len];exact Nat.le_refl _),pad_len,Nat.sub_self,Nat.add_sub_cancel,Nat.sub_self,Nat.pow_zero,Nat.div_one];rfl
structure FbS (b nd u:Nat) (r:Row) (S T:Mem) (q:Nat) (cs:List Value):Prop where
 keep:Keep b S T
 row:T.row? b=some { r with cells:=cs }
 len:cs.length=r.cells.length
 dig:∀ p,q≤p→p<nd→cs[p]?=(bv (pad nd u))[p]?
theorem dval (d:Nat) (h:d<10):Value.int .u8 ((UInt8.ofNat (48+d)).toNat:Int)=v8 (BitVec.ofNat 8 (48+d)):=by
 have h1:(UInt8.ofNat (48+d)).toNat=48+d:=by rw[UInt8.toNat_ofNat'];omega
 have h2:(BitVec.ofNat 8 (48+d)).toNat=48+d:=by rw[BitVec.toNat_ofNat];omega
 show _=Value.int .u8 ((BitVec.ofNat 8 (48+d)).toNat:Int)
 rw[h1,h2]
theorem FbS.put {b nd u:Nat} {r:Row} {S T:Mem} {q q' x:Nat} {cs:List Value} (h:FbS b nd u r S T q' cs) (hq:q'=q+1) (hn:q<nd) (hlen:nd≤r.cells.length) (hst:r.st=.live) (hx:x<10) (hd:u / 10^(nd - 1 - q) % 10=x) :
  FbS b nd u r S (List.set T b { ({ r with cells:=cs }:Row) with cells:=({ r with cells:=cs }:Row).cells.set (0+q) (v8 (BitVec.ofNat 8 (48+x))) }) q (cs.set q (v8 (BitVec.ofNat 8 (48+x)))):=by
 obtain⟨h1,h2,h3,h4⟩:=h
 refine⟨h1.trans (Keep.set b T _),?_,by rw[List.length_set];exact h3,fun p p1 p2=>?_⟩
 ·have h5:=row_set_same (x:={ r with cells:=cs.set (0+q) (v8 (BitVec.ofNat 8 (48+x))) }) h2 hst
  rw[show cs.set q (v8 (BitVec.ofNat 8 (48+x)))=cs.set (0+q) (v8 (BitVec.ofNat 8 (48+x))) by rw[Nat.zero_add]]
  exact h5
 ·rw[List.getElem?_set]
  by_cases hp:q=p
  ·subst hp
   rw[if_pos rfl,if_pos (by omega)]
   unfold bv
   rw[List.getElem?_map,pad_get hn]
   unfold digB
   rw[hd];rfl
  ·rw[if_neg hp];exact h4 p (by omega) p2
theorem wone {n:Nat} (h:n<4294967295):IntKind.u32.wrap ((n:Int)+1)=((n+1:Nat):Int):=by
 rw[wrap_u .u32 rfl,BitVec.toNat_ofInt]
 show ((((n:Int)+1) % ((2^32:Nat):Int)).toNat:Int)=_
 have e:((2^32:Nat):Int)=4294967296:=by decide
 rw[e];omega
theorem w32 {n:Nat} (h:n<4294967296):IntKind.u32.wrap (n:Int)=(n:Int):=by
 rw[wrap_u .u32 rfl,BitVec.toNat_ofInt]
 show (((n:Int) % ((2^32:Nat):Int)).toNat:Int)=_
 have e:((2^32:Nat):Int)=4294967296:=by decide
 rw[e];omega
theorem tdn (a b:Nat):Int.tdiv (a:Int) (b:Int)=((a / b:Nat):Int):=(Int.ofNat_tdiv a b).symm
theorem tmn (a b:Nat):Int.tmod (a:Int) (b:Int)=((a % b:Nat):Int):=(Int.ofNat_tmod a b).symm
theorem dig_at {u nd m j:Nat} (hm:m≤nd) (hj:1≤j) (hjm:j≤m):u / 10^(nd - 1 - (m - j))=u / 10^(nd - m) / 10^(j - 1):=by
 rw[Nat.div_div_eq_div_mul,← Nat.pow_add];congr 2;omega
theorem fb10_C (b nd c u:Nat) (r:Row) (S:Mem) (hr:S.row? b=some r) (hro:r.ro=none) (hlen:nd≤r.cells.length) (hnd:nd≤20) (hu:u<18446744073709551616) (hu2:u<10^nd) :
  C Tryz.prog G Ext 161 [.slice (some ⟨b,0,none⟩) nd c,.int .u64 (u:Int)] S fun v T=>Keep b S T∧∃ cs,T.row? b=some { r with cells:=cs }∧cs.length=r.cells.length∧cs.take nd=bv (pad nd u):=by
 have hst:r.st=.live:=(Mem.row?_some hr).2
 refine C.fn Tryz.func161 rfl (by kernel_rfl) rfl (go ?_)
 refine W.mono (R:=fun x e T=>x=.exit 0∧∃ (m w:Nat) (cs:List Value),m<8∧m≤nd∧w=u / 10^(nd - m)∧e 0=.slice (some ⟨b,0,none⟩) nd c∧e 1=.int .u64 (w:Int)∧e 4=vi m∧FbS b nd u r S T m cs) ?_ ?_
 ·refine W.loop (fun k e T=>∃ (m w:Nat) (cs:List Value),k=m∧m≤nd∧w=u / 10^(nd - m)∧e 0=.slice (some ⟨b,0,none⟩) nd c∧e 1=.int .u64 (w:Int)∧e 4=vi m∧FbS b nd u r S T m cs) nd
   ⟨nd,u,r.cells,rfl,Nat.le_refl _,by rw[Nat.sub_self,Nat.pow_zero,Nat.div_one],rfl,rfl,rfl,Keep.refl _ _,hr,rfl,fun p h1 h2=>by omega⟩ ?_
  rintro m e T ⟨_,w,cs,rfl,hm,hw,e0,e1,e4,hF⟩
  refine W.env3 e0 e1 e4 (go ?_)
  refine W.ite rfl (fun h=>?_) (fun h=>?_)
  ·have hm8:8≤m:=by have:=of_decide_eq_true h;omega
   clear h
   have hwl:w<18446744073709551616:=by rw[hw];exact Nat.lt_of_le_of_lt (Nat.div_le_self _ _) hu
   obtain⟨x,hx⟩:∃ x,x=w % 100000000:=⟨_,rfl⟩
   obtain⟨lo,hlo⟩:∃ lo,lo=x % 10000:=⟨_,rfl⟩
   obtain⟨hi,hhi⟩:∃ hi,hi=x / 10000:=⟨_,rfl⟩
   obtain⟨k0,hk0⟩:∃ k,k=lo % 100:=⟨_,rfl⟩
   obtain⟨k1,hk1⟩:∃ k,k=lo / 100:=⟨_,rfl⟩
   obtain⟨k2,hk2⟩:∃ k,k=hi % 100:=⟨_,rfl⟩
   obtain⟨k3,hk3⟩:∃ k,k=hi / 100:=⟨_,rfl⟩
   have w1:IntKind.u32.wrap (Int.tmod (w:Int) 100000000)=(x:Int):=by rw[show Int.tmod (w:Int) 100000000=((w % 100000000:Nat):Int) from tmn w 100000000,← hx,w32 (by omega)]
   have w2:IntKind.u64.wrap (Int.tdiv (w:Int) 100000000)=((w / 100000000:Nat):Int):=by
    rw[show Int.tdiv (w:Int) 100000000=((w / 100000000:Nat):Int) from tdn w 100000000,wrapU64 (by omega) (by omega)]
   have w3:IntKind.u32.wrap (Int.tdiv (x:Int) 10000)=(hi:Int):=by rw[show Int.tdiv (x:Int) 10000=((x / 10000:Nat):Int) from tdn x 10000,← hhi,w32 (by omega)]
   have w4:Int.tmod (x:Int) 10000=(lo:Int):=by rw[show Int.tmod (x:Int) 10000=((x % 10000:Nat):Int) from tmn x 10000,← hlo]
   have w5:IntKind.u32.wrap (IntKind.u32.wrap (Int.tdiv (lo:Int) 100)*2)=((2*k1:Nat):Int):=by
    rw[show Int.tdiv (lo:Int) 100=((lo / 100:Nat):Int) from tdn lo 100,← hk1,w32 (by omega),show ((k1:Int)*2)=((2*k1:Nat):Int) by omega,w32 (by omega)]
   have w6:IntKind.u32.wrap (Int.tmod (lo:Int) 100*2)=((2*k0:Nat):Int):=by
    rw[show Int.tmod (lo:Int) 100=((lo % 100:Nat):Int) from tmn lo 100,← hk0,show ((k0:Int)*2)=((2*k0:Nat):Int) by omega,w32 (by omega)]
   have w7:IntKind.u32.wrap (IntKind.u32.wrap (Int.tdiv (hi:Int) 100)*2)=((2*k3:Nat):Int):=by
    rw[show Int.tdiv (hi:Int) 100=((hi / 100:Nat):Int) from tdn hi 100,← hk3,w32 (by omega),show ((k3:Int)*2)=((2*k3:Nat):Int) by omega,w32 (by omega)]
   have w8:IntKind.u32.wrap (Int.tmod (hi:Int) 100*2)=((2*k2:Nat):Int):=by
    rw[show Int.tmod (hi:Int) 100=((hi % 100:Nat):Int) from tmn hi 100,← hk2,show ((k2:Int)*2)=((2*k2:Nat):Int) by omega,w32 (by omega)]
   have g1:u / 10^(nd - 1 - (m - 1)) % 10=k0 % 10:=by rw[dig_at hm (by omega) (by omega),← hw];show w / 1 % 10=_;omega
   have g2:u / 10^(nd - 1 - (m - 2)) % 10=k0 / 10:=by rw[dig_at hm (by omega) (by omega),← hw];show w / 10 % 10=_;omega
   have g3:u / 10^(nd - 1 - (m - 3)) % 10=k1 % 10:=by rw[dig_at hm (by omega) (by omega),← hw];show w / 100 % 10=_;omega
   have g4:u / 10^(nd - 1 - (m - 4)) % 10=k1 / 10:=by rw[dig_at hm (by omega) (by omega),← hw];show w / 1000 % 10=_;omega
   have g5:u / 10^(nd - 1 - (m - 5)) % 10=k2 % 10:=by rw[dig_at hm (by omega) (by omega),← hw];show w / 10000 % 10=_;omega
   have g6:u / 10^(nd - 1 - (m - 6)) % 10=k2 / 10:=by rw[dig_at hm (by omega) (by omega),← hw];show w / 100000 % 10=_;omega
   have g7:u / 10^(nd - 1 - (m - 7)) % 10=k3 % 10:=by rw[dig_at hm (by omega) (by omega),← hw];show w / 1000000 % 10=_;omega
   have g8:u / 10^(nd - 1 - (m - 8)) % 10=k3 / 10:=by rw[dig_at hm (by omega) (by omega),← hw];show w / 10000000 % 10=_;omega
   have b0:k0<100:=by omega
   have b1:k1<100:=by omega
   have b2:k2<100:=by omega
   have b3:k3<100:=by omega
   have hw2:w / 100000000=u / 10^(nd - (m - 8)):=by rw[hw,Nat.div_div_eq_div_mul,show 100000000=10^8 by decide,← Nat.pow_add];congr 2;omega
   clear hk0 hk1 hk2 hk3 hlo hhi hx
   refine go ?_
   rw[w1,w2,w3,w4,w5,w6,w7,w8]
   refine L.sx (s:=SM) (i:=2*k0+1) rfl ((force_eq rfl).trans (congrArg (Value.int .u32) (wone (by omega)))) (sm_tab (k:=k0) (by omega)).2 rfl rfl ?_
   rw[dval (k0 % 10) (by omega)]
   refine go ?_
   refine L.sx (s:=SM) (i:=2*k0) rfl rfl (sm_tab (k:=k0) (by omega)).1 rfl rfl ?_
   rw[dval (k0 / 10) (by omega)]
   refine L.elst hF.row hro (by show 0+nd≤cs.length;have:=hF.len;omega) (k:=m - 1) (by rw[wrap64 (by omega) (by omega)];omega) (by omega) rfl rfl rfl rfl (fun _=>rfl) (fun _=>rfl) rfl rfl rfl (fun _=>?_)
   replace hF:=hF.put (q:=m - 1) (x:=k0 % 10) (by omega) (by omega) hlen hst (by omega) (by rw[g1])
   generalize List.set T b _=T1 at *
   generalize cs.set (m - 1) _=cs1 at *
   refine L.elst hF.row hro (by show 0+nd≤cs1.length;have:=hF.len;omega) (k:=m - 2) (by rw[wrap64 (by omega) (by omega)];omega) (by omega) rfl rfl rfl rfl (fun _=>rfl) (fun _=>rfl) rfl rfl rfl (fun _=>?_)
   replace hF:=hF.put (q:=m - 2) (x:=k0 / 10) (by omega) (by omega) hlen hst (by omega) (by rw[g2])
   generalize List.set T1 b _=T2 at *
   generalize cs1.set (m - 2) _=cs2 at *
   clear cs cs1
   obtain⟨cs,hcs⟩:∃ cs,cs=cs2:=⟨_,rfl⟩
   rw[← hcs] at hF
   clear hcs cs2
   obtain⟨T,hT⟩:∃ T,T=T2:=⟨_,rfl⟩
   rw[← hT] at hF ⊢
   clear hT T2 T1
   refine go ?_
   refine L.sx (s:=SM) (i:=2*k1+1) rfl ((force_eq rfl).trans (congrArg (Value.int .u32) (wone (by omega)))) (sm_tab (k:=k1) (by omega)).2 rfl rfl ?_
   rw[dval (k1 % 10) (by omega)]
   refine go ?_
   refine L.sx (s:=SM) (i:=2*k1) rfl rfl (sm_tab (k:=k1) (by omega)).1 rfl rfl ?_
   rw[dval (k1 / 10) (by omega)]
   refine L.elst hF.row hro (by show 0+nd≤cs.length;have:=hF.len;omega) (k:=m - 3) (by rw[wrap64 (by omega) (by omega)];omega) (by omega) rfl rfl rfl rfl (fun _=>rfl) (fun _=>rfl) rfl rfl rfl (fun _=>?_)
   replace hF:=hF.put (q:=m - 3) (x:=k1 % 10) (by omega) (by omega) hlen hst (by omega) (by rw[g3])
   generalize List.set T b _=T1 at *
   generalize cs.set (m - 3) _=cs1 at *
   refine L.elst hF.row hro (by show 0+nd≤cs1.length;have:=hF.len;omega) (k:=m - 4) (by rw[wrap64 (by omega) (by omega)];omega) (by omega) rfl rfl rfl rfl (fun _=>rfl) (fun _=>rfl) rfl rfl rfl (fun _=>?_)
   replace hF:=hF.put (q:=m - 4) (x:=k1 / 10) (by omega) (by omega) hlen hst (by omega) (by rw[g4])
   generalize List.set T1 b _=T2 at *
   generalize cs1.set (m - 4) _=cs2 at *
   clear cs cs1
   obtain⟨cs,hcs⟩:∃ cs,cs=cs2:=⟨_,rfl⟩
   rw[← hcs] at hF
   clear hcs cs2
   obtain⟨T,hT⟩:∃ T,T=T2:=⟨_,rfl⟩
   rw[← hT] at hF ⊢
   clear hT T2 T1
   refine go ?_
   refine L.sx (s:=SM) (i:=2*k2+1) rfl ((force_eq rfl).trans (congrArg (Value.int .u32) (wone (by omega)))) (sm_tab (k:=k2) (by omega)).2 rfl rfl ?_
   rw[dval (k2 % 10) (by omega)]
   refine go ?_
   refine L.sx (s:=SM) (i:=2*k2) rfl rfl (sm_tab (k:=k2) (by omega)).1 rfl rfl ?_
   rw[dval (k2 / 10) (by omega)]
   refine L.elst hF.row hro (by show 0+nd≤cs.length;have:=hF.len;omega) (k:=m - 5) (by rw[wrap64 (by omega) (by omega)];omega) (by omega) rfl rfl rfl rfl (fun _=>rfl) (fun _=>rfl) rfl rfl rfl (fun _=>?_)
   replace hF:=hF.put (q:=m - 5) (x:=k2 % 10) (by omega) (by omega) hlen hst (by omega) (by rw[g5])
   generalize List.set T b _=T1 at *
   generalize cs.set (m - 5) _=cs1 at *
   refine L.elst hF.row hro (by show 0+nd≤cs1.length;have:=hF.len;omega) (k:=m - 6) (by rw[wrap64 (by omega) (by omega)];omega) (by omega) rfl rfl rfl rfl (fun _=>rfl) (fun _=>rfl) rfl rfl rfl (fun _=>?_)
   replace hF:=hF.put (q:=m - 6) (x:=k2 / 10) (by omega) (by omega) hlen hst (by omega) (by rw[g6])
   generalize List.set T1 b _=T2 at *
   generalize cs1.set (m - 6) _=cs2 at *
   clear cs cs1
   obtain⟨cs,hcs⟩:∃ cs,cs=cs2:=⟨_,rfl⟩
   rw[← hcs] at hF
   clear hcs cs2
   obtain⟨T,hT⟩:∃ T,T=T2:=⟨_,rfl⟩
   rw[← hT] at hF ⊢
   clear hT T2 T1
   refine go ?_
   refine L.sx (s:=SM) (i:=2*k3+1) rfl ((force_eq rfl).trans (congrArg (Value.int .u32) (wone (by omega)))) (sm_tab (k:=k3) (by omega)).2 rfl rfl ?_
   rw[dval (k3 % 10) (by omega)]
   refine go ?_
   refine L.sx (s:=SM) (i:=2*k3) rfl rfl (sm_tab (k:=k3) (by omega)).1 rfl rfl ?_
   rw[dval (k3 / 10) (by omega)]
   refine L.elst hF.row hro (by show 0+nd≤cs.length;have:=hF.len;omega) (k:=m - 7) (by rw[wrap64 (by omega) (by omega)];omega) (by omega) rfl rfl rfl rfl (fun _=>rfl) (fun _=>rfl) rfl rfl rfl (fun _=>?_)
   replace hF:=hF.put (q:=m - 7) (x:=k3 % 10) (by omega) (by omega) hlen hst (by omega) (by rw[g7])
   generalize List.set T b _=T1 at *
   generalize cs.set (m - 7) _=cs1 at *
   refine L.elst hF.row hro (by show 0+nd≤cs1.length;have:=hF.len;omega) (k:=m - 8) (by rw[wrap64 (by omega) (by omega)];omega) (by omega) rfl rfl rfl rfl (fun _=>rfl) (fun _=>rfl) rfl rfl rfl (fun _=>?_)
   replace hF:=hF.put (q:=m - 8) (x:=k3 / 10) (by omega) (by omega) hlen hst (by omega) (by rw[g8])
   generalize List.set T1 b _=T2 at *
   generalize cs1.set (m - 8) _=cs2 at *
   clear cs cs1
   obtain⟨cs,hcs⟩:∃ cs,cs=cs2:=⟨_,rfl⟩
   rw[← hcs] at hF
   clear hcs cs2
   obtain⟨T,hT⟩:∃ T,T=T2:=⟨_,rfl⟩
   rw[← hT] at hF ⊢
   clear hT T2 T1
   refine go ?_
   exact⟨m - 8,by omega,m - 8,w / 100000000,cs,rfl,by omega,hw2,rfl,rfl,(force_eq rfl).trans (congrArg (Value.int .i64) (by rw[wrap64 (by omega) (by omega)];omega)),hF⟩
  ·have hm8:m<8:=by have:=of_decide_eq_false h;omega
   clear h
   refine go ?_
   exact⟨rfl,m,w,cs,hm8,hm,hw,rfl,rfl,rfl,hF⟩
 rintro _ e T ⟨rfl,m,w,cs,hm8,hm,hw,e0,e1,e4,hF⟩
 refine W.env3 e0 e1 e4 ?_
 have hwm:∀ m,m≤nd→u / 10^(nd - m)<10^m:=fun m hm=>by
  refine Nat.div_lt_of_lt_mul ?_
  rw[← Nat.pow_add,Nat.sub_add_cancel hm];exact hu2
 have hwl:w<100000000:=by
  have h1:=hwm m hm
  rw[← hw] at h1
  have h2:10^m≤10^8:=Nat.pow_le_pow_right (by decide) (by omega)
  have e:(10:Nat)^8=100000000:=by decide
  omega
 have w0:IntKind.u32.wrap (w:Int)=(w:Int):=w32 (by omega)
 refine go ?_
 rw[w0]
 refine W.mono (R:=fun x e T=>x=.nrm∧∃ (m w:Nat) (cs:List Value),m<4∧m≤nd∧w=u / 10^(nd - m)∧e 0=.slice (some ⟨b,0,none⟩) nd c∧e 12=.int .u32 (w:Int)∧e 4=vi m∧FbS b nd u r S T m cs) ?_ ?_
 ·refine W.ite rfl (fun h=>?_) (fun h=>?_)
  ·have hm4:4≤m:=by have:=of_decide_eq_true h;omega
   clear h
   obtain⟨lo,hlo⟩:∃ lo,lo=w % 10000:=⟨_,rfl⟩
   obtain⟨k0,hk0⟩:∃ k,k=lo % 100:=⟨_,rfl⟩
   obtain⟨k1,hk1⟩:∃ k,k=lo / 100:=⟨_,rfl⟩
   have w1:Int.tmod (w:Int) 10000=(lo:Int):=by rw[show Int.tmod (w:Int) 10000=((w % 10000:Nat):Int) from tmn w 10000,← hlo]
   have w2:IntKind.u32.wrap (Int.tdiv (w:Int) 10000)=((w / 10000:Nat):Int):=by rw[show Int.tdiv (w:Int) 10000=((w / 10000:Nat):Int) from tdn w 10000,w32 (by omega)]
   have w5:IntKind.u32.wrap (IntKind.u32.wrap (Int.tdiv (lo:Int) 100)*2)=((2*k1:Nat):Int):=by
    rw[show Int.tdiv (lo:Int) 100=((lo / 100:Nat):Int) from tdn lo 100,← hk1,w32 (by omega),show ((k1:Int)*2)=((2*k1:Nat):Int) by omega,w32 (by omega)]
   have w6:IntKind.u32.wrap (Int.tmod (lo:Int) 100*2)=((2*k0:Nat):Int):=by
    rw[show Int.tmod (lo:Int) 100=((lo % 100:Nat):Int) from tmn lo 100,← hk0,show ((k0:Int)*2)=((2*k0:Nat):Int) by omega,w32 (by omega)]
   have g1:u / 10^(nd - 1 - (m - 1)) % 10=k0 % 10:=by rw[dig_at hm (by omega) (by omega),← hw];show w / 1 % 10=_;omega
   have g2:u / 10^(nd - 1 - (m - 2)) % 10=k0 / 10:=by rw[dig_at hm (by omega) (by omega),← hw];show w / 10 % 10=_;omega
   have g3:u / 10^(nd - 1 - (m - 3)) % 10=k1 % 10:=by rw[dig_at hm (by omega) (by omega),← hw];show w / 100 % 10=_;omega
   have g4:u / 10^(nd - 1 - (m - 4)) % 10=k1 / 10:=by rw[dig_at hm (by omega) (by omega),← hw];show w / 1000 % 10=_;omega
   have b0:k0<100:=by omega
   have b1:k1<100:=by omega
   have hw2:w / 10000=u / 10^(nd - (m - 4)):=by rw[hw,Nat.div_div_eq_div_mul,show 10000=10^4 by decide,← Nat.pow_add];congr 2;omega
   clear hk0 hk1 hlo
   refine go ?_
   rw[w1,w2,w5,w6]
   refine L.sx (s:=SM) (i:=2*k0+1) rfl ((force_eq rfl).trans (congrArg (Value.int .u32) (wone (by omega)))) (sm_tab (k:=k0) (by omega)).2 rfl rfl ?_
   rw[dval (k0 % 10) (by omega)]
   refine go ?_
   refine L.sx (s:=SM) (i:=2*k0) rfl rfl (sm_tab (k:=k0) (by omega)).1 rfl rfl ?_
   rw[dval (k0 / 10) (by omega)]
   refine L.elst hF.row hro (by show 0+nd≤cs.length;have:=hF.len;omega) (k:=m - 1) (by rw[wrap64 (by omega) (by omega)];omega) (by omega) rfl rfl rfl rfl (fun _=>rfl) (fun _=>rfl) rfl rfl rfl (fun _=>?_)
   replace hF:=hF.put (q:=m - 1) (x:=k0 % 10) (by omega) (by omega) hlen hst (by omega) (by rw[g1])
   generalize List.set T b _=T1 at *
   generalize cs.set (m - 1) _=cs1 at *
   refine L.elst hF.row hro (by show 0+nd≤cs1.length;have:=hF.len;omega) (k:=m - 2) (by rw[wrap64 (by omega) (by omega)];omega) (by omega) rfl rfl rfl rfl (fun _=>rfl) (fun _=>rfl) rfl rfl rfl (fun _=>?_)
   replace hF:=hF.put (q:=m - 2) (x:=k0 / 10) (by omega) (by omega) hlen hst (by omega) (by rw[g2])
   generalize List.set T1 b _=T2 at *
   generalize cs1.set (m - 2) _=cs2 at *
   clear cs cs1
   obtain⟨cs,hcs⟩:∃ cs,cs=cs2:=⟨_,rfl⟩
   rw[← hcs] at hF
   clear hcs cs2
   obtain⟨T,hT⟩:∃ T,T=T2:=⟨_,rfl⟩
   rw[← hT] at hF ⊢
   clear hT T2 T1
   refine go ?_
   refine L.sx (s:=SM) (i:=2*k1+1) rfl ((force_eq rfl).trans (congrArg (Value.int .u32) (wone (by omega)))) (sm_tab (k:=k1) (by omega)).2 rfl rfl ?_
   rw[dval (k1 % 10) (by omega)]
   refine go ?_
   refine L.sx (s:=SM) (i:=2*k1) rfl rfl (sm_tab (k:=k1) (by omega)).1 rfl rfl ?_
   rw[dval (k1 / 10) (by omega)]
   refine L.elst hF.row hro (by show 0+nd≤cs.length;have:=hF.len;omega) (k:=m - 3) (by rw[wrap64 (by omega) (by omega)];omega) (by omega) rfl rfl rfl rfl (fun _=>rfl) (fun _=>rfl) rfl rfl rfl (fun _=>?_)
   replace hF:=hF.put (q:=m - 3) (x:=k1 % 10) (by omega) (by omega) hlen hst (by omega) (by rw[g3])
   generalize List.set T b _=T1 at *
   generalize cs.set (m - 3) _=cs1 at *
   refine L.elst hF.row hro (by show 0+nd≤cs1.length;have:=hF.len;omega) (k:=m - 4) (by rw[wrap64 (by omega) (by omega)];omega) (by omega) rfl rfl rfl rfl (fun _=>rfl) (fun _=>rfl) rfl rfl rfl (fun _=>?_)
   replace hF:=hF.put (q:=m - 4) (x:=k1 / 10) (by omega) (by omega) hlen hst (by omega) (by rw[g4])
   generalize List.set T1 b _=T2 at *
   generalize cs1.set (m - 4) _=cs2 at *
   clear cs cs1
   obtain⟨cs,hcs⟩:∃ cs,cs=cs2:=⟨_,rfl⟩
   rw[← hcs] at hF
   clear hcs cs2
   obtain⟨T,hT⟩:∃ T,T=T2:=⟨_,rfl⟩
   rw[← hT] at hF ⊢
   clear hT T2 T1
   refine go ?_
   exact⟨rfl,m - 4,w / 10000,cs,by omega,by omega,hw2,rfl,rfl,(force_eq rfl).trans (congrArg (Value.int .i64) (by rw[wrap64 (by omega) (by omega)];omega)),hF⟩
  ·have hm4:m<4:=by have:=of_decide_eq_false h;omega
   clear h
   refine go ?_
   exact⟨rfl,m,w,cs,hm4,hm,hw,rfl,rfl,rfl,hF⟩
 clear hF e0 e1 e4 hwl hw hm hm8 w0
 clear cs w m T
 rintro _ e' T ⟨rfl,m,w,cs,hm4,hm,hw,e0,e12,e4,hF⟩
 refine W.env3 e0 e12 e4 ?_
 have hwl:w<10000:=by
  have h1:=hwm m hm
  rw[← hw] at h1
  have h2:10^m≤10^3:=Nat.pow_le_pow_right (by decide) (by omega)
  have e:(10:Nat)^3=1000:=by decide
  omega
 refine go ?_
 refine W.mono (R:=fun x e T=>x=.nrm∧∃ (m w:Nat) (cs:List Value),m<2∧m≤nd∧w=u / 10^(nd - m)∧e 0=.slice (some ⟨b,0,none⟩) nd c∧e 12=.int .u32 (w:Int)∧e 4=vi m∧FbS b nd u r S T m cs) ?_ ?_
 ·refine W.ite rfl (fun h=>?_) (fun h=>?_)
  ·have hm2:2≤m:=by have:=of_decide_eq_true h;omega
   clear h
   obtain⟨k0,hk0⟩:∃ k,k=w % 100:=⟨_,rfl⟩
   have w2:IntKind.u32.wrap (Int.tdiv (w:Int) 100)=((w / 100:Nat):Int):=by rw[show Int.tdiv (w:Int) 100=((w / 100:Nat):Int) from tdn w 100,w32 (by omega)]
   have w6:IntKind.u32.wrap (Int.tmod (w:Int) 100*2)=((2*k0:Nat):Int):=by
    rw[show Int.tmod (w:Int) 100=((w % 100:Nat):Int) from tmn w 100,← hk0,show ((k0:Int)*2)=((2*k0:Nat):Int) by omega,w32 (by omega)]
   have g1:u / 10^(nd - 1 - (m - 1)) % 10=k0 % 10:=by rw[dig_at hm (by omega) (by omega),← hw];show w / 1 % 10=_;omega
   have g2:u / 10^(nd - 1 - (m - 2)) % 10=k0 / 10:=by rw[dig_at hm (by omega) (by omega),← hw];show w / 10 % 10=_;omega
   have b0:k0<100:=by omega
   have hw2:w / 100=u / 10^(nd - (m - 2)):=by rw[hw,Nat.div_div_eq_div_mul,show 100=10^2 by decide,← Nat.pow_add];congr 2;omega
   clear hk0
   refine go ?_
   rw[w2,w6]
   refine L.sx (s:=SM) (i:=2*k0+1) rfl ((force_eq rfl).trans (congrArg (Value.int .u32) (wone (by omega)))) (sm_tab (k:=k0) (by omega)).2 rfl rfl ?_
   rw[dval (k0 % 10) (by omega)]
   refine go ?_
   refine L.sx (s:=SM) (i:=2*k0) rfl rfl (sm_tab (k:=k0) (by omega)).1 rfl rfl ?_
   rw[dval (k0 / 10) (by omega)]
   refine L.elst hF.row hro (by show 0+nd≤cs.length;have:=hF.len;omega) (k:=m - 1) (by rw[wrap64 (by omega) (by omega)];omega) (by omega) rfl rfl rfl rfl (fun _=>rfl) (fun _=>rfl) rfl rfl rfl (fun _=>?_)
   replace hF:=hF.put (q:=m - 1) (x:=k0 % 10) (by omega) (by omega) hlen hst (by omega) (by rw[g1])
   generalize List.set T b _=T1 at *
   generalize cs.set (m - 1) _=cs1 at *
   refine L.elst hF.row hro (by show 0+nd≤cs1.length;have:=hF.len;omega) (k:=m - 2) (by rw[wrap64 (by omega) (by omega)];omega) (by omega) rfl rfl rfl rfl (fun _=>rfl) (fun _=>rfl) rfl rfl rfl (fun _=>?_)
   replace hF:=hF.put (q:=m - 2) (x:=k0 / 10) (by omega) (by omega) hlen hst (by omega) (by rw[g2])
   generalize List.set T1 b _=T2 at *
   generalize cs1.set (m - 2) _=cs2 at *
   clear cs cs1
   obtain⟨cs,hcs⟩:∃ cs,cs=cs2:=⟨_,rfl⟩
   rw[← hcs] at hF
   clear hcs cs2
   obtain⟨T,hT⟩:∃ T,T=T2:=⟨_,rfl⟩
   rw[← hT] at hF ⊢
   clear hT T2 T1
   refine go ?_
   exact⟨rfl,m - 2,w / 100,cs,by omega,by omega,hw2,rfl,rfl,(force_eq rfl).trans (congrArg (Value.int .i64) (by rw[wrap64 (by omega) (by omega)];omega)),hF⟩
  ·have hm2:m<2:=by have:=of_decide_eq_false h;omega
   clear h
   refine go ?_
   exact⟨rfl,m,w,cs,hm2,hm,hw,rfl,rfl,rfl,hF⟩
 clear hF e0 e12 e4 hwl hw hm hm4
 clear cs w m T
 rintro _ e'' T ⟨rfl,m,w,cs,hm2,hm,hw,e0,e12,e4,hF⟩
 refine W.env3 e0 e12 e4 ?_
 have hwl:w<10:=by
  have h1:=hwm m hm
  rw[← hw] at h1
  have h2:10^m≤10^1:=Nat.pow_le_pow_right (by decide) (by omega)
  have e:(10:Nat)^1=10:=by decide
  omega
 have fin:∀ T cs,FbS b nd u r S T 0 cs→Keep b S T∧∃ cs,T.row? b=some { r with cells:=cs }∧cs.length=r.cells.length∧cs.take nd=bv (pad nd u):=fun T cs h=>by
  refine⟨h.keep,cs,h.row,h.len,List.ext_getElem? fun p=>?_⟩
  rw[List.getElem?_take]
  split
  ·rename_i hp;exact h.dig p (by omega) hp
  ·rw[List.getElem?_eq_none (by rw[bv_len,pad_len];omega)]
 refine go ?_
 refine W.ite rfl (fun h=>?_) (fun h=>?_)
 ·have hm1:m=1:=by have:=of_decide_eq_true h;omega
  subst hm1
  clear h
  have w1:IntKind.u8.wrap (IntKind.u32.wrap (48+(w:Int)))=((48+w:Nat):Int):=by
   rw[show (48+(w:Int))=((48+w:Nat):Int) by omega,w32 (by omega),wrapU8 (by omega) (by omega)]
  have hv:Value.int .u8 ((48+w:Nat):Int)=v8 (BitVec.ofNat 8 (48+w)):=by
   show _=Value.int .u8 ((BitVec.ofNat 8 (48+w)).toNat:Int)
   rw[BitVec.toNat_ofNat,Nat.mod_eq_of_lt (by omega)]
  refine go ?_
  rw[w1,hv]
  refine L.elst hF.row hro (by show 0+nd≤cs.length;have:=hF.len;omega) (k:=0) rfl (by omega) rfl rfl rfl rfl (fun _=>rfl) (fun _=>rfl) rfl rfl rfl (fun _=>?_)
  replace hF:=hF.put (q:=0) (x:=w) rfl (by omega) hlen hst hwl (by rw[Nat.sub_zero,← hw];omega)
  refine go ?_
  exact⟨.inl rfl,_,rfl,fin _ _ hF⟩
 ·have hm0:m=0:=by have:=of_decide_eq_false h;omega
  subst hm0
  clear h
  refine go ?_
  exact⟨.inl rfl,_,rfl,fin _ _ hF⟩
end
section
open Go Ie
section
variable {P:Program} {G:Nat} {Ext:FuncId→List Value→Mem→Outc→Mem→Prop} {e:Env} {S:Mem} {fl:Bool} {ops:Array Oper} {K:Kont}
variable {rest:List Oper} {dst:Option Tmp} {ty:TypeId} {pos:String} {af:Array Edge} {gd:Option (Nat × Bool)}
theorem L.btw {t:TypeId} {x lo hi:Operand} {l:BL} {k k':IntKind} {i j:Nat} (hx:e.eval x=.string (strB l)) (hlo:e.eval lo=.int k (i:Int)) (hhi:e.eval hi=.int k' (j:Int)) (hij:i≤j) (hb:j≤l.length) (hu:P.underlying t=some .string)
  (hw:awanted ops ⟨dst,.slice t x (some lo) (some hi) none,ty,pos,af,gd⟩ e=true) (h:L P G Ext fl ops rest (e.put dst (.string (strB ((l.take j).drop i)))) S K):L P G Ext fl ops (⟨dst,.slice t x (some lo) (some hi) none,ty,pos,af,gd⟩ :: rest) e S K:=by
 refine L.flat (by simp [Op.operands,hx,hlo,hhi];exact⟨rfl,rfl,rfl⟩) rfl nofun ?_ hw h
 have h0:(0:Int)≤(j:Int)∧(j:Int)≤(l.length:Nat):=by omega
 have h1:(0:Int)≤(i:Int)∧(i:Int)≤(j:Nat):=by omega
 have hb:pureRun P (Instr.sliceAt t (.string (strB l)) (some (.int k (i:Int))) (some (.int k' (j:Int))) none)=some (.string (strB ((l.take j).drop i))):=by
  unfold Instr.sliceAt
  rw[pureRun_bind,pureRun_underlying hu]
  show pureRun P (Instr.slice t (.string (strB l)) (some (.int k (i:Int))) (some (.int k' (j:Int))) none)=_
  unfold Instr.slice
  rw[pureRun_bind,pureRun_underlying hu]
  show pureRun P (Instr.sliceBounds false (strB l).size (strB l).size (some (.int k (i:Int))) (some (.int k' (j:Int))) none >>= fun (l',h,_)=>Pure.pure (Value.string ((strB l).extract l' h)))=_
  rw[pureRun_bind]
  have hs:pureRun P (Instr.sliceBounds false (strB l).size (strB l).size (some (.int k (i:Int))) (some (.int k' (j:Int))) none)=some (i,j,(strB l).size):=by
   unfold Instr.sliceBounds
   simp [pureRun_bind,Instr.sliceBound,asIntOf,h0,h1,strB_size]
   rw[if_pos hb]
   simp [pureRun_bind,h1,hij]
   try rfl
  rw[hs]
  show some (Value.string ((strB l).extract _ _))=_
  rw[strB_part]
 simp only [execOp,hx,hlo,hhi,Option.map_some,Option.map_none,pureRun_bind,hb]
 rfl
theorem L.text2 {s d:TypeId} {x:Operand} {l:BL} {el:TypeId} {b n c:Nat} {r:Row} (hx:e.eval x=.slice (some ⟨b,0,none⟩) n c) (hr:S.row? b=some r) (hro:r.ro=none) (hn:l.length=n) (hl:n≤r.cells.length) (ht:r.cells.take n=bv l) (hs:P.underlying s=some (.slice el)) (hd:P.underlying d=some .string) (hel:isBytes P el=true)
  (hw:awanted ops ⟨dst,.convert s d x,ty,pos,af,gd⟩ e=true)
  (k:L P G Ext fl ops rest (e.put dst (.string (strB l))) S K):L P G Ext fl ops (⟨dst,.convert s d x,ty,pos,af,gd⟩ :: rest) e S K:=by
 have hc:S.cellsAt ⟨b,0,none⟩ n=some (bv l):=by
  unfold Mem.cellsAt
  simp only [hr]
  rw[if_pos ⟨trivial,by omega,.inl hro⟩,List.drop_zero,ht]
 refine L.load hw ?_ k
 unfold aload
 dsimp only
 rw[hx,hs,hd]
 simp only [hel,if_true,hc,Option.bind_some,bytesOf_bv,Option.map_some]
 rfl
end
variable {Ext:FuncId→List Value→Mem→Outc→Mem→Prop}
def powT:List Value:=(List.range 20).map fun i=>.int .u64 ((10^i:Nat):Int)
def PowOk (S:Mem):Prop:=RowIs S 5 powT
theorem PowOk.cons {S T:Mem} (h:PowOk S) (k:Cons S T):PowOk T:=RowIs.cons h k
theorem dig_tab {b:Nat} (h:b≤64) (h1:1≤b):b*78913 / 262144≤19∧(b*78913 / 262144=0∨10^(b*78913 / 262144 - 1)≤2^(b - 1))∧2^b≤10^(b*78913 / 262144+1):=by
 have:∀ i:Fin 65,1≤i.val→i.val*78913 / 262144≤19∧(i.val*78913 / 262144=0∨10^(i.val*78913 / 262144 - 1)≤2^(i.val - 1))∧2^i.val≤10^(i.val*78913 / 262144+1):=by decide +kernel
 exact this ⟨b,by omega⟩ h1
theorem dec_len {n k:Nat} (h1:n<10^(k+1)) (h2:k=0∨10^k≤n):(dec n).length=k+1:=by rw[dec_pad h1 h2,pad_len]
theorem bool2_C (b:Bool) (S:Mem):C Tryz.prog gN Ext 182 [.bool b] S fun v S'=>v=vi (if b then 1 else 0)∧S'=S:=by
 refine C.fn Tryz.func182 rfl (by kernel_rfl) rfl (go ?_)
 refine W.ite rfl (fun h=>?_) (fun h=>?_)
 ·subst h
  refine go ?_
  exact⟨.inr rfl,_,rfl,rfl,rfl⟩
 ·subst h
  refine go ?_
  exact⟨.inr rfl,_,rfl,rfl,rfl⟩
theorem log10_C (n:Nat) (hn:n≤64) (S:Mem):C Tryz.prog gN Ext 181 [vi n] S fun v S'=>v=vi (n*78913 / 262144)∧S'=S:=by
 refine C.fn Tryz.func181 rfl (by kernel_rfl) rfl (go ?_)
 refine⟨.inr rfl,_,rfl,(force_eq rfl).trans (congrArg (Value.int .i64) ?_),rfl⟩
 rw[wrap64 (by omega) (by omega),show ((n:Int)*78913)=((n*78913:Nat):Int) by omega]
 exact fdivn (n*78913) 18
theorem numDigits_C (u:Nat) (h0:0<u) (hu:u<18446744073709551616) (S:Mem) (hP:PowOk S):C Tryz.prog gN Ext 160 [.int .u64 (u:Int)] S fun v S'=>v=vi (dec u).length∧S'=S:=by
 have hb64:blen u≤64:=blen_le.2 hu
 have hb0:1≤blen u:=by unfold blen;rw[if_neg (by omega)];omega
 have hlt:u<2^blen u:=blen_le.1 (Nat.le_refl _)
 have hge:2^(blen u - 1)≤u:=by
  refine Classical.byContradiction fun hc=>?_
  have:=blen_le.2 (show u<2^(blen u - 1) by omega)
  omega
 obtain⟨t1,t2,t3⟩:=dig_tab hb64 hb0
 obtain⟨k,hk⟩:∃ k,k=blen u*78913 / 262144:=⟨_,rfl⟩
 rw[← hk] at t1 t2 t3
 refine C.fn Tryz.func160 rfl (by kernel_rfl) rfl (go ?_)
 refine L.cl (len64_C u hu S) rfl rfl ?_
 rintro _ _ ⟨rfl,rfl⟩
 refine⟨nofun,?_⟩
 rename Mem=>S
 refine L.cl (log10_C (blen u) hb64 S) rfl rfl ?_
 rintro _ _ ⟨rfl,rfl⟩
 refine⟨nofun,?_⟩
 rename Mem=>S
 rw[← hk]
 obtain⟨r,hr,hrw⟩:=RowIs.cell hP (k:=k) (v:=.int .u64 ((10^k:Nat):Int)) (by unfold powT;rw[List.getElem?_map,List.getElem?_range (by omega)];rfl)
 refine go ?_
 refine L.elA (r:=r) (k:=k) (o:=0) hr (by rw[Nat.zero_add];exact hrw) rfl (show k<20 by omega) rfl rfl rfl rfl (fun _=>rfl) rfl (fun p=>go ?_) (.inr rfl)
 refine L.cl (bool2_C (decide ((u:Int)≥((10^k:Nat):Int))) S) rfl rfl ?_
 rintro _ _ ⟨rfl,rfl⟩
 refine⟨nofun,?_⟩
 rename Mem=>S
 refine go ?_
 refine⟨.inr rfl,_,rfl,(force_eq rfl).trans (congrArg (Value.int .i64) ?_),rfl⟩
 by_cases hc:10^k≤u
 ·rw[decide_eq_true (by omega),if_pos rfl,wrap64 (by omega) (by omega),dec_len (k:=k) (by omega) (.inr hc)]
  rfl
 ·rw[decide_eq_false (by omega),if_neg (by decide),wrap64 (by omega) (by omega)]
  have hk0:k≠0:=by intro e;subst e;simp at hc;omega
  obtain⟨j,rfl⟩:∃ j,k=j+1:=⟨k - 1,by omega⟩
  have h5:10^j≤u:=by
   rcases t2 with t2 | t2
   ·omega
   ·rw[Nat.add_sub_cancel] at t2;omega
  rw[dec_len (k:=j) (by omega) (.inr h5)]
  show ((j+1:Nat):Int)+((0:Nat):Int)=((j+1:Nat):Int)
  omega
def SMl:BL:=(List.range 100).flatMap fun k=>pad 2 k
def DGl:BL:=((List.range 10).map fun k=>BitVec.ofNat 8 (48+k))++((List.range 26).map fun k=>BitVec.ofNat 8 (97+k))
theorem sml_part {i:Nat} (h:i<100) (h2:10≤i):((SMl.take (2*i+2)).drop (2*i))=dec i:=by
 have:∀ i:Fin 100,10≤i.val→((SMl.take (2*i.val+2)).drop (2*i.val))=pad 2 i.val:=by decide +kernel
 rw[this ⟨i,h⟩ h2]
 exact(dec_pad (k:=1) (by omega) (.inr (by omega))).symm
theorem dgl_part {i:Nat} (h:i<10):((DGl.take (i+1)).drop i)=dec i:=by
 have:∀ i:Fin 10,((DGl.take (i.val+1)).drop i.val)=[digB i.val]:=by decide +kernel
 rw[this ⟨i,h⟩,dec_small h]
theorem small_C (i:Nat) (h:i<100) (S:Mem):C Tryz.prog gN Ext 159 [vi i] S fun v S'=>v=.string (strB (dec i))∧S'=S:=by
 refine C.fn Tryz.func159 rfl (by kernel_rfl) rfl (go ?_)
 refine W.ite rfl (fun h=>?_) (fun h=>?_)
 ·have hi:i<10:=by have:=of_decide_eq_true h;omega
  clear h
  refine go ?_
  refine L.btw (l:=DGl) (i:=i) (j:=i+1) rfl rfl ((force_eq rfl).trans (congrArg (Value.int .i64) (wrap64 (by omega) (by omega)))) (by omega) (by show _≤36;omega) rfl rfl ?_
  rw[dgl_part hi]
  refine go ?_
  exact⟨.inr rfl,_,rfl,rfl,rfl⟩
 ·have hi:10≤i:=by have:=of_decide_eq_false h;omega
  clear h
  rename i<100=>h
  have hw:IntKind.i64.wrap ((i:Int)*2)=((2*i:Nat):Int):=by rw[wrap64 (by omega) (by omega)];omega
  refine go ?_
  rw[hw]
  refine L.btw (l:=SMl) (i:=2*i) (j:=2*i+2) rfl rfl ((force_eq rfl).trans (congrArg (Value.int .i64) (wrap64 (by omega) (by omega)))) (by omega) (by show _≤200;omega) rfl rfl ?_
  rw[sml_part h hi]
  refine go ?_
  exact⟨.inr rfl,_,rfl,rfl,rfl⟩
theorem formatUint0_C (u:Nat) (hu:u<18446744073709551616) (S:Mem) (hP:PowOk S):C Tryz.prog gN Ext 135 [.int .u64 (u:Int),vi 10] S fun v S'=>v=.string (strB (dec u))∧Cons S S':=by
 refine C.fn Tryz.func135 rfl (by kernel_rfl) rfl (go ?_)
 refine W.condT rfl (go ?_)
 refine W.ite rfl (fun h=>?_) (fun h=>?_)
 ·have hs:u<100:=by have:=of_decide_eq_true h;omega
  clear h
  refine go ?_
  refine L.cl (small_C u hs S) rfl ((show acall _ _=some (_,[.int .i64 (IntKind.i64.wrap (u:Int))]) from rfl).trans (by rw[wrap64 (by omega) (by omega)])) ?_
  rintro _ _ ⟨rfl,rfl⟩
  refine⟨nofun,go ?_⟩
  exact⟨.inr rfl,_,rfl,rfl,Cons.refl _⟩
 have hb:100≤u:=by have:=of_decide_eq_false h;omega
 clear h
 obtain⟨k,k1,k2,k3,k4⟩:=dec_of_len (n:=u)
 have hnd:(dec u).length≤20:=by
  rw[k1]
  rcases k3 with rfl | k3
  ·omega
  ·refine Classical.byContradiction fun hc=>?_
   have:10^20≤10^k:=Nat.pow_le_pow_right (by decide) (by omega)
   omega
 have hu2:u<10^(dec u).length:=by rw[k1];exact k2
 have hdp:pad (dec u).length u=dec u:=by rw[k1,k4]
 refine go ?_
 refine L.eff (v:=.pointer (some ⟨S.length,0,none⟩)) (S1:=S++[newR (List.replicate 24 (v8 0#8)) 146]) rfl rfl ?_
 have hr:Mem.row? (S++[newR (List.replicate 24 (v8 0#8)) 146]) S.length=some (newR (List.replicate 24 (v8 0#8)) 146):=row_push_new rfl
 have hc:=Cons.push S (newR (List.replicate 24 (v8 0#8)) 146)
 generalize S++[newR (List.replicate 24 (v8 0#8)) 146]=T at *
 obtain⟨b,hb0⟩:∃ b,b=S.length:=⟨_,rfl⟩
 rw[← hb0] at hr ⊢
 refine go ?_
 refine L.cl (numDigits_C u (by omega) hu T (hP.cons hc)) rfl rfl ?_
 rintro _ _ ⟨rfl,rfl⟩
 refine⟨nofun,?_⟩
 rename Mem=>T
 refine go ?_
 have hsl:aslice 1 (some ⟨b,0,none⟩) 24 24 none (some (vi (dec u).length)) none=some (.slice (some ⟨b,0,none⟩) (dec u).length 24):=aslice_to (a:=some ⟨b,0,none⟩) (n:=24) (c:=24) (h:=(dec u).length) (kd:=.i64) rfl (by show _≤24;omega) nofun
 refine L.is (.slice (some ⟨b,0,none⟩) (dec u).length 24) ((slice_arr (n:=24) rfl rfl rfl (by decide)).trans hsl) rfl (go ?_)
 refine L.cl (fb10_C b (dec u).length 24 u _ T hr rfl (by show _≤(List.replicate 24 (v8 0#8)).length;rw[List.length_replicate];omega) hnd hu hu2) rfl rfl ?_
 rintro _ T2 ⟨hk,cs,hr2,hcl,hct⟩
 refine⟨nofun,?_⟩
 rw[hdp] at hct
 have hk2:Cons S T2:=hk.mono hc (by omega)
 refine go ?_
 refine L.is (.slice (some ⟨b,0,none⟩) (dec u).length 24) ((slice_arr (n:=24) rfl rfl rfl (by decide)).trans hsl) rfl ?_
 refine L.text2 (l:=dec u) rfl hr2 rfl rfl (by show _≤cs.length;rw[hcl];show _≤(List.replicate 24 (v8 0#8)).length;rw[List.length_replicate];omega) hct rfl rfl rfl rfl (go ?_)
 exact⟨.inr rfl,_,rfl,rfl,hk2⟩
theorem formatUint_C (u:Nat) (hu:u<18446744073709551616) (S:Mem) (hP:PowOk S):C Tryz.prog gN Ext 115 [.int .u64 (u:Int),vi 10] S fun v S'=>v=.string (strB (dec u))∧Cons S S':=by
 refine C.fn Tryz.func115 rfl (by kernel_rfl) rfl (go ?_)
 refine L.cv (formatUint0_C u hu S hP) rfl rfl fun S2 hk=>go ?_
 exact⟨.inr rfl,_,rfl,rfl,hk⟩
end
end Go.Proofs.YtbiigbicgfchiaaGreatDoor
set_option exponentiation.threshold 20000
namespace Go.Proofs.YtbiigbicgfchiaaGreatDoor
section
open Go Ie
variable {Ext:FuncId→List Value→Mem→Outc→Mem→Prop}
def textL (l:WL):BL:=if small l then dec (wnum l) else []
def textE (l:WL):Int:=if small l then 0 else 3
theorem short_step {N ten rest j:Nat} {f:WL} {x q:BitVec 64} (hx:f[j]?=some x) (hq:q.toNat=(rest*18446744073709551616+x.toNat) / ten)
  (h:N=ten*(2^(64*(j+1))*wnum (f.drop (j+1)))+rest*2^(64*(j+1))+wnum (f.take (j+1))) :
  N=ten*(2^(64*j)*wnum ((f.set j q).drop j))+(rest*18446744073709551616+x.toNat) % ten*2^(64*j)+wnum ((f.set j q).take j):=by
 have hlt:=(List.getElem?_eq_some_iff.1 hx).1
 have h1:(f.set j q).drop j=q :: f.drop (j+1):=by
  rw[List.drop_eq_getElem_cons (by rw[List.length_set];exact hlt),List.getElem_set_self,List.drop_set_of_lt (Nat.lt_succ_self j)]
 have h2:(f.set j q).take j=f.take j:=by rw[List.take_set_of_le (Nat.le_refl j)]
 rw[h1,h2,wnum,hq]
 rw[h,wnum_take_succ hx,pow64_succ]
 have hd:=Nat.div_add_mod (rest*18446744073709551616+x.toNat) ten
 generalize (rest*18446744073709551616+x.toNat) / ten=Q at *
 generalize (rest*18446744073709551616+x.toNat) % ten=R at *
 generalize 2^(64*j)=P at *
 generalize wnum (f.drop (j+1))=H at *
 have e1:ten*(P*(Q+18446744073709551616*H))=ten*(P*18446744073709551616*H)+P*(ten*Q):=by
  rw[Nat.mul_add P,Nat.mul_add ten,← Nat.mul_assoc P,Nat.mul_left_comm ten P Q];omega
 have e2:P*(ten*Q)+R*P=rest*(P*18446744073709551616)+P*x.toNat:=by
  rw[Nat.mul_comm R,← Nat.mul_add,hd,Nat.mul_add,← Nat.mul_assoc,Nat.mul_comm P rest,Nat.mul_assoc]
 omega
theorem flat_ge {ps:List BL} (h:∀ p∈ps,p≠[]):ps.length≤ps.flatten.length:=by
 induction ps with
 | nil=>simp
 | cons p ps ih=>
  have h1:=ih (fun q hq=>h q (List.mem_cons_of_mem _ hq))
  have h2:0<p.length:=List.length_pos_iff.2 (h p List.mem_cons_self)
  rw[List.length_cons,List.flatten_cons,List.length_append]
  omega
theorem dec_bound {n:Nat} (h:n<2^8192):(dec n).length≤2467:=by
 obtain⟨k,k1,k2,k3,k4⟩:=dec_of_len (n:=n)
 rw[k1]
 rcases k3 with rfl | k3
 ·omega
 ·refine Classical.byContradiction fun hc=>?_
  have h1:10^2467≤10^k:=Nat.pow_le_pow_right (by decide) (by omega)
  have h2:2^8192≤10^2467:=by decide +kernel
  omega
theorem wnum_pos_of {f:WL} (h:Canon f) (hl:0<f.length):0<wnum f:=by
 refine Nat.pos_of_ne_zero fun e=>?_
 have:=toW_wnum h
 rw[e,toW_zero] at this
 rw[← this] at hl
 simp at hl
theorem natText_C (a:Option Addr) (c:Nat) (l:WL) (S:Mem) (hI:WIn S a c l) (hP:PowOk S) :
  C Tryz.prog gN Ext 78 [.slice a l.length c] S fun v S'=>v=.tuple #[.string (strB (textL l)),.int .i64 (textE l)]∧Cons S S':=by
 refine C.fn Tryz.func78 rfl (by kernel_rfl) rfl (go ?_)
 refine L.bs [WS.v ⟨a,c,l⟩] rfl rfl rfl rfl rfl rfl ?_
 have hc:Cons S (S++[newR [WS.v ⟨a,c,l⟩] 22]):=Cons.push _ _
 have hs:Slv (S++[newR [WS.v ⟨a,c,l⟩] 22]) 1 (.slice (some ⟨S.length,0,none⟩) 1 1) 1 ([WS.mk a c l].map WS.v):=Slv.all (row_push_new rfl) rfl rfl
 generalize S++[newR [WS.v ⟨a,c,l⟩] 22]=S1 at *
 refine L.cl (fit_C _ [⟨a,c,l⟩] S1 hs (fun w hw=>by simp at hw;subst hw;exact hI.cons hc) (by simp)) rfl rfl ?_
 rintro _ _ ⟨rfl,rfl⟩
 refine⟨nofun,go ?_⟩
 refine W.ite rfl (fun h=>?_) (fun h=>?_)
 ·have hsm:small l=false:=by simpa using h
  refine go ?_
  exact⟨.inr rfl,_,rfl,by unfold textL textE;rw[hsm];rfl,hc⟩
 have hsm:small l=true:=by simpa using h
 clear h
 rename Mem=>S1
 have hI1:=hI.cons hc
 have hN:wnum l<2^8192:=by
  have:(toW (wnum l)).length≤128:=of_decide_eq_true hsm
  exact(toW_len _ 128).1 this
 have hdb:=dec_bound hN
 refine go ?_
 refine L.cl (trim_C a c l _ hI1) rfl rfl ?_
 rintro _ _ ⟨rfl,rfl⟩
 refine⟨nofun,?_⟩
 refine L.cl (clone_C a c (fm l) _ hI1.form) rfl rfl ?_
 rintro _ S2 ⟨d,rfl,hR⟩
 refine⟨fun _=>hR.1,?_⟩
 obtain⟨hO,hv⟩:=hR.own
 have hk2:=hc.trans hR.1
 rw[hv]
 refine go ?_
 refine W.ite rfl (fun h=>?_) (fun h=>?_)
 ·have h0:wnum l=0:=(fm_nil l).1 (by have:=eq_of_beq h;omega)
  clear h
  refine go ?_
  exact⟨.inr rfl,_,rfl,by unfold textL textE;rw[hsm,h0,if_pos rfl,if_pos rfl,dec_small (by decide)];rfl,hk2⟩
 have hlp:0<(fm l).length:=Nat.pos_of_ne_zero fun e=>by rw[e] at h;cases h
 clear h
 obtain⟨b,hb⟩:∃ b,d.a=some b:=by
  cases hd:d.a with
  | some b=>exact⟨b,rfl⟩
  | none=>
   obtain⟨h1,⟨_,h3,_⟩ | ⟨b,r,h2,_⟩⟩:=hR.2.2.1
   ·rw[wv_len] at h1;omega
   ·rw[hd] at h2;cases h2
 have hbS:S.length≤b:=by have:=hR.2.2.2 b hb;have:=hc.len;omega
 have hcap:=hO.1.2.1
 obtain⟨r0,hr0,hro0,hrl0,hrt0⟩:∃ r,S2.row? b=some r∧r.ro=none∧(fm l).length≤r.cells.length∧r.cells.take (fm l).length=wv (fm l):=by
  obtain⟨h1,⟨h2,_⟩ | ⟨b',r,h2,h3,h4,h5,h6,_⟩⟩:=hR.2.2.1
  ·rw[hb] at h2;cases h2
  ·rw[hb] at h2;cases h2
   rw[wv_len] at h1
   rw[← h1] at h5 h6
   exact⟨r,h3,h4,h5,h6⟩
 have hda:d.ad=some ⟨b,0,none⟩:=by unfold Hd.ad;rw[hb];rfl
 rw[hda]
 obtain⟨cc,hcc⟩:∃ cc,cc=d.c:=⟨_,rfl⟩
 rw[← hcc] at hcap ⊢
 have hlen0:(fm l).length≤128:=of_decide_eq_true hsm
 clear hR hO hv hda hs hI1
 refine go ?_
 refine W.loop (fun k e T=>∃ (f:WL) (r:Row) (ps:List BL) (d:Hd),k=wnum f∧e 4=.slice (some ⟨b,0,none⟩) f.length cc∧e 5=d.v∧Cons S T∧T.row? b=some r∧r.ro=none∧f.length≤r.cells.length∧r.cells.take f.length=wv f∧Canon f∧f.length≤knownCap cc∧f.length≤128 ∧
   HdOk T 9 d (tv ps)∧(∀ x,d.a=some x→S.length≤x∧x≠b)∧(ps=[]∨d.c=UNK+d.n)∧(f=[]→ps≠[])∧(∀ p∈ps,p≠[])∧dec (wnum l)=(if f=[] then [] else dec (wnum f))++ps.reverse.flatten) (wnum (fm l))
  ⟨fm l,r0,[],Hd0,rfl,rfl,rfl,hk2,hr0,hro0,hrl0,hrt0,canon_toW _,hcap,hlen0,HdOk.nil _ _,nofun,.inl rfl,(fun e=>by rw[e] at hlp;simp at hlp),(fun p hp=>by simp at hp),by rw[if_neg (fun e=>by rw[e] at hlp;simp at hlp),show wnum (fm l)=wnum l from wnum_toW _];simp⟩ ?_
 clear hr0 hro0 hrl0 hrt0 hk2 hcap hb hlp hlen0 hcc
 rintro k e T ⟨f,r,ps,d,rfl,e4,e5,hk,hr,hro,hrl,hrt,hcan,hcap,hlen,hd,hda,hdc,hfps,hne,hdec⟩
 refine W.env2 e4 e5 ?_
 have hflat:ps.reverse.flatten.length≤2467:=by rw[hdec,List.length_append] at hdb;omega
 have hpsl:ps.length≤2467:=by
  have:=flat_ge (ps:=ps.reverse) (fun p hp=>hne p (List.mem_reverse.1 hp))
  rw[List.length_reverse] at this
  omega
 have hdn:ps.length=d.n:=by have:=hd.len;rw[tv_len] at this;exact this
 refine go ?_
 refine W.ite rfl (fun h=>?_) (fun h=>?_)
 rotate_left
 ·have hf:f=[]:=List.length_eq_zero_iff.1 (by have:=of_decide_eq_false h;omega)
  clear h
  subst hf
  rw[if_pos rfl,List.nil_append] at hdec
  have hps:=hfps rfl
  have hcu:d.c=UNK+d.n:=hdc.resolve_left hps
  obtain⟨x,hx⟩:∃ x,d.a=some x:=by
   cases hd2:d.a with
   | some b=>exact⟨b,rfl⟩
   | none=>
    obtain⟨h1,⟨_,h3,_⟩ | ⟨b,r,h2,_⟩⟩:=hd
    ·exfalso
     have:ps=[]:=List.length_eq_zero_iff.1 (by omega)
     exact hps this
    ·rw[hd2] at h2;cases h2
  have hrow:T.row? x=some (grownR (tv ps) 9 1):=by
   obtain⟨h1,⟨h2,_⟩ | ⟨b',r',h2,h3,h4,h5,h6,⟨h7,h8⟩ | ⟨h7,h8⟩⟩⟩:=hd
   ·rw[hx] at h2;cases h2
   ·unfold UNK at *;omega
   ·rw[hx] at h2;cases h2
    rw[h3,h8]
  have hdv:d.v=.slice (some ⟨x,0,none⟩) d.n (UNK+d.n):=by unfold Hd.v;rw[hx,hcu];rfl
  rw[hdv]
  refine go ?_
  refine L.cl (reverse_C x d.n (UNK+d.n) ps T hrow hdn (by omega)) rfl rfl ?_
  rintro _ T2 ⟨kT2,hrow2⟩
  refine⟨nofun,?_⟩
  have hk2:Cons S T2:=kT2.mono hk (hda x hx).1
  refine go ?_
  refine L.cl (join_C (some ⟨x,0,none⟩) (UNK+d.n) d.n ps.reverse T2 (Slv.all hrow2 rfl (by rw[tv_len,List.length_reverse];omega)) (by rw[List.length_reverse];exact hdn) (.inr ⟨Nat.le_add_right _ _,by rw[knownCap_unk];exact Nat.le_refl _⟩) (by omega) (by omega) (fun p hp=>hne p (List.mem_reverse.1 hp))) rfl rfl ?_
  rintro _ T3 ⟨rfl,kT3⟩
  refine⟨nofun,go ?_⟩
  exact⟨.inr rfl,_,rfl,by unfold textL textE;rw[hsm,if_pos rfl,if_pos rfl,hdec];rfl,hk2.trans kT3⟩
 have hfl:0<f.length:=by have:=of_decide_eq_true h;omega
 clear h
 have hfne:f≠[]:=fun e=>by rw[e] at hfl;simp at hfl
 rw[if_neg hfne] at hdec
 have hpos:=wnum_pos_of hcan hfl
 refine go ?_
 refine W.mono (R:=fun x e' T'=>x=.exit 2∧∃ (f2:WL) (r2:Row) (rest:Nat),e' 4=.slice (some ⟨b,0,none⟩) f.length cc∧e' 5=d.v∧e' 6=.int .u64 (rest:Int)∧Keep b T T'∧T'.row? b=some r2∧r2.ro=none∧f.length≤r2.cells.length∧r2.cells.take f.length=wv f2∧f2.length=f.length∧rest<10000000000000000000∧wnum f=10000000000000000000*wnum f2+rest) ?_ ?_
 ·refine W.loop (fun i e' T'=>∃ (f2:WL) (r2:Row) (rest:Nat),i≤f.length∧e' 4=.slice (some ⟨b,0,none⟩) f.length cc∧e' 5=d.v∧e' 6=.int .u64 (rest:Int)∧e' 7=.int .i64 ((i:Int) - 1)∧Keep b T T'∧T'.row? b=some r2∧r2.ro=none∧f.length≤r2.cells.length∧r2.cells.take f.length=wv f2∧f2.length=f.length∧rest<10000000000000000000 ∧
    wnum f=10000000000000000000*(2^(64*i)*wnum (f2.drop i))+rest*2^(64*i)+wnum (f2.take i)) f.length
   ⟨f,r,0,Nat.le_refl _,rfl,rfl,rfl,congrArg (Value.int .i64) (wrap64 (by omega) (by omega)),Keep.refl _ _,hr,hro,hrl,hrt,rfl,by decide,by rw[List.drop_length,List.take_length];simp [wnum]⟩ ?_
  rintro i e T' ⟨f2,r2,rest,hi,e4,e5,e6,e7,kT,hr2,hro2,hrl2,hrt2,hf2l,hrest,hinv⟩
  refine W.env4 e4 e5 e6 e7 (go ?_)
  refine W.ite rfl (fun h=>?_) (fun h=>?_)
  ·have hi1:1≤i:=by have:=of_decide_eq_true h;omega
   clear h
   obtain⟨j,rfl⟩:∃ j,i=j+1:=⟨i - 1,by omega⟩
   have hm:(((j+1:Nat):Int) - 1)=(j:Int):=by omega
   rw[hm]
   obtain⟨x,hx⟩:∃ x,f2[j]?=some x:=⟨_,List.getElem?_eq_getElem (by omega)⟩
   have hsl:Slv T' 1 (.slice (some ⟨b,0,none⟩) f.length cc) f.length (wv f2):=by
    have:=Slv.of (sz:=1) (n:=f.length) (o:=0) (c:=cc) hr2 (by omega) (.inl hro2)
    rwa [List.drop_zero,Nat.mul_one,hrt2] at this
   obtain⟨q,hq⟩:=word_of (n:=(rest*18446744073709551616+x.toNat) / 10000000000000000000) (Nat.div_lt_of_lt_mul (by have:=x.isLt;omega))
   have hst:=short_step (ten:=10000000000000000000) hx hq hinv
   refine go ?_
   refine L.el hsl (k:=j) rfl (wv_get hx) rfl rfl rfl rfl (fun _=>rfl) rfl (fun p=>?_)
   refine L.cl (div64_C rest x.toNat 10000000000000000000 T' hrest x.isLt (by decide)) rfl rfl ?_
   rintro _ T5 ⟨rfl,hT5⟩
   have hT5:=hT5.symm
   subst hT5
   refine⟨nofun,go ?_⟩
   rw[← hq]
   refine L.elst hr2 hro2 (by omega) (k:=j) rfl (by omega) rfl rfl rfl rfl (fun _=>rfl) (fun _=>rfl) rfl rfl rfl (fun p=>?_)
   have hst2:r2.st=.live:=(Mem.row?_some hr2).2
   have hr3:Mem.row? (List.set T' b { r2 with cells:=r2.cells.set (0+j) (v64 q) }) b=some { r2 with cells:=r2.cells.set (0+j) (v64 q) }:=row_set_same hr2 hst2
   have kT3:=kT.trans (Keep.set b T' { r2 with cells:=r2.cells.set (0+j) (v64 q) })
   generalize List.set T' b _=T6 at *
   refine go ?_
   refine⟨j,by omega,f2.set j q,_,(rest*18446744073709551616+x.toNat) % 10000000000000000000,by omega,rfl,rfl,rfl,congrArg (Value.int .i64) (wrap64 (by omega) (by omega)),kT3,hr3,hro2,?_,?_,by simpa using hf2l,Nat.mod_lt _ (by decide),hst⟩
   ·show f.length≤(r2.cells.set (0+j) (v64 q)).length
    rw[List.length_set];exact hrl2
   ·show (r2.cells.set (0+j) (v64 q)).take f.length=_
    rw[List.take_set,hrt2,Nat.zero_add]
    unfold wv
    rw[List.map_set]
  ·have hi0:i=0:=by have:=of_decide_eq_false h;omega
   subst hi0
   clear h
   rw[Nat.mul_zero,Nat.pow_zero,Nat.one_mul,Nat.mul_one,List.drop_zero,List.take_zero] at hinv
   refine go ?_
   exact⟨rfl,f2,r2,rest,rfl,rfl,rfl,kT,hr2,hro2,hrl2,hrt2,hf2l,hrest,by simpa [wnum] using hinv⟩
 rintro _ e' T' ⟨rfl,f2,r2,rest,e4,e5,e6,kT,hr2,hro2,hrl2,hrt2,hf2l,hrest,hsum⟩
 refine W.env3 e4 e5 e6 ?_
 have hk':Cons S T':=kT.mono hk hbS
 have hd':=hd.keep (bs:=[b]) (kT.keepL (by simp)) (fun x hx=>by have:=(hda x hx).2;simpa using this)
 have hI2:WIn T' (some ⟨b,0,none⟩) cc f2:=by
  refine⟨?_,by omega,nofun,by omega⟩
  have:=Slv.of (sz:=1) (n:=f.length) (o:=0) (c:=cc) hr2 (by omega) (.inl hro2)
  rw[List.drop_zero,Nat.mul_one,hrt2] at this
  rw[hf2l];exact this
 have hfw:wnum (fm f2)=wnum f2:=wnum_toW _
 have hfl2:(fm f2).length≤f2.length:=toW_len_le f2
 have htk:r2.cells.take (fm f2).length=wv (fm f2):=by
  have h1:(r2.cells.take f.length).take (fm f2).length=(wv f2).take (fm f2).length:=by rw[hrt2]
  rw[List.take_take,Nat.min_eq_left (by omega)] at h1
  rw[h1,wv,← List.map_take,toW_take];rfl
 refine go ?_
 refine L.cl (trim_C (some ⟨b,0,none⟩) cc f2 T' hI2) rfl (by rw[hf2l];rfl) ?_
 rintro _ _ ⟨rfl,rfl⟩
 refine⟨nofun,?_⟩
 rename Mem=>T'
 refine go ?_
 refine L.cv (formatUint_C rest (by omega) T' (hP.cons hk')) rfl rfl fun T2 kT2=>?_
 have hr22:=kT2.row' hr2
 have hd2:=hd'.cons kT2
 refine go ?_
 refine W.ite rfl (fun h=>?_) (fun h=>?_)
 ·have hl2:0<(fm f2).length:=by have:=of_decide_eq_true h;omega
  clear h
  have hw2:wnum f2≠0:=fun e=>by have:=(fm_nil f2).2 e;omega
  have e19:rest<10^19:=by
   have e:(10:Nat)^19=10000000000000000000:=by decide
   rw[e];exact hrest
  obtain⟨hle,hfill⟩:=dec_fill (n:=rest) (k:=19) e19 (by decide)
  have hsne:pad 19 rest≠[]:=fun e=>by have:=pad_len 19 rest;rw[e] at this;simp at this
  have hdd:dec (wnum f)=(if fm f2=[] then [] else dec (wnum (fm f2)))++pad 19 rest:=by
   have e:(10:Nat)^19=10000000000000000000:=by decide
   rw[if_neg (fun e=>by rw[e] at hl2;simp at hl2),hfw,dec_split (k:=19) (n:=wnum f) (by rw[e,hsum];omega),← pad_mod 19 (wnum f),e,hsum]
   congr 2
   ·omega
   ·omega
  refine go ?_
  refine L.tlen rfl rfl rfl rfl (go ?_)
  refine L.cl (repeat0_C (19 - (dec rest).length) (by omega) T2) rfl ((show acall _ _=some (_,[_,.int .i64 (IntKind.i64.wrap (19 - ((dec rest).length:Int)))]) from rfl).trans (by rw[wrap64 (by omega) (by omega),show (19 - ((dec rest).length:Int))=((19 - (dec rest).length:Nat):Int) by omega];rfl)) ?_
  rintro _ _ ⟨rfl,rfl⟩
  refine⟨nofun,?_⟩
  rename Mem=>T2
  refine go ?_
  refine L.tadd rfl rfl (by rw[List.length_replicate];omega) rfl ?_
  rw[hfill]
  refine go ?_
  refine L.pushC (w:=.string (strB (pad 19 rest))) rfl hd2 rfl rfl rfl rfl rfl (by omega) rfl (fun _=>rfl) ?_
  rintro p h' T3 u1 u2 uc ⟨b',u3,u5⟩ u4
  have hnb:b ∉ d.a.toList:=fun hm=>(hda b (by simpa using hm)).2 rfl
  have hr3:=u4.row hr22 hnb
  have hk3:Cons S T3:=u4.cons0 (hk'.trans kT2) (fun x hx=>(hda x (by simpa using hx)).1)
  have hb2:=row_lt hr22
  have hln:=(hk'.trans kT2).len
  refine go ?_
  refine⟨wnum (fm f2),by rw[hfw];omega,fm f2,r2,ps++[(pad 19 rest)],h',rfl,rfl,rfl,hk3,hr3,hro2,by omega,htk,canon_toW _,by omega,by omega,by rw[tv,List.map_append];exact u1,fun x hx=>by rw[u3] at hx;cases hx;exact⟨by omega,by omega⟩,.inr uc,fun _=>by simp,fun q hq=>?_,?_⟩
  ·rcases List.mem_append.1 hq with h | h
   ·exact hne q h
   ·rw[List.mem_singleton] at h;rw[h];exact hsne
  ·rw[List.reverse_append,List.flatten_append,hdec]
   show _=_++((([(pad 19 rest)]:List BL).reverse).flatten++_)
   rw[show (([(pad 19 rest)]:List BL).reverse).flatten=(pad 19 rest) by simp,← List.append_assoc,hdd]
 ·have hl2:(fm f2).length=0:=by have:=of_decide_eq_false h;omega
  clear h
  have hw2:wnum f2=0:=(fm_nil f2).1 hl2
  have hsne:dec rest≠[]:=fun e=>by have:=dec_len_pos rest;rw[e] at this;simp at this
  have hdd:dec (wnum f)=(if fm f2=[] then [] else dec (wnum (fm f2)))++dec rest:=by
   rw[if_pos (List.length_eq_zero_iff.1 hl2),hsum,hw2,Nat.mul_zero,Nat.zero_add];rfl
  refine go ?_
  refine L.pushC (w:=.string (strB (dec rest))) rfl hd2 rfl rfl rfl rfl rfl (by omega) rfl (fun _=>rfl) ?_
  rintro p h' T3 u1 u2 uc ⟨b',u3,u5⟩ u4
  have hnb:b ∉ d.a.toList:=fun hm=>(hda b (by simpa using hm)).2 rfl
  have hr3:=u4.row hr22 hnb
  have hk3:Cons S T3:=u4.cons0 (hk'.trans kT2) (fun x hx=>(hda x (by simpa using hx)).1)
  have hb2:=row_lt hr22
  have hln:=(hk'.trans kT2).len
  refine go ?_
  refine⟨wnum (fm f2),by rw[hfw];omega,fm f2,r2,ps++[(dec rest)],h',rfl,rfl,rfl,hk3,hr3,hro2,by omega,htk,canon_toW _,by omega,by omega,by rw[tv,List.map_append];exact u1,fun x hx=>by rw[u3] at hx;cases hx;exact⟨by omega,by omega⟩,.inr uc,fun _=>by simp,fun q hq=>?_,?_⟩
  ·rcases List.mem_append.1 hq with h | h
   ·exact hne q h
   ·rw[List.mem_singleton] at h;rw[h];exact hsne
  ·rw[List.reverse_append,List.flatten_append,hdec]
   show _=_++((([(dec rest)]:List BL).reverse).flatten++_)
   rw[show (([(dec rest)]:List BL).reverse).flatten=(dec rest) by simp,← List.append_assoc,hdd]
end
section
open Go Ie
variable {Ext:FuncId→List Value→Mem→Outc→Mem→Prop}
theorem cz1 {a:Int} (h:cmpI a 0=-1):a<0:=by
 unfold cmpI at h
 split at h
 ·assumption
 ·split at h<;>omega
theorem cz0 {a:Int} (h:cmpI a 0=0):a=0:=(cmp_eq a 0).1 h
theorem cz2 {a:Int} (h:cmpI a 0=1):0<a:=by
 unfold cmpI at h
 split at h
 ·omega
 ·split at h
  ·assumption
  ·omega
theorem cmp_lt' {a b:Int} (h:a<b):cmpI a b=-1:=by unfold cmpI;rw[if_pos h]
theorem cmp_gt' {a b:Int} (h:b<a):cmpI a b=1:=by unfold cmpI;rw[if_neg (by omega),if_pos h]
theorem zv_neg_is {n:Bool} {l:WL} (h:zv n l<0):zv n l=-((wnum l:Nat):Int):=by
 cases n
 ·rw[zv_false] at h;omega
 ·rfl
theorem zv_pos_is {n:Bool} {l:WL} (h:0≤zv n l):zv n l=((wnum l:Nat):Int):=by
 cases n
 ·rfl
 ·rw[zv_true] at h ⊢;omega
theorem zCmp_C (n m:Bool) (a1 a2:Option Addr) (c1 c2:Nat) (l k:WL) (S:Mem) (h1:WIn S a1 c1 l) (h2:WIn S a2 c2 k) :
  C Tryz.prog gN Ext 29 [wZ n (.slice a1 l.length c1),wZ m (.slice a2 k.length c2)] S fun v S'=>v=.int .i64 (cmpI (zv n l) (zv m k))∧Cons S S':=by
 refine C.fn Tryz.func29 rfl (by kernel_rfl) rfl (go ?_)
 refine L.nr [.bool n,.slice a1 l.length c1] wT rfl rfl (fun b2 Tb2 gb2 kb2 rb2=>?_)
 refine L.nr [.bool m,.slice a2 k.length c2] wT rfl rfl (fun b3 Tb3 gb3 kb3 rb3=>?_)
 have kM:=kb2.trans kb3
 replace rb2:=Cons.row (h:=kb3) rb2
 replace h1:=h1.cons kM
 replace h2:=h2.cons kM
 have hc:=Cons.refl Tb3
 clear kb2 kb3 gb2 gb3
 refine go ?_
 refine L.z2 (Cons.row (h:=hc) rb2) rfl rfl rfl ?_
 refine L.cv (zSign_C n a1 c1 l _ (h1.cons hc)) rfl rfl fun T1 k1=>?_
 replace hc:=hc.trans k1
 refine L.z2 (Cons.row (h:=hc) rb3) rfl rfl rfl ?_
 refine L.cv (zSign_C m a2 c2 k _ (h2.cons hc)) rfl rfl fun T2 k2=>?_
 replace hc:=hc.trans k2
 clear k1 k2
 rcases cmpI_vals (zv n l) 0 with hx | hx | hx<;>rcases cmpI_vals (zv m k) 0 with hy | hy | hy<;>rw[hx,hy]
 ·have ux:=cz1 hx
  have uy:=cz1 hy
  refine go ?_
  refine W.condF rfl (go ?_)
  refine W.condF rfl (go ?_)
  refine W.condT rfl (go ?_)
  refine L.zf (Cons.row (h:=hc) rb3) rfl rfl rfl rfl rfl (go ?_)
  refine L.zf (Cons.row (h:=hc) rb2) rfl rfl rfl rfl rfl ?_
  refine L.cs (natCmp_C a2 a1 c2 c1 k l _ (h2.cons hc) (h1.cons hc)) rfl rfl (go ?_)
  refine⟨.inr rfl,_,rfl,?_,kM.trans hc⟩
  rw[zv_neg_is ux,zv_neg_is uy,cmp_sub,cmp_sub (-((wnum l:Nat):Int)),show ((wnum k:Nat):Int) - ((wnum l:Nat):Int)=-((wnum l:Nat):Int) - -((wnum k:Nat):Int) by omega]
  rfl
 ·have ux:=cz1 hx
  have uy:=cz0 hy
  refine go ?_
  refine W.condT rfl (go ?_)
  exact⟨.inr rfl,_,rfl,congrArg (Value.int .i64) (cmp_lt' (by omega)).symm,kM.trans hc⟩
 ·have ux:=cz1 hx
  have uy:=cz2 hy
  refine go ?_
  refine W.condT rfl (go ?_)
  exact⟨.inr rfl,_,rfl,congrArg (Value.int .i64) (cmp_lt' (by omega)).symm,kM.trans hc⟩
 ·have ux:=cz0 hx
  have uy:=cz1 hy
  refine go ?_
  refine W.condF rfl (go ?_)
  refine W.condT rfl (go ?_)
  exact⟨.inr rfl,_,rfl,congrArg (Value.int .i64) (cmp_gt' (by omega)).symm,kM.trans hc⟩
 ·have ux:=cz0 hx
  have uy:=cz0 hy
  refine go ?_
  refine W.condF rfl (go ?_)
  refine W.condF rfl (go ?_)
  refine W.condF rfl (go ?_)
  refine L.zf (Cons.row (h:=hc) rb2) rfl rfl rfl rfl rfl (go ?_)
  refine L.zf (Cons.row (h:=hc) rb3) rfl rfl rfl rfl rfl ?_
  refine L.cs (natCmp_C a1 a2 c1 c2 l k _ (h1.cons hc) (h2.cons hc)) rfl rfl (go ?_)
  refine⟨.inr rfl,_,rfl,?_,kM.trans hc⟩
  rw[zv_pos_is (n:=n) (by omega),zv_pos_is (n:=m) (by omega)]
  rfl
 ·have ux:=cz0 hx
  have uy:=cz2 hy
  refine go ?_
  refine W.condT rfl (go ?_)
  exact⟨.inr rfl,_,rfl,congrArg (Value.int .i64) (cmp_lt' (by omega)).symm,kM.trans hc⟩
 ·have ux:=cz2 hx
  have uy:=cz1 hy
  refine go ?_
  refine W.condF rfl (go ?_)
  refine W.condT rfl (go ?_)
  exact⟨.inr rfl,_,rfl,congrArg (Value.int .i64) (cmp_gt' (by omega)).symm,kM.trans hc⟩
 ·have ux:=cz2 hx
  have uy:=cz0 hy
  refine go ?_
  refine W.condF rfl (go ?_)
  refine W.condT rfl (go ?_)
  exact⟨.inr rfl,_,rfl,congrArg (Value.int .i64) (cmp_gt' (by omega)).symm,kM.trans hc⟩
 ·have ux:=cz2 hx
  have uy:=cz2 hy
  refine go ?_
  refine W.condF rfl (go ?_)
  refine W.condF rfl (go ?_)
  refine W.condF rfl (go ?_)
  refine L.zf (Cons.row (h:=hc) rb2) rfl rfl rfl rfl rfl (go ?_)
  refine L.zf (Cons.row (h:=hc) rb3) rfl rfl rfl rfl rfl ?_
  refine L.cs (natCmp_C a1 a2 c1 c2 l k _ (h1.cons hc) (h2.cons hc)) rfl rfl (go ?_)
  refine⟨.inr rfl,_,rfl,?_,kM.trans hc⟩
  rw[zv_pos_is (n:=n) (by omega),zv_pos_is (n:=m) (by omega)]
  rfl
theorem zInt_C (z:Int) (S:Mem) (hz:-9223372036854775808≤z∧z≤9223372036854775807) :
  C Tryz.prog gN Ext 21 [.int .i64 z] S fun v S'=>∃ d:Hd,v=.agg #[.bool (decide (z<0)),d.v]∧RetW S S' d (toW z.natAbs):=by
 refine C.fn Tryz.func21 rfl (by kernel_rfl) rfl (go ?_)
 refine L.nr [.bool false,.slice none 0 0] wT rfl rfl (fun b4 Tb4 gb4 kb4 rb4=>?_)
 have hc:=Cons.refl Tb4
 refine go ?_
 obtain⟨w,hw⟩:∃ w:BitVec 64,w.toNat=z.natAbs:=⟨BitVec.ofNat 64 z.natAbs,by rw[BitVec.toNat_ofNat];exact Nat.mod_eq_of_lt (by omega)⟩
 have hzv:zv (decide (z<0)) [w]=z:=by
  have e:wnum [w]=z.natAbs:=by show w.toNat+18446744073709551616*0=_;omega
  by_cases h:z<0
  ·rw[decide_eq_true h,zv_true,e];omega
  ·rw[decide_eq_false h,zv_false,e];omega
 have hzE:zE z=0:=by
  unfold zE
  rw[if_pos]
  have:(2:Nat)^64≤2^4096:=Nat.pow_le_pow_right (by decide) (by decide)
  omega
 by_cases hzn:z<0
 ·have e1:IntKind.u64.wrap (0 - IntKind.u64.wrap z)=(w.toNat:Int):=by
   have:IntKind.u64.wrap z=z+18446744073709551616:=by
    simp only [IntKind.wrap,IntKind.bits,IntKind.signed,Bool.false_and,Bool.false_eq_true,if_false]
    omega
   rw[this]
   simp only [IntKind.wrap,IntKind.bits,IntKind.signed,Bool.false_and,Bool.false_eq_true,if_false]
   omega
  rw[decide_eq_true hzn] at hzv ⊢
  refine W.condT rfl (go ?_)
  rw[e1]
  refine L.bsW [w] rfl rfl rfl rfl rfl rfl (fun bw Tw kw iw=>?_)
  rw[show decide (z<0)=true from decide_eq_true hzn]
  have hc:=hc.trans kw
  refine L.cl (zMake_C true (some ⟨bw,0,none⟩) 1 [w] Tw iw) rfl rfl ?_
  rintro _ T9 hr
  rw[hzv,hzE] at hr
  obtain⟨d9,rfl,r9⟩:=hr
  refine⟨fun _=>r9.1,go ?_⟩
  refine L.nr [.bool false,.slice none 0 0] wT rfl rfl (fun b6 T6 g6 k6 r6=>?_)
  refine L.st2 r6 rfl rfl rfl rfl rfl rfl (fun T8 kk8 r8=>?_)
  have k98:Cons T9 T8:=kk8.mono k6 g6
  have r9':=r9.post k98
  have hc':=hc.trans r9'.1
  refine go ?_
  refine L.z2 r8 rfl rfl rfl ?_
  refine L.st2 (Cons.row (h:=hc') rb4) rfl rfl rfl rfl rfl rfl (fun T10 kk r10=>go ?_)
  exact⟨.inr rfl,_,res1 rfl (load2 r10 rfl),d9,by show Value.agg #[.bool (decide (z<0)),d9.v]=_;first | rfl | rw[decide_eq_true hzn],zfin kb4 hc r9' kk gb4 rb4⟩
 ·have e1:IntKind.u64.wrap z=(w.toNat:Int):=by rw[wrapU64 (by omega) (by omega)];omega
  rw[decide_eq_false hzn] at hzv ⊢
  rw[e1]
  refine W.condF rfl (go ?_)
  refine L.bsW [w] rfl rfl rfl rfl rfl rfl (fun bw Tw kw iw=>?_)
  rw[show decide (z<0)=false from decide_eq_false hzn]
  have hc:=hc.trans kw
  refine L.cl (zMake_C false (some ⟨bw,0,none⟩) 1 [w] Tw iw) rfl rfl ?_
  rintro _ T9 hr
  rw[hzv,hzE] at hr
  obtain⟨d9,rfl,r9⟩:=hr
  refine⟨fun _=>r9.1,go ?_⟩
  refine L.nr [.bool false,.slice none 0 0] wT rfl rfl (fun b6 T6 g6 k6 r6=>?_)
  refine L.st2 r6 rfl rfl rfl rfl rfl rfl (fun T8 kk8 r8=>?_)
  have k98:Cons T9 T8:=kk8.mono k6 g6
  have r9':=r9.post k98
  have hc':=hc.trans r9'.1
  refine go ?_
  refine L.z2 r8 rfl rfl rfl ?_
  refine L.st2 (Cons.row (h:=hc') rb4) rfl rfl rfl rfl rfl rfl (fun T10 kk r10=>go ?_)
  exact⟨.inr rfl,_,res1 rfl (load2 r10 rfl),d9,by show Value.agg #[.bool (decide (z<0)),d9.v]=_;first | rfl | rw[decide_eq_false hzn],zfin kb4 hc r9' kk gb4 rb4⟩
end
section
open Go Ie
variable {Ext:FuncId→List Value→Mem→Outc→Mem→Prop}
def i64ok (z:Int):Bool:=decide (-9223372036854775808≤z∧z<9223372036854775808)
theorem ZAns.got {S S':Mem} {v:Value} {E:Int} {z:Int} (h:ZAns S S' v E z) (hE:E=0):∃ d:Hd,v=.tuple #[.agg #[.bool (decide (z<0)),.slice d.ad (toW z.natAbs).length d.c],.int .i64 0]∧RetW S S' d (toW z.natAbs):=by
 obtain⟨d,rfl,r⟩:=h
 subst hE
 have e:zL 0 z=toW z.natAbs:=if_pos rfl
 rw[e] at r
 exact⟨d,by rw[← r.val];rfl,r⟩
theorem toW_one {N:Nat} (h0:N≠0) (h:N<18446744073709551616):toW N=[BitVec.ofNat 64 N]:=by
 rw[toW_pos h0,Nat.div_eq_of_lt h,toW_zero]
theorem zInt64_C (n:Bool) (a1:Option Addr) (c1:Nat) (l:WL) (S:Mem) (h1:WIn S a1 c1 l) :
  C Tryz.prog gN Ext 34 [wZ n (.slice a1 l.length c1)] S fun v S'=>v=.tuple #[.int .i64 (if i64ok (zv n l) then zv n l else 0),.bool (i64ok (zv n l))]∧Cons S S':=by
 refine C.fn Tryz.func34 rfl (by kernel_rfl) rfl (go ?_)
 refine L.nr [.bool n,.slice a1 l.length c1] wT rfl rfl (fun b2 Tb2 gb2 kb2 rb2=>?_)
 have hc:=Cons.refl Tb2
 refine go ?_
 refine L.zf (Cons.row (h:=hc) rb2) rfl rfl rfl rfl rfl ?_
 refine L.cs (bits_C a1 c1 l _ (h1.cons kb2)) rfl rfl (go ?_)
 have hab:=zv_abs n l
 have hbl:=@blen_le (wnum l) 64
 rw[show (2:Nat)^64=18446744073709551616 by decide] at hbl
 refine W.ite rfl (fun h=>?_) (fun h=>?_)
 ·have hbig:¬ wnum l<18446744073709551616:=by have:=of_decide_eq_true h;omega
  clear h
  have hn:i64ok (zv n l)=false:=by unfold i64ok;exact decide_eq_false (by omega)
  rw[hn]
  refine go ?_
  exact⟨.inr rfl,_,rfl,rfl,kb2⟩
 have hsm:wnum l<18446744073709551616:=hbl.1 (by have:=of_decide_eq_false h;omega)
 clear h hbl
 generalize hz:zv n l=z at *
 have hzE:zE z=0:=by
  unfold zE
  rw[if_pos]
  have:(2:Nat)^64≤2^4096:=Nat.pow_le_pow_right (by decide) (by decide)
  omega
 rw[← hab] at hsm
 refine go ?_
 refine L.zf (Cons.row (h:=hc) rb2) rfl rfl rfl rfl rfl (go ?_)
 refine L.zf (Cons.row (h:=hc) rb2) rfl rfl rfl rfl rfl ?_
 refine L.cl (zMake_C n a1 c1 l _ (h1.cons kb2)) rfl rfl ?_
 rintro _ T3 hr
 rw[hz] at hr
 obtain⟨d,rfl,r⟩:=hr.got hzE
 refine⟨fun _=>r.1,?_⟩
 clear hr
 have k3:=kb2.trans r.1
 refine go ?_
 refine L.nr [.bool false,.slice none 0 0] wT rfl rfl (fun b6 Tb6 gb6 kb6 rb6=>?_)
 refine L.st2 rb6 rfl rfl rfl rfl rfl rfl (fun T8 kk8 r8=>?_)
 have k98:Cons T3 T8:=kk8.mono kb6 gb6
 replace r:=r.post k98
 have w8:=r.win
 have hcS:=k3.trans k98
 have hc:=Cons.refl T8
 clear kk8 rb6 kb6 gb6
 refine go ?_
 refine L.zf (Cons.row (h:=hc) r8) rfl rfl rfl rfl rfl (go ?_)
 by_cases h0:z.natAbs=0
 ·have hz0:z=0:=by omega
  rw[show (((toW z.natAbs).length:Int)==0)=true by rw[h0,toW_zero];rfl]
  refine W.condT rfl (go ?_)
  refine⟨.inr rfl,_,rfl,?_,hcS⟩
  rw[hz0];rfl
 have h1w:=toW_one h0 hsm
 have hlen:(toW z.natAbs).length=1:=by rw[h1w];rfl
 have hx:(toW z.natAbs)[0]?=some (BitVec.ofNat 64 z.natAbs):=by rw[h1w];rfl
 have hxn:(BitVec.ofNat 64 z.natAbs).toNat=z.natAbs:=by rw[BitVec.toNat_ofNat];exact Nat.mod_eq_of_lt hsm
 rw[show (((toW z.natAbs).length:Int)==0)=false by rw[hlen];rfl]
 refine W.condF rfl (go ?_)
 refine L.zf (Cons.row (h:=hc) r8) rfl rfl rfl rfl rfl ?_
 refine L.el w8.1 (k:=0) rfl (wv_get hx) rfl rfl rfl rfl (fun _=>rfl) rfl (fun p=>?_)
 rw[show v64 (BitVec.ofNat 64 z.natAbs)=.int .u64 ((z.natAbs:Nat):Int) from congrArg (fun n:Nat=>Value.int .u64 (n:Int)) hxn]
 refine go ?_
 refine L.zf (Cons.row (h:=hc) r8) rfl rfl rfl rfl rfl (go ?_)
 by_cases hneg:z<0
 ·rw[show decide (z<0)=true from decide_eq_true hneg]
  refine go ?_
  cases hle:decide (((z.natAbs:Nat):Int)≤9223372036854775808)
  ·have:=of_decide_eq_false hle
   have hn:i64ok z=false:=by unfold i64ok;exact decide_eq_false (by omega)
   rw[hn]
   refine W.condF rfl (go ?_)
   refine L.zf (Cons.row (h:=hc) r8) rfl rfl rfl rfl rfl (go ?_)
   rw[show decide (z<0)=true from decide_eq_true hneg]
   refine go ?_
   refine W.condF rfl (go ?_)
   exact⟨.inr rfl,_,rfl,rfl,hcS⟩
  ·have:=of_decide_eq_true hle
   have hn:i64ok z=true:=by unfold i64ok;exact decide_eq_true (by omega)
   rw[hn]
   refine W.condT rfl (go ?_)
   refine⟨.inr rfl,_,rfl,?_,hcS⟩
   have e:IntKind.i64.wrap (IntKind.u64.wrap (0 - ((z.natAbs:Nat):Int)))=z:=by
    simp only [IntKind.wrap,IntKind.bits,IntKind.signed,Bool.false_and,Bool.true_and,Bool.false_eq_true,if_false,decide_eq_true_eq,ge_iff_le]
    split<;>omega
   show Value.tuple #[.int .i64 (IntKind.i64.wrap (IntKind.u64.wrap (0 - ((z.natAbs:Nat):Int)))),.bool true]=_
   rw[e];rfl
 ·rw[show decide (z<0)=false from decide_eq_false hneg]
  refine go ?_
  refine W.condF rfl (go ?_)
  refine L.zf (Cons.row (h:=hc) r8) rfl rfl rfl rfl rfl (go ?_)
  rw[show decide (z<0)=false from decide_eq_false hneg]
  refine go ?_
  cases hle:decide (((z.natAbs:Nat):Int)<9223372036854775808)
  ·have:=of_decide_eq_false hle
   have hn:i64ok z=false:=by unfold i64ok;exact decide_eq_false (by omega)
   rw[hn]
   refine W.condF rfl (go ?_)
   exact⟨.inr rfl,_,rfl,rfl,hcS⟩
  ·have:=of_decide_eq_true hle
   have hn:i64ok z=true:=by unfold i64ok;exact decide_eq_true (by omega)
   rw[hn]
   refine W.condT rfl (go ?_)
   refine⟨.inr rfl,_,rfl,?_,hcS⟩
   have e:IntKind.i64.wrap ((z.natAbs:Nat):Int)=z:=by rw[wrap64 (by omega) (by omega)];omega
   show Value.tuple #[.int .i64 (IntKind.i64.wrap ((z.natAbs:Nat):Int)),.bool true]=_
   rw[e];rfl
end
section
open Go Ie
variable {Ext:FuncId→List Value→Mem→Outc→Mem→Prop}
def zPE (n m:Bool) (l k:WL):Int:=if zfit l && zfit k then (if zv m k<0 then 20 else zE (zv n l^(zv m k).toNat)) else 3
theorem RetW.kne {S0 S1 T T':Mem} {d:Hd} {l:WL} {b:Nat} (h:RetW S1 T d l) (k:Keep b T T') (hb:∀ x,d.a=some x→x≠b) (hc:Cons S0 T') (h01:S0.length≤S1.length):RetW S0 T' d l:=
 ⟨hc,h.2.1,h.2.2.1.keep (bs:=[b]) (k.keepL (by simp)) (fun x hx=>by have:=hb x hx;simpa using this),fun x hx=>Nat.le_trans h01 (h.2.2.2 x hx)⟩
theorem zv_form (z:Int):zv (decide (z<0)) (toW z.natAbs)=z:=by
 rw[zv_toW]
 by_cases h:z<0
 ·rw[decide_eq_true h,if_pos rfl];omega
 ·rw[decide_eq_false h];simp only [Bool.false_eq_true,if_false];omega
theorem zfit_form {z:Int} (h:zE z=0):zfit (toW z.natAbs)=true:=by
 unfold zE at h
 split at h
 ·rename_i h1;unfold zfit;rw[wnum_toW];exact decide_eq_true h1
 ·cases h
theorem zE_vals (z:Int):zE z=0∨zE z=3:=by
 unfold zE
 split
 ·exact .inl rfl
 ·exact .inr rfl
theorem zE_up {a:Int} {i j:Nat} (ha:1≤a.natAbs) (hij:i≤j) (h:zE (a^i)=3):zE (a^j)=3:=by
 unfold zE at h ⊢
 rw[Int.natAbs_pow] at h ⊢
 split at h
 ·cases h
 ·rename_i h1
  have:=Nat.pow_le_pow_right ha hij
  rw[if_neg (by omega)]
theorem zE_big {a:Int} {j:Nat} (ha:2≤a.natAbs) (hj:4096≤j):zE (a^j)=3:=by
 unfold zE
 rw[Int.natAbs_pow,if_neg]
 have h1:=Nat.pow_le_pow_left ha j
 have h2:(2:Nat)^4096≤2^j:=Nat.pow_le_pow_right (by decide) hj
 omega
theorem half_bit (K s:Nat):K / 2^s=2*(K / 2^(s+1))+(if K.testBit s then 1 else 0):=by
 have e:K / 2^(s+1)=K / 2^s / 2:=by rw[Nat.pow_succ,Nat.div_div_eq_div_mul]
 rw[Nat.testBit_eq_decide_div_mod_eq,e]
 by_cases h:K / 2^s % 2=1
 ·rw[decide_eq_true h,if_pos rfl];omega
 ·rw[decide_eq_false h];simp only [Bool.false_eq_true,if_false];omega
theorem and_bit (K s:Nat) (hK:K≤4096) (hs:s≤12):(IntKind.i64.wrap ((BitVec.ofInt IntKind.i64.bits (K:Int) &&& BitVec.ofInt IntKind.i64.bits ((2^(s+1) / 2:Nat):Int)).toNat:Int) != 0)=K.testBit s:=by
 have e0:2^(s+1) / 2=2^s:=by rw[Nat.pow_succ,Nat.mul_div_cancel _ (by decide)]
 have hp:2^s≤2^12:=Nat.pow_le_pow_right (by decide) hs
 have e:(BitVec.ofInt 64 (K:Int) &&& BitVec.ofInt 64 ((2^(s+1) / 2:Nat):Int)).toNat=(K.testBit s).toNat * 2^s:=by
  rw[e0,BitVec.ofInt_natCast,BitVec.ofInt_natCast,BitVec.toNat_and,BitVec.toNat_ofNat,BitVec.toNat_ofNat,Nat.mod_eq_of_lt (by omega),Nat.mod_eq_of_lt (by omega)]
  refine Nat.eq_of_testBit_eq fun i=>?_
  rw[Nat.testBit_and,Nat.testBit_two_pow]
  cases h:K.testBit s
  ·rw[show (false.toNat * 2^s:Nat)=0 by simp,Nat.zero_testBit]
   by_cases hi:s=i
   ·subst hi;rw[h];rfl
   ·rw[decide_eq_false hi,Bool.and_false]
  ·rw[show (true.toNat * 2^s:Nat)=2^s by simp,Nat.testBit_two_pow]
   by_cases hi:s=i
   ·subst hi;rw[h,Bool.true_and]
   ·rw[decide_eq_false hi,Bool.and_false]
 show (IntKind.i64.wrap ((BitVec.ofInt 64 (K:Int) &&& BitVec.ofInt 64 ((2^(s+1) / 2:Nat):Int)).toNat:Int) != 0)=_
 rw[e]
 have h0:0<2^s:=Nat.two_pow_pos s
 cases h:K.testBit s
 ·rw[show ((false.toNat * 2^s:Nat):Int)=0 by simp];rfl
 ·rw[show (true.toNat * 2^s:Nat)=2^s by simp,wrap64 (by omega) (by omega)]
  exact bne_iff_ne.2 (by omega)
theorem zPow_C (n m:Bool) (a1 a2:Option Addr) (c1 c2:Nat) (l k:WL) (S:Mem) (h1:WIn S a1 c1 l) (h2:WIn S a2 c2 k) (hS:SinOk S) (hG:gN≤S.length) :
  C Tryz.prog gN Ext 12 [wZ n (.slice a1 l.length c1),wZ m (.slice a2 k.length c2)] S fun v S'=>ZAns S S' v (zPE n m l k) (zv n l^(zv m k).toNat):=by
 refine C.fn Tryz.func12 rfl (by kernel_rfl) rfl (go ?_)
 refine L.nr [.bool n,.slice a1 l.length c1] wT rfl rfl (fun b2 Tb2 gb2 kb2 rb2=>?_)
 refine L.nr [.bool m,.slice a2 k.length c2] wT rfl rfl (fun b3 Tb3 gb3 kb3 rb3=>?_)
 refine L.nr [.bool false,.slice none 0 0] wT rfl rfl (fun b4 Tb4 gb4 kb4 rb4=>?_)
 have kM:=(kb2.trans kb3).trans kb4
 have g4:S.length≤b4:=Nat.le_trans (kb2.trans kb3).len gb4
 replace rb2:=Cons.row (h:=kb3.trans kb4) rb2
 replace rb3:=Cons.row (h:=kb4) rb3
 replace h1:=h1.cons kM
 replace h2:=h2.cons kM
 have hc:=Cons.refl Tb4
 clear kb2 kb3 kb4 gb2 gb3 gb4
 refine go ?_
 refine L.z2 (Cons.row (h:=hc) rb2) rfl rfl rfl ?_
 refine L.z2 (Cons.row (h:=hc) rb3) rfl rfl rfl ?_
 refine L.bz [(n,⟨a1,c1,l⟩),(m,⟨a2,c2,k⟩)] rfl rfl rfl rfl rfl (fun bs Ts gs ks rs=>?_)
 replace hc:=hc.trans ks
 refine L.cl (zFit_C bs [(n,⟨a1,c1,l⟩),(m,⟨a2,c2,k⟩)] Ts rs (fun z hz=>by
  simp only [List.mem_cons,List.not_mem_nil,or_false] at hz
  rcases hz with rfl | rfl
  ·exact h1.cons hc
  ·exact h2.cons hc) (by simp)) rfl rfl ?_
 rintro _ Tf ⟨rfl,kf⟩
 refine⟨fun _=>kf,?_⟩
 replace hc:=hc.trans kf
 clear rs gs ks kf
 rw[show (([(n,WS.mk a1 c1 l),(m,WS.mk a2 c2 k)]:List ZW).all fun z=>zfit z.2.l)=(zfit l && zfit k) by simp]
 unfold zPE
 cases hz:(zfit l && zfit k)
 ·refine go ?_
  refine W.ite rfl (fun h=>?_) (fun h=>?_)
  ·refine go ?_
   refine L.b0 rfl ?_
   refine L.st2 (Cons.row (h:=hc) rb4) rfl rfl rfl rfl rfl rfl (fun T2 kk r2=>go ?_)
   exact⟨.inr rfl,_,res2 rfl (load2 r2 rfl),.no (kk.mono (kM.trans hc) g4) (by decide)⟩
  ·cases h
 rw[Bool.and_eq_true] at hz
 rw[if_pos rfl]
 refine go ?_
 refine W.condF rfl (go ?_)
 refine L.z2 (Cons.row (h:=hc) rb3) rfl rfl rfl ?_
 refine L.cv (zSign_C m a2 c2 k _ (h2.cons hc)) rfl rfl fun T1 k1=>?_
 replace hc:=hc.trans k1
 clear k1
 refine go ?_
 rcases cmpI_vals (zv m k) 0 with hx | hx | hx
 ·have ux:=cz1 hx
  rw[hx,if_pos ux]
  refine W.condT rfl (go ?_)
  refine L.b0 rfl ?_
  refine L.st2 (Cons.row (h:=hc) rb4) rfl rfl rfl rfl rfl rfl (fun T2 kk r2=>go ?_)
  exact⟨.inr rfl,_,res2 rfl (load2 r2 rfl),.no (kk.mono (kM.trans hc) g4) (by decide)⟩
 ·have ux:=cz0 hx
  rw[hx,if_neg (by omega),ux]
  refine W.condF rfl (go ?_)
  refine L.z2 (Cons.row (h:=hc) rb3) rfl rfl rfl ?_
  refine L.cv (zSign_C m a2 c2 k _ (h2.cons hc)) rfl rfl fun T1 k1=>?_
  replace hc:=hc.trans k1
  clear k1
  rw[hx]
  refine go ?_
  refine W.condT rfl (go ?_)
  refine L.cl (zInt_C 1 _ (by decide)) rfl rfl ?_
  rintro _ T9 ⟨d9,rfl,r9⟩
  refine⟨fun _=>r9.1,?_⟩
  refine L.st2 (Cons.row (h:=hc.trans r9.1) rb4) rfl rfl rfl rfl rfl rfl (fun T10 kk r10=>go ?_)
  have ep:zv n l^(0:Int).toNat=1:=Int.pow_zero _
  have e1:zE 1=0:=if_pos (show (1:Int).natAbs<2^4096 from Nat.one_lt_two_pow (by decide))
  rw[ep,e1]
  exact⟨.inr rfl,_,res2 rfl (load2 r10 rfl),d9,rfl,zfin kM hc r9 kk g4 rb4⟩
 have ux:=cz2 hx
 rw[hx,if_neg (by omega)]
 have hzk:=zv_pos_is (n:=m) (l:=k) (by omega)
 have hK:(zv m k).toNat=wnum k:=by rw[hzk];rfl
 rw[hK]
 have hK0:0<wnum k:=by omega
 generalize hKe:wnum k=K at *
 refine W.condF rfl (go ?_)
 refine L.z2 (Cons.row (h:=hc) rb3) rfl rfl rfl ?_
 refine L.cv (zSign_C m a2 c2 k _ (h2.cons hc)) rfl rfl fun T1 k1=>?_
 replace hc:=hc.trans k1
 clear k1
 rw[hx]
 refine go ?_
 refine W.condF rfl (go ?_)
 refine L.zf (Cons.row (h:=hc) rb2) rfl rfl rfl rfl rfl ?_
 refine L.cs (bits_C a1 c1 l _ (h1.cons hc)) rfl rfl (go ?_)
 have hab:=zv_abs n l
 have hb1:=@blen_le (wnum l) 1
 rw[Nat.pow_one] at hb1
 refine W.ite rfl (fun h=>?_) (fun h=>?_)
 ·have hA:wnum l<2:=hb1.1 (by have:=of_decide_eq_true h;omega)
  clear h hb1
  refine go ?_
  refine L.zf (Cons.row (h:=hc) rb2) rfl rfl rfl rfl rfl (go ?_)
  cases n
  ·refine go ?_
   refine L.zf (Cons.row (h:=hc) rb2) rfl rfl rfl rfl rfl ?_
   rw[show zv false l^K=zv false l by
    rw[zv_false]
    rcases (show wnum l=0∨wnum l=1 by omega) with h | h<;>rw[h]
    ·exact Int.zero_pow (by omega)
    ·exact Int.one_pow ..]
   refine L.cl (zMake_C false a1 c1 l _ (h1.cons hc)) rfl rfl ?_
   rintro _ T9 ⟨d9,rfl,r9⟩
   refine⟨fun _=>r9.1,go ?_⟩
   refine L.st2 (Cons.row (h:=hc.trans r9.1) rb4) rfl rfl rfl rfl rfl rfl (fun T10 kk r10=>go ?_)
   exact⟨.inr rfl,_,res2 rfl (load2 r10 rfl),d9,rfl,zfin kM hc r9 kk g4 rb4⟩
  ·refine go ?_
   obtain⟨x,hx0⟩:∃ x,k[0]?=some x:=by
    cases k with
    | nil=>exfalso;rw[← hKe] at hK0;exact absurd hK0 (by decide)
    | cons x t=>exact⟨x,rfl⟩
   have hpar:x.toNat % 2=K % 2:=by
    have h:=wnum_head k
    rw[hKe,List.getD_eq_getElem?_getD,hx0] at h
    have h:K % 18446744073709551616=x.toNat:=h
    omega
   refine L.zf (Cons.row (h:=hc) rb3) rfl rfl rfl rfl rfl ?_
   refine L.el (h2.cons hc).1 (k:=0) rfl (wv_get hx0) rfl rfl rfl rfl (fun _=>rfl) rfl (fun p=>go ?_)
   rw[show (Int.tmod (x.toNat:Int) 2==1)=decide (K % 2=1) by
    rw[show Int.tmod (x.toNat:Int) 2=((x.toNat % 2:Nat):Int) from (Int.ofNat_tmod _ 2).symm,Bool.eq_iff_iff,beq_iff_eq,decide_eq_true_eq]
    omega]
   refine L.zf (Cons.row (h:=hc) rb2) rfl rfl rfl rfl rfl ?_
   rw[show zv true l^K=zv (decide (K % 2=1)) l by
    rcases (show wnum l=0∨wnum l=1 by omega) with h | h
    ·rw[show zv true l=0 by rw[zv_true,h];rfl,Int.zero_pow (by omega)]
     unfold zv
     rw[h]
     split<;>rfl
    ·rw[show zv true l=-1 by rw[zv_true,h];rfl]
     by_cases ho:K % 2=1
     ·rw[decide_eq_true ho,zv_true,h,show K=2*(K / 2)+1 by omega,Int.pow_succ,Int.pow_mul]
      rw[show ((-1:Int)^2)=1 from rfl,Int.one_pow];rfl
     ·rw[decide_eq_false ho,zv_false,h,show K=2*(K / 2) by omega,Int.pow_mul]
      rw[show ((-1:Int)^2)=1 from rfl,Int.one_pow];rfl]
   refine L.cl (zMake_C (decide (K % 2=1)) a1 c1 l _ (h1.cons hc)) rfl rfl ?_
   rintro _ T9 ⟨d9,rfl,r9⟩
   refine⟨fun _=>r9.1,go ?_⟩
   refine L.st2 (Cons.row (h:=hc.trans r9.1) rb4) rfl rfl rfl rfl rfl rfl (fun T10 kk r10=>go ?_)
   exact⟨.inr rfl,_,res2 rfl (load2 r10 rfl),d9,rfl,zfin kM hc r9 kk g4 rb4⟩
 have hA:2≤(zv n l).natAbs:=by have:=of_decide_eq_false h;omega
 clear h hb1
 refine go ?_
 refine L.z2 (Cons.row (h:=hc) rb3) rfl rfl rfl ?_
 refine L.cv (zInt64_C m a2 c2 k _ (h2.cons hc)) rfl rfl fun T1 k1=>?_
 replace hc:=hc.trans k1
 clear k1
 refine go ?_
 rw[hzk]
 have hin:(K≤4096∧i64ok (K:Int)=true)∨(4096<K∧i64ok (K:Int)=true)∨(4096<K∧i64ok (K:Int)=false):=by
  by_cases h4:K≤4096
  ·exact .inl ⟨h4,decide_eq_true ⟨by omega,by omega⟩⟩
  ·by_cases h:(-9223372036854775808≤(K:Int)∧(K:Int)<9223372036854775808)
   ·exact .inr (.inl ⟨by omega,decide_eq_true h⟩)
   ·exact .inr (.inr ⟨by omega,decide_eq_false h⟩)
 rcases hin with ⟨hK4,hok⟩ | ⟨hK4,hok⟩ | ⟨hK4,hok⟩
 rotate_left
 ·rw[hok,zE_big hA (by omega)]
  rw[if_pos rfl]
  refine go ?_
  rw[show decide ((K:Int) > 4096)=true from decide_eq_true (by omega)]
  refine W.condT rfl (go ?_)
  refine L.b0 rfl ?_
  refine L.st2 (Cons.row (h:=hc) rb4) rfl rfl rfl rfl rfl rfl (fun T2 kk r2=>go ?_)
  exact⟨.inr rfl,_,res2 rfl (load2 r2 rfl),.no (kk.mono (kM.trans hc) g4) (by decide)⟩
 ·rw[hok,zE_big hA (by omega)]
  refine go ?_
  refine W.condT rfl (go ?_)
  refine L.b0 rfl ?_
  refine L.st2 (Cons.row (h:=hc) rb4) rfl rfl rfl rfl rfl rfl (fun T2 kk r2=>go ?_)
  exact⟨.inr rfl,_,res2 rfl (load2 r2 rfl),.no (kk.mono (kM.trans hc) g4) (by decide)⟩
 rw[hok,if_pos rfl]
 refine go ?_
 rw[show decide ((K:Int) > 4096)=false from decide_eq_false (by omega)]
 refine W.condF rfl (go ?_)
 refine L.cl (zInt_C 1 _ (by decide)) rfl rfl ?_
 rintro _ T9 ⟨d9,rfl,r9⟩
 refine⟨fun _=>r9.1,?_⟩
 refine L.nr [.bool false,.slice none 0 0] wT rfl rfl (fun b8 T10 g8 k8 r8=>?_)
 refine L.st2 r8 rfl rfl rfl rfl rfl rfl (fun T11 kk r11=>?_)
 have hM8:Tb4.length≤b8:=Nat.le_trans (hc.trans r9.1).len g8
 have hc11:Cons Tb4 T11:=kk.mono ((hc.trans r9.1).trans k8) hM8
 have hd9:∀ x,d9.a=some x→x≠b8:=fun x hx=>by have:=r9.2.2.1.lt hx;omega
 have ho9:RetW Tb4 T11 d9 (toW (1:Int).natAbs):=(r9.post k8).kne kk hd9 hc11 hc.len
 refine go ?_
 generalize hzl:zv n l=za at *
 refine W.loop (fun j e T=>j≤13∧Cons Tb4 T∧e 2=.pointer (some ⟨b2,0,none⟩)∧e 4=.pointer (some ⟨b4,0,none⟩)∧e 6=.int .i64 (K:Int)∧e 8=.pointer (some ⟨b8,0,none⟩)∧e 9=.int .i64 ((2^j / 2:Nat):Int)∧zE (za^(K / 2^j))=0 ∧
   ∃ d:Hd,RetW Tb4 T d (toW (za^(K / 2^j)).natAbs)∧(∀ x,d.a=some x→x≠b8)∧T.row? b8=some (newR [.bool (decide (za^(K / 2^j)<0)),d.v] wT)) 13 ?_ ?_
 ·rw[show K / 2^13=0 from Nat.div_eq_of_lt (by omega),Int.pow_zero]
  exact⟨Nat.le_refl _,hc11,rfl,rfl,rfl,rfl,rfl,by unfold zE;exact if_pos (show (1:Int).natAbs<2^4096 from Nat.one_lt_two_pow (by decide)),d9,ho9,hd9,r11⟩
 clear hc hc11 ho9 hd9 r11 kk k8 r8 g8 r9
 rintro i e T ⟨hi,hc,e2,e4,e6,e8,e9,hE,d,hR,hne,rb8⟩
 refine W.env5 e2 e4 e6 e8 e9 ?_
 clear e2 e4 e6 e8 e9
 refine go ?_
 have fitL:zfit l=true:=hz.1
 cases i with
 | zero=>
  refine W.condF rfl (go ?_)
  rw[Nat.pow_zero,Nat.div_one] at hE hR rb8
  refine L.z2 rb8 rfl rfl rfl ?_
  refine L.st2 (Cons.row (h:=hc) rb4) rfl rfl rfl rfl rfl rfl (fun T10 kk r10=>go ?_)
  rw[hE]
  refine⟨.inr rfl,_,res2 rfl (load2 r10 rfl),d,rfl,?_⟩
  have hl4:=row_lt rb4
  exact hR.kne kk (fun x hx=>by have:=hR.2.2.2 x hx;omega) (kk.mono (kM.trans hc) g4) kM.len
 | succ s=>
  refine W.ite rfl (fun h=>?_) (fun h=>?_)
  rotate_left
  ·have:=of_decide_eq_false h
   have h1:2^(s+1) / 2=2^s:=by rw[Nat.pow_succ,Nat.mul_div_cancel _ (by decide)]
   have:=Nat.two_pow_pos s
   omega
  clear h
  have hb:=half_bit K s
  generalize hJ:K / 2^(s+1)=J at *
  generalize hO:za^J=o at *
  have hlt8:=row_lt rb8
  have w0:=hR.win
  refine go ?_
  rw[hR.val] at rb8
  refine L.z2 rb8 rfl rfl rfl ?_
  refine L.z2 rb8 rfl rfl rfl ?_
  refine L.cl (zMul_C (decide (o<0)) (decide (o<0)) _ _ _ _ (toW o.natAbs) (toW o.natAbs) T w0 w0 (hS.cons (kM.trans hc)) (Nat.le_trans hG (kM.trans hc).len)) rfl rfl ?_
  rintro _ T2 ⟨d2,rfl,r2⟩
  refine⟨fun _=>r2.1,?_⟩
  have eE:zE2 (toW o.natAbs) (toW o.natAbs) (zv (decide (o<0)) (toW o.natAbs)*zv (decide (o<0)) (toW o.natAbs))=zE (za^(2*J)):=by
   unfold zE2
   rw[zfit_form hE,Bool.and_self,if_pos rfl,zv_form,← hO,← Int.pow_add,Nat.two_mul]
  have eZ:zv (decide (o<0)) (toW o.natAbs)*zv (decide (o<0)) (toW o.natAbs)=za^(2*J):=by
   rw[zv_form,← hO,← Int.pow_add,Nat.two_mul]
  rw[eE,eZ] at r2 ⊢
  clear eE eZ
  refine go ?_
  refine L.st2 (Cons.row (h:=r2.1) rb8) rfl rfl rfl rfl rfl rfl (fun T3 kk3 r3=>?_)
  have hc3:Cons Tb4 T3:=kk3.mono (hc.trans r2.1) hM8
  have hR3:=r2.kp kk3 hlt8 hc3 hc.len
  have hne3:∀ x,d2.a=some x→x≠b8:=fun x hx=>by have:=r2.2.2.2 x hx;omega
  refine go ?_
  rcases zE_vals (za^(2*J)) with hE2 | hE2
  rotate_left
  ·have hfin:zE (za^K)=3:=by
    refine zE_up (i:=2*J) (by omega) ?_ hE2
    rw[← hJ]
    have h1:=Nat.div_mul_le_self K (2^(s+1))
    have h2:2*(K / 2^(s+1))≤K / 2^(s+1)*2^(s+1):=by
     rw[Nat.mul_comm 2]
     exact Nat.mul_le_mul_left _ (by rw[Nat.pow_succ];have:=Nat.two_pow_pos s;omega)
    omega
   rw[hE2,hfin]
   replace hc:=hc3
   refine go ?_
   refine W.condF rfl (go ?_)
   refine W.condT rfl (go ?_)
   refine L.b0 rfl (go ?_)
   refine L.st2 (Cons.row (h:=hc) rb4) rfl rfl rfl rfl rfl rfl (fun T2 kk r2=>go ?_)
   exact⟨.inr rfl,_,res2 rfl (load2 r2 rfl),.no (kk.mono (kM.trans hc) g4) (by decide)⟩
  rw[hE2] at hR3 r3 ⊢
  have zl0:zL 0 (za^(2*J))=toW (za^(2*J)).natAbs:=if_pos rfl
  have zn0:zN 0 (za^(2*J))=decide (za^(2*J)<0):=if_pos rfl
  rw[zl0] at hR3
  rw[zn0] at r3
  have hbit:=and_bit K s hK4 (by omega)
  generalize hO2:za^(2*J)=o2 at *
  have hshr:∀ x:Nat,x=2^(s+1) / 2→Value.int .i64 (Int.fdiv ((x:Nat):Int) (2^1))=Value.int .i64 ((2^s / 2:Nat):Int):=fun x hx=>by
   subst hx
   rw[show 2^(s+1) / 2=2^s by rw[Nat.pow_succ,Nat.mul_div_cancel _ (by decide)]]
   refine congrArg (Value.int .i64) ?_
   rw[Int.fdiv_eq_ediv_of_nonneg _ (by decide)]
   rfl
  refine go ?_
  refine W.ite (t:=K.testBit s) ((force_eq rfl).trans (congrArg Value.bool hbit)) (fun hbt=>?_) (fun hbt=>?_)
  rotate_left
  ·rw[hbt] at hb
   refine go ?_
   refine W.condF rfl (go ?_)
   refine⟨s,by omega,by omega,hc3,rfl,rfl,rfl,rfl,?_,?_,?_⟩
   ·exact(force_eq rfl).trans (hshr _ rfl)
   ·rw[hb,if_neg (by decide),Nat.add_zero,hO2];exact hE2
   ·rw[hb,if_neg (by decide),Nat.add_zero,hO2];exact⟨d2,hR3,hne3,r3⟩
  ·rw[hbt,if_pos rfl] at hb
   have w2:=hR3.win
   rw[hR3.val] at r3
   refine go ?_
   refine L.z2 r3 rfl rfl rfl ?_
   refine L.z2 (Cons.row (h:=hc3) rb2) rfl rfl rfl ?_
   have hlt8:=row_lt r3
   refine L.cl (zMul_C (decide (o2<0)) n _ _ _ _ (toW o2.natAbs) l T3 w2 (h1.cons hc3) (hS.cons (kM.trans hc3)) (Nat.le_trans hG (kM.trans hc3).len)) rfl rfl ?_
   rintro _ T4 ⟨d4,rfl,r4⟩
   refine⟨fun _=>r4.1,?_⟩
   have eZ:zv (decide (o2<0)) (toW o2.natAbs)*zv n l=za^(2*J+1):=by
    rw[zv_form,hzl,← hO2,Int.pow_succ]
   have eE:zE2 (toW o2.natAbs) l (zv (decide (o2<0)) (toW o2.natAbs)*zv n l)=zE (za^(2*J+1)):=by
    unfold zE2
    rw[zfit_form hE2,fitL,Bool.and_self,if_pos rfl,eZ]
   rw[eE,eZ] at r4 ⊢
   clear eE eZ
   refine go ?_
   refine L.st2 (Cons.row (h:=r4.1) r3) rfl rfl rfl rfl rfl rfl (fun T5 kk5 r5=>?_)
   have hc5:Cons Tb4 T5:=kk5.mono (hc3.trans r4.1) hM8
   have hR5:=r4.kp kk5 hlt8 hc5 hc3.len
   have hne5:∀ x,d4.a=some x→x≠b8:=fun x hx=>by have:=r4.2.2.2 x hx;omega
   refine go ?_
   rcases zE_vals (za^(2*J+1)) with hE4 | hE4
   ·rw[hE4] at hR5 r5 ⊢
    rw[show zL 0 (za^(2*J+1))=toW (za^(2*J+1)).natAbs from if_pos rfl] at hR5
    rw[show zN 0 (za^(2*J+1))=decide (za^(2*J+1)<0) from if_pos rfl] at r5
    refine W.condF rfl (go ?_)
    refine⟨s,by omega,by omega,hc5,rfl,rfl,rfl,rfl,?_,?_,?_⟩
    ·exact(force_eq rfl).trans (hshr _ rfl)
    ·rw[hb];exact hE4
    ·rw[hb];exact⟨d4,hR5,hne5,r5⟩
   ·have hfin:zE (za^K)=3:=by
     refine zE_up (i:=2*J+1) (by omega) ?_ hE4
     rw[← hb]
     exact Nat.div_le_self _ _
    rw[hE4,hfin]
    replace hc:=hc5
    refine W.condT rfl (go ?_)
    refine L.b0 rfl (go ?_)
    refine L.st2 (Cons.row (h:=hc) rb4) rfl rfl rfl rfl rfl rfl (fun T2 kk r2=>go ?_)
    exact⟨.inr rfl,_,res2 rfl (load2 r2 rfl),.no (kk.mono (kM.trans hc) g4) (by decide)⟩
end
section
open Go Ie
variable {Ext:FuncId→List Value→Mem→Outc→Mem→Prop}
def ZIs (S:Mem) (u:Value) (z:Int):Prop:=∃ a c,u=.agg #[.bool (decide (z<0)),.slice a (toW z.natAbs).length c]∧WIn S a c (toW z.natAbs)
theorem ZIs.cons {S S':Mem} {u:Value} {z:Int} (h:ZIs S u z) (k:Cons S S'):ZIs S' u z:=let ⟨a,c,e,w⟩:=h;⟨a,c,e,w.cons k⟩
theorem ZIs.zero (S:Mem):ZIs S (.agg #[.bool false,.slice none 0 0]) 0:=⟨none,0,by rw[show (0:Int).natAbs=0 from rfl,toW_zero];rfl,by rw[show (0:Int).natAbs=0 from rfl,toW_zero];exact nilZ S⟩
def zok (z:Int):Prop:=z.natAbs<2^4096
theorem zok_E {z:Int} (h:zok z):zE z=0:=if_pos h
theorem zok_fit {z:Int} (h:zok z):zfit (toW z.natAbs)=true:=zfit_form (zok_E h)
def ZFr (N:Nat) (u:Value):Prop:=∀ b a n c,u=.agg #[b,.slice (some a) n c]→N≤a.block
theorem ZFr.of {S S':Mem} {d:Hd} {l:WL} {b:Value} (r:RetW S S' d l):ZFr S.length (.agg #[b,.slice d.ad l.length d.c]):=fun b' a n c e=>by
 simp only [Value.agg.injEq,Array.mk.injEq,List.cons.injEq,Value.slice.injEq] at e
 exact(r.own.1.2 a e.2.1.1).2.2.1
def ZR (S S':Mem) (w:Value) (E z:Int):Prop:=∃ u,w=.tuple #[u,.int .i64 E]∧Cons S S'∧ZIs S' u (if E=0 then z else 0)∧ZFr S.length u
theorem ZAns.zr {S S':Mem} {w:Value} {E z:Int} (h:ZAns S S' w E z):ZR S S' w E z:=by
 obtain⟨d,rfl,r⟩:=h
 refine⟨_,rfl,r.1,?_⟩
 by_cases hE:E=0
 ·subst hE
  rw[if_pos rfl]
  have e:zL 0 z=toW z.natAbs:=if_pos rfl
  rw[e] at r
  rw[r.val]
  exact⟨⟨_,_,rfl,r.win⟩,.of r⟩
 ·rw[if_neg hE]
  have e:zL E z=[]:=if_neg hE
  have e2:zN E z=false:=if_neg hE
  rw[e] at r
  rw[r.val,e2]
  exact⟨⟨d.ad,d.c,by rw[show (0:Int).natAbs=0 from rfl,toW_zero];rfl,by rw[show (0:Int).natAbs=0 from rfl,toW_zero];exact r.win⟩,.of r⟩
theorem ZR.ok {S S':Mem} {w:Value} {E z:Int} (h:ZR S S' w E z) (hE:E=0):∃ u,w=.tuple #[u,.int .i64 0]∧Cons S S'∧ZIs S' u z∧ZFr S.length u:=by
 subst hE
 obtain⟨u,e,k,h⟩:=h
 exact⟨u,e,k,h⟩
section
variable {S:Mem} {u v:Value} {x y:Int}
theorem nAdd_C (hx:ZIs S u x) (hy:ZIs S v y) (fx:zok x) (fy:zok y):C Tryz.prog gN Ext 30 [u,v] S fun w S'=>ZR S S' w (zE (x+y)) (x+y):=by
 obtain⟨a,c,rfl,w1⟩:=hx
 obtain⟨a2,c2,rfl,w2⟩:=hy
 refine(zAdd_C _ _ a a2 c c2 _ _ S w1 w2).mono fun w S' h=>?_
 rw[zv_form,zv_form] at h
 unfold zE2 at h
 rw[zok_fit fx,zok_fit fy,Bool.and_self,if_pos rfl] at h
 exact h.zr
theorem nMul_C (hx:ZIs S u x) (hy:ZIs S v y) (fx:zok x) (fy:zok y) (hS:SinOk S) (hG:gN≤S.length):C Tryz.prog gN Ext 24 [u,v] S fun w S'=>ZR S S' w (zE (x*y)) (x*y):=by
 obtain⟨a,c,rfl,w1⟩:=hx
 obtain⟨a2,c2,rfl,w2⟩:=hy
 refine(zMul_C _ _ a a2 c c2 _ _ S w1 w2 hS hG).mono fun w S' h=>?_
 rw[zv_form,zv_form] at h
 unfold zE2 at h
 rw[zok_fit fx,zok_fit fy,Bool.and_self,if_pos rfl] at h
 exact h.zr
theorem zde_form (fx:zok x) (fy:zok y):zDE (toW x.natAbs) (toW y.natAbs)=if y=0 then 11 else 0:=by
 unfold zDE
 rw[zok_fit fx,zok_fit fy,Bool.and_self,if_pos rfl,wnum_toW]
 by_cases h:y=0
 ·subst h;rfl
 ·rw[if_neg h,if_neg (by omega)]
theorem nQuo_C (hx:ZIs S u x) (hy:ZIs S v y) (fx:zok x) (fy:zok y):C Tryz.prog gN Ext 26 [u,v] S fun w S'=>ZR S S' w (if y=0 then 11 else 0) (x.tdiv y):=by
 obtain⟨a,c,rfl,w1⟩:=hx
 obtain⟨a2,c2,rfl,w2⟩:=hy
 refine(zQuo_C _ _ a a2 c c2 _ _ S w1 w2).mono fun w S' h=>?_
 rw[zv_form,zv_form,zde_form fx fy] at h
 exact h.zr
theorem nRem_C (hx:ZIs S u x) (hy:ZIs S v y) (fx:zok x) (fy:zok y):C Tryz.prog gN Ext 27 [u,v] S fun w S'=>ZR S S' w (if y=0 then 11 else 0) (x.tmod y):=by
 obtain⟨a,c,rfl,w1⟩:=hx
 obtain⟨a2,c2,rfl,w2⟩:=hy
 refine(zRem_C _ _ a a2 c c2 _ _ S w1 w2).mono fun w S' h=>?_
 rw[zv_form,zv_form,zde_form fx fy] at h
 exact h.zr
theorem nPow_C (hx:ZIs S u x) (hy:ZIs S v y) (fx:zok x) (fy:zok y) (hS:SinOk S) (hG:gN≤S.length):C Tryz.prog gN Ext 12 [u,v] S fun w S'=>ZR S S' w (if y<0 then 20 else zE (x^y.toNat)) (x^y.toNat):=by
 obtain⟨a,c,rfl,w1⟩:=hx
 obtain⟨a2,c2,rfl,w2⟩:=hy
 refine(zPow_C _ _ a a2 c c2 _ _ S w1 w2 hS hG).mono fun w S' h=>?_
 unfold zPE at h
 rw[zv_form,zv_form,zok_fit fx,zok_fit fy,Bool.and_self,if_pos rfl] at h
 exact h.zr
theorem nSign_C (hx:ZIs S u x):C Tryz.prog gN Ext 28 [u] S fun w S'=>w=.int .i64 (cmpI x 0)∧Cons S S':=by
 obtain⟨a,c,rfl,w1⟩:=hx
 refine(zSign_C _ a c _ S w1).mono fun w S' h=>?_
 rw[zv_form] at h
 exact h
theorem nCmp_C (hx:ZIs S u x) (hy:ZIs S v y):C Tryz.prog gN Ext 29 [u,v] S fun w S'=>w=.int .i64 (cmpI x y)∧Cons S S':=by
 obtain⟨a,c,rfl,w1⟩:=hx
 obtain⟨a2,c2,rfl,w2⟩:=hy
 refine(zCmp_C _ _ a a2 c c2 _ _ S w1 w2).mono fun w S' h=>?_
 rw[zv_form,zv_form] at h
 exact h
theorem nInt64_C (hx:ZIs S u x):C Tryz.prog gN Ext 34 [u] S fun w S'=>w=.tuple #[.int .i64 (if i64ok x then x else 0),.bool (i64ok x)]∧Cons S S':=by
 obtain⟨a,c,rfl,w1⟩:=hx
 refine(zInt64_C _ a c _ S w1).mono fun w S' h=>?_
 rw[zv_form] at h
 exact h
theorem nInt_C (z:Int) (hz:-9223372036854775808≤z∧z≤9223372036854775807):C Tryz.prog gN Ext 21 [.int .i64 z] S fun w S'=>ZIs S' w z∧Cons S S'∧ZFr S.length w:=by
 refine(zInt_C z S hz).mono fun w S' h=>?_
 obtain⟨d,rfl,r⟩:=h
 rw[r.val]
 exact⟨⟨_,_,rfl,r.win⟩,r.1,.of r⟩
theorem zeq_parts:((decide (x<0)==decide (y<0)) && (toW x.natAbs==toW y.natAbs))=decide (x=y):=by
 rw[Bool.eq_iff_iff,Bool.and_eq_true,beq_iff_eq,beq_iff_eq,decide_eq_true_eq,decide_eq_decide]
 constructor
 ·rintro ⟨h1,h2⟩
  have h3:x.natAbs=y.natAbs:=by rw[← wnum_toW x.natAbs,h2,wnum_toW]
  omega
 ·rintro rfl
  exact⟨Iff.rfl,rfl⟩
theorem nSame_C (hx:ZIs S u x) (hy:ZIs S v y):C Tryz.prog gN Ext 49 [u,v] S fun w S'=>w=.bool (decide (x=y))∧Cons S S':=by
 obtain⟨a1,c1,rfl,h1⟩:=hx
 obtain⟨a2,c2,rfl,h2⟩:=hy
 rw[← zeq_parts]
 generalize toW x.natAbs=l at *
 generalize toW y.natAbs=k at *
 generalize decide (x<0)=n at *
 generalize decide (y<0)=m at *
 refine C.fn Tryz.func49 rfl (by kernel_rfl) rfl (go ?_)
 refine L.nr [.bool n,.slice a1 l.length c1] wT rfl rfl (fun b2 Tb2 gb2 kb2 rb2=>?_)
 refine L.nr [.bool m,.slice a2 k.length c2] wT rfl rfl (fun b3 Tb3 gb3 kb3 rb3=>?_)
 have kM:=kb2.trans kb3
 replace rb2:=Cons.row (h:=kb3) rb2
 replace h1:=h1.cons kM
 replace h2:=h2.cons kM
 have hc:=Cons.refl Tb3
 clear kb2 kb3 gb2 gb3
 refine go ?_
 refine L.zf (Cons.row (h:=hc) rb2) rfl rfl rfl rfl rfl (go ?_)
 refine L.zf (Cons.row (h:=hc) rb3) rfl rfl rfl rfl rfl (go ?_)
 cases hnm:(n==m)
 ·refine go ?_
  exact⟨.inr rfl,_,rfl,rfl,kM⟩
 refine go ?_
 refine L.zf (Cons.row (h:=hc) rb2) rfl rfl rfl rfl rfl (go ?_)
 refine L.zf (Cons.row (h:=hc) rb3) rfl rfl rfl rfl rfl ?_
 refine L.cs (sameW_C _ _ l k l.length k.length _ (h1.cons hc).1 (h2.cons hc).1 h1.2.2.2 h2.2.2.2) rfl rfl (go ?_)
 exact⟨.inr rfl,_,rfl,by rw[Bool.true_and];rfl,kM.trans hc⟩
end
end
section
open Go Ie
def ZCell (T:Mem) (b:Nat) (z:Int):Prop:=∃ a c,T.row? b=some (newR [.bool (decide (z<0)),.slice a (toW z.natAbs).length c] wT)∧WIn T a c (toW z.natAbs)
def Zs (T:Mem) (L:List (Nat × Int)):Prop:=∀ p∈L,ZCell T p.1 p.2
theorem Zs.nil (T:Mem):Zs T []:=fun p hp=>by simp at hp
theorem ZCell.cons {T T':Mem} {b:Nat} {z:Int} (h:ZCell T b z) (k:Cons T T'):ZCell T' b z:=let ⟨a,c,r,w⟩:=h;⟨a,c,Cons.row (h:=k) r,w.cons k⟩
theorem Zs.cons {T T':Mem} {L:List (Nat × Int)} (h:Zs T L) (k:Cons T T'):Zs T' L:=fun p hp=>(h p hp).cons k
theorem Zs.add {T:Mem} {L:List (Nat × Int)} {b:Nat} {z:Int} (h:Zs T L) (w:ZCell T b z):Zs T (L++[(b,z)]):=fun p hp=>by
 rcases List.mem_append.1 hp with hp | hp
 ·exact h p hp
 ·obtain rfl:p=(b,z):=by simpa using hp
  exact w
theorem Zs.at {T:Mem} {L:List (Nat × Int)} {b:Nat} {z:Int} (h:Zs T L) (i:Nat) (e:L[i]?=some (b,z)):ZCell T b z:=h _ (List.mem_of_getElem? e)
section
variable {P:Program} {G:Nat} {Ext:FuncId→List Value→Mem→Outc→Mem→Prop} {e:Env} {S:Mem} {fl:Bool} {ops:Array Oper} {K:Kont}
variable {rest:List Oper} {dst:Option Tmp} {ty:TypeId} {pos:String} {af:Array Edge} {gd:Option (Nat × Bool)}
theorem L.zl {t:TypeId} {x:Operand} {b:Nat} {z:Int} (hc:ZCell S b z) (hw:awanted ops ⟨dst,.load t x,ty,pos,af,gd⟩ e=true) (hx:e.eval x=.pointer (some ⟨b,0,none⟩)) (hl:aggSize P t=some 2)
  (h:∀ u,ZIs S u z→L P G Ext fl ops rest (e.put dst u) S K):L P G Ext fl ops (⟨dst,.load t x,ty,pos,af,gd⟩ :: rest) e S K:=by
 obtain⟨a,c,r,w⟩:=hc
 exact L.ldA (a:=⟨b,0,none⟩) (n:=2) (cellsAt_of (o:=0) (n:=2) r (Nat.le_refl 2)) hw hx hl (h _ ⟨a,c,rfl,w⟩)
end
variable {Ext:FuncId→List Value→Mem→Outc→Mem→Prop} {S:Mem} {u v:Value} {x y:Int}
theorem zSum_C (hx:ZIs S u x) (hy:ZIs S v y) (fx:zok x) (fy:zok y) (fs:zok (x+y)):C Tryz.prog gN Ext 22 [u,v] S fun w S'=>ZIs S' w (x+y)∧Cons S S'∧ZFr S.length w:=by
 refine C.fn Tryz.func22 rfl (by kernel_rfl) rfl ?_
 have hZ:=Zs.nil S
 have hc:=Cons.refl S
 refine go ?_
 obtain⟨aa,cc,rfl,ww⟩:=hx
 refine L.nr [.bool _,.slice aa _ cc] wT rfl rfl (fun b2 T' k' g' r'=>?_)
 replace hZ:=(hZ.cons g').add ⟨aa,cc,r',ww.cons g'⟩
 replace hc:=hc.trans g'
 clear g' k' r' ww
 replace hy:=hy.cons hc
 obtain⟨aa,cc,rfl,ww⟩:=hy
 refine L.nr [.bool _,.slice aa _ cc] wT rfl rfl (fun b3 T' k' g' r'=>?_)
 replace hZ:=(hZ.cons g').add ⟨aa,cc,r',ww.cons g'⟩
 replace hc:=hc.trans g'
 clear g' k' r' ww
 refine L.nr [.bool false,.slice none 0 0] wT rfl rfl (fun b4 Tb4 gb4 kb4 rb4=>?_)
 replace hZ:=hZ.cons kb4
 have kM:=hc.trans kb4
 have g4:S.length≤b4:=Nat.le_trans hc.len gb4
 clear hc
 have hc:=Cons.refl Tb4
 refine go ?_
 refine L.zl (hZ.at 0 rfl) rfl rfl rfl (fun u1 hu1=>?_)
 refine L.zl (hZ.at 1 rfl) rfl rfl rfl (fun u2 hu2=>?_)
 have hl9:=hc.len
 refine L.cl (nAdd_C hu1 hu2 fx fy) rfl rfl ?_
 rintro _ T' hr
 refine⟨fun _=>let ⟨_,_,k,_⟩:=hr;k,?_⟩
 obtain⟨_,rfl,k',⟨a9,c9,rfl,w9⟩,hf9⟩:=hr.ok (zok_E fs)
 clear hr
 replace hZ:=hZ.cons k'
 replace hc:=hc.trans k'
 refine go ?_
 refine L.nr [.bool false,.slice none 0 0] wT rfl rfl (fun b5 T5 g5 k5 r5=>?_)
 have hne:∀ x,a9=some x→x.block≠b4:=fun x hx=>by
  subst hx
  have:=hf9 _ _ _ _ rfl
  have:=row_lt rb4
  omega
 refine L.st2 r5 rfl rfl rfl rfl rfl rfl (fun T6 kk6 r6=>?_)
 have kx:=kk6.mono k5 g5
 replace w9:=w9.cons kx
 replace hc:=hc.trans kx
 refine go ?_
 refine L.z2 r6 rfl rfl rfl ?_
 refine L.st2 (Cons.row (h:=hc) rb4) rfl rfl rfl rfl rfl rfl (fun T7 kk7 r7=>go ?_)
 exact⟨.inr rfl,_,res1 rfl (load2 r7 rfl),⟨a9,c9,rfl,w9.keepb kk7 hne⟩,kk7.mono (kM.trans hc) g4,fun b a n c e=>Nat.le_trans (Nat.le_trans kM.len hl9) (hf9 b a n c e)⟩
theorem zProd_C (hx:ZIs S u x) (hy:ZIs S v y) (fx:zok x) (fy:zok y) (fs:zok (x*y)) (hS:SinOk S) (hG:gN≤S.length):C Tryz.prog gN Ext 23 [u,v] S fun w S'=>ZIs S' w (x*y)∧Cons S S'∧ZFr S.length w:=by
 refine C.fn Tryz.func23 rfl (by kernel_rfl) rfl ?_
 have hZ:=Zs.nil S
 have hc:=Cons.refl S
 refine go ?_
 obtain⟨aa,cc,rfl,ww⟩:=hx
 refine L.nr [.bool _,.slice aa _ cc] wT rfl rfl (fun b2 T' k' g' r'=>?_)
 replace hZ:=(hZ.cons g').add ⟨aa,cc,r',ww.cons g'⟩
 replace hc:=hc.trans g'
 clear g' k' r' ww
 replace hy:=hy.cons hc
 obtain⟨aa,cc,rfl,ww⟩:=hy
 refine L.nr [.bool _,.slice aa _ cc] wT rfl rfl (fun b3 T' k' g' r'=>?_)
 replace hZ:=(hZ.cons g').add ⟨aa,cc,r',ww.cons g'⟩
 replace hc:=hc.trans g'
 clear g' k' r' ww
 refine L.nr [.bool false,.slice none 0 0] wT rfl rfl (fun b4 Tb4 gb4 kb4 rb4=>?_)
 replace hZ:=hZ.cons kb4
 have kM:=hc.trans kb4
 have g4:S.length≤b4:=Nat.le_trans hc.len gb4
 clear hc
 have hc:=Cons.refl Tb4
 refine go ?_
 refine L.zl (hZ.at 0 rfl) rfl rfl rfl (fun u1 hu1=>?_)
 refine L.zl (hZ.at 1 rfl) rfl rfl rfl (fun u2 hu2=>?_)
 have hl9:=hc.len
 refine L.cl (nMul_C hu1 hu2 fx fy (hS.cons (kM.trans hc)) (Nat.le_trans hG (kM.trans hc).len)) rfl rfl ?_
 rintro _ T' hr
 refine⟨fun _=>let ⟨_,_,k,_⟩:=hr;k,?_⟩
 obtain⟨_,rfl,k',⟨a9,c9,rfl,w9⟩,hf9⟩:=hr.ok (zok_E fs)
 clear hr
 replace hZ:=hZ.cons k'
 replace hc:=hc.trans k'
 refine go ?_
 refine L.nr [.bool false,.slice none 0 0] wT rfl rfl (fun b5 T5 g5 k5 r5=>?_)
 have hne:∀ x,a9=some x→x.block≠b4:=fun x hx=>by
  subst hx
  have:=hf9 _ _ _ _ rfl
  have:=row_lt rb4
  omega
 refine L.st2 r5 rfl rfl rfl rfl rfl rfl (fun T6 kk6 r6=>?_)
 have kx:=kk6.mono k5 g5
 replace w9:=w9.cons kx
 replace hc:=hc.trans kx
 refine go ?_
 refine L.z2 r6 rfl rfl rfl ?_
 refine L.st2 (Cons.row (h:=hc) rb4) rfl rfl rfl rfl rfl rfl (fun T7 kk7 r7=>go ?_)
 exact⟨.inr rfl,_,res1 rfl (load2 r7 rfl),⟨a9,c9,rfl,w9.keepb kk7 hne⟩,kk7.mono (kM.trans hc) g4,fun b a n c e=>Nat.le_trans (Nat.le_trans kM.len hl9) (hf9 b a n c e)⟩
theorem zSame2_C (hx:ZIs S u x) (hy:ZIs S v y):C Tryz.prog gN Ext 25 [u,v] S fun w S'=>w=.bool (decide (x=y))∧Cons S S':=by
 refine C.fn Tryz.func25 rfl (by kernel_rfl) rfl ?_
 have hZ:=Zs.nil S
 have hc:=Cons.refl S
 refine go ?_
 obtain⟨aa,cc,rfl,ww⟩:=hx
 refine L.nr [.bool _,.slice aa _ cc] wT rfl rfl (fun b2 T' k' g' r'=>?_)
 replace hZ:=(hZ.cons g').add ⟨aa,cc,r',ww.cons g'⟩
 replace hc:=hc.trans g'
 clear g' k' r' ww
 replace hy:=hy.cons hc
 obtain⟨aa,cc,rfl,ww⟩:=hy
 refine L.nr [.bool _,.slice aa _ cc] wT rfl rfl (fun b3 T' k' g' r'=>?_)
 replace hZ:=(hZ.cons g').add ⟨aa,cc,r',ww.cons g'⟩
 replace hc:=hc.trans g'
 clear g' k' r' ww
 refine go ?_
 refine L.zl (hZ.at 0 rfl) rfl rfl rfl (fun u1 hu1=>?_)
 refine L.zl (hZ.at 1 rfl) rfl rfl rfl (fun u2 hu2=>?_)
 refine L.cv (nSame_C hu1 hu2) rfl rfl fun T' k'=>?_
 replace hZ:=hZ.cons k'
 replace hc:=hc.trans k'
 refine go ?_
 exact⟨.inr rfl,_,rfl,rfl,hc⟩
theorem zSome_C (b:Bool) (a:Option Addr) (c n:Nat) (l:WL) (S:Mem) (hI:Slv S 1 (.slice a l.length c) l.length (wv l)) (hlen:l.length<UNK) (hn:n≤64) :
  C Tryz.prog gN Ext 19 [wZ b (.slice a l.length c),vi n] S fun w S'=>ZIs S' w (zv b (l.take n))∧Cons S S'∧ZFr S.length w:=by
 refine C.fn Tryz.func19 rfl (by kernel_rfl) rfl ?_
 unfold UNK at hlen
 refine go ?_
 refine L.nr [.bool b,.slice a l.length c] wT rfl rfl (fun b2 Tb2 gb2 kb2 rb2=>?_)
 refine L.nr [.bool false,.slice none 0 0] wT rfl rfl (fun b4 Tb4 gb4 kb4 rb4=>?_)
 have kM:=kb2.trans kb4
 have g4:S.length≤b4:=Nat.le_trans kb2.len gb4
 replace rb2:=Cons.row (h:=kb4) rb2
 replace hI:=hI.cons kM
 clear kb2 kb4 gb2 gb4
 refine go ?_
 refine W.loop (fun j e T=>∃ (i:Nat) (a3:Option Addr) (c3:Nat),j=l.length - i∧i≤l.length∧i≤n∧Cons Tb4 T∧e 1=vi n∧e 2=.pointer (some ⟨b2,0,none⟩)∧e 4=.pointer (some ⟨b4,0,none⟩)∧e 5=.slice a3 i c3∧e 6=vi i∧Grow Tb4.length T 57 1 (.slice a3 i c3) i (wv (l.take i))) l.length
  ⟨0,none,0,by omega,by omega,by omega,Cons.refl _,rfl,rfl,rfl,rfl,rfl,Grow.nil _ _ _ _⟩ ?_
 rintro j e T ⟨i,a3,c3,rfl,hi,hin,hc,e1,e2,e4,e5,e6,hg⟩
 refine W.env5 e1 e2 e4 e5 e6 ?_
 clear e1 e2 e4 e5 e6
 have fin:(i=l.length∨i=n)→l.take n=l.take i:=fun h=>by
  rcases h with h | h
  ·rw[h,List.take_length]
   by_cases hc:n=l.length
   ·rw[hc,List.take_length]
   ·rw[List.take_of_length_le (by omega)]
  ·rw[h]
 refine go ?_
 refine L.zf (Cons.row (h:=hc) rb2) rfl rfl rfl rfl rfl (go ?_)
 cases hb:decide ((i:Int)<(l.length:Int))
 ·have hil:i=l.length:=by have:=of_decide_eq_false hb;omega
  clear hb
  refine go ?_
  refine W.condF rfl ?_
  rw[fin (.inl hil)]
  have hl:(l.take i).length=i:=by rw[List.length_take];omega
  have ww:=grow_win (l:=l.take i) (a:=a3) (c:=c3) (N:=Tb4.length) (S:=T) (el:=57) (by rw[hl];exact hg) (by omega)
  have hbig:wnum (l.take i)<2^4096:=by
   have h1:=wnum_lt (l.take i)
   rw[hl] at h1
   exact Nat.lt_of_lt_of_le h1 (Nat.pow_le_pow_right (by decide) (by omega))
  have hE:zE (zv b (l.take i))=0:=by unfold zE;rw[zv_abs,if_pos hbig]
  refine go ?_
  refine L.zf (Cons.row (h:=hc) rb2) rfl rfl rfl rfl rfl (go ?_)
  have hl9:=hc.len
  refine L.cl (zMake_C b a3 c3 (l.take i) T ww) rfl (by rw[hl];rfl) ?_
  rintro _ T' hr
  have hr:=hr.zr
  obtain⟨_,rfl,k',⟨a9,c9,rfl,w9⟩,hf9⟩:=hr.ok hE
  refine⟨fun _=>k',?_⟩
  replace hc:=hc.trans k'
  clear hr
  generalize zv b (l.take i)=x at *
  refine go ?_
  refine L.nr [.bool false,.slice none 0 0] wT rfl rfl (fun b5 T5 g5 k5 r5=>?_)
  have hne:∀ x,a9=some x→x.block≠b4:=fun x hx=>by
   subst hx
   have:=hf9 _ _ _ _ rfl
   have:=row_lt rb4
   omega
  refine L.st2 r5 rfl rfl rfl rfl rfl rfl (fun T6 kk6 r6=>?_)
  have kx:=kk6.mono k5 g5
  replace w9:=w9.cons kx
  replace hc:=hc.trans kx
  refine go ?_
  refine L.z2 r6 rfl rfl rfl ?_
  refine L.st2 (Cons.row (h:=hc) rb4) rfl rfl rfl rfl rfl rfl (fun T7 kk7 r7=>go ?_)
  exact⟨.inr rfl,_,res1 rfl (load2 r7 rfl),⟨a9,c9,rfl,w9.keepb kk7 hne⟩,kk7.mono (kM.trans hc) g4,fun b a n c e=>Nat.le_trans (Nat.le_trans kM.len hl9) (hf9 b a n c e)⟩
 have hil:i<l.length:=by have:=of_decide_eq_true hb;omega
 clear hb
 refine go ?_
 refine W.ite rfl (fun h=>?_) (fun h=>?_)
 ·have hin2:i<n:=by have:=of_decide_eq_true h;omega
  clear h
  obtain⟨x,hx⟩:∃ x,l[i]?=some x:=⟨_,List.getElem?_eq_getElem hil⟩
  refine go ?_
  refine L.zf (Cons.row (h:=hc) rb2) rfl rfl rfl rfl rfl (go ?_)
  refine L.el (hI.cons hc) (k:=i) rfl (wv_get hx) rfl rfl rfl rfl (fun _=>rfl) rfl (fun p=>?_)
  refine L.push1 (w:=v64 x) rfl hc.len (.inl hg) rfl rfl rfl rfl rfl (by omega) rfl (fun _=>rfl) (fun p a4 c4 S2 h2 h3 h4=>go ?_)
  refine⟨l.length - (i+1),by omega,i+1,a4,c4,rfl,by omega,by omega,hc.trans' h4,rfl,rfl,rfl,rfl,congrArg (Value.int .i64) (wrap64 (by omega) (by omega)),?_⟩
  have:wv (l.take (i+1))=wv (l.take i)++[v64 x]:=by rw[List.take_add_one,hx,wv,List.map_append];rfl
  rw[this];exact h2
 ·have hin2:i=n:=by have:=of_decide_eq_false h;omega
  clear h
  rw[fin (.inr hin2)]
  have hl:(l.take i).length=i:=by rw[List.length_take];omega
  have ww:=grow_win (l:=l.take i) (a:=a3) (c:=c3) (N:=Tb4.length) (S:=T) (el:=57) (by rw[hl];exact hg) (by omega)
  have hbig:wnum (l.take i)<2^4096:=by
   have h1:=wnum_lt (l.take i)
   rw[hl] at h1
   exact Nat.lt_of_lt_of_le h1 (Nat.pow_le_pow_right (by decide) (by omega))
  have hE:zE (zv b (l.take i))=0:=by unfold zE;rw[zv_abs,if_pos hbig]
  refine go ?_
  refine L.zf (Cons.row (h:=hc) rb2) rfl rfl rfl rfl rfl (go ?_)
  have hl9:=hc.len
  refine L.cl (zMake_C b a3 c3 (l.take i) T ww) rfl (by rw[hl];rfl) ?_
  rintro _ T' hr
  have hr:=hr.zr
  obtain⟨_,rfl,k',⟨a9,c9,rfl,w9⟩,hf9⟩:=hr.ok hE
  refine⟨fun _=>k',?_⟩
  replace hc:=hc.trans k'
  clear hr
  generalize zv b (l.take i)=x at *
  refine go ?_
  refine L.nr [.bool false,.slice none 0 0] wT rfl rfl (fun b5 T5 g5 k5 r5=>?_)
  have hne:∀ x,a9=some x→x.block≠b4:=fun x hx=>by
   subst hx
   have:=hf9 _ _ _ _ rfl
   have:=row_lt rb4
   omega
  refine L.st2 r5 rfl rfl rfl rfl rfl rfl (fun T6 kk6 r6=>?_)
  have kx:=kk6.mono k5 g5
  replace w9:=w9.cons kx
  replace hc:=hc.trans kx
  refine go ?_
  refine L.z2 r6 rfl rfl rfl ?_
  refine L.st2 (Cons.row (h:=hc) rb4) rfl rfl rfl rfl rfl rfl (fun T7 kk7 r7=>go ?_)
  exact⟨.inr rfl,_,res1 rfl (load2 r7 rfl),⟨a9,c9,rfl,w9.keepb kk7 hne⟩,kk7.mono (kM.trans hc) g4,fun b a n c e=>Nat.le_trans (Nat.le_trans kM.len hl9) (hf9 b a n c e)⟩
end
section
open Go
variable {G:Nat} {Ext:FuncId→List Value→Mem→Outc→Mem→Prop}
end
section
open Go
variable {G:Nat} {Ext:FuncId→List Value→Mem→Outc→Mem→Prop}
def hnum:WL→Nat
 | []=>0
 | x :: l=>x.toNat+4294967296*hnum l
theorem hnum_append (l m:WL):hnum (l++m)=hnum l+2^(32*l.length)*hnum m:=by
 induction l with
 | nil=>simp [hnum]
 | cons x l ih=>
  rw[List.cons_append,hnum,hnum,ih,List.length_cons,Nat.mul_succ,Nat.pow_add,Nat.mul_add,← Nat.mul_assoc,Nat.mul_comm (2^(32*l.length)) (2^32)]
  have e:(2:Nat)^32=4294967296:=by decide
  rw[e]
  omega
theorem hnum_zeros (k:Nat):hnum (List.replicate k 0#64)=0:=by
 induction k with
 | zero=>rfl
 | succ k ih=>rw[List.replicate_succ,hnum,ih];rfl
theorem form_zeros (l:WL):l=fm l++List.replicate (l.length - (fm l).length) 0#64:=by
 have h1:l.take (fm l).length=fm l:=toW_take l
 have hs:fm l++l.drop (fm l).length=l:=by
  have:=List.take_append_drop (fm l).length l
  rwa [h1] at this
 have h0:wnum (l.drop (fm l).length)=0:=by
  have h2:=wnum_append (fm l) (l.drop (fm l).length)
  rw[hs,show wnum (fm l)=wnum l from wnum_toW _] at h2
  have hp:0<2^(64*(fm l).length):=Nat.pow_pos (by decide)
  have h3:2^(64*(fm l).length)*wnum (l.drop (fm l).length)=0:=by omega
  rcases Nat.mul_eq_zero.1 h3 with h4 | h4
  ·omega
  ·exact h4
 have hz:∀ m:WL,wnum m=0→m=List.replicate m.length 0#64:=by
  intro m
  induction m with
  | nil=>intro _;rfl
  | cons x m ih=>
   intro h
   rw[wnum] at h
   have hx:x=0#64:=BitVec.eq_of_toNat_eq (by simp;omega)
   rw[List.length_cons,List.replicate_succ,← ih (by omega),hx]
 have h5:=hz _ h0
 rw[List.length_drop] at h5
 rw[h5] at hs
 exact hs.symm
theorem hnum_form (l:WL):hnum (fm l)=hnum l:=by
 conv=>rhs;rw[form_zeros l,hnum_append,hnum_zeros]
 simp
def Small32 (l:WL):Prop:=∀ x∈l,x.toNat<4294967296
theorem small32_form {l:WL} (h:Small32 l):Small32 (fm l):=fun x hx=>h x (by
 rw[show fm l=l.take (fm l).length from (toW_take l).symm] at hx
 exact List.mem_of_mem_take hx)
def hl (l:WL):WL:=l.flatMap fun x=>[x &&& 0xffffffff#64,x >>> 32]
theorem and32 (x:BitVec 64):(x &&& 0xffffffff#64).toNat=x.toNat % 4294967296:=by
 rw[BitVec.toNat_and]
 exact Nat.and_two_pow_sub_one_eq_mod x.toNat 32
theorem shr32 (x:BitVec 64):(x >>> 32).toNat=x.toNat / 4294967296:=by
 rw[BitVec.toNat_ushiftRight,Nat.shiftRight_eq_div_pow]
theorem hnum_hl (l:WL):hnum (hl l)=wnum l:=by
 induction l with
 | nil=>rfl
 | cons x l ih=>
  have hx:=x.isLt
  show hnum ((x &&& 0xffffffff#64) :: (x >>> 32) :: hl l)=_
  rw[hnum,hnum,ih,wnum,and32,shr32]
  omega
theorem small_hl (l:WL):Small32 (hl l):=by
 intro y hy
 obtain⟨x,_,hx⟩:=List.mem_flatMap.1 hy
 have hlt:=x.isLt
 simp at hx
 rcases hx with rfl | rfl
 ·rw[and32];omega
 ·rw[shr32];omega
def un:WL→WL
 | []=>[]
 | [x]=>[x]
 | x :: y :: l=>(x ||| y <<< 32) :: un l
theorem wnum_un (l:WL) (h:Small32 l):wnum (un l)=hnum l:=by
 match l,h with
 | [],_=>rfl
 | [x],_=>rfl
 | x :: y :: l,h=>
  have hx:=h x (by simp)
  have hy:=h y (by simp)
  rw[un,wnum,wnum_un l (fun z hz=>h z (by simp [hz])),hnum,hnum]
  have:(x ||| y <<< 32).toNat=x.toNat+4294967296*y.toNat:=by
   rw[BitVec.toNat_or,BitVec.toNat_shiftLeft,Nat.shiftLeft_eq,Nat.mod_eq_of_lt (by omega)]
   have:=Nat.two_pow_add_eq_or_of_lt (i:=32) (show x.toNat<2^32 from hx) y.toNat
   rw[Nat.or_comm,Nat.mul_comm y.toNat,← this]
   omega
  rw[this]
  omega
theorem form_un (l:WL):fm (un (fm (hl l)))=fm l:=by
 show toW (wnum (un (fm (hl l))))=toW (wnum l)
 rw[wnum_un _ (small32_form (small_hl l)),hnum_form,hnum_hl]
theorem strip_C (a:Option Addr) (c:Nat) (l:WL) (S:Mem) (h:WIn S a c l):C Tryz.prog G Ext 109 [.slice a l.length c] S fun v S'=>v=.slice a (fm l).length c∧S'=S:=by
 refine C.fn Tryz.func109 rfl (by kernel_rfl) rfl ?_
 obtain⟨hs,hc,ha,hlen⟩:=h
 refine go ?_
 refine W.loop (fun j e S'=>∃ k:Nat,j=k∧k≤l.length∧S'=S∧e 0=.slice a l.length c∧e 3=vi k∧∀ i,k≤i→i<l.length→l[i]?=some 0#64) l.length ⟨l.length,rfl,Nat.le_refl _,rfl,rfl,rfl,fun i h1 h2=>by omega⟩ ?_
 rintro k e S' ⟨_,rfl,hk,rfl,e0,e3,hz⟩
 refine W.env2 e0 e3 ?_
 have fin:(k=0∨l[k - 1]?≠some 0#64)→k=(fm l).length:=fun h=>by
  have:=take_canon hk hz h
  unfold fm
  rw[← this,List.length_take];omega
 refine go ?_
 cases hb:decide ((k:Int) > 0)
 ·have hk0:k=0:=by have:=of_decide_eq_false hb;omega
  clear hb
  refine go ?_
  refine W.ite rfl (fun h=>?_) (fun h=>?_)
  ·cases h
  refine go ?_
  refine L.is (.slice a k c) ((slice_at0 rfl rfl rfl).trans (aslice_to (kd:=.i64) rfl (by omega) ha)) rfl (go ?_)
  exact⟨.inr rfl,_,rfl,by rw[← fin (.inl hk0)];rfl,rfl⟩
 have hk0:0<k:=by have:=of_decide_eq_true hb;omega
 clear hb
 refine go ?_
 have hkl:k - 1<l.length:=by omega
 have hget:l[k - 1]?=some l[k - 1]:=List.getElem?_eq_getElem hkl
 refine L.el hs (k:=k - 1) (by rw[wrap64 (by omega) (by omega)];omega) (wv_get hget) rfl rfl rfl rfl (fun _=>rfl) rfl (fun p=>go ?_)
 cases hz0:(l[k - 1]==0#64)
 ·have hne:l[k - 1]≠0#64:=by simpa using hz0
  have hv:((l[k - 1].toNat:Int)==0)=false:=by
   rw[beq_eq_false_iff_ne]
   intro e;exact hne (BitVec.eq_of_toNat_eq (by simpa using e))
  rw[hv]
  refine W.ite rfl (fun h=>?_) (fun h=>?_)
  ·cases h
  refine go ?_
  refine L.is (.slice a k c) ((slice_at0 rfl rfl rfl).trans (aslice_to (kd:=.i64) rfl (by omega) ha)) rfl (go ?_)
  exact⟨.inr rfl,_,rfl,by rw[← fin (.inr (by rw[hget];simpa using hne))];rfl,rfl⟩
 ·have he:l[k - 1]=0#64:=by simpa using hz0
  rw[show ((l[k - 1].toNat:Int)==0)=true by rw[he];rfl]
  refine W.ite rfl (fun h=>?_) (fun h=>?_)
  rotate_left
  ·cases h
  refine go ?_
  refine⟨k - 1,by omega,k - 1,rfl,by omega,rfl,rfl,?_,fun i h1 h2=>?_⟩
  ·refine(force_eq rfl).trans ?_
   rw[wrap64 (by omega) (by omega)]
   congr 1;omega
  rcases Nat.eq_or_lt_of_le h1 with h3 | h3
  ·rw[← h3,hget,he]
  ·exact hz i (by omega) h2
theorem and_u64 (x:BitVec 64):IntKind.u64.wrap ((BitVec.ofInt IntKind.u64.bits (x.toNat:Int) &&& BitVec.ofInt IntKind.u64.bits 4294967295).toNat:Int)=((x &&& 0xffffffff#64).toNat:Int):=by
 rw[bits_u64,ofInt_toNat,wrap_u64,ofInt_toNat];rfl
theorem halves_C (a:Option Addr) (c:Nat) (l:WL) (S:Mem) (hI:WIn S a c l) (hlen:l.length<1000000):C Tryz.prog G Ext 90 [.slice a l.length c] S fun v S'=>RefW S S' v (fm (hl l)):=by
 refine C.fn Tryz.func90 rfl (by kernel_rfl) rfl (go ?_)
 refine W.loop (fun j e S'=>∃ (i:Nat) (a3:Option Addr) (c3:Nat),j=l.length - i∧i≤l.length∧Cons S S'∧e 0=.slice a l.length c∧e 3=.slice a3 (i+i) c3∧e 4=vi i∧Grow S.length S' 57 1 (.slice a3 (i+i) c3) (i+i) (wv (hl (l.take i)))) l.length
  ⟨0,none,0,by omega,by omega,Cons.refl _,rfl,rfl,rfl,Grow.nil _ _ _ _⟩ ?_
 rintro j e S' ⟨i,a3,c3,rfl,hi,hc,e0,e3,e4,hg⟩
 refine W.env3 e0 e3 e4 (go ?_)
 refine W.ite rfl (fun h=>?_) (fun h=>?_)
 ·have hin:i<l.length:=by have:=of_decide_eq_true h;omega
  clear h
  obtain⟨x,hx⟩:∃ x,l[i]?=some x:=⟨_,List.getElem?_eq_getElem hin⟩
  refine go ?_
  refine L.el (hI.cons hc).1 rfl (wv_get hx) rfl rfl rfl rfl (fun _=>rfl) rfl (fun p=>go ?_)
  refine L.push1 (w:=v64 (x &&& 0xffffffff#64)) rfl hc.len (.inl hg) rfl ((force_eq rfl).trans (congrArg (Value.int .u64) (and_u64 x))) rfl rfl rfl (by omega) rfl (fun _=>rfl) (fun p a4 c4 S2 h2 h3 h4=>?_)
  have hc2:=hc.trans' h4
  refine go ?_
  refine L.el (hI.cons hc2).1 rfl (wv_get hx) rfl rfl rfl rfl (fun _=>rfl) rfl (fun p=>go ?_)
  refine L.push1 (w:=v64 (x >>> 32)) rfl hc2.len (.inl h2) rfl ((force_eq rfl).trans (congrArg (Value.int .u64) (fdiv_shr x 32))) rfl rfl rfl (by omega) rfl (fun _=>rfl) (fun p a5 c5 S3 k2 k3 k4=>go ?_)
  refine⟨l.length - (i+1),by omega,i+1,a5,c5,rfl,by omega,hc2.trans' k4,rfl,?_,?_,?_⟩
  ·refine(force_eq rfl).trans ?_
   rw[show i+i+1+1=i+1+(i+1) by omega]
  ·refine(force_eq rfl).trans ?_
   rw[wrap64 (by omega) (by omega)];rfl
  ·rw[show i+i+1+1=i+1+(i+1) by omega] at k2
   have:wv (hl (l.take (i+1)))=(wv (hl (l.take i))++[v64 (x &&& 0xffffffff#64)])++[v64 (x >>> 32)]:=by
    rw[List.take_add_one,hx,hl,List.flatMap_append,wv,List.map_append]
    show List.map v64 (hl (l.take i))++[_,_]=_
    rw[List.append_assoc];rfl
   rw[this]
   exact k2
 ·have hin:i=l.length:=by have:=of_decide_eq_false h;omega
  subst hin
  rw[List.take_length] at hg
  have hll:(hl l).length=l.length+l.length:=by have:=hg.1;rw[wv_len] at this;omega
  rw[← hll] at hg ⊢
  have hW:=grow_win hg (by omega)
  refine go ?_
  refine L.cl (strip_C a3 c3 (hl l) _ hW) rfl rfl ?_
  rintro _ _ ⟨rfl,rfl⟩
  refine⟨nofun,go ?_⟩
  exact⟨.inr rfl,_,rfl,hc,a3,c3,rfl,hW.form⟩
end
section
open Go
variable {G:Nat} {Ext:FuncId→List Value→Mem→Outc→Mem→Prop}
theorem un_app:∀ (q:Nat) (l m:WL),l.length=2*q→un (l++m)=un l++un m
 | 0,l,m,h=>by rw[List.length_eq_zero_iff.1 (by omega:l.length=0)];rfl
 | q+1,[],m,h=>by simp at h
 | q+1,[x],m,h=>by simp at h;omega
 | q+1,x :: y :: l,m,h=>by
  show un (x :: y :: (l++m))=_
  rw[un,un,un_app q l m (by simp at h;omega)];rfl
theorem un_len (l:WL):(un l).length≤l.length:=by
 match l with
 | []=>exact Nat.le_refl _
 | [x]=>exact Nat.le_refl _
 | x :: y :: l=>rw[un,List.length_cons,List.length_cons,List.length_cons];have:=un_len l;omega
theorem or_shl64 (x y:BitVec 64):IntKind.u64.wrap ((BitVec.ofInt IntKind.u64.bits (x.toNat:Int) ||| BitVec.ofInt IntKind.u64.bits (IntKind.u64.wrap ((y.toNat:Int)*2^32))).toNat:Int)=((x ||| y <<< 32).toNat:Int):=by
 rw[wrap_u64 ((y.toNat:Int)*2^32),ofInt_shl,bits_u64,ofInt_toNat,ofInt_toNat,wrap_u64,ofInt_toNat]
theorem limbs_C (a:Option Addr) (c:Nat) (h:WL) (S:Mem) (hI:WIn S a c h) (hlen:h.length<1000000):C Tryz.prog G Ext 108 [.slice a h.length c] S fun v S'=>RefW S S' v (fm (un h)):=by
 refine C.fn Tryz.func108 rfl (by kernel_rfl) rfl (go ?_)
 refine W.loop (fun j e S'=>∃ (q:Nat) (a3:Option Addr) (c3:Nat),j=h.length+1 - 2*q∧2*q≤h.length+1∧Cons S S'∧e 0=.slice a h.length c∧e 3=.slice a3 q c3∧e 4=vi (2*q)∧Grow S.length S' 57 1 (.slice a3 q c3) q (wv (un (h.take (2*q))))) (h.length+1)
  ⟨0,none,0,by omega,by omega,Cons.refl _,rfl,rfl,rfl,Grow.nil _ _ _ _⟩ ?_
 rintro j e S' ⟨q,a3,c3,rfl,hi,hc,e0,e3,e4,hg⟩
 refine W.env3 e0 e3 e4 (go ?_)
 have hIc:=hI.cons hc
 refine W.ite rfl (fun hb=>?_) (fun hb=>?_)
 ·have hin:2*q<h.length:=by have:=of_decide_eq_true hb;omega
  clear hb
  obtain⟨x,hx⟩:∃ x,h[2*q]?=some x:=⟨_,List.getElem?_eq_getElem hin⟩
  have hw1:IntKind.i64.wrap (((2*q:Nat):Int)+1)=((2*q+1:Nat):Int):=by rw[wrap64 (by omega) (by omega)];omega
  refine go ?_
  refine L.el hIc.1 rfl (wv_get hx) rfl rfl rfl rfl (fun _=>rfl) rfl (fun p=>go ?_)
  rw[hw1]
  refine W.ite rfl (fun hb=>?_) (fun hb=>?_)
  ·have hin2:2*q+1<h.length:=by have:=of_decide_eq_true hb;omega
   clear hb
   obtain⟨y,hy⟩:∃ y,h[2*q+1]?=some y:=⟨_,List.getElem?_eq_getElem hin2⟩
   refine go ?_
   refine L.el hIc.1 hw1 (wv_get hy) rfl rfl rfl rfl (fun _=>rfl) rfl (fun p=>go ?_)
   refine L.push1 (w:=v64 (x ||| y <<< 32)) rfl hc.len (.inl hg) rfl ((force_eq rfl).trans (congrArg (Value.int .u64) (or_shl64 x y))) rfl rfl rfl (by omega) rfl (fun _=>rfl) (fun p a5 c5 S3 k2 k3 k4=>go ?_)
   refine⟨h.length+1 - 2*(q+1),by omega,q+1,a5,c5,rfl,by omega,hc.trans' k4,rfl,?_,?_,?_⟩
   ·exact force_eq rfl
   ·refine(force_eq rfl).trans ?_
    rw[wrap64 (by omega) (by omega)]
    congr 1
   ·rw[show 2*(q+1)=2*q+2 by omega]
    have:un (h.take (2*q+2))=un (h.take (2*q))++[(x ||| y <<< 32)]:=by
     rw[List.take_add,un_app q _ _ (by rw[List.length_take];omega),show (h.drop (2*q)).take 2=[x,y] by (rw[List.drop_eq_getElem_cons hin,List.drop_eq_getElem_cons hin2];rw[List.getElem?_eq_getElem hin] at hx;rw[List.getElem?_eq_getElem hin2] at hy;cases hx;cases hy;rfl)]
     rfl
    rw[this,wv,List.map_append]
    exact k2
  ·have hin2:2*q+1=h.length:=by have:=of_decide_eq_false hb;omega
   clear hb
   refine go ?_
   refine L.push1 (w:=v64 x) rfl hc.len (.inl hg) rfl rfl rfl rfl rfl (by omega) rfl (fun _=>rfl) (fun p a5 c5 S3 k2 k3 k4=>go ?_)
   refine⟨h.length+1 - 2*(q+1),by omega,q+1,a5,c5,rfl,by omega,hc.trans' k4,rfl,?_,?_,?_⟩
   ·exact force_eq rfl
   ·refine(force_eq rfl).trans ?_
    rw[wrap64 (by omega) (by omega)]
    congr 1
   ·rw[show 2*(q+1)=2*q+2 by omega]
    have:un (h.take (2*q+2))=un (h.take (2*q))++[x]:=by
     rw[List.take_add,un_app q _ _ (by rw[List.length_take];omega),show (h.drop (2*q)).take 2=[x] by (rw[List.drop_eq_getElem_cons hin,List.drop_eq_nil_of_le (by omega)];rw[List.getElem?_eq_getElem hin] at hx;cases hx;rfl)]
     rfl
    rw[this,wv,List.map_append]
    exact k2
 ·have hin:h.length≤2*q:=by have:=of_decide_eq_false hb;omega
  clear hb
  rw[List.take_of_length_le hin] at hg
  have hll:(un h).length=q:=by have:=hg.1;rw[wv_len] at this;omega
  rw[← hll] at hg ⊢
  have hW:=grow_win hg (by have:=un_len h;omega)
  refine go ?_
  refine L.cl (strip_C a3 c3 (un h) _ hW) rfl rfl ?_
  rintro _ _ ⟨rfl,rfl⟩
  refine⟨nofun,go ?_⟩
  exact⟨.inr rfl,_,rfl,hc,a3,c3,rfl,hW.form⟩
theorem hl_len (l:WL):(hl l).length=2*l.length:=by
 induction l with
 | nil=>rfl
 | cons x l ih=>show ((x &&& 0xffffffff#64) :: (x >>> 32) :: hl l).length=_;simp [ih];omega
theorem form_C (a:Option Addr) (c:Nat) (l:WL) (S:Mem) (hI:WIn S a c l) (hlen:l.length<400000):C Tryz.prog G Ext 76 [.slice a l.length c] S fun v S'=>RefW S S' v (fm l):=by
 refine C.fn Tryz.func76 rfl (by kernel_rfl) rfl (go ?_)
 refine L.cl (halves_C a c l S hI (by omega)) rfl rfl ?_
 rintro _ S1 ⟨hc1,a1,c1,rfl,hW1⟩
 refine⟨nofun,?_⟩
 have hln:(fm (hl l)).length≤2*l.length:=by have h1:(fm (hl l)).length≤(hl l).length:=toW_len_le _;rw[hl_len] at h1;exact h1
 refine L.cl (limbs_C a1 c1 (fm (hl l)) S1 hW1 (by omega)) rfl rfl ?_
 rintro _ S2 ⟨hc2,a2,c2,rfl,hW2⟩
 refine⟨nofun,?_⟩
 rw[form_un] at hW2 ⊢
 refine go ?_
 exact⟨.inr rfl,_,rfl,hc1.trans hc2,a2,c2,rfl,hW2⟩
theorem hnum_lt {l:WL} (h:Small32 l):hnum l<2^(32*l.length):=by
 induction l with
 | nil=>simp [hnum]
 | cons x l ih=>
  have hx:=h x (by simp)
  have h2:=ih (fun y hy=>h y (by simp [hy]))
  rw[hnum,List.length_cons,Nat.mul_succ,Nat.pow_add]
  have:=Nat.mul_le_mul_left 4294967296 (Nat.succ_le_of_lt h2)
  rw[Nat.mul_comm (2^(32*l.length))]
  have e:(2:Nat)^32=4294967296:=by decide
  rw[e]
  omega
theorem blen_top32 {l:WL} {x:BitVec 64} (hs:Small32 l) (h:l.getLast?=some x) (hx:x≠0#64):blen (hnum l)=32*(l.length - 1)+blen x.toNat:=by
 have hne:l≠[]:=by intro e;subst e;simp at h
 have hs2:=List.dropLast_concat_getLast hne
 have he:l.getLast hne=x:=by rw[List.getLast?_eq_some_getLast hne] at h;simpa using h
 have hw:=hnum_append l.dropLast [l.getLast hne]
 rw[hs2,he] at hw
 have hx0:x.toNat≠0:=fun e=>hx (BitVec.eq_of_toNat_eq (by simpa using e))
 rw[hw]
 simp only [hnum,Nat.mul_zero,Nat.add_zero,List.length_dropLast]
 have hlt:=hnum_lt (l:=l.dropLast) (fun y hy=>hs y (List.dropLast_subset _ hy))
 rw[List.length_dropLast] at hlt
 exact blen_shift hlt hx0
theorem blen_half {m:Nat} (h:0<m):blen m=blen (m / 2)+1:=by
 by_cases h1:m<2
 ·have:m=1:=by omega
  subst this;decide
 ·have:=blen_div (n:=m) (k:=1) (by omega)
  rw[this,Nat.pow_one];omega
theorem length_C (a:Option Addr) (c:Nat) (l:WL) (S:Mem) (hI:WIn S a c l) (hlen:l.length<400000):C Tryz.prog G Ext 60 [.slice a l.length c] S fun v S'=>v=vi (blen (wnum l))∧Cons S S':=by
 refine C.fn Tryz.func60 rfl (by kernel_rfl) rfl (go ?_)
 refine L.cl (halves_C a c l S hI (by omega)) rfl rfl ?_
 rintro _ S1 ⟨hc1,a1,c1,rfl,hW1⟩
 refine⟨nofun,?_⟩
 have hln:(fm (hl l)).length≤2*l.length:=by have h1:(fm (hl l)).length≤(hl l).length:=toW_len_le _;rw[hl_len] at h1;exact h1
 have hnum':hnum (fm (hl l))=wnum l:=by rw[hnum_form,hnum_hl]
 have hcan:=canon_toW (wnum (hl l))
 have hsm:=small32_form (small_hl l)
 obtain⟨h,hh⟩:∃ h,h=fm (hl l):=⟨_,rfl⟩
 rw[← hh] at hW1 hln hnum' hsm ⊢
 rw[show toW (wnum (hl l))=h from hh.symm] at hcan
 clear hh
 refine go ?_
 refine W.ite rfl (fun hb=>?_) (fun hb=>?_)
 ·have h0:h=[]:=by simpa using hb
  have:wnum l=0:=by rw[← hnum',h0];rfl
  refine go ?_
  exact⟨.inr rfl,_,rfl,by rw[this];rfl,hc1⟩
 ·have h0:0<h.length:=by
   rcases Nat.eq_zero_or_pos h.length with h1 | h1
   ·rw[h1] at hb;simp at hb
   ·exact h1
  clear hb
  obtain⟨x,hx⟩:∃ x,h.getLast?=some x:=⟨_,List.getLast?_eq_some_getLast (by intro e;rw[e] at h0;simp at h0)⟩
  have hxi:h[h.length - 1]?=some x:=by rw[← List.getLast?_eq_getElem?];exact hx
  have hx0:x≠0#64:=fun e=>hcan (by rw[← e];exact hx)
  have ht:=blen_top32 hsm hx hx0
  rw[hnum'] at ht
  have hb64:=blen_le.2 (show x.toNat<2^64 from x.isLt)
  refine go ?_
  refine L.el hW1.1 (k:=h.length - 1) (by rw[wrap64 (by omega) (by omega)];omega) (wv_get hxi) rfl rfl rfl rfl (fun _=>rfl) rfl (fun p=>go ?_)
  refine W.loop (fun j e S'=>∃ m k:Nat,j=m∧S'=S1∧e 4=vi k∧e 5=.int .u64 (m:Int)∧k+blen m=blen (wnum l)∧m<18446744073709551616) x.toNat
   ⟨x.toNat,32*(h.length - 1),rfl,rfl,?_,rfl,ht.symm,x.isLt⟩ ?_
  ·refine(force_eq rfl).trans ?_
   rw[wrap64 (x:=(h.length:Int) - 1) (by omega) (by omega),wrap64 (by omega) (by omega)]
   congr 1;omega
  rintro m e _ ⟨_,k,rfl,rfl,e4,e5,hk,hm⟩
  refine W.env2 e4 e5 (go ?_)
  refine W.ite rfl (fun hb=>?_) (fun hb=>?_)
  ·have hm0:0<m:=by have:=of_decide_eq_true hb;omega
   have hb1:=blen_half hm0
   have hb2:=blen_le.2 (show m<2^64 from hm)
   refine go ?_
   refine⟨m / 2,Nat.div_lt_self hm0 (by decide),m / 2,k+1,rfl,rfl,?_,?_,by omega,by omega⟩
   ·refine(force_eq rfl).trans ?_
    rw[wrap64 (by omega) (by omega)];rfl
   ·exact(force_eq rfl).trans (congrArg (Value.int .u64) (fdiv_nat m (2^1)))
  ·have hm0:m=0:=by have:=of_decide_eq_false hb;omega
   subst hm0
   refine go ?_
   refine⟨.inr rfl,_,rfl,?_,hc1⟩
   refine(force_eq rfl).trans ?_
   rw[← hk];rfl
end
section
open Go
theorem hnum_take_succ {l:WL} {i:Nat} {x:BitVec 64} (h:l[i]?=some x):hnum (l.take (i+1))=hnum (l.take i)+2^(32*i)*x.toNat:=by
 have hlt:=(List.getElem?_eq_some_iff.1 h).1
 rw[List.take_add_one,h]
 show hnum (l.take i++[x])=_
 rw[hnum_append,List.length_take,Nat.min_eq_left (by omega)]
 show _+_*(x.toNat+4294967296*0)=_
 rw[Nat.mul_zero,Nat.add_zero]
theorem hnum_snoc (l:WL) (x:BitVec 64):hnum (l++[x])=hnum l+2^(32*l.length)*x.toNat:=by
 rw[hnum_append]
 show _+_*(x.toNat+4294967296*0)=_
 rw[Nat.mul_zero,Nat.add_zero]
theorem hnum_set {l:WL} {q:Nat} {x y:BitVec 64} (h:l[q]?=some x):hnum (l.set q y)+x.toNat * 2^(32*q)=hnum l+y.toNat * 2^(32*q):=by
 induction l generalizing q with
 | nil=>simp at h
 | cons z l ih=>
  cases q with
  | zero=>
   simp at h;subst h
   simp only [List.set_cons_zero,hnum,Nat.mul_zero,Nat.pow_zero,Nat.mul_one]
   omega
  | succ q=>
   have h2:=ih (by simpa using h)
   rw[List.set_cons_succ,hnum,hnum,Nat.mul_succ,Nat.add_comm (32*q) 32,Nat.pow_add]
   have e:(2:Nat)^32=4294967296:=by decide
   rw[e]
   have h3:∀ a:Nat,a*(4294967296*2^(32*q))=4294967296*(a*2^(32*q)):=fun a=>by
    rw[← Nat.mul_assoc,Nat.mul_comm a,Nat.mul_assoc]
   rw[h3,h3]
   omega
theorem htake_more {l:WL} {i:Nat} (h:l.length≤i):l.take (i+1)=l.take i:=by rw[List.take_of_length_le (by omega),List.take_of_length_le h]
def HalfOk (l:WL):Prop:=Small32 l∧Canon l
theorem small32_take {l:WL} (h:Small32 l) (k:Nat):Small32 (l.take k):=fun x hx=>h x (List.mem_of_mem_take hx)
theorem small32_get {l:WL} (h:Small32 l) {i:Nat} {x:BitVec 64} (hx:l[i]?=some x):x.toNat<4294967296:=h x (List.mem_of_getElem? hx)
theorem small32_set {l:WL} (h:Small32 l) {i:Nat} {x:BitVec 64} (hx:x.toNat<4294967296):Small32 (l.set i x):=fun y hy=>by
 rcases List.mem_or_eq_of_mem_set hy with h1 | rfl
 ·exact h y h1
 ·exact hx
theorem small32_snoc {l:WL} (h:Small32 l) {x:BitVec 64} (hx:x.toNat<4294967296):Small32 (l++[x]):=fun y hy=>by
 rcases List.mem_append.1 hy with h1 | h1
 ·exact h y h1
 ·rw[List.mem_singleton] at h1;subst h1;exact hx
theorem HalfOk.form {l:WL} (h:Small32 l):HalfOk (fm l):=⟨small32_form h,canon_toW _⟩
theorem half_ge {l:WL} (h:HalfOk l) (hp:0<l.length):2^(32*(l.length - 1))≤hnum l:=by
 have hne:l≠[]:=by intro e;subst e;simp at hp
 have hs:=List.dropLast_concat_getLast hne
 have hw:=hnum_snoc l.dropLast (l.getLast hne)
 rw[hs,List.length_dropLast] at hw
 have h0:(l.getLast hne).toNat≠0:=fun e=>h.2 (by rw[List.getLast?_eq_some_getLast hne];exact congrArg some (BitVec.eq_of_toNat_eq (by simpa using e)))
 have:2^(32*(l.length - 1))*1≤2^(32*(l.length - 1))*(l.getLast hne).toNat:=Nat.mul_le_mul_left _ (by omega)
 omega
theorem half_pos {l:WL} (h:HalfOk l) (hp:0<l.length):0<hnum l:=Nat.lt_of_lt_of_le (Nat.two_pow_pos _) (half_ge h hp)
theorem half_zero {l:WL} (h:HalfOk l) (h0:hnum l=0):l=[]:=by
 refine List.length_eq_zero_iff.1 (Classical.byContradiction fun hc=>?_)
 have:=half_pos h (by omega)
 omega
theorem half_len {a b:WL} (ha:HalfOk a) (hb:HalfOk b) (h:hnum a≤hnum b):a.length≤b.length:=by
 refine Classical.byContradiction fun hc=>?_
 have h1:=half_ge ha (by omega)
 have h2:=hnum_lt hb.1
 have h3:2^(32*b.length)≤2^(32*(a.length - 1)):=Nat.pow_le_pow_right (by decide) (by omega)
 omega
theorem hsplit_at {f:WL} {k:Nat} {x:BitVec 64} (h:f[k]?=some x):hnum f=hnum (f.take k)+2^(32*k)*(x.toNat+4294967296*hnum (f.drop (k+1))):=by
 have hlt:=(List.getElem?_eq_some_iff.1 h).1
 have hx:=(List.getElem?_eq_some_iff.1 h).2
 have h1:f=f.take k++(x :: f.drop (k+1)):=by
  conv=>lhs;rw[← List.take_append_drop k f,List.drop_eq_getElem_cons hlt,hx]
 conv=>lhs;rw[h1]
 rw[hnum_append,List.length_take,Nat.min_eq_left (by omega)];rfl
theorem hcmp_at {f g:WL} (hf:Small32 f) {k:Nat} {x y:BitVec 64} (hx:f[k]?=some x) (hy:g[k]?=some y) (he:f.drop (k+1)=g.drop (k+1)) (h:x.toNat<y.toNat):hnum f<hnum g:=by
 rw[hsplit_at hx,hsplit_at hy,he]
 have h1:=hnum_lt (small32_take hf k)
 have h2:2^(32*(f.take k).length)≤2^(32*k):=Nat.pow_le_pow_right (by omega) (by rw[List.length_take];omega)
 have h3:=Nat.mul_le_mul_left (2^(32*k)) (show x.toNat+4294967296*hnum (g.drop (k+1))+1≤y.toNat+4294967296*hnum (g.drop (k+1)) by omega)
 rw[Nat.mul_add (2^(32*k)) (x.toNat+4294967296*hnum (g.drop (k+1))) 1,Nat.mul_one] at h3
 omega
theorem pow32_succ (i:Nat):2^(32*(i+1))=2^(32*i)*4294967296:=by rw[show 32*(i+1)=32*i+32 by omega,Nat.pow_add]
theorem add_step32 {O X Y s x y c P:Nat} (h:O+c*P=X+Y) (hs:s=c+x+y):O+P*(s % 4294967296)+s / 4294967296*(P*4294967296)=(X+P*x)+(Y+P*y):=by
 have e:P*(s % 4294967296)+s / 4294967296*(P*4294967296)=P*s:=by
  rw[Nat.mul_comm _ (P*4294967296),Nat.mul_assoc,← Nat.mul_add,Nat.add_comm,Nat.div_add_mod]
 rw[Nat.add_assoc,e,hs,Nat.mul_add,Nat.mul_add,Nat.mul_comm P c];omega
theorem mul_step32 {O X s x n c P:Nat} (h:O+c*P=X*n) (hs:s=x*n+c):O+P*(s % 4294967296)+s / 4294967296*(P*4294967296)=(X+P*x)*n:=by
 have e:P*(s % 4294967296)+s / 4294967296*(P*4294967296)=P*s:=by
  rw[Nat.mul_comm _ (P*4294967296),Nat.mul_assoc,← Nat.mul_add,Nat.add_comm,Nat.div_add_mod]
 rw[Nat.add_assoc,e,hs,Nat.add_mul,← h,Nat.mul_add,Nat.mul_comm P c,Nat.mul_assoc];omega
theorem sub_step32 {O X Y s x y l P:Nat} (h:O+Y=X+l*P) (hl:l≤1) (hx:x<4294967296) (hy:y<4294967296) (hs:s=x+4294967296 - l - y):
  O+P*(s % 4294967296)+(Y+P*y)=(X+P*x)+(1 - s / 4294967296)*(P*4294967296)∧s / 4294967296≤1:=by
 have h2:s / 4294967296≤1:=by omega
 refine⟨?_,h2⟩
 have h3:s % 4294967296+y+l=x+(1 - s / 4294967296)*4294967296:=by omega
 have h4:P*(s % 4294967296)+P*y+l*P=P*x+(1 - s / 4294967296)*(P*4294967296):=by
  rw[Nat.mul_comm l P,← Nat.mul_add,← Nat.mul_add,h3,Nat.mul_add,Nat.mul_left_comm P]
 omega
theorem sure_le {a b lo t P lb T:Nat} (ha:a=lo+P*t) (hb:b=lb+P*T) (hlb:lb<P):t / (T+1)*b≤a:=by
 have h1:t / (T+1)*(T+1)≤t:=Nat.div_mul_le_self _ _
 have h2:b≤P*(T+1):=by rw[Nat.mul_add];omega
 have h3:t / (T+1)*b≤t / (T+1)*(P*(T+1)):=Nat.mul_le_mul_left _ h2
 have h4:t / (T+1)*(P*(T+1))=P*(t / (T+1)*(T+1)):=by rw[Nat.mul_left_comm]
 have h5:=Nat.mul_le_mul_left P h1
 omega
end
section
open Go
variable {G:Nat} {Ext:FuncId→List Value→Mem→Outc→Mem→Prop}
def HalfR (S S':Mem) (v:Value) (N:Nat):Prop:=∃ (l:WL) (a:Option Addr) (c:Nat),Cons S S'∧v=.slice a l.length c∧WIn S' a c l∧(∀ x,a=some x→S.length≤x.block)∧HalfOk l∧hnum l=N
theorem grow_new {N:Nat} {S:Mem} {el:TypeId} {a:Option Addr} {n c:Nat} {l:List Value} (h:Grow N S el 1 (.slice a n c) n l):∀ x,a=some x→N≤x.block:=fun x hx=>by
 obtain⟨_,⟨hv,_⟩ | ⟨b,hb,hv,_⟩⟩:=h
 ·injection hv with e1;rw[e1] at hx;cases hx
 ·injection hv with e1;rw[e1] at hx;cases hx;exact hb
theorem compare_C (a1 a2:Option Addr) (c1 c2:Nat) (f g:WL) (S:Mem) (h1:WIn S a1 c1 f) (h2:WIn S a2 c2 g) (k1:HalfOk f) (k2:HalfOk g) :
  C Tryz.prog G Ext 110 [.slice a1 f.length c1,.slice a2 g.length c2] S fun v S'=>v=.int .i64 (cmpI (hnum f) (hnum g))∧S'=S:=by
 have hl1:=h1.2.2.2
 have hl2:=h2.2.2.2
 refine C.fn Tryz.func110 rfl (by kernel_rfl) rfl (go ?_)
 refine W.ite rfl (fun h=>?_) (fun h=>?_)
 ·have hne:f.length≠g.length:=fun he=>by rw[he] at h;simp at h
  clear h
  refine go ?_
  refine W.ite rfl (fun h=>?_) (fun h=>?_)
  ·have hlt:f.length<g.length:=by have:=of_decide_eq_true h;omega
   clear h
   refine go ?_
   refine⟨.inr rfl,_,rfl,?_,rfl⟩
   have:hnum f<hnum g:=by
    refine Classical.byContradiction fun hc=>?_
    have:=half_len k2 k1 (by omega)
    omega
   unfold cmpI
   rw[if_pos (by omega)];rfl
  ·have hlt:g.length<f.length:=by have:=of_decide_eq_false h;omega
   clear h
   refine go ?_
   refine⟨.inr rfl,_,rfl,?_,rfl⟩
   have:hnum g<hnum f:=by
    refine Classical.byContradiction fun hc=>?_
    have:=half_len k1 k2 (by omega)
    omega
   unfold cmpI
   rw[if_neg (by omega),if_pos (by omega)];rfl
 have heq:f.length=g.length:=by
  refine Classical.byContradiction fun hc=>?_
  have:((f.length:Int) != (g.length:Int))=true:=by rw[bne_iff_ne];omega
  rw[this] at h;cases h
 clear h
 refine go ?_
 refine W.loop (fun j e T=>∃ k:Nat,j=k∧k≤f.length∧T=S∧e 0=.slice a1 f.length c1∧e 1=.slice a2 g.length c2∧e 5=.int .i64 ((k:Int) - 1)∧∀ p,k≤p→f[p]?=g[p]?) f.length
  ⟨f.length,rfl,Nat.le_refl _,rfl,rfl,rfl,?_,fun p hp=>?_⟩ ?_
 ·exact congrArg (Value.int .i64) (wrap64 (by omega) (by omega))
 ·rw[List.getElem?_eq_none (by omega),List.getElem?_eq_none (by omega)]
 rintro j e T ⟨k,rfl,hk,rfl,e0,e1',e5,hp⟩
 refine W.env3 e0 e1' e5 (go ?_)
 refine W.ite rfl (fun h=>?_) (fun h=>?_)
 ·have hk1:1≤j:=by have:=of_decide_eq_true h;omega
  clear h
  obtain⟨m,rfl⟩:∃ m,j=m+1:=⟨j - 1,by omega⟩
  have hm:(((m+1:Nat):Int) - 1)=(m:Int):=by omega
  rw[hm]
  obtain⟨x,hx⟩:∃ x,f[m]?=some x:=⟨_,List.getElem?_eq_getElem (by omega)⟩
  obtain⟨y,hy⟩:∃ y,g[m]?=some y:=⟨_,List.getElem?_eq_getElem (by omega)⟩
  have hd:=drop_same (k:=m+1) (fun p h=>hp p h)
  refine go ?_
  refine L.el h1.1 (k:=m) rfl (wv_get hx) rfl rfl rfl rfl (fun _=>rfl) rfl (fun p=>go ?_)
  refine L.el h2.1 (k:=m) rfl (wv_get hy) rfl rfl rfl rfl (fun _=>rfl) rfl (fun p=>go ?_)
  refine W.ite rfl (fun h=>?_) (fun h=>?_)
  ·have hlt:x.toNat<y.toNat:=by have:=of_decide_eq_true h;omega
   clear h
   have:=hcmp_at k1.1 hx hy hd hlt
   refine go ?_
   refine⟨.inr rfl,_,rfl,?_,rfl⟩
   unfold cmpI
   rw[if_pos (by omega)];rfl
  have hge:y.toNat≤x.toNat:=by have:=of_decide_eq_false h;omega
  clear h
  refine go ?_
  refine L.el h1.1 (k:=m) rfl (wv_get hx) rfl rfl rfl rfl (fun _=>rfl) rfl (fun p=>go ?_)
  refine L.el h2.1 (k:=m) rfl (wv_get hy) rfl rfl rfl rfl (fun _=>rfl) rfl (fun p=>go ?_)
  refine W.ite rfl (fun h=>?_) (fun h=>?_)
  ·have hlt:y.toNat<x.toNat:=by have:=of_decide_eq_true h;omega
   clear h
   have:=hcmp_at k2.1 hy hx hd.symm hlt
   refine go ?_
   refine⟨.inr rfl,_,rfl,?_,rfl⟩
   unfold cmpI
   rw[if_neg (by omega),if_pos (by omega)];rfl
  ·have hxy:x=y:=by
    have:=of_decide_eq_false h
    exact BitVec.eq_of_toNat_eq (by omega)
   clear h
   refine go ?_
   refine⟨m,by omega,m,rfl,by omega,rfl,rfl,rfl,congrArg (Value.int .i64) (wrap64 (by omega) (by omega)),fun p h=>?_⟩
   rcases Nat.eq_or_lt_of_le h with h | h
   ·rw[← h,hx,hy,hxy]
   ·exact hp p h
 ·have hk0:j=0:=by have:=of_decide_eq_false h;omega
  subst hk0
  clear h
  have hfg:f=g:=List.ext_getElem? fun p=>hp p (Nat.zero_le _)
  refine go ?_
  refine⟨.inr rfl,_,rfl,?_,rfl⟩
  rw[hfg]
  unfold cmpI
  rw[if_neg (by omega),if_neg (by omega)];rfl
theorem word32 (s:Nat):∃ r:BitVec 64,r.toNat=s % 4294967296:=word_of (by omega)
theorem minus_C (a1 a2:Option Addr) (c1 c2:Nat) (f g:WL) (S:Mem) (h1:WIn S a1 c1 f) (h2:WIn S a2 c2 g) (k1:HalfOk f) (k2:HalfOk g) (hge:hnum g≤hnum f) (hlen:f.length<1000000) :
  C Tryz.prog G Ext 112 [.slice a1 f.length c1,.slice a2 g.length c2] S fun v S'=>HalfR S S' v (hnum f - hnum g):=by
 have hll:=half_len k2 k1 hge
 refine C.fn Tryz.func112 rfl (by kernel_rfl) rfl (go ?_)
 refine W.loop (fun j e T=>∃ (i:Nat) (o:WL) (a3:Option Addr) (c3 l:Nat),j=f.length - i∧i≤f.length∧Cons S T∧e 0=.slice a1 f.length c1∧e 1=.slice a2 g.length c2∧e 5=.slice a3 i c3∧e 6=.int .u64 (l:Int)∧e 7=vi i∧Grow S.length T 57 1 (.slice a3 i c3) i (wv o)∧o.length=i∧Small32 o∧l≤1∧hnum o+hnum (g.take i)=hnum (f.take i)+l*2^(32*i)) f.length
  ⟨0,[],none,0,0,by omega,by omega,Cons.refl _,rfl,rfl,rfl,rfl,rfl,Grow.nil _ _ _ _,rfl,(fun x hx=>by simp at hx),by decide,by simp [hnum]⟩ ?_
 rintro j e T ⟨i,o,a3,c3,l,rfl,hi,hc,e0,e1,e5,e6,e7,hg,hol,hso,hl,hsum⟩
 refine W.env5 e0 e1 e5 e6 e7 (go ?_)
 refine W.ite rfl (fun h=>?_) (fun h=>?_)
 ·have hin:i<f.length:=by have:=of_decide_eq_true h;omega
  clear h
  obtain⟨x,hx⟩:∃ x,f[i]?=some x:=⟨_,List.getElem?_eq_getElem hin⟩
  have hxl:=small32_get k1.1 hx
  have hw1:IntKind.u64.wrap (IntKind.u64.wrap ((x.toNat:Int)+4294967296) - (l:Int))=((x.toNat+4294967296 - l:Nat):Int):=by
   rw[show IntKind.u64.wrap ((x.toNat:Int)+4294967296)=((x.toNat+4294967296:Nat):Int) from wrapU64 (by omega) (by omega),wrapU64 (by omega) (by omega)];omega
  refine go ?_
  refine L.el (h1.cons hc).1 (k:=i) rfl (wv_get hx) rfl rfl rfl rfl (fun _=>rfl) rfl (fun p=>go ?_)
  rw[hw1]
  refine W.ite rfl (fun h=>?_) (fun h=>?_)
  ·have hi2:i<g.length:=by have:=of_decide_eq_true h;omega
   clear h
   obtain⟨y,hy⟩:∃ y,g[i]?=some y:=⟨_,List.getElem?_eq_getElem hi2⟩
   have hyl:=small32_get k2.1 hy
   have hty:=hnum_take_succ hy
   have hw2:IntKind.u64.wrap (((x.toNat+4294967296 - l:Nat):Int) - (y.toNat:Int))=((x.toNat+4294967296 - l - y.toNat:Nat):Int):=by
    rw[wrapU64 (by omega) (by omega)];omega
   refine go ?_
   refine L.el (h2.cons hc).1 (k:=i) rfl (wv_get hy) rfl rfl rfl rfl (fun _=>rfl) rfl (fun p=>go ?_)
   rw[hw2]
   obtain⟨s,hs⟩:∃ s,s=x.toNat+4294967296 - l - y.toNat:=⟨_,rfl⟩
   obtain⟨hst,hs1⟩:=sub_step32 (P:=2^(32*i)) hsum hl hxl hyl hs
   obtain⟨r,hr⟩:=word32 s
   rw[← hr] at hst
   rw[← hs]
   have hw3:IntKind.u64.wrap (1 - Int.fdiv (s:Int) (2^min (Int.toNat 32) IntKind.u64.bits))=((1 - s / 4294967296:Nat):Int):=by
    rw[shrHi,wrapU64 (by omega) (by omega)];omega
   rw[andLo (by omega),← hr]
   refine L.push1 (w:=v64 r) rfl hc.len (.inl hg) rfl rfl rfl rfl rfl (by omega) rfl (fun _=>rfl) (fun p a4 c4 S2 h2 h3 h4=>go ?_)
   refine⟨f.length - (i+1),by omega,i+1,o++[r],a4,c4,1 - s / 4294967296,rfl,by omega,hc.trans' h4,rfl,rfl,rfl,(force_eq rfl).trans (congrArg (Value.int .u64) hw3),congrArg (Value.int .i64) (wrap64 (by omega) (by omega)),by rw[wv,List.map_append];exact h2,by simp [hol],small32_snoc hso (by omega),by omega,?_⟩
   rw[hnum_snoc,hol,pow32_succ,hnum_take_succ hx,hty]
   exact hst
  ·have hi2:g.length≤i:=by have:=of_decide_eq_false h;omega
   clear h
   have hyl:0<4294967296:=by decide
   have hty:hnum (g.take (i+1))=hnum (g.take i)+2^(32*i)*0:=by rw[htake_more hi2];omega
   rw[show x.toNat+4294967296 - l=x.toNat+4294967296 - l - 0 from rfl]
   obtain⟨s,hs⟩:∃ s,s=x.toNat+4294967296 - l - 0:=⟨_,rfl⟩
   obtain⟨hst,hs1⟩:=sub_step32 (P:=2^(32*i)) hsum hl hxl hyl hs
   obtain⟨r,hr⟩:=word32 s
   rw[← hr] at hst
   rw[← hs]
   have hw3:IntKind.u64.wrap (1 - Int.fdiv (s:Int) (2^min (Int.toNat 32) IntKind.u64.bits))=((1 - s / 4294967296:Nat):Int):=by
    rw[shrHi,wrapU64 (by omega) (by omega)];omega
   refine go ?_
   rw[andLo (by omega),← hr]
   refine L.push1 (w:=v64 r) rfl hc.len (.inl hg) rfl rfl rfl rfl rfl (by omega) rfl (fun _=>rfl) (fun p a4 c4 S2 h2 h3 h4=>go ?_)
   refine⟨f.length - (i+1),by omega,i+1,o++[r],a4,c4,1 - s / 4294967296,rfl,by omega,hc.trans' h4,rfl,rfl,rfl,(force_eq rfl).trans (congrArg (Value.int .u64) hw3),congrArg (Value.int .i64) (wrap64 (by omega) (by omega)),by rw[wv,List.map_append];exact h2,by simp [hol],small32_snoc hso (by omega),by omega,?_⟩
   rw[hnum_snoc,hol,pow32_succ,hnum_take_succ hx,hty]
   exact hst
 ·have hin:i=f.length:=by have:=of_decide_eq_false h;omega
  subst hin
  clear h
  rw[List.take_length,List.take_of_length_le hll] at hsum
  have hlt:=hnum_lt hso
  rw[hol] at hlt
  have hl0:l=0:=by
   rcases Nat.lt_or_ge 0 l with h | h
   ·have:l=1:=by omega
    subst this
    rw[Nat.one_mul] at hsum
    omega
   ·omega
  subst hl0
  rw[Nat.zero_mul,Nat.add_zero] at hsum
  have hW:WIn T a3 c3 o:=grow_win (by rw[hol];exact hg) (by omega)
  refine go ?_
  refine L.cl (strip_C a3 c3 o T hW) rfl (by rw[hol];rfl) ?_
  rintro _ _ ⟨rfl,rfl⟩
  refine⟨nofun,go ?_⟩
  exact⟨.inr rfl,_,rfl,fm o,a3,c3,hc,rfl,hW.form,grow_new hg,HalfOk.form hso,by rw[hnum_form];omega⟩
theorem little_C (a:Option Addr) (c n:Nat) (f:WL) (S:Mem) (h1:WIn S a c f) (k1:Small32 f) (hn:n<4294967296) (hlen:f.length<1000000) :
  C Tryz.prog G Ext 113 [.slice a f.length c,.int .u64 (n:Int)] S fun v S'=>HalfR S S' v (hnum f*n):=by
 refine C.fn Tryz.func113 rfl (by kernel_rfl) rfl (go ?_)
 refine W.loop (fun j e T=>∃ (i:Nat) (o:WL) (a3:Option Addr) (c3 cr:Nat),j=f.length - i∧i≤f.length∧Cons S T∧e 0=.slice a f.length c∧e 1=.int .u64 (n:Int)∧e 5=.slice a3 i c3∧e 6=.int .u64 (cr:Int)∧e 7=vi i∧Grow S.length T 57 1 (.slice a3 i c3) i (wv o)∧o.length=i∧Small32 o∧cr<4294967296∧hnum o+cr*2^(32*i)=hnum (f.take i)*n) f.length
  ⟨0,[],none,0,0,by omega,by omega,Cons.refl _,rfl,rfl,rfl,rfl,rfl,Grow.nil _ _ _ _,rfl,(fun x hx=>by simp at hx),by decide,by simp [hnum]⟩ ?_
 rintro j e T ⟨i,o,a3,c3,cr,rfl,hi,hc,e0,e1,e5,e6,e7,hg,hol,hso,hcr,hsum⟩
 refine W.env5 e0 e1 e5 e6 e7 (go ?_)
 refine W.ite rfl (fun h=>?_) (fun h=>?_)
 ·have hin:i<f.length:=by have:=of_decide_eq_true h;omega
  clear h
  obtain⟨x,hx⟩:∃ x,f[i]?=some x:=⟨_,List.getElem?_eq_getElem hin⟩
  have hxl:=small32_get k1 hx
  have hxn:x.toNat * n≤4294967295*4294967295:=Nat.mul_le_mul (by omega) (by omega)
  obtain⟨s,hs⟩:∃ s,s=x.toNat * n+cr:=⟨_,rfl⟩
  have hw1:IntKind.u64.wrap (IntKind.u64.wrap ((x.toNat:Int)*(n:Int))+(cr:Int))=(s:Int):=by
   rw[umul (by omega),uadd (by omega),hs]
  have hsl:s<18446744073709551616:=by omega
  obtain⟨r,hr⟩:=word32 s
  have hst:=mul_step32 (P:=2^(32*i)) hsum hs
  rw[← hr] at hst
  refine go ?_
  refine L.el (h1.cons hc).1 (k:=i) rfl (wv_get hx) rfl rfl rfl rfl (fun _=>rfl) rfl (fun p=>go ?_)
  rw[hw1,andLo hsl,← hr]
  refine L.push1 (w:=v64 r) rfl hc.len (.inl hg) rfl rfl rfl rfl rfl (by omega) rfl (fun _=>rfl) (fun p a4 c4 S2 h2 h3 h4=>go ?_)
  refine⟨f.length - (i+1),by omega,i+1,o++[r],a4,c4,s / 4294967296,rfl,by omega,hc.trans' h4,rfl,rfl,rfl,(force_eq rfl).trans (congrArg (Value.int .u64) (shrHi s)),congrArg (Value.int .i64) (wrap64 (by omega) (by omega)),by rw[wv,List.map_append];exact h2,by simp [hol],small32_snoc hso (by omega),by omega,?_⟩
  rw[hnum_snoc,hol,pow32_succ,hnum_take_succ hx]
  exact hst
 ·have hin:i=f.length:=by have:=of_decide_eq_false h;omega
  subst hin
  clear h
  rw[List.take_length] at hsum
  obtain⟨r,hr⟩:=word_of (n:=cr) (by omega)
  rw[← hr]
  refine go ?_
  refine L.push1 (w:=v64 r) rfl hc.len (.inl hg) rfl rfl rfl rfl rfl (by omega) rfl (fun _=>rfl) (fun p a4 c4 S2 h2 h3 h4=>?_)
  have hW:WIn S2 a4 c4 (o++[r]):=grow_win (by rw[List.length_append,hol,wv,List.map_append];exact h2) (by simp;omega)
  have hlo:(o++[r]).length=f.length+1:=by simp [hol]
  refine go ?_
  refine L.cl (strip_C a4 c4 (o++[r]) S2 hW) rfl (by rw[hlo];rfl) ?_
  rintro _ _ ⟨rfl,rfl⟩
  refine⟨nofun,go ?_⟩
  refine⟨.inr rfl,_,rfl,fm (o++[r]),a4,c4,hc.trans' h4,rfl,hW.form,grow_new h2,HalfOk.form (small32_snoc hso (by omega)),?_⟩
  rw[hnum_form,hnum_snoc,hol,hr,Nat.mul_comm (2^(32*f.length))]
  exact hsum
end
section
open Go
variable {G:Nat} {Ext:FuncId→List Value→Mem→Outc→Mem→Prop}
theorem limbs_num {h:WL} (hs:Small32 h):fm (un h)=toW (hnum h):=by unfold fm;rw[wnum_un _ hs]
theorem hl_ok (l:WL):HalfOk (fm (hl l)):=HalfOk.form (small_hl l)
theorem hl_num (l:WL):hnum (fm (hl l))=wnum l:=by rw[hnum_form,hnum_hl]
theorem hlf_len (l:WL):(fm (hl l)).length≤2*l.length:=by
 have:=toW_len_le (hl l)
 rw[hl_len] at this
 exact this
theorem limbsN_C (a:Option Addr) (c:Nat) (h:WL) (S:Mem) (hI:WIn S a c h) (hs:Small32 h) (hlen:h.length<1000000):C Tryz.prog G Ext 108 [.slice a h.length c] S fun v S'=>RefW S S' v (toW (hnum h)):=by
 rw[← limbs_num hs]
 exact limbs_C a c h S hI hlen
theorem halvesN_C (a:Option Addr) (c:Nat) (l:WL) (S:Mem) (hI:WIn S a c l) (hlen:l.length<1000000):C Tryz.prog G Ext 90 [.slice a l.length c] S fun v S'=>∃ h,RefW S S' v h∧HalfOk h∧hnum h=wnum l∧h.length≤2*l.length:=
 (halves_C a c l S hI hlen).mono fun v S' h=>⟨_,h,hl_ok l,hl_num l,hlf_len l⟩
theorem minusR_C (a1 a2:Option Addr) (c1 c2:Nat) (l1 l2:WL) (S:Mem) (h1:WIn S a1 c1 l1) (h2:WIn S a2 c2 l2) (n1:l1.length<400000) (n2:l2.length<400000) (hge:wnum l2≤wnum l1) :
  C Tryz.prog G Ext 107 [.slice a1 l1.length c1,.slice a2 l2.length c2] S fun v S'=>RefW S S' v (toW (wnum l1 - wnum l2)):=by
 refine C.fn Tryz.func107 rfl (by kernel_rfl) rfl (go ?_)
 refine L.cl (halvesN_C a1 c1 l1 S h1 (by omega)) rfl rfl ?_
 rintro _ S1 ⟨f,⟨k1,b1,d1,rfl,i1⟩,o1,e1,q1⟩
 refine⟨fun _=>k1,go ?_⟩
 refine L.cl (halvesN_C a2 c2 l2 S1 (h2.cons k1) (by omega)) rfl rfl ?_
 rintro _ S2 ⟨g,⟨k2,b2,d2,rfl,i2⟩,o2,e2,q2⟩
 refine⟨fun _=>k2,?_⟩
 refine L.cl (minus_C b1 b2 d1 d2 f g S2 (i1.cons k2) i2 o1 o2 (by omega) (by omega)) rfl rfl ?_
 rintro _ S3 ⟨h,b3,d3,k3,rfl,i3,_,o3,e3⟩
 refine⟨fun _=>k3,?_⟩
 have hh:h.length≤f.length:=half_len o3 o1 (by omega)
 refine L.cl (limbsN_C b3 d3 h S3 i3 o3.1 (by omega)) rfl rfl ?_
 rintro _ S4 ⟨k4,b4,d4,rfl,i4⟩
 refine⟨fun _=>k4,go ?_⟩
 rw[e3,e1,e2] at i4 ⊢
 exact⟨.inr rfl,_,rfl,((k1.trans k2).trans k3).trans k4,b4,d4,rfl,i4⟩
theorem compareR_C (a1 a2:Option Addr) (c1 c2:Nat) (l1 l2:WL) (S:Mem) (h1:WIn S a1 c1 l1) (h2:WIn S a2 c2 l2) (n1:l1.length<400000) (n2:l2.length<400000) :
  C Tryz.prog G Ext 106 [.slice a1 l1.length c1,.slice a2 l2.length c2] S fun v S'=>v=.int .i64 (cmpI (wnum l1) (wnum l2))∧Cons S S':=by
 refine C.fn Tryz.func106 rfl (by kernel_rfl) rfl (go ?_)
 refine L.cl (halvesN_C a1 c1 l1 S h1 (by omega)) rfl rfl ?_
 rintro _ S1 ⟨f,⟨k1,b1,d1,rfl,i1⟩,o1,e1,q1⟩
 refine⟨fun _=>k1,go ?_⟩
 refine L.cl (halvesN_C a2 c2 l2 S1 (h2.cons k1) (by omega)) rfl rfl ?_
 rintro _ S2 ⟨g,⟨k2,b2,d2,rfl,i2⟩,o2,e2,q2⟩
 refine⟨fun _=>k2,?_⟩
 refine L.cl (compare_C b1 b2 d1 d2 f g S2 (i1.cons k2) i2 o1 o2) rfl rfl ?_
 rintro _ _ ⟨rfl,rfl⟩
 refine⟨fun _=>Cons.refl _,?_⟩
 rw[e1,e2]
 refine go ?_
 exact⟨.inr rfl,_,rfl,rfl,k1.trans k2⟩
theorem plusR_C (a1 a2:Option Addr) (c1 c2:Nat) (l1 l2:WL) (S:Mem) (h1:WIn S a1 c1 l1) (h2:WIn S a2 c2 l2) (n1:l1.length<400000) (n2:l2.length<400000) :
  C Tryz.prog G Ext 105 [.slice a1 l1.length c1,.slice a2 l2.length c2] S fun v S'=>RefW S S' v (toW (wnum l1+wnum l2)):=by
 refine C.fn Tryz.func105 rfl (by kernel_rfl) rfl (go ?_)
 refine L.cl (halvesN_C a1 c1 l1 S h1 (by omega)) rfl rfl ?_
 rintro _ S1 ⟨f,⟨k1,b1,d1,rfl,i1⟩,o1,e1,q1⟩
 refine⟨fun _=>k1,go ?_⟩
 refine L.cl (halvesN_C a2 c2 l2 S1 (h2.cons k1) (by omega)) rfl rfl ?_
 rintro _ S2 ⟨g,⟨k2,b2,d2,rfl,i2⟩,o2,e2,q2⟩
 refine⟨fun _=>k2,?_⟩
 replace i1:=i1.cons k2
 refine go ?_
 refine W.loop (fun j e T=>∃ (i:Nat) (o:WL) (a3:Option Addr) (c3 cr:Nat),j=2*(max f.length g.length - i)+cr∧i≤max f.length g.length+1∧Cons S2 T∧e 5=.slice b1 f.length d1∧e 6=.slice b2 g.length d2∧e 7=.slice a3 i c3∧e 8=.int .u64 (cr:Int)∧e 9=vi i∧Grow S2.length T 57 1 (.slice a3 i c3) i (wv o)∧o.length=i∧Small32 o∧cr≤1∧(i=max f.length g.length+1→cr=0)∧hnum o+cr*2^(32*i)=hnum (f.take i)+hnum (g.take i)) (2*max f.length g.length)
  ⟨0,[],none,0,0,by omega,by omega,Cons.refl _,rfl,rfl,rfl,rfl,rfl,Grow.nil _ _ _ _,rfl,(fun x hx=>by simp at hx),by decide,fun _=>rfl,by simp [hnum]⟩ ?_
 rintro j e T ⟨i,o,a3,c3,cr,rfl,hi,hc,e5,e6,e7,e8,e9,hg,hol,hso,hcr,hcl,hsum⟩
 refine W.env5 e5 e6 e7 e8 e9 ?_
 refine W.seq ?_
 refine W.seq ?_
 refine W.mono (R:=fun x e' T'=>x=.nrm∧T'=T∧e' 5=.slice b1 f.length d1∧e' 6=.slice b2 g.length d2∧e' 7=.slice a3 i c3∧e' 8=.int .u64 (cr:Int)∧e' 9=vi i∧e' 28=.bool (decide (i<f.length∨i<g.length∨0<cr))) ?_ ?_
 ·refine go ?_
  cases hb:decide ((i:Int)<(f.length:Int))
  ·have q1:¬ i<f.length:=by have:=of_decide_eq_false hb;omega
   refine go ?_
   cases hb2:decide ((i:Int)<(g.length:Int))
   ·have q2:¬ i<g.length:=by have:=of_decide_eq_false hb2;omega
    refine go ?_
    exact⟨rfl,rfl,rfl,rfl,rfl,rfl,rfl,congrArg Value.bool (decide_eq_decide.2 (by omega))⟩
   ·have q2:i<g.length:=by have:=of_decide_eq_true hb2;omega
    refine go ?_
    exact⟨rfl,rfl,rfl,rfl,rfl,rfl,rfl,congrArg Value.bool (decide_eq_true (.inr (.inl q2))).symm⟩
  ·have q1:i<f.length:=by have:=of_decide_eq_true hb;omega
   refine go ?_
   exact⟨rfl,rfl,rfl,rfl,rfl,rfl,rfl,congrArg Value.bool (decide_eq_true (.inl q1)).symm⟩
 clear e5 e6 e7 e8 e9
 rintro _ e T' ⟨rfl,hT,e5,e6,e7,e8,e9,e28⟩
 subst hT
 refine W.env6 e5 e6 e7 e8 e9 e28 ?_
 refine W.ite rfl (fun h=>?_) (fun h=>?_)
 ·have hor:=of_decide_eq_true h
  clear h
  refine go ?_
  refine W.mono (R:=fun x e' T''=>x=.nrm∧T''=T'∧∃ y:Nat,e' 5=.slice b1 f.length d1∧e' 6=.slice b2 g.length d2∧e' 7=.slice a3 i c3∧e' 9=vi i∧e' 10=.int .u64 ((cr+y:Nat):Int)∧y<4294967296∧(f.length≤i→y=0)∧hnum (f.take (i+1))=hnum (f.take i)+2^(32*i)*y) ?_ ?_
  ·refine W.ite rfl (fun h=>?_) (fun h=>?_)
   ·have hin:i<f.length:=by have:=of_decide_eq_true h;omega
    clear h
    obtain⟨x,hx⟩:∃ x,f[i]?=some x:=⟨_,List.getElem?_eq_getElem hin⟩
    have hxl:=small32_get o1.1 hx
    refine go ?_
    refine L.el (i1.cons hc).1 (k:=i) rfl (wv_get hx) rfl rfl rfl rfl (fun _=>rfl) rfl (fun p=>go ?_)
    exact⟨rfl,rfl,x.toNat,rfl,rfl,rfl,rfl,(force_eq rfl).trans (congrArg (Value.int .u64) (uadd (by omega))),hxl,fun _=>by omega,hnum_take_succ hx⟩
   ·have hin:f.length≤i:=by have:=of_decide_eq_false h;omega
    clear h
    refine go ?_
    exact⟨rfl,rfl,0,rfl,rfl,rfl,rfl,rfl,by decide,fun _=>rfl,by rw[htake_more hin];omega⟩
  clear e5 e6 e7 e9
  rintro _ e T'' ⟨rfl,hT,y,e5,e6,e7,e9,e10,hyl,hyz,hty⟩
  subst hT
  rename Mem=>T'
  refine W.env5 e5 e6 e7 e9 e10 (go ?_)
  refine W.mono (R:=fun x e' T''=>x=.nrm∧T''=T'∧∃ z:Nat,e' 5=.slice b1 f.length d1∧e' 6=.slice b2 g.length d2∧e' 7=.slice a3 i c3∧e' 9=vi i∧e' 10=.int .u64 (((cr+y)+z:Nat):Int)∧z<4294967296∧(g.length≤i→z=0)∧hnum (g.take (i+1))=hnum (g.take i)+2^(32*i)*z) ?_ ?_
  ·refine W.ite rfl (fun h=>?_) (fun h=>?_)
   ·have hin:i<g.length:=by have:=of_decide_eq_true h;omega
    clear h
    obtain⟨x,hx⟩:∃ x,g[i]?=some x:=⟨_,List.getElem?_eq_getElem hin⟩
    have hxl:=small32_get o2.1 hx
    refine go ?_
    refine L.el (i2.cons hc).1 (k:=i) rfl (wv_get hx) rfl rfl rfl rfl (fun _=>rfl) rfl (fun p=>go ?_)
    exact⟨rfl,rfl,x.toNat,rfl,rfl,rfl,rfl,(force_eq rfl).trans (congrArg (Value.int .u64) (uadd (by omega))),hxl,fun _=>by omega,hnum_take_succ hx⟩
   ·have hin:g.length≤i:=by have:=of_decide_eq_false h;omega
    clear h
    refine go ?_
    exact⟨rfl,rfl,0,rfl,rfl,rfl,rfl,rfl,by decide,fun _=>rfl,by rw[htake_more hin];omega⟩
  clear e5 e6 e7 e9
  rintro _ e T'' ⟨rfl,hT,z,e5,e6,e7,e9,e10,hzl,hzz,htz⟩
  subst hT
  rename Mem=>T'
  refine W.env5 e5 e6 e7 e9 e10 ?_
  obtain⟨s,hs⟩:∃ s,s=cr+y+z:=⟨_,rfl⟩
  rw[← hs]
  have hst:=add_step32 (P:=2^(32*i)) hsum hs
  rw[← hty,← htz] at hst
  obtain⟨r,hr⟩:=word32 s
  rw[← hr] at hst
  refine go ?_
  rw[andLo (by omega),← hr]
  refine L.push1 (w:=v64 r) rfl hc.len (.inl hg) rfl rfl rfl rfl rfl (by omega) rfl (fun _=>rfl) (fun p a4 c4 S2 h2 h3 h4=>go ?_)
  refine⟨2*(max f.length g.length - (i+1))+s / 4294967296,by omega,i+1,o++[r],a4,c4,s / 4294967296,rfl,by omega,hc.trans' h4,rfl,rfl,rfl,(force_eq rfl).trans (congrArg (Value.int .u64) (shrHi s)),congrArg (Value.int .i64) (wrap64 (by omega) (by omega)),by rw[wv,List.map_append];exact h2,by simp [hol],small32_snoc hso (by omega),by omega,fun _=>by omega,?_⟩
  rw[hnum_snoc,hol,pow32_succ]
  exact hst
 ·have hor:=of_decide_eq_false h
  clear h
  have hcr0:cr=0:=by omega
  subst hcr0
  rw[Nat.zero_mul,Nat.add_zero,List.take_of_length_le (show f.length≤i by omega),List.take_of_length_le (show g.length≤i by omega)] at hsum
  have hW:WIn T' a3 c3 o:=grow_win (by rw[hol];exact hg) (by omega)
  refine go ?_
  refine L.cl (limbsN_C a3 c3 o T' hW hso (by omega)) rfl (by rw[hol];rfl) ?_
  rintro _ S4 ⟨k4,b4,d4,rfl,i4⟩
  refine⟨fun _=>k4,?_⟩
  rw[hsum,e1,e2] at i4 ⊢
  refine go ?_
  exact⟨.inr rfl,_,rfl,(((k1.trans k2).trans hc).trans k4),b4,d4,rfl,i4⟩
theorem timesR_C (a1 a2:Option Addr) (c1 c2:Nat) (l1 l2:WL) (S:Mem) (h1:WIn S a1 c1 l1) (h2:WIn S a2 c2 l2) (n1:l1.length<100000) (n2:l2.length<100000) :
  C Tryz.prog G Ext 91 [.slice a1 l1.length c1,.slice a2 l2.length c2] S fun v S'=>RefW S S' v (toW (wnum l1*wnum l2)):=by
 refine C.fn Tryz.func91 rfl (by kernel_rfl) rfl (go ?_)
 refine L.cl (halvesN_C a1 c1 l1 S h1 (by omega)) rfl rfl ?_
 rintro _ S1 ⟨f,⟨k1,b1,d1,rfl,i1⟩,o1,e1,q1⟩
 refine⟨fun _=>k1,go ?_⟩
 refine L.cl (halvesN_C a2 c2 l2 S1 (h2.cons k1) (by omega)) rfl rfl ?_
 rintro _ S2 ⟨g,⟨k2,b2,d2,rfl,i2⟩,o2,e2,q2⟩
 refine⟨fun _=>k2,?_⟩
 replace i1:=i1.cons k2
 obtain⟨sz,hsz⟩:∃ sz,sz=f.length+g.length:=⟨_,rfl⟩
 have hw1:IntKind.i64.wrap ((f.length:Int)+(g.length:Int))=((sz:Nat):Int):=by rw[wrap64 (by omega) (by omega),hsz];rfl
 refine go ?_
 refine L.mk (n:=sz) (m:=sz) (bytes:=8) (zv:=v64 0#64) rfl rfl hw1 rfl hw1 (Nat.le_refl _) (by omega) rfl rfl ?_
 have hro:Mem.row? (S2++[newR (List.replicate sz (v64 0#64)) 57]) S2.length=some (newR (wv (List.replicate sz 0#64)) 57):=by
  rw[row_push_new rfl];simp [wv]
 have hk5:=Cons.push S2 (newR (List.replicate sz (v64 0#64)) 57)
 generalize S2++[newR (List.replicate sz (v64 0#64)) 57]=S3 at *
 obtain⟨ro,hro0⟩:∃ ro,ro=S2.length:=⟨_,rfl⟩
 rw[← hro0] at hro ⊢
 have hs0:Small32 (List.replicate sz 0#64):=fun x hx=>by rw[List.eq_of_mem_replicate hx];decide
 refine go ?_
 refine W.loop (fun j e T=>∃ (i:Nat) (o:WL),j=f.length - i∧i≤f.length∧e 5=.slice b1 f.length d1∧e 6=.slice b2 g.length d2∧e 7=.slice (some ⟨ro,0,none⟩) sz sz∧e 8=vi i∧Cons S2 T∧T.row? ro=some (newR (wv o) 57)∧o.length=sz∧Small32 o∧hnum o=hnum (f.take i)*hnum g∧∀ p,i+g.length≤p→p<sz→o[p]?=some 0#64) f.length
  ⟨0,List.replicate sz 0#64,by omega,by omega,rfl,rfl,rfl,rfl,hk5,hro,by simp,hs0,by rw[hnum_zeros];simp [hnum],fun p _ hp=>by simp [hp]⟩ ?_
 clear hro hk5 hs0
 rintro j e T ⟨i,o,rfl,hi,e5,e6,e7,e8,hkT,hro,hol,hso,hwo,hz⟩
 refine W.env4 e5 e6 e7 e8 (go ?_)
 refine W.ite rfl (fun h=>?_) (fun h=>?_)
 ·have hin:i<f.length:=by have:=of_decide_eq_true h;omega
  clear h
  obtain⟨x,hx⟩:∃ x,f[i]?=some x:=⟨_,List.getElem?_eq_getElem hin⟩
  have hxl:=small32_get o1.1 hx
  refine go ?_
  refine W.loop (fun j e T=>∃ (k:Nat) (o:WL) (cr:Nat),j=g.length - k∧k≤g.length∧e 5=.slice b1 f.length d1∧e 6=.slice b2 g.length d2∧e 7=.slice (some ⟨ro,0,none⟩) sz sz∧e 8=vi i∧e 9=.int .u64 (cr:Int)∧e 10=vi k∧Cons S2 T∧T.row? ro=some (newR (wv o) 57)∧o.length=sz∧Small32 o∧cr<4294967296∧hnum o+cr*2^(32*(i+k))=hnum (f.take i)*hnum g+x.toNat * hnum (g.take k)*2^(32*i)∧∀ p,i+g.length≤p→p<sz→o[p]?=some 0#64) g.length
   ⟨0,o,0,by omega,by omega,rfl,rfl,rfl,rfl,rfl,rfl,hkT,hro,hol,hso,by decide,by rw[hwo];simp [hnum],hz⟩ ?_
  clear hro hol hwo hz hkT e5 e6 e7 e8 hso
  clear o e T
  rintro j e T ⟨k,o,cr,rfl,hk,e5,e6,e7,e8,e9,e10,hkT,hro,hol,hso,hcr,hsum,hz⟩
  refine W.env6 e5 e6 e7 e8 e9 e10 ?_
  have hsl:Slv T 1 (.slice (some ⟨ro,0,none⟩) sz sz) sz (wv o):=Slv.all hro rfl (by rw[wv_len,hol,Nat.mul_one])
  refine go ?_
  refine W.ite rfl (fun h=>?_) (fun h=>?_)
  ·have hk2:k<g.length:=by have:=of_decide_eq_true h;omega
   clear h
   obtain⟨y,hy⟩:∃ y,g[k]?=some y:=⟨_,List.getElem?_eq_getElem hk2⟩
   obtain⟨z,hzz⟩:∃ z,o[i+k]?=some z:=⟨_,List.getElem?_eq_getElem (by omega)⟩
   have hyl:=small32_get o2.1 hy
   have hzl:=small32_get hso hzz
   have hw2:IntKind.i64.wrap ((i:Int)+(k:Int))=((i+k:Nat):Int):=by rw[wrap64 (by omega) (by omega)];rfl
   have hxy:x.toNat * y.toNat≤4294967295*4294967295:=Nat.mul_le_mul (by omega) (by omega)
   obtain⟨s,hs⟩:∃ s,s=z.toNat+x.toNat * y.toNat+cr:=⟨_,rfl⟩
   have hw3:IntKind.u64.wrap (IntKind.u64.wrap ((z.toNat:Int)+IntKind.u64.wrap ((x.toNat:Int)*(y.toNat:Int)))+(cr:Int))=(s:Int):=by
    rw[umul (by omega),uadd (by omega),uadd (by omega),hs]
   obtain⟨r,hr⟩:=word32 s
   refine go ?_
   rw[hw2]
   refine L.el hsl (k:=i+k) rfl (wv_get hzz) rfl rfl rfl rfl (fun _=>rfl) rfl (fun p=>go ?_)
   refine L.el (i1.cons hkT).1 (k:=i) rfl (wv_get hx) rfl rfl rfl rfl (fun _=>rfl) rfl (fun p=>go ?_)
   refine L.el (i2.cons hkT).1 (k:=k) rfl (wv_get hy) rfl rfl rfl rfl (fun _=>rfl) rfl (fun p=>go ?_)
   rw[hw3,hw2,andLo (by omega),← hr]
   refine L.elst hro rfl (by show 0+sz≤(wv o).length;rw[wv_len,hol];omega) (k:=i+k) rfl (by omega) rfl rfl rfl rfl (fun _=>rfl) (fun _=>rfl) rfl rfl rfl (fun p=>?_)
   have hr2:=row_set_w (k:=i+k) (r:=r) hro
   have hk6:=hkT.set ro { newR (wv o) 57 with cells:=(newR (wv o) 57).cells.set (0+(i+k)) (v64 r) } (by omega)
   have hws:=hnum_set (y:=r) hzz
   generalize List.set T ro _=T6 at *
   refine go ?_
   refine⟨g.length - (k+1),by omega,k+1,o.set (i+k) r,s / 4294967296,rfl,by omega,rfl,rfl,rfl,rfl,(force_eq rfl).trans (congrArg (Value.int .u64) (shrHi s)),congrArg (Value.int .i64) (wrap64 (by omega) (by omega)),hk6,hr2,by simpa using hol,small32_set hso (by omega),by omega,?_,fun p hp1 hp2=>?_⟩
   ·rw[hnum_take_succ hy,show i+(k+1)=i+k+1 by omega,pow32_succ]
    have hP:2^(32*i)*2^(32*k)=2^(32*(i+k)):=by rw[← Nat.pow_add];congr 1;omega
    have e4:x.toNat * (hnum (g.take k)+2^(32*k)*y.toNat)*2^(32*i)=x.toNat * hnum (g.take k)*2^(32*i)+x.toNat * y.toNat * 2^(32*(i+k)):=by
     rw[← hP,Nat.mul_add,Nat.add_mul];congr 1
     rw[Nat.mul_comm (2^(32*k)),Nat.mul_assoc,Nat.mul_assoc,Nat.mul_assoc,Nat.mul_comm (2^(32*k))]
    rw[e4]
    have e5:r.toNat * 2^(32*(i+k))+s / 4294967296*(2^(32*(i+k))*4294967296)=s*2^(32*(i+k)):=by
     rw[hr,Nat.mul_comm (2^(32*(i+k))) 4294967296,← Nat.mul_assoc,← Nat.add_mul];congr 1;omega
    have e6:s*2^(32*(i+k))=z.toNat * 2^(32*(i+k))+x.toNat * y.toNat * 2^(32*(i+k))+cr*2^(32*(i+k)):=by rw[hs,Nat.add_mul,Nat.add_mul]
    omega
   ·rw[List.getElem?_set,if_neg (by omega)];exact hz p hp1 hp2
  ·have hkk:k=g.length:=by have:=of_decide_eq_false h;omega
   subst hkk
   clear h
   rw[List.take_length] at hsum
   have hz0:=hz (i+g.length) (Nat.le_refl _) (by omega)
   have hw2:IntKind.i64.wrap ((i:Int)+(g.length:Int))=((i+g.length:Nat):Int):=by rw[wrap64 (by omega) (by omega)];rfl
   obtain⟨r,hr⟩:=word_of (n:=cr) (by omega)
   rw[← hr] at hsum hcr ⊢
   refine go ?_
   rw[hw2]
   refine L.elst hro rfl (by show 0+sz≤(wv o).length;rw[wv_len,hol];omega) (k:=i+g.length) rfl (by omega) rfl rfl rfl rfl (fun _=>rfl) (fun _=>rfl) rfl rfl rfl (fun p=>?_)
   have hr2:=row_set_w (k:=i+g.length) (r:=r) hro
   have hk6:=hkT.set ro { newR (wv o) 57 with cells:=(newR (wv o) 57).cells.set (0+(i+g.length)) (v64 r) } (by omega)
   have hws:=hnum_set (y:=r) hz0
   generalize List.set T ro _=T6 at *
   refine go ?_
   refine⟨f.length - (i+1),by omega,i+1,o.set (i+g.length) r,rfl,by omega,rfl,rfl,rfl,congrArg (Value.int .i64) (wrap64 (by omega) (by omega)),hk6,hr2,by simpa using hol,small32_set hso hcr,?_,fun p hp1 hp2=>?_⟩
   ·rw[hnum_take_succ hx,Nat.add_mul]
    have hz1:(0#64:BitVec 64).toNat * 2^(32*(i+g.length))=0:=Nat.zero_mul _
    rw[hz1] at hws
    rw[Nat.mul_comm (2^(32*i)),Nat.mul_right_comm]
    omega
   ·rw[List.getElem?_set,if_neg (by omega)];exact hz p (by omega) hp2
 ·have hin:i=f.length:=by have:=of_decide_eq_false h;omega
  subst hin
  clear h
  rw[List.take_length] at hwo
  have hW:WIn T (some ⟨ro,0,none⟩) sz o:=(WOwn.row (N:=0) hro hol (Nat.zero_le _) (by omega)).1
  have hfo:HalfOk (fm o):=HalfOk.form hso
  have hfl:(fm o).length≤o.length:=toW_len_le o
  refine go ?_
  refine L.cl (strip_C (some ⟨ro,0,none⟩) sz o T hW) rfl (by rw[hol];rfl) ?_
  rintro _ _ ⟨rfl,rfl⟩
  refine⟨fun _=>Cons.refl _,?_⟩
  rename Mem=>T
  refine L.cl (limbsN_C (some ⟨ro,0,none⟩) sz (fm o) T hW.form hfo.1 (by omega)) rfl rfl ?_
  rintro _ S4 ⟨k4,b4,d4,rfl,i4⟩
  refine⟨fun _=>k4,?_⟩
  rw[hnum_form,hwo,e1,e2] at i4 ⊢
  refine go ?_
  exact⟨.inr rfl,_,rfl,(((k1.trans k2).trans hkT).trans k4),b4,d4,rfl,i4⟩
end
section
open Go
variable {G:Nat} {Ext:FuncId→List Value→Mem→Outc→Mem→Prop}
theorem surely_C (a1 a2:Option Addr) (c1 c2:Nat) (f g:WL) (S:Mem) (h1:WIn S a1 c1 f) (h2:WIn S a2 c2 g) (k1:HalfOk f) (k2:HalfOk g) (hg0:0<hnum g) (hge:hnum g≤hnum f) (hlt:hnum f<hnum g*4294967296) (n1:f.length<1000000) :
  C Tryz.prog G Ext 111 [.slice a1 f.length c1,.slice a2 g.length c2] S fun v S'=>∃ n:Nat,v=.int .u64 (n:Int)∧S'=S∧1≤n∧n<4294967296∧n*hnum g≤hnum f:=by
 obtain⟨m,hm⟩:∃ m,g.length=m+1:=by
  cases hg:g with
  | nil=>rw[hg] at hg0;exact absurd hg0 (by decide)
  | cons x t=>exact⟨t.length,rfl⟩
 have hlf:=half_len k2 k1 hge
 have hlf2:f.length≤m+2:=by
  refine Classical.byContradiction fun hc=>?_
  have q1:=half_ge k1 (by omega)
  have q2:=hnum_lt k2.1
  have q3:2^(32*(m+2))≤2^(32*(f.length - 1)):=Nat.pow_le_pow_right (by decide) (by omega)
  rw[hm] at q2
  rw[pow32_succ (m+1)] at q3
  have:=Nat.mul_lt_mul_of_pos_right q2 (show 0<4294967296 by decide)
  omega
 obtain⟨x,hx⟩:∃ x,f[m]?=some x:=⟨_,List.getElem?_eq_getElem (by omega)⟩
 obtain⟨t,ht⟩:∃ t,g[m]?=some t:=⟨_,List.getElem?_eq_getElem (by omega)⟩
 have hxl:=small32_get k1.1 hx
 have htl:=small32_get k2.1 ht
 have hgv:=hnum_take_succ ht
 rw[List.take_of_length_le (by omega)] at hgv
 have hgl:=hnum_lt (small32_take k2.1 m)
 rw[List.length_take,Nat.min_eq_left (by omega)] at hgl
 have hn1:IntKind.i64.wrap (((m+1:Nat):Int) - 1)=(m:Int):=by rw[wrap64 (by omega) (by omega)];omega
 have hw1:IntKind.u64.wrap ((t.toNat:Int)+1)=((t.toNat+1:Nat):Int):=wrapU64 (by omega) (by omega)
 have fin:∀ top:Nat,hnum f=hnum (f.take m)+2^(32*m)*top→1≤max 1 (top / (t.toNat+1))∧max 1 (top / (t.toNat+1))<4294967296∧max 1 (top / (t.toNat+1))*hnum g≤hnum f:=fun top h=>by
  have q1:=sure_le h hgv hgl
  have q2:max 1 (top / (t.toNat+1))*hnum g≤hnum f:=by
   rcases Nat.le_total (top / (t.toNat+1)) 1 with q | q
   ·rw[Nat.max_eq_left q,Nat.one_mul];exact hge
   ·rw[Nat.max_eq_right q];exact q1
  refine⟨Nat.le_max_left _ _,?_,q2⟩
  refine Nat.lt_of_mul_lt_mul_right (a:=hnum g) (Nat.lt_of_le_of_lt q2 ?_)
  rw[Nat.mul_comm 4294967296];exact hlt
 have hgle:Value.slice a2 g.length c2=.slice a2 (m+1) c2:=by rw[hm]
 refine C.fn Tryz.func111 rfl (by kernel_rfl) rfl ?_
 rw[hgle]
 have h2':Slv S 1 (.slice a2 (m+1) c2) (m+1) (wv g):=by have:=h2.1;rwa [hm] at this
 refine go ?_
 refine L.el h1.1 (k:=m) hn1 (wv_get hx) rfl rfl rfl rfl (fun _=>rfl) rfl (fun p=>go ?_)
 refine W.ite rfl (fun h=>?_) (fun h=>?_)
 ·have hlf3:f.length=m+2:=by have:=of_decide_eq_true h;omega
  clear h
  obtain⟨z,hz⟩:∃ z,f[m+1]?=some z:=⟨_,List.getElem?_eq_getElem (by omega)⟩
  have hzl:=small32_get k1.1 hz
  have hfv:=hnum_take_succ hz
  rw[List.take_of_length_le (by omega),hnum_take_succ hx,pow32_succ] at hfv
  have hw2:IntKind.u64.wrap ((BitVec.ofInt IntKind.u64.bits (x.toNat:Int) ||| BitVec.ofInt IntKind.u64.bits (IntKind.u64.wrap ((z.toNat:Int)*2^min (Int.toNat 32) IntKind.u64.bits))).toNat:Int)=((z.toNat * 4294967296+x.toNat:Nat):Int):=by
   rw[show IntKind.u64.wrap ((z.toNat:Int)*2^min (Int.toNat 32) IntKind.u64.bits)=((z.toNat * 2^32 % 18446744073709551616:Nat):Int) from shl_nat z.toNat 32,or_nat x.isLt (Nat.mod_lt _ (by decide))]
   have e:(2:Nat)^32=4294967296:=by decide
   rw[Nat.mod_eq_of_lt (by rw[e];omega),Nat.or_comm,Nat.mul_comm z.toNat,← Nat.two_pow_add_eq_or_of_lt (by rw[e];exact hxl),e]
  refine go ?_
  refine L.el h1.1 (k:=m+1) rfl (wv_get hz) rfl rfl rfl rfl (fun _=>rfl) rfl (fun p=>go ?_)
  rw[hw2]
  refine L.el h2' (k:=m) hn1 (wv_get ht) rfl rfl rfl rfl (fun _=>rfl) rfl (fun p=>go ?_)
  rw[hw1]
  refine L.quo rfl rfl (by omega) rfl ?_
  rw[nquo (by omega)]
  refine L.max (c:=((max 1 ((z.toNat * 4294967296+x.toNat) / (t.toNat+1)):Nat):Int)) rfl rfl rfl ?_ ?_
  ·generalize ((z.toNat * 4294967296+x.toNat)) / (t.toNat+1)=Q
   split<;>omega
  refine go ?_
  refine⟨.inr rfl,_,rfl,max 1 ((z.toNat * 4294967296+x.toNat) / (t.toNat+1)),rfl,rfl,fin (z.toNat * 4294967296+x.toNat) ?_⟩
  ·rw[hfv,Nat.mul_add,Nat.mul_comm z.toNat,← Nat.mul_assoc];omega
 ·have hlf3:f.length=m+1:=by have:=of_decide_eq_false h;omega
  clear h
  have hfv:=hnum_take_succ hx
  rw[List.take_of_length_le (by omega)] at hfv
  refine go ?_
  refine L.el h2' (k:=m) hn1 (wv_get ht) rfl rfl rfl rfl (fun _=>rfl) rfl (fun p=>go ?_)
  rw[hw1]
  refine L.quo rfl rfl (by omega) rfl ?_
  rw[nquo (by omega)]
  refine L.max (c:=((max 1 (x.toNat / (t.toNat+1)):Nat):Int)) rfl rfl rfl ?_ ?_
  ·generalize (x.toNat) / (t.toNat+1)=Q
   split<;>omega
  refine go ?_
  refine⟨.inr rfl,_,rfl,max 1 (x.toNat / (t.toNat+1)),rfl,rfl,fin x.toNat ?_⟩
  ·exact hfv
def OverR (S S':Mem) (v:Value) (A B:Nat):Prop:=∃ (a1 a2:Option Addr) (c1 c2:Nat),v=.tuple #[.slice a1 (toW (A / B)).length c1,.slice a2 (toW (A % B)).length c2]∧Cons S S'∧WIn S' a1 c1 (toW (A / B))∧WIn S' a2 c2 (toW (A % B))
theorem over_C (a1 a2:Option Addr) (c1 c2:Nat) (l1 l2:WL) (S:Mem) (h1:WIn S a1 c1 l1) (h2:WIn S a2 c2 l2) (n1:l1.length<100000) (n2:l2.length<100000) (hpos:0<wnum l2) :
  C Tryz.prog G Ext 77 [.slice a1 l1.length c1,.slice a2 l2.length c2] S fun v S'=>OverR S S' v (wnum l1) (wnum l2):=by
 refine C.fn Tryz.func77 rfl (by kernel_rfl) rfl (go ?_)
 refine L.cl (halvesN_C a1 c1 l1 S h1 (by omega)) rfl rfl ?_
 rintro _ S1 ⟨f,⟨k1,b1,d1,rfl,i1⟩,o1,e1,q1⟩
 refine⟨fun _=>k1,go ?_⟩
 refine L.cl (halvesN_C a2 c2 l2 S1 (h2.cons k1) (by omega)) rfl rfl ?_
 rintro _ S2 ⟨g,⟨k2,b2,d2,rfl,i2⟩,o2,e2,q2⟩
 refine⟨fun _=>k2,?_⟩
 replace i1:=i1.cons k2
 have kA:=k1.trans k2
 rw[← e2] at hpos
 rw[← e1,← e2]
 clear e1 e2 h1 h2 k1 k2
 have hgl:0<g.length:=by
  cases hg:g with
  | nil=>rw[hg] at hpos;exact absurd hpos (by decide)
  | cons x t=>exact Nat.succ_pos _
 obtain⟨tp,htp⟩:∃ tp,tp=f.length+1 - g.length:=⟨_,rfl⟩
 have htl:tp≤f.length:=by omega
 refine go ?_
 refine L.mk (n:=f.length) (m:=f.length) (bytes:=8) (zv:=v64 0#64) rfl rfl rfl rfl rfl (Nat.le_refl _) (by omega) rfl rfl ?_
 have hrq:Mem.row? (S2++[newR (List.replicate f.length (v64 0#64)) 57]) S2.length=some (newR (wv (List.replicate f.length 0#64)) 57):=by
  rw[row_push_new rfl];simp [wv]
 have hk5:=Cons.push S2 (newR (List.replicate f.length (v64 0#64)) 57)
 generalize S2++[newR (List.replicate f.length (v64 0#64)) 57]=S3 at *
 obtain⟨rq,hrq0⟩:∃ rq,rq=S2.length:=⟨_,rfl⟩
 rw[← hrq0] at hrq ⊢
 have hrqS:=row_lt hrq
 have hs0:Small32 (List.replicate f.length 0#64):=fun x hx=>by rw[List.eq_of_mem_replicate hx];decide
 refine go ?_
 refine L.max (c:=(tp:Int)) rfl rfl rfl ?_ ?_
 ·rw[wrap64 (x:=(f.length:Int) - (g.length:Int)) (by omega) (by omega),wrap64 (by omega) (by omega)]
  split<;>omega
 refine go ?_
 obtain⟨a3,c3,p1,p2,p3,_⟩:=slv_part (lo:=some (vi tp)) (hi:=none) (k:=tp) (h:=f.length) (i1.cons hk5).1 (.inr ⟨.i64,rfl⟩) (.inl ⟨rfl,rfl⟩) htl (Nat.le_refl _) (Cut.of i1.2.1)
 rw[List.take_of_length_le (by rw[List.length_drop,wv_len];omega)] at p2
 refine L.is (.slice a3 (f.length - tp) c3) ((slice_at0 rfl rfl rfl).trans p1) rfl ?_
 refine L.app (N:=S3.length) (n:=0) (bytes:=8) (l:=[]) rfl (Nat.le_refl _) (Grow.nil _ _ _ _) rfl rfl p2 (by rw[show (wv f).drop tp=wv (f.drop tp) by rw[wv,← List.map_drop];rfl];exact wv_one _) (by omega) rfl rfl (fun a4 c4 S4 g1 g2 g3=>?_)
 rw[Nat.zero_add,List.nil_append,show (wv f).drop tp=wv (f.drop tp) by rw[wv,← List.map_drop];rfl] at g1
 have hdl:(f.drop tp).length=f.length - tp:=by rw[List.length_drop]
 have hW4:WIn S4 a4 c4 (f.drop tp):=grow_win (by rw[hdl];exact g1) (by omega)
 have hk6:Cons S3 S4:=g3.cons
 have hnw:=grow_new g1
 refine go ?_
 refine L.cl (strip_C a4 c4 (f.drop tp) S4 hW4) rfl (by rw[hdl,Nat.zero_add];rfl) ?_
 rintro _ _ ⟨rfl,rfl⟩
 refine⟨fun _=>Cons.refl _,?_⟩
 rename Mem=>S4
 have hsd:Small32 (f.drop tp):=fun x hx=>o1.1 x (List.mem_of_mem_drop hx)
 have hR0:HalfOk (fm (f.drop tp)):=HalfOk.form hsd
 have hRn:hnum (fm (f.drop tp))=hnum (f.drop tp):=hnum_form _
 have hRl:hnum (f.drop tp)<hnum g:=by
  have q3:=hnum_lt hsd
  have q4:=half_ge o2 hgl
  have q5:2^(32*(f.drop tp).length)≤2^(32*(g.length - 1)):=Nat.pow_le_pow_right (by decide) (by omega)
  omega
 have hsplit:hnum f=hnum (f.take tp)+2^(32*tp)*hnum (f.drop tp):=by
  have:=hnum_append (f.take tp) (f.drop tp)
  rw[List.take_append_drop,List.length_take,Nat.min_eq_left htl] at this
  exact this
 refine go ?_
 refine W.loop (fun k e T=>∃ (q rest:WL) (ar:Option Addr) (cr:Nat),k≤tp∧Cons S2 T∧S3.length≤T.length∧e 6=.slice b1 f.length d1∧e 7=.slice b2 g.length d2∧e 8=.slice (some ⟨rq,0,none⟩) f.length f.length∧e 10=.slice ar rest.length cr∧e 11=.int .i64 ((k:Int) - 1)∧T.row? rq=some (newR (wv q) 57)∧q.length=f.length∧Small32 q∧WIn T ar cr rest∧(∀ x,ar=some x→S3.length≤x.block)∧HalfOk rest∧hnum rest<hnum g ∧
   hnum f=hnum q*hnum g+hnum rest*2^(32*k)+hnum (f.take k)∧∀ p,p<k→q[p]?=some 0#64) tp
  ⟨List.replicate f.length 0#64,fm (f.drop tp),a4,c4,Nat.le_refl _,hk5.trans hk6,hk6.len,rfl,rfl,rfl,rfl,congrArg (Value.int .i64) (wrap64 (by omega) (by omega)),hk6.row' hrq,by simp,hs0,hW4.form,hnw,hR0,by omega,by rw[hnum_zeros,hRn,Nat.mul_comm (hnum (f.drop tp))];omega,fun p hp=>by rw[List.getElem?_replicate,if_pos (by omega)]⟩ ?_
 clear hsplit hRl hRn hR0 hsd hnw hk6 hW4 g1 g2 g3 p1 p2 p3 hs0 hrq hk5 hdl
 rintro k e T ⟨q,rest,ar,cr,hk,kT,hTl,e6,e7,e8,e10,e11,hrq,hql,hsq,hrW,hnw,hrok,hrlt,hsum,hz⟩
 refine W.env5 e6 e7 e8 e10 e11 (go ?_)
 refine W.ite rfl (fun h=>?_) (fun h=>?_)
 ·have hk1:1≤k:=by have:=of_decide_eq_true h;omega
  clear h
  obtain⟨j,rfl⟩:∃ j,k=j+1:=⟨k - 1,by omega⟩
  have hm:(((j+1:Nat):Int) - 1)=(j:Int):=by omega
  rw[hm]
  obtain⟨x,hx⟩:∃ x,f[j]?=some x:=⟨_,List.getElem?_eq_getElem (by omega)⟩
  have hxl:=small32_get o1.1 hx
  have hrll:=half_len hrok o2 (by omega)
  refine go ?_
  refine L.el (i1.cons kT).1 (k:=j) rfl (wv_get hx) rfl rfl rfl rfl (fun _=>rfl) rfl (fun p=>?_)
  refine L.push1 (w:=v64 x) (N:=T.length) (n:=0) (l:=[]) rfl (Nat.le_refl _) (.inl (Grow.nil _ _ _ _)) rfl rfl rfl rfl rfl (by omega) rfl (fun _=>rfl) (fun p a5 c5 T1 g1 g2 g3=>?_)
  have hkT1:Cons T T1:=g3.cons
  refine go ?_
  refine L.app (N:=T.length) (n:=1) (bytes:=8) (l:=[v64 x]) rfl g2 g1 rfl rfl (hrW.cons hkT1).1 (wv_one _) (by omega) rfl rfl (fun a6 c6 T2 g4 g5 g6=>?_)
  have hkT2:Cons T T2:=hkT1.trans' g6
  have hnl:(x :: rest).length=1+rest.length:=by rw[List.length_cons];omega
  have hW6:WIn T2 a6 c6 (x :: rest):=grow_win (by rw[hnl];exact g4) (by omega)
  have hnw6:=grow_new g4
  have hs6:Small32 (x :: rest):=fun y hy=>by
   rcases List.mem_cons.1 hy with rfl | hy
   ·exact hxl
   ·exact hrok.1 y hy
  refine go ?_
  refine L.cl (strip_C a6 c6 (x :: rest) T2 hW6) rfl (by rw[hnl];rfl) ?_
  rintro _ _ ⟨rfl,rfl⟩
  refine⟨fun _=>Cons.refl _,?_⟩
  rename Mem=>T2
  have hcur:hnum (fm (x :: rest))=x.toNat+4294967296*hnum rest:=by rw[hnum_form];rfl
  have hz0:=hz j (by omega)
  rw[hnum_take_succ hx,pow32_succ] at hsum
  refine go ?_
  refine W.mono (R:=fun x' e' T'=>x'=.exit 2∧∃ (q rest:WL) (ar:Option Addr) (cr:Nat),Cons S2 T'∧S3.length≤T'.length∧e' 6=.slice b1 f.length d1∧e' 7=.slice b2 g.length d2∧e' 8=.slice (some ⟨rq,0,none⟩) f.length f.length∧e' 10=.slice ar rest.length cr∧e' 11=vi j∧T'.row? rq=some (newR (wv q) 57)∧q.length=f.length∧Small32 q∧WIn T' ar cr rest∧(∀ x,ar=some x→S3.length≤x.block)∧HalfOk rest∧hnum rest<hnum g ∧
    hnum f=hnum q*hnum g+hnum rest*2^(32*j)+hnum (f.take j)∧∀ p,p<j→q[p]?=some 0#64) ?_ ?_
  ·refine W.loop (fun n e' T'=>∃ (q rest:WL) (w:BitVec 64) (ar:Option Addr) (cr:Nat),n=hnum rest∧Cons S2 T'∧S3.length≤T'.length∧e' 6=.slice b1 f.length d1∧e' 7=.slice b2 g.length d2∧e' 8=.slice (some ⟨rq,0,none⟩) f.length f.length∧e' 10=.slice ar rest.length cr∧e' 11=vi j∧T'.row? rq=some (newR (wv q) 57)∧q.length=f.length∧Small32 q∧q[j]?=some w∧w.toNat * hnum g+hnum rest<hnum g*4294967296∧WIn T' ar cr rest∧(∀ x,ar=some x→S3.length≤x.block)∧HalfOk rest ∧
     hnum f=hnum q*hnum g+hnum rest*2^(32*j)+hnum (f.take j)∧∀ p,p<j→q[p]?=some 0#64) (hnum (fm (x :: rest)))
    ⟨q,fm (x :: rest),0#64,a6,c6,rfl,kT.trans hkT2,Nat.le_trans hTl hkT2.len,rfl,rfl,rfl,rfl,rfl,hkT2.row' hrq,hql,hsq,hz0,?_,hW6.form,fun y hy=>Nat.le_trans hTl (hnw6 y hy),HalfOk.form hs6,?_,fun p hp=>hz p (by omega)⟩ ?_
   ·rw[hcur,show (0#64:BitVec 64).toNat * hnum g=0 from Nat.zero_mul _]
    omega
   ·rw[hcur,hsum,Nat.add_mul,Nat.mul_comm 4294967296 (hnum rest),Nat.mul_assoc (hnum rest),Nat.mul_comm 4294967296 (2^(32*j)),Nat.mul_comm x.toNat];omega
   clear hcur hsum hz0 hs6 hnw6 hW6 g1 g2 g3 g4 g5 g6 hkT1 hkT2 hz hrW hnw hrok hrlt hrll hsq hql hrq
   rintro n e' T' ⟨q,rest,w,ar,cr,rfl,kT,hTl,e6,e7,e8,e10,e11,hrq,hql,hsq,hw,hwb,hrW,hnw,hrok,hsum,hz⟩
   refine W.env5 e6 e7 e8 e10 e11 ?_
   have hwl:=small32_get hsq hw
   refine go ?_
   refine L.cs (compare_C ar b2 cr d2 rest g T' hrW (i2.cons kT) hrok o2) rfl rfl (go ?_)
   refine W.ite rfl (fun h=>?_) (fun h=>?_)
   ·have hge:hnum g≤hnum rest:=by
     have h0:=of_decide_eq_true h
     unfold cmpI at h0
     split at h0<;>omega
    clear h
    have hrl:hnum rest<hnum g*4294967296:=by omega
    have hrlen:rest.length≤g.length+1:=by
     refine Classical.byContradiction fun hc=>?_
     have q1:=half_ge hrok (by omega)
     have q2:=hnum_lt o2.1
     have q3:2^(32*(g.length+1))≤2^(32*(rest.length - 1)):=Nat.pow_le_pow_right (by decide) (by omega)
     rw[pow32_succ] at q3
     have:=Nat.mul_lt_mul_of_pos_right q2 (show 0<4294967296 by decide)
     omega
    refine go ?_
    refine L.cl (surely_C ar b2 cr d2 rest g T' hrW (i2.cons kT) hrok o2 hpos hge hrl (by omega)) rfl rfl ?_
    rintro _ M2 ⟨n,rfl,hM2,hn1,hn2,hn3⟩
    have hM2:=hM2.symm
    subst hM2
    refine⟨fun _=>Cons.refl _,go ?_⟩
    refine L.cl (little_C b2 d2 n g T' (i2.cons kT) o2.1 hn2 (by omega)) rfl rfl ?_
    rintro _ T3 ⟨y,ay,cy,kT3,rfl,iy,_,oy,ey⟩
    refine⟨fun _=>kT3,?_⟩
    refine L.cl (minus_C ar ay cr cy rest y T3 (hrW.cons kT3) iy hrok oy (by rw[ey,Nat.mul_comm];exact hn3) (by omega)) rfl rfl ?_
    rintro _ T4 ⟨r2,a7,c7,kT4,rfl,i7,n7,o7,e7'⟩
    refine⟨fun _=>kT4,?_⟩
    have kT34:=kT3.trans kT4
    have hrq4:=kT34.row' hrq
    have hsl:Slv T4 1 (.slice (some ⟨rq,0,none⟩) f.length f.length) f.length (wv q):=Slv.all hrq4 rfl (by rw[wv_len,hql,Nat.mul_one])
    have hwn:w.toNat+n<4294967296:=by
     have q1:(w.toNat+n)*hnum g<4294967296*hnum g:=by rw[Nat.add_mul,Nat.mul_comm 4294967296];omega
     exact Nat.lt_of_mul_lt_mul_right q1
    obtain⟨w2,hw2⟩:=word_of (n:=w.toNat+n) (by omega)
    refine go ?_
    refine L.el hsl (k:=j) rfl (wv_get hw) rfl rfl rfl rfl (fun _=>rfl) rfl (fun p=>go ?_)
    rw[uadd (a:=w.toNat) (b:=n) (by omega),← hw2]
    refine L.elst hrq4 rfl (by show 0+f.length≤(wv q).length;rw[wv_len,hql];omega) (k:=j) rfl (by omega) rfl rfl rfl rfl (fun _=>rfl) (fun _=>rfl) rfl rfl rfl (fun p=>?_)
    have hrq5:=row_set_w (k:=j) (r:=w2) hrq4
    have hk8:Cons S2 (List.set T4 rq { newR (wv q) 57 with cells:=(newR (wv q) 57).cells.set (0+j) (v64 w2) }):=(kT.trans kT34).set rq _ (by omega)
    have i8:=i7.keepb (Keep.set rq T4 { newR (wv q) 57 with cells:=(newR (wv q) 57).cells.set (0+j) (v64 w2) }) (fun x hx=>by have:=n7 x hx;have:=kT3.len;omega)
    have hl8:S3.length≤(List.set T4 rq { newR (wv q) 57 with cells:=(newR (wv q) 57).cells.set (0+j) (v64 w2) }).length:=by rw[List.length_set];have:=kT34.len;omega
    have hws:=hnum_set (y:=w2) hw
    generalize List.set T4 rq _=T5 at *
    refine go ?_
    have hcl:hnum r2=hnum rest - n*hnum g:=by rw[e7',ey,Nat.mul_comm n]
    have hpn:0<n*hnum g:=Nat.mul_pos (by omega) hpos
    refine⟨hnum r2,by omega,q.set j w2,r2,w2,a7,c7,rfl,hk8,hl8,rfl,rfl,rfl,rfl,rfl,hrq5,by simpa using hql,small32_set hsq (by omega),by rw[List.getElem?_set,if_pos rfl,if_pos (by omega)],?_,i8,fun x hx=>by have:=n7 x hx;have:=kT3.len;omega,o7,?_,fun p hp=>?_⟩
    ·rw[hw2,hcl,Nat.add_mul];omega
    ·rw[hw2] at hws
     have q1:hnum (q.set j w2)=hnum q+n*2^(32*j):=by rw[Nat.add_mul] at hws;omega
     have q2:hnum rest*2^(32*j)=hnum r2*2^(32*j)+n*hnum g*2^(32*j):=by rw[← Nat.add_mul];congr 1;omega
     rw[q1,Nat.add_mul,hsum,q2,Nat.mul_right_comm n];omega
    ·rw[List.getElem?_set,if_neg (by omega)];exact hz p hp
   ·have hlt:hnum rest<hnum g:=by
     have h0:=of_decide_eq_false h
     refine Classical.byContradiction fun hc=>h0 ?_
     unfold cmpI
     rw[if_neg (by omega)]
     split<;>omega
    clear h
    refine go ?_
    exact⟨rfl,q,rest,ar,cr,kT,hTl,rfl,rfl,rfl,rfl,rfl,hrq,hql,hsq,hrW,hnw,hrok,hlt,hsum,hz⟩
  clear hcur hsum hz0 hs6 hnw6 hW6 g1 g2 g3 g4 g5 g6 hkT1 hkT2 hz hrW hnw hrok hrlt hrll hsq hql hrq e6 e7 e8 e10 e11 hTl kT
  rintro _ e' T' ⟨rfl,q,rest,ar,cr,kT,hTl,e6,e7,e8,e10,e11,hrq,hql,hsq,hrW,hnw,hrok,hlt,hsum,hz⟩
  refine W.env5 e6 e7 e8 e10 e11 (go ?_)
  exact⟨j,by omega,q,rest,ar,cr,by omega,kT,hTl,rfl,rfl,rfl,rfl,(force_eq rfl).trans (congrArg (Value.int .i64) (wrap64 (by omega) (by omega))),hrq,hql,hsq,hrW,hnw,hrok,hlt,hsum,hz⟩
 ·have hk0:k=0:=by have:=of_decide_eq_false h;omega
  subst hk0
  clear h
  rw[Nat.mul_zero,Nat.pow_zero,Nat.mul_one,List.take_zero,show hnum []=0 from rfl,Nat.add_zero] at hsum
  have hdv:hnum q=hnum f / hnum g∧hnum rest=hnum f % hnum g:=by
   rw[hsum,Nat.mul_comm]
   refine⟨?_,?_⟩
   ·rw[Nat.mul_add_div hpos,Nat.div_eq_of_lt hrlt,Nat.add_zero]
   ·rw[Nat.mul_add_mod,Nat.mod_eq_of_lt hrlt]
  have hWq:WIn T (some ⟨rq,0,none⟩) f.length q:=(WOwn.row (N:=0) hrq hql (Nat.zero_le _) (by omega)).1
  have hfq:(fm q).length≤q.length:=toW_len_le q
  have hrll:=half_len hrok o2 (by omega)
  refine go ?_
  refine L.cl (strip_C (some ⟨rq,0,none⟩) f.length q T hWq) rfl (by rw[hql];rfl) ?_
  rintro _ _ ⟨rfl,rfl⟩
  refine⟨fun _=>Cons.refl _,?_⟩
  rename Mem=>T
  refine L.cl (limbsN_C (some ⟨rq,0,none⟩) f.length (fm q) T hWq.form (small32_form hsq) (by omega)) rfl rfl ?_
  rintro _ T1 ⟨k4,b4,d4,rfl,i4⟩
  refine⟨fun _=>k4,go ?_⟩
  refine L.cl (limbsN_C ar cr rest T1 (hrW.cons k4) hrok.1 (by omega)) rfl rfl ?_
  rintro _ T2 ⟨k5,b5,d5,rfl,i5⟩
  refine⟨fun _=>k5,?_⟩
  rw[hnum_form,hdv.1] at i4 ⊢
  rw[hdv.2] at i5 ⊢
  refine go ?_
  exact⟨.inr rfl,_,rfl,b4,b5,d4,d5,rfl,((kA.trans kT).trans k4).trans k5,i4.cons k5,i5⟩
end
section
open Go
variable {G:Nat} {Ext:FuncId→List Value→Mem→Outc→Mem→Prop}
end
section
open Go Ie
variable {Ext:FuncId→List Value→Mem→Outc→Mem→Prop} {S:Mem} {u v:Value} {x y:Int} {i j:Nat}
theorem WIn.kn {S S':Mem} {a:Option Addr} {c b:Nat} {l:WL} {r:Row} (h:WIn S a c l) (k:Keep b S S') (hr:S.row? b=some r) (hn:∀ x∈r.cells,∀ y:BitVec 64,x≠v64 y):WIn S' a c l:=by
 obtain⟨⟨h1,a',c',e,h2⟩,h3⟩:=h
 refine⟨⟨h1,a',c',e,?_⟩,h3⟩
 rcases h2 with h2 | ⟨b',o,r',ha,hr',hlen,hl,hro⟩
 ·exact .inl h2
 ·by_cases hb:b'=b
  ·subst hb
   rw[hr] at hr'
   cases hr'
   cases l with
   | nil=>exact .inl (by simp)
   | cons y l=>
    exfalso
    have hm:v64 y∈(r.cells.drop o).take ((y :: l).length*1):=by rw[hl];simp [wv]
    exact hn _ (List.mem_of_mem_drop (List.mem_of_mem_take hm)) y rfl
  ·exact .inr ⟨b',o,r',ha,k.row hr' hb,hlen,hl,hro⟩
theorem noW {b:Bool} {a:Option Addr} {n c:Nat} {t:TypeId}:∀ x∈(newR [.bool b,.slice a n c] t).cells,∀ y:BitVec 64,x≠v64 y:=fun x hx y e=>by
 subst e
 simp [newR,v64] at hx
def ZIn (S:Mem) (u:Value) (z:Int) (k:Nat):Prop:=∃ n a c l,u=.agg #[.bool n,.slice a l.length c]∧WIn S a c l∧l.length≤k∧zv n l=z
theorem ZIn.cons {S':Mem} (h:ZIn S u x i) (k:Cons S S'):ZIn S' u x i:=let ⟨n,a,c,l,e,w,hl,hv⟩:=h;⟨n,a,c,l,e,w.cons k,hl,hv⟩
theorem ZIs.inn {k:Nat} (h:ZIs S u x) (hk:x.natAbs<2^(64*k)):ZIn S u x k:=let ⟨a,c,e,w⟩:=h;⟨_,a,c,_,e,w,(toW_len _ _).2 hk,zv_form x⟩
theorem ZIn.lt (h:ZIn S u x i):x.natAbs<2^(64*i):=by
 obtain⟨n,a,c,l,_,_,hl,rfl⟩:=h
 rw[zv_abs]
 exact num_len hl
def zfz (z:Int):Bool:=decide (z.natAbs<2^4096)
theorem zfit_zv (n:Bool) (l:WL):zfit l=zfz (zv n l):=by unfold zfit zfz;rw[zv_abs]
theorem zfz_E (z:Int):zE z=if zfz z then 0 else 3:=by
 unfold zE zfz
 by_cases h:z.natAbs<2^4096
 ·rw[if_pos h,decide_eq_true h];rfl
 ·rw[if_neg h,decide_eq_false h];rfl
theorem sum_le {n m:Nat} (hi:n<2^(64*i)) (hj:m<2^(64*j)):(toW (n+m)).length≤i+j+1:=by
 refine(toW_len _ _).2 ?_
 have h1:2^(64*i)≤2^(64*(i+j)):=Nat.pow_le_pow_right (by decide) (by omega)
 have h2:2^(64*j)≤2^(64*(i+j)):=Nat.pow_le_pow_right (by decide) (by omega)
 have h3:2^(64*(i+j+1))=2^(64*(i+j))*2^64:=by rw[← Nat.pow_add];rfl
 omega
theorem mul_le {n m:Nat} (hi:n<2^(64*i)) (hj:m<2^(64*j)):(toW (n*m)).length≤i+j:=by
 refine(toW_len _ _).2 ?_
 have h3:2^(64*(i+j))=2^(64*i)*2^(64*j):=by rw[← Nat.pow_add,Nat.mul_add]
 rw[h3]
 exact Nat.mul_lt_mul'' hi hj
theorem le_len {n k:Nat} (h:n<2^(64*k)) {m:Nat} (hm:m≤n):(toW m).length≤k:=(toW_len _ _).2 (by omega)
theorem rzForm_C (hx:ZIn S u x i) (hi:i<100000):C Tryz.prog gN Ext 59 [u] S fun w S'=>ZIs S' w x∧Cons S S':=by
 obtain⟨n,a,c,l,rfl,h1,hl,rfl⟩:=hx
 refine C.fn Tryz.func59 rfl (by kernel_rfl) rfl (go ?_)
 refine L.nr [.bool n,.slice a l.length c] wT rfl rfl (fun b2 Tb2 gb2 kb2 rb2=>?_)
 refine L.nr [.bool false,.slice none 0 0] wT rfl rfl (fun b4 Tb4 gb4 kb4 rb4=>?_)
 have kM:=kb2.trans kb4
 have g4:S.length≤b4:=Nat.le_trans kb2.len gb4
 replace rb2:=Cons.row (h:=kb4) rb2
 replace h1:=h1.cons kM
 have hc:=Cons.refl Tb4
 clear kb2 kb4 gb2 gb4
 refine go ?_
 refine L.zf (Cons.row (h:=hc) rb2) rfl rfl rfl rfl rfl ?_
 refine L.cl (form_C a c l _ (h1.cons hc) (by omega)) rfl rfl ?_
 rintro _ T' ⟨k',a9,c9,rfl,w9⟩
 refine⟨fun _=>k',?_⟩
 replace hc:=hc.trans k'
 refine go ?_
 rw[show fm l=toW (wnum l) from rfl] at w9 ⊢
 refine L.zf (Cons.row (h:=hc) rb2) rfl rfl rfl rfl rfl (go ?_)
 have hs:=zv_sgn n l
 have ha:=zv_abs n l
 generalize zv n l=x at *
 rw[← ha] at hs w9 ⊢
 have hp:decide (((toW x.natAbs).length:Int) > 0)=decide (0<x.natAbs):=by
  have:=@toW_pos_len x.natAbs
  exact decide_eq_decide.2 (by omega)
 cases n
 ·have hz:decide (x<0)=false:=by rw[hs,Bool.false_and]
  refine go ?_
  refine L.b2 rfl rfl rfl ?_
  rw[← hz]
  refine L.st2 (Cons.row (h:=hc) rb4) rfl rfl rfl rfl rfl rfl (fun T2 kk r2=>go ?_)
  exact⟨.inr rfl,_,res1 rfl (load2 r2 rfl),⟨a9,c9,rfl,w9.kn kk (Cons.row (h:=hc) rb4) noW⟩,kk.mono (kM.trans hc) g4⟩
 ·have hz:decide (x<0)=decide (((toW x.natAbs).length:Int) > 0):=by rw[hs,Bool.true_and,hp]
  refine go ?_
  refine L.b2 rfl rfl rfl ?_
  rw[← hz]
  refine L.st2 (Cons.row (h:=hc) rb4) rfl rfl rfl rfl rfl rfl (fun T2 kk r2=>go ?_)
  exact⟨.inr rfl,_,res1 rfl (load2 r2 rfl),⟨a9,c9,rfl,w9.kn kk (Cons.row (h:=hc) rb4) noW⟩,kk.mono (kM.trans hc) g4⟩
theorem rzFits_C (hx:ZIn S u x i) (hi:i<100000):C Tryz.prog gN Ext 58 [u] S fun w S'=>w=.bool (zfz x)∧Cons S S':=by
 obtain⟨n,a,c,l,rfl,h1,hl,rfl⟩:=hx
 refine C.fn Tryz.func58 rfl (by kernel_rfl) rfl (go ?_)
 refine L.nr [.bool n,.slice a l.length c] wT rfl rfl (fun b2 Tb2 gb2 kb2 rb2=>?_)
 have hc:=Cons.refl Tb2
 refine go ?_
 refine L.zf (Cons.row (h:=hc) rb2) rfl rfl rfl rfl rfl ?_
 refine L.cv (length_C a c l _ (h1.cons (kb2.trans hc)) (by omega)) rfl rfl fun T' k'=>?_
 replace hc:=hc.trans k'
 refine go ?_
 refine⟨.inr rfl,_,rfl,congrArg Value.bool ?_,kb2.trans hc⟩
 unfold zfz
 rw[zv_abs]
 refine decide_eq_decide.2 ?_
 have:=@blen_le (wnum l) 4096
 omega
theorem rzTurned_C (hx:ZIn S u x i) (hi:i<100000):C Tryz.prog gN Ext 75 [u] S fun w S'=>ZIs S' w (-x)∧Cons S S':=by
 obtain⟨n,a,c,l,rfl,h1,hl,rfl⟩:=hx
 refine C.fn Tryz.func75 rfl (by kernel_rfl) rfl (go ?_)
 refine L.nr [.bool n,.slice a l.length c] wT rfl rfl (fun b2 Tb2 gb2 kb2 rb2=>?_)
 refine L.nr [.bool false,.slice none 0 0] wT rfl rfl (fun b4 Tb4 gb4 kb4 rb4=>?_)
 have kM:=kb2.trans kb4
 have g4:S.length≤b4:=Nat.le_trans kb2.len gb4
 replace rb2:=Cons.row (h:=kb4) rb2
 replace h1:=h1.cons kM
 have hc:=Cons.refl Tb4
 clear kb2 kb4 gb2 gb4
 refine go ?_
 refine L.zf (Cons.row (h:=hc) rb2) rfl rfl rfl rfl rfl (go ?_)
 refine L.zf (Cons.row (h:=hc) rb2) rfl rfl rfl rfl rfl ?_
 rw[← zv_not]
 refine L.b2 rfl rfl rfl ?_
 refine L.cl (rzForm_C ⟨!n,a,c,l,rfl,h1.cons hc,hl,rfl⟩ hi) rfl rfl ?_
 rintro _ T' ⟨⟨a9,c9,rfl,w9⟩,k'⟩
 refine⟨fun _=>k',?_⟩
 replace hc:=hc.trans k'
 refine L.st2 (Cons.row (h:=hc) rb4) rfl rfl rfl rfl rfl rfl (fun T2 kk r2=>go ?_)
 exact⟨.inr rfl,_,res1 rfl (load2 r2 rfl),⟨a9,c9,rfl,w9.kn kk (Cons.row (h:=hc) rb4) noW⟩,kk.mono (kM.trans hc) g4⟩
theorem rzTimes_C (hx:ZIn S u x i) (hy:ZIn S v y j) (hi:i<10000) (hj:j<10000):C Tryz.prog gN Ext 61 [u,v] S fun w S'=>ZIs S' w (x*y)∧Cons S S':=by
 obtain⟨n,a1,c1,l,rfl,h1,hl,rfl⟩:=hx
 obtain⟨m,a2,c2,k,rfl,h2,hk,rfl⟩:=hy
 refine C.fn Tryz.func61 rfl (by kernel_rfl) rfl (go ?_)
 refine L.nr [.bool n,.slice a1 l.length c1] wT rfl rfl (fun b2 Tb2 gb2 kb2 rb2=>?_)
 refine L.nr [.bool m,.slice a2 k.length c2] wT rfl rfl (fun b3 Tb3 gb3 kb3 rb3=>?_)
 refine L.nr [.bool false,.slice none 0 0] wT rfl rfl (fun b4 Tb4 gb4 kb4 rb4=>?_)
 have kM:=(kb2.trans kb3).trans kb4
 have g4:S.length≤b4:=Nat.le_trans (kb2.trans kb3).len gb4
 replace rb2:=Cons.row (h:=kb3.trans kb4) rb2
 replace rb3:=Cons.row (h:=kb4) rb3
 replace h1:=h1.cons kM
 replace h2:=h2.cons kM
 have hc:=Cons.refl Tb4
 clear kb2 kb3 kb4 gb2 gb3 gb4
 refine go ?_
 refine L.zf (Cons.row (h:=hc) rb2) rfl rfl rfl rfl rfl (go ?_)
 refine L.zf (Cons.row (h:=hc) rb3) rfl rfl rfl rfl rfl (go ?_)
 refine L.zf (Cons.row (h:=hc) rb2) rfl rfl rfl rfl rfl (go ?_)
 refine L.zf (Cons.row (h:=hc) rb3) rfl rfl rfl rfl rfl ?_
 refine L.cl (timesR_C _ _ _ _ l k _ (h1.cons hc) (h2.cons hc) (by omega) (by omega)) rfl rfl ?_
 rintro _ T' ⟨k',a8,c8,rfl,w8⟩
 refine⟨fun _=>k',?_⟩
 replace hc:=hc.trans k'
 rw[zmul]
 refine L.b2 rfl rfl rfl ?_
 refine L.cl (rzForm_C ⟨n != m,a8,c8,_,rfl,w8,mul_le (num_len hl) (num_len hk),rfl⟩ (by omega)) rfl rfl ?_
 rintro _ T' ⟨⟨a9,c9,rfl,w9⟩,k'⟩
 refine⟨fun _=>k',?_⟩
 replace hc:=hc.trans k'
 refine L.st2 (Cons.row (h:=hc) rb4) rfl rfl rfl rfl rfl rfl (fun T2 kk r2=>go ?_)
 exact⟨.inr rfl,_,res1 rfl (load2 r2 rfl),⟨a9,c9,rfl,w9.kn kk (Cons.row (h:=hc) rb4) noW⟩,kk.mono (kM.trans hc) g4⟩
theorem rzPlus_C (hx:ZIn S u x i) (hy:ZIn S v y j) (hi:i<10000) (hj:j<10000):C Tryz.prog gN Ext 74 [u,v] S fun w S'=>ZIs S' w (x+y)∧Cons S S':=by
 obtain⟨n,a1,c1,l,rfl,h1,hl,rfl⟩:=hx
 obtain⟨m,a2,c2,k,rfl,h2,hk,rfl⟩:=hy
 refine C.fn Tryz.func74 rfl (by kernel_rfl) rfl (go ?_)
 refine L.nr [.bool n,.slice a1 l.length c1] wT rfl rfl (fun b2 Tb2 gb2 kb2 rb2=>?_)
 refine L.nr [.bool m,.slice a2 k.length c2] wT rfl rfl (fun b3 Tb3 gb3 kb3 rb3=>?_)
 refine L.nr [.bool false,.slice none 0 0] wT rfl rfl (fun b4 Tb4 gb4 kb4 rb4=>?_)
 have kM:=(kb2.trans kb3).trans kb4
 have g4:S.length≤b4:=Nat.le_trans (kb2.trans kb3).len gb4
 replace rb2:=Cons.row (h:=kb3.trans kb4) rb2
 replace rb3:=Cons.row (h:=kb4) rb3
 replace h1:=h1.cons kM
 replace h2:=h2.cons kM
 have hc:=Cons.refl Tb4
 clear kb2 kb3 kb4 gb2 gb3 gb4
 refine go ?_
 refine L.zf (Cons.row (h:=hc) rb2) rfl rfl rfl rfl rfl (go ?_)
 refine L.zf (Cons.row (h:=hc) rb3) rfl rfl rfl rfl rfl (go ?_)
 by_cases hnm:n=m
 ·subst hnm
  rw[show (n==n)=true from beq_self_eq_true n]
  refine W.condT rfl (go ?_)
  refine L.zf (Cons.row (h:=hc) rb2) rfl rfl rfl rfl rfl (go ?_)
  refine L.zf (Cons.row (h:=hc) rb2) rfl rfl rfl rfl rfl (go ?_)
  refine L.zf (Cons.row (h:=hc) rb3) rfl rfl rfl rfl rfl ?_
  refine L.cl (plusR_C _ _ _ _ l k _ (h1.cons hc) (h2.cons hc) (by omega) (by omega)) rfl rfl ?_
  rintro _ T' ⟨k',a8,c8,rfl,w8⟩
  refine⟨fun _=>k',?_⟩
  replace hc:=hc.trans k'
  rw[zadd_same]
  refine L.b2 rfl rfl rfl ?_
  refine L.cl (rzForm_C ⟨n,a8,c8,_,rfl,w8,sum_le (num_len hl) (num_len hk),rfl⟩ (by omega)) rfl rfl ?_
  rintro _ T' ⟨⟨a9,c9,rfl,w9⟩,k'⟩
  refine⟨fun _=>k',?_⟩
  replace hc:=hc.trans k'
  refine L.st2 (Cons.row (h:=hc) rb4) rfl rfl rfl rfl rfl rfl (fun T2 kk r2=>go ?_)
  exact⟨.inr rfl,_,res1 rfl (load2 r2 rfl),⟨a9,c9,rfl,w9.kn kk (Cons.row (h:=hc) rb4) noW⟩,kk.mono (kM.trans hc) g4⟩
 ·rw[show (n==m)=false from beq_eq_false_iff_ne.2 hnm]
  refine W.condF rfl (go ?_)
  refine L.zf (Cons.row (h:=hc) rb2) rfl rfl rfl rfl rfl (go ?_)
  refine L.zf (Cons.row (h:=hc) rb3) rfl rfl rfl rfl rfl ?_
  refine L.cv (compareR_C _ _ _ _ l k _ (h1.cons hc) (h2.cons hc) (by omega) (by omega)) rfl rfl fun T' k'=>?_
  replace hc:=hc.trans k'
  refine go ?_
  refine W.ite rfl (fun h=>?_) (fun h=>?_)
  ·have hge:wnum k≤wnum l:=by
    have:=of_decide_eq_true h
    unfold cmpI at this
    split at this<;>omega
   clear h
   refine go ?_
   refine L.zf (Cons.row (h:=hc) rb2) rfl rfl rfl rfl rfl (go ?_)
   refine L.zf (Cons.row (h:=hc) rb2) rfl rfl rfl rfl rfl (go ?_)
   refine L.zf (Cons.row (h:=hc) rb3) rfl rfl rfl rfl rfl ?_
   refine L.cl (minusR_C _ _ _ _ l k _ (h1.cons hc) (h2.cons hc) (by omega) (by omega) hge) rfl rfl ?_
   rintro _ T' ⟨k',a8,c8,rfl,w8⟩
   refine⟨fun _=>k',?_⟩
   replace hc:=hc.trans k'
   rw[zadd_ge hnm hge]
   refine L.b2 rfl rfl rfl ?_
   refine L.cl (rzForm_C ⟨n,a8,c8,_,rfl,w8,le_len (num_len hl) (Nat.sub_le _ _),rfl⟩ (by omega)) rfl rfl ?_
   rintro _ T' ⟨⟨a9,c9,rfl,w9⟩,k'⟩
   refine⟨fun _=>k',?_⟩
   replace hc:=hc.trans k'
   refine L.st2 (Cons.row (h:=hc) rb4) rfl rfl rfl rfl rfl rfl (fun T2 kk r2=>go ?_)
   exact⟨.inr rfl,_,res1 rfl (load2 r2 rfl),⟨a9,c9,rfl,w9.kn kk (Cons.row (h:=hc) rb4) noW⟩,kk.mono (kM.trans hc) g4⟩
  ·have hge:wnum l≤wnum k:=by
    have:=of_decide_eq_false h
    unfold cmpI at this
    split at this<;>omega
   clear h
   refine go ?_
   refine L.zf (Cons.row (h:=hc) rb3) rfl rfl rfl rfl rfl (go ?_)
   refine L.zf (Cons.row (h:=hc) rb3) rfl rfl rfl rfl rfl (go ?_)
   refine L.zf (Cons.row (h:=hc) rb2) rfl rfl rfl rfl rfl ?_
   refine L.cl (minusR_C _ _ _ _ k l _ (h2.cons hc) (h1.cons hc) (by omega) (by omega) hge) rfl rfl ?_
   rintro _ T' ⟨k',a8,c8,rfl,w8⟩
   refine⟨fun _=>k',?_⟩
   replace hc:=hc.trans k'
   rw[zadd_lt hnm hge]
   refine L.b2 rfl rfl rfl ?_
   refine L.cl (rzForm_C ⟨m,a8,c8,_,rfl,w8,le_len (num_len hk) (Nat.sub_le _ _),rfl⟩ (by omega)) rfl rfl ?_
   rintro _ T' ⟨⟨a9,c9,rfl,w9⟩,k'⟩
   refine⟨fun _=>k',?_⟩
   replace hc:=hc.trans k'
   refine L.st2 (Cons.row (h:=hc) rb4) rfl rfl rfl rfl rfl rfl (fun T2 kk r2=>go ?_)
   exact⟨.inr rfl,_,res1 rfl (load2 r2 rfl),⟨a9,c9,rfl,w9.kn kk (Cons.row (h:=hc) rb4) noW⟩,kk.mono (kM.trans hc) g4⟩
theorem rzSign_C (hx:ZIn S u x i) (hi:i<100000):C Tryz.prog gN Ext 44 [u] S fun w S'=>w=.int .i64 (cmpI x 0)∧Cons S S':=by
 obtain⟨n,a,c,l,rfl,h1,hl,rfl⟩:=hx
 refine C.fn Tryz.func44 rfl (by kernel_rfl) rfl (go ?_)
 refine L.nr [.bool n,.slice a l.length c] wT rfl rfl (fun b2 Tb2 gb2 kb2 rb2=>?_)
 have hc:=Cons.refl Tb2
 refine go ?_
 refine L.z2 (Cons.row (h:=hc) rb2) rfl rfl rfl ?_
 refine L.cl (rzForm_C ⟨n,a,c,l,rfl,h1.cons (kb2.trans hc),hl,rfl⟩ hi) rfl rfl ?_
 rintro _ T' ⟨⟨a9,c9,rfl,w9⟩,k'⟩
 refine⟨fun _=>k',?_⟩
 replace hc:=hc.trans k'
 generalize zv n l=x at *
 refine L.nr [.bool false,.slice none 0 0] wT rfl rfl (fun b5 T5 g5 k5 r5=>?_)
 refine L.st2 r5 rfl rfl rfl rfl rfl rfl (fun T6 kk6 r6=>?_)
 have hf:=(kb2.trans hc).trans (kk6.mono k5 g5)
 refine go ?_
 refine L.zf r6 rfl rfl rfl rfl rfl (go ?_)
 have hp:=@toW_pos_len x.natAbs
 rcases Int.lt_trichotomy x 0 with hx | hx | hx
 ·refine W.ite rfl (fun h=>?_) (fun h=>?_)
  ·have:((toW x.natAbs).length:Int)=0:=of_decide_eq_true h
   omega
  clear h
  refine go ?_
  refine L.zf r6 rfl rfl rfl rfl rfl ?_
  rw[decide_eq_true hx]
  refine go ?_
  refine W.condT rfl (go ?_)
  exact⟨.inr rfl,_,rfl,congrArg (Value.int .i64) (cmp_neg hx).symm,hf⟩
 ·subst hx
  refine W.ite rfl (fun h=>?_) (fun h=>?_)
  rotate_left
  ·have:¬ ((toW (0:Int).natAbs).length:Int)=0:=of_decide_eq_false h
   exact absurd (by rw[show (0:Int).natAbs=0 from rfl,toW_zero];rfl) this
  clear h
  refine go ?_
  exact⟨.inr rfl,_,rfl,rfl,hf⟩
 ·refine W.ite rfl (fun h=>?_) (fun h=>?_)
  ·have:((toW x.natAbs).length:Int)=0:=of_decide_eq_true h
   omega
  clear h
  refine go ?_
  refine L.zf r6 rfl rfl rfl rfl rfl ?_
  rw[decide_eq_false (show ¬ x<0 by omega)]
  refine go ?_
  refine W.condF rfl (go ?_)
  exact⟨.inr rfl,_,rfl,congrArg (Value.int .i64) (cmp_pos hx).symm,hf⟩
end
end Go.Proofs.YtbiigbicgfchiaaGreatDoor
