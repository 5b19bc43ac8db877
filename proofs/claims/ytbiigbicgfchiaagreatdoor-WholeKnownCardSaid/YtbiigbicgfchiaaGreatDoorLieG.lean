/- What several proofs share, part 7: a model of memory, contracts of functions. Conditions: none. -/
import Derived.Test.YtbiigbicgfchiaaGreatDoorLieC
import Derived.Test.YtbiigbicgfchiaaGreatDoorLieD
import Derived.Test.YtbiigbicgfchiaaGreatDoorLieE
import Derived.Test.YtbiigbicgfchiaaGreatDoorLieF
import Derived.WalkKit
import Derived.ProofKit
import Derived.OpenShut
import Derived.ShutString
import Derived.ChangeOld
import Derived.Below
import Derived.ChangeSame
import Derived.Test.YtbiigbicgfchiaaGreatDoorRows
import Derived.LaidMore
import Derived.Stop.Joined
import Derived.MakeChecks
import Derived.Lay
/- Layer 2's references: the calls by definition. Conditions: none. -/
set_option linter.unusedSimpArgs false
set_option linter.unusedVariables false
set_option maxRecDepth 100000
set_option maxHeartbeats 4000000
set_option exponentiation.threshold 20000
namespace Go.Proofs.YtbiigbicgfchiaaGreatDoor
section
open Go Ie
variable {Ext:FuncId→List Value→Mem→Outc→Mem→Prop} {S:Mem} {u v:Value} {x y:Int} {i j:Nat}
def ZT (S S':Mem) (w:Value) (E z:Int):Prop:=∃ u,w=.tuple #[u,.int .i64 E]∧Cons S S'∧ZIs S' u (if E=0 then z else 0)
theorem ZIs.z0 {S:Mem} {E z:Int} (h:E≠0):ZIs S (.agg #[.bool false,.slice none 0 0]) (if E=0 then z else 0):=by rw[if_neg h];exact ZIs.zero S
theorem zsum_lt (hx:x.natAbs<2^(64*i)) (hy:y.natAbs<2^(64*j)):(x+y).natAbs<2^(64*(i+j+1)):=by
 have h1:2^(64*i)≤2^(64*(i+j)):=Nat.pow_le_pow_right (by decide) (by omega)
 have h2:2^(64*j)≤2^(64*(i+j)):=Nat.pow_le_pow_right (by decide) (by omega)
 have h3:2^(64*(i+j+1))=2^(64*(i+j))*2^64:=by rw[← Nat.pow_add];rfl
 omega
theorem zmul_lt (hx:x.natAbs<2^(64*i)) (hy:y.natAbs<2^(64*j)):(x*y).natAbs<2^(64*(i+j)):=by
 have h3:2^(64*(i+j))=2^(64*i)*2^(64*j):=by rw[← Nat.pow_add,Nat.mul_add]
 rw[h3,Int.natAbs_mul]
 exact Nat.mul_lt_mul'' hx hy
theorem rzTold_C (hx:ZIn S u x i) (hi:i<100000):C Tryz.prog gN Ext 73 [u] S fun w S'=>ZT S S' w (zE x) x:=by
 obtain⟨n,a,c,l,rfl,h1,hl,rfl⟩:=hx
 refine C.fn Tryz.func73 rfl (by kernel_rfl) rfl (go ?_)
 refine L.nr [.bool n,.slice a l.length c] wT rfl rfl (fun b2 Tb2 gb2 kb2 rb2=>?_)
 refine L.nr [.bool false,.slice none 0 0] wT rfl rfl (fun b4 Tb4 gb4 kb4 rb4=>?_)
 have kM:=kb2.trans kb4
 have g4:S.length≤b4:=Nat.le_trans kb2.len gb4
 replace rb2:=Cons.row (h:=kb4) rb2
 replace h1:=h1.cons kM
 have hc:=Cons.refl Tb4
 clear kb2 kb4 gb2 gb4
 refine go ?_
 refine L.z2 (Cons.row (h:=hc) rb2) rfl rfl rfl ?_
 refine L.cv (rzFits_C ⟨n,a,c,l,rfl,h1.cons hc,hl,rfl⟩ hi) rfl rfl fun T' k'=>?_
 replace hc:=hc.trans k'
 refine go ?_
 rw[zfz_E]
 cases hz:zfz (zv n l)
 ·refine go ?_
  refine W.condT rfl (go ?_)
  refine L.b0 rfl ?_
  refine L.st2 (Cons.row (h:=hc) rb4) rfl rfl rfl rfl rfl rfl (fun T2 kk r2=>go ?_)
  exact⟨.inr rfl,_,res2 rfl (load2 r2 rfl),_,rfl,kk.mono (kM.trans hc) g4,ZIs.z0 (by decide)⟩
 ·refine go ?_
  refine W.condF rfl (go ?_)
  refine L.z2 (Cons.row (h:=hc) rb2) rfl rfl rfl ?_
  refine L.cl (rzForm_C ⟨n,a,c,l,rfl,h1.cons hc,hl,rfl⟩ hi) rfl rfl ?_
  rintro _ T' ⟨⟨a9,c9,rfl,w9⟩,k'⟩
  refine⟨fun _=>k',?_⟩
  replace hc:=hc.trans k'
  refine L.st2 (Cons.row (h:=hc) rb4) rfl rfl rfl rfl rfl rfl (fun T2 kk r2=>go ?_)
  exact⟨.inr rfl,_,res2 rfl (load2 r2 rfl),_,rfl,kk.mono (kM.trans hc) g4,⟨a9,c9,rfl,w9.kn kk (Cons.row (h:=hc) rb4) noW⟩⟩
theorem rzMake_C (n:Bool) (a:Option Addr) (c:Nat) (l:WL) (h1:WIn S a c l) (hl:l.length<10000):C Tryz.prog gN Ext 41 [.bool n,.slice a l.length c] S fun w S'=>ZT S S' w (zE (zv n l)) (zv n l):=by
 refine C.fn Tryz.func41 rfl (by kernel_rfl) rfl (go ?_)
 refine L.nr [.bool false,.slice none 0 0] wT rfl rfl (fun b4 Tb4 gb4 kb4 rb4=>?_)
 have kM:=kb4
 have g4:=gb4
 replace h1:=h1.cons kM
 have hc:=Cons.refl Tb4
 clear kb4 gb4
 refine go ?_
 refine L.b2 rfl rfl rfl ?_
 refine L.cl (rzTold_C (i:=10000) ⟨n,a,c,l,rfl,h1.cons hc,by omega,rfl⟩ (by decide)) rfl rfl ?_
 rintro _ T' ⟨_,rfl,k',a9,c9,rfl,w9⟩
 refine⟨fun _=>k',?_⟩
 replace hc:=hc.trans k'
 refine go ?_
 refine L.st2 (Cons.row (h:=hc) rb4) rfl rfl rfl rfl rfl rfl (fun T2 kk r2=>go ?_)
 exact⟨.inr rfl,_,res2 rfl (load2 r2 rfl),_,rfl,kk.mono (kM.trans hc) g4,⟨a9,c9,rfl,w9.kn kk (Cons.row (h:=hc) rb4) noW⟩⟩
theorem smallR_C (w:BitVec 64) (S:Mem):C Tryz.prog gN Ext 84 [v64 w] S fun v S'=>RefW S S' v (toW w.toNat):=by
 refine C.fn Tryz.func84 rfl (by kernel_rfl) rfl ?_
 unfold v64
 refine go ?_
 refine W.ite rfl (fun h=>?_) (fun h=>?_)
 ·have h0:(w.toNat:Int)=0:=of_decide_eq_true h
  rw[show w.toNat=0 by omega,toW_zero]
  refine go ?_
  exact⟨.inr rfl,_,rfl,Cons.refl S,none,0,rfl,nilZ S⟩
 ·have h0:¬ (w.toNat:Int)=0:=of_decide_eq_false h
  rw[toW_one (by omega) w.isLt]
  have e:BitVec.ofNat 64 w.toNat=w:=by simp
  rw[e]
  refine go ?_
  refine L.bsW [w] rfl rfl rfl rfl rfl rfl (fun bw Tw kw iw=>go ?_)
  exact⟨.inr rfl,_,rfl,kw,some ⟨bw,0,none⟩,1,rfl,iw⟩
theorem rzInt_C (z:Int) (S:Mem) (hz:-9223372036854775808≤z∧z≤9223372036854775807):C Tryz.prog gN Ext 50 [.int .i64 z] S fun w S'=>ZIs S' w z∧Cons S S':=by
 refine C.fn Tryz.func50 rfl (by kernel_rfl) rfl (go ?_)
 refine L.nr [.bool false,.slice none 0 0] wT rfl rfl (fun b4 Tb4 gb4 kb4 rb4=>?_)
 have kM:=kb4
 have g4:=gb4
 have hc:=Cons.refl Tb4
 clear kb4 gb4
 refine go ?_
 obtain⟨w,hw⟩:∃ w:BitVec 64,w.toNat=z.natAbs:=⟨BitVec.ofNat 64 z.natAbs,by rw[BitVec.toNat_ofNat];exact Nat.mod_eq_of_lt (by omega)⟩
 by_cases hzn:z<0
 ·have e1:IntKind.u64.wrap (0 - IntKind.u64.wrap z)=(w.toNat:Int):=by
   have:IntKind.u64.wrap z=z+18446744073709551616:=by
    simp only [IntKind.wrap,IntKind.bits,IntKind.signed,Bool.false_and,Bool.false_eq_true,if_false]
    omega
   rw[this]
   simp only [IntKind.wrap,IntKind.bits,IntKind.signed,Bool.false_and,Bool.false_eq_true,if_false]
   omega
  rw[decide_eq_true hzn]
  refine W.condT rfl (go ?_)
  rw[e1]
  refine L.cl (smallR_C w _) rfl rfl ?_
  rintro _ T' ⟨k',a9,c9,rfl,w9⟩
  refine⟨fun _=>k',?_⟩
  replace hc:=hc.trans k'
  rw[hw] at w9 ⊢
  rw[show decide (z<0)=true from decide_eq_true hzn]
  refine L.b2 rfl rfl rfl ?_
  rw[show true=decide (z<0) from (decide_eq_true hzn).symm]
  refine L.st2 (Cons.row (h:=hc) rb4) rfl rfl rfl rfl rfl rfl (fun T2 kk r2=>go ?_)
  exact⟨.inr rfl,_,res1 rfl (load2 r2 rfl),⟨a9,c9,rfl,w9.kn kk (Cons.row (h:=hc) rb4) noW⟩,kk.mono (kM.trans hc) g4⟩
 ·have e1:IntKind.u64.wrap z=(w.toNat:Int):=by rw[wrapU64 (by omega) (by omega)];omega
  rw[decide_eq_false hzn]
  rw[e1]
  refine W.condF rfl (go ?_)
  refine L.cl (smallR_C w _) rfl rfl ?_
  rintro _ T' ⟨k',a9,c9,rfl,w9⟩
  refine⟨fun _=>k',?_⟩
  replace hc:=hc.trans k'
  rw[hw] at w9 ⊢
  rw[show decide (z<0)=false from decide_eq_false hzn]
  refine L.b2 rfl rfl rfl ?_
  rw[show false=decide (z<0) from (decide_eq_false hzn).symm]
  refine L.st2 (Cons.row (h:=hc) rb4) rfl rfl rfl rfl rfl rfl (fun T2 kk r2=>go ?_)
  exact⟨.inr rfl,_,res1 rfl (load2 r2 rfl),⟨a9,c9,rfl,w9.kn kk (Cons.row (h:=hc) rb4) noW⟩,kk.mono (kM.trans hc) g4⟩
def zz2 (x y z:Int):Int:=if zfz x && zfz y then zE z else 3
theorem zE2_zv (n m:Bool) (l k:WL) (z:Int):zE2 l k z=zz2 (zv n l) (zv m k) z:=by unfold zE2 zz2;rw[zfit_zv n,zfit_zv m]
theorem rzAdd_C (hx:ZIn S u x i) (hy:ZIn S v y j) (hi:i<1000) (hj:j<1000):C Tryz.prog gN Ext 35 [u,v] S fun w S'=>ZT S S' w (zz2 x y (x+y)) (x+y):=by
 have bx:=hx.lt
 have byy:=hy.lt
 obtain⟨n,a1,c1,l,rfl,h1,hl,rfl⟩:=hx
 obtain⟨m,a2,c2,k,rfl,h2,hk,rfl⟩:=hy
 refine C.fn Tryz.func35 rfl (by kernel_rfl) rfl (go ?_)
 refine L.nr [.bool n,.slice a1 l.length c1] wT rfl rfl (fun b2 Tb2 gb2 kb2 rb2=>?_)
 refine L.nr [.bool m,.slice a2 k.length c2] wT rfl rfl (fun b3 Tb3 gb3 kb3 rb3=>?_)
 refine L.nr [.bool false,.slice none 0 0] wT rfl rfl (fun b4 Tb4 gb4 kb4 rb4=>?_)
 have kM:=(kb2.trans kb3).trans kb4
 have g4:S.length≤b4:=Nat.le_trans (kb2.trans kb3).len gb4
 replace rb2:=Cons.row (h:=kb3.trans kb4) rb2
 replace rb3:=Cons.row (h:=kb4) rb3
 replace h1:=h1.cons kM
 replace h2:=h2.cons kM
 have hc:=Cons.refl Tb4
 clear kb2 kb3 kb4 gb2 gb3 gb4
 refine go ?_
 unfold zz2
 refine L.z2 (Cons.row (h:=hc) rb2) rfl rfl rfl ?_
 refine L.cv (rzFits_C ⟨n,a1,c1,l,rfl,h1.cons hc,hl,rfl⟩ (by omega)) rfl rfl fun T' k'=>?_
 replace hc:=hc.trans k'
 refine go ?_
 cases hfx:zfz (zv n l)
 ·rw[show (false && zfz (zv m k))=false from rfl,if_neg Bool.false_ne_true]
  refine go ?_
  refine W.condT rfl (go ?_)
  refine L.b0 rfl ?_
  refine L.st2 (Cons.row (h:=hc) rb4) rfl rfl rfl rfl rfl rfl (fun T2 kk r2=>go ?_)
  exact⟨.inr rfl,_,res2 rfl (load2 r2 rfl),_,rfl,kk.mono (kM.trans hc) g4,ZIs.z0 (by decide)⟩
 refine L.z2 (Cons.row (h:=hc) rb3) rfl rfl rfl ?_
 refine L.cv (rzFits_C ⟨m,a2,c2,k,rfl,h2.cons hc,hk,rfl⟩ (by omega)) rfl rfl fun T' k'=>?_
 replace hc:=hc.trans k'
 refine go ?_
 cases hfy:zfz (zv m k)
 ·rw[show (true && false)=false from rfl,if_neg Bool.false_ne_true]
  refine W.condT rfl (go ?_)
  refine L.b0 rfl ?_
  refine L.st2 (Cons.row (h:=hc) rb4) rfl rfl rfl rfl rfl rfl (fun T2 kk r2=>go ?_)
  exact⟨.inr rfl,_,res2 rfl (load2 r2 rfl),_,rfl,kk.mono (kM.trans hc) g4,ZIs.z0 (by decide)⟩
 refine W.condF rfl ?_
 rw[show (true && true)=true from rfl,if_pos rfl]
 refine go ?_
 refine L.z2 (Cons.row (h:=hc) rb2) rfl rfl rfl ?_
 refine L.z2 (Cons.row (h:=hc) rb3) rfl rfl rfl ?_
 refine L.cl (rzPlus_C (i:=i) (j:=j) ⟨n,a1,c1,l,rfl,h1.cons hc,hl,rfl⟩ ⟨m,a2,c2,k,rfl,h2.cons hc,hk,rfl⟩ (by omega) (by omega)) rfl rfl ?_
 rintro u8 T' ⟨hu8,k'⟩
 refine⟨fun _=>k',?_⟩
 replace hc:=hc.trans k'
 refine L.cl (rzTold_C (hu8.inn (zsum_lt bx byy)) (by omega)) rfl rfl ?_
 rintro _ T' ⟨_,rfl,k',a9,c9,rfl,w9⟩
 refine⟨fun _=>k',?_⟩
 replace hc:=hc.trans k'
 refine go ?_
 refine L.st2 (Cons.row (h:=hc) rb4) rfl rfl rfl rfl rfl rfl (fun T2 kk r2=>go ?_)
 exact⟨.inr rfl,_,res2 rfl (load2 r2 rfl),_,rfl,kk.mono (kM.trans hc) g4,⟨a9,c9,rfl,w9.kn kk (Cons.row (h:=hc) rb4) noW⟩⟩
theorem rzSub_C (hx:ZIn S u x i) (hy:ZIn S v y j) (hi:i<1000) (hj:j<1000):C Tryz.prog gN Ext 36 [u,v] S fun w S'=>ZT S S' w (zz2 x y (x - y)) (x - y):=by
 have bx:=hx.lt
 have byy:=hy.lt
 obtain⟨n,a1,c1,l,rfl,h1,hl,rfl⟩:=hx
 obtain⟨m,a2,c2,k,rfl,h2,hk,rfl⟩:=hy
 refine C.fn Tryz.func36 rfl (by kernel_rfl) rfl (go ?_)
 refine L.nr [.bool n,.slice a1 l.length c1] wT rfl rfl (fun b2 Tb2 gb2 kb2 rb2=>?_)
 refine L.nr [.bool m,.slice a2 k.length c2] wT rfl rfl (fun b3 Tb3 gb3 kb3 rb3=>?_)
 refine L.nr [.bool false,.slice none 0 0] wT rfl rfl (fun b4 Tb4 gb4 kb4 rb4=>?_)
 have kM:=(kb2.trans kb3).trans kb4
 have g4:S.length≤b4:=Nat.le_trans (kb2.trans kb3).len gb4
 replace rb2:=Cons.row (h:=kb3.trans kb4) rb2
 replace rb3:=Cons.row (h:=kb4) rb3
 replace h1:=h1.cons kM
 replace h2:=h2.cons kM
 have hc:=Cons.refl Tb4
 clear kb2 kb3 kb4 gb2 gb3 gb4
 refine go ?_
 unfold zz2
 refine L.z2 (Cons.row (h:=hc) rb2) rfl rfl rfl ?_
 refine L.cv (rzFits_C ⟨n,a1,c1,l,rfl,h1.cons hc,hl,rfl⟩ (by omega)) rfl rfl fun T' k'=>?_
 replace hc:=hc.trans k'
 refine go ?_
 cases hfx:zfz (zv n l)
 ·rw[show (false && zfz (zv m k))=false from rfl,if_neg Bool.false_ne_true]
  refine go ?_
  refine W.condT rfl (go ?_)
  refine L.b0 rfl ?_
  refine L.st2 (Cons.row (h:=hc) rb4) rfl rfl rfl rfl rfl rfl (fun T2 kk r2=>go ?_)
  exact⟨.inr rfl,_,res2 rfl (load2 r2 rfl),_,rfl,kk.mono (kM.trans hc) g4,ZIs.z0 (by decide)⟩
 refine L.z2 (Cons.row (h:=hc) rb3) rfl rfl rfl ?_
 refine L.cv (rzFits_C ⟨m,a2,c2,k,rfl,h2.cons hc,hk,rfl⟩ (by omega)) rfl rfl fun T' k'=>?_
 replace hc:=hc.trans k'
 refine go ?_
 cases hfy:zfz (zv m k)
 ·rw[show (true && false)=false from rfl,if_neg Bool.false_ne_true]
  refine W.condT rfl (go ?_)
  refine L.b0 rfl ?_
  refine L.st2 (Cons.row (h:=hc) rb4) rfl rfl rfl rfl rfl rfl (fun T2 kk r2=>go ?_)
  exact⟨.inr rfl,_,res2 rfl (load2 r2 rfl),_,rfl,kk.mono (kM.trans hc) g4,ZIs.z0 (by decide)⟩
 refine W.condF rfl ?_
 rw[show (true && true)=true from rfl,if_pos rfl]
 refine go ?_
 refine L.z2 (Cons.row (h:=hc) rb2) rfl rfl rfl ?_
 refine L.z2 (Cons.row (h:=hc) rb3) rfl rfl rfl ?_
 refine L.cl (rzTurned_C (i:=j) ⟨m,a2,c2,k,rfl,h2.cons hc,hk,rfl⟩ (by omega)) rfl rfl ?_
 rintro u7 T' ⟨hu7,k'⟩
 refine⟨fun _=>k',?_⟩
 replace hc:=hc.trans k'
 have bz:(-(zv m k)).natAbs<2^(64*j):=by rw[Int.natAbs_neg];exact byy
 refine L.cl (rzPlus_C (i:=i) (j:=j) ⟨n,a1,c1,l,rfl,h1.cons hc,hl,rfl⟩ (hu7.inn bz) (by omega) (by omega)) rfl rfl ?_
 rintro u8 T' ⟨hu8,k'⟩
 refine⟨fun _=>k',?_⟩
 replace hc:=hc.trans k'
 rw[show zv n l+-zv m k=zv n l - zv m k from rfl] at hu8
 have bs:=zsum_lt bx bz
 rw[show zv n l+-zv m k=zv n l - zv m k from rfl] at bs
 refine L.cl (rzTold_C (hu8.inn bs) (by omega)) rfl rfl ?_
 rintro _ T' ⟨_,rfl,k',a9,c9,rfl,w9⟩
 refine⟨fun _=>k',?_⟩
 replace hc:=hc.trans k'
 refine go ?_
 refine L.st2 (Cons.row (h:=hc) rb4) rfl rfl rfl rfl rfl rfl (fun T2 kk r2=>go ?_)
 exact⟨.inr rfl,_,res2 rfl (load2 r2 rfl),_,rfl,kk.mono (kM.trans hc) g4,⟨a9,c9,rfl,w9.kn kk (Cons.row (h:=hc) rb4) noW⟩⟩
theorem rzMul_C (hx:ZIn S u x i) (hy:ZIn S v y j) (hi:i<1000) (hj:j<1000):C Tryz.prog gN Ext 37 [u,v] S fun w S'=>ZT S S' w (zz2 x y (x*y)) (x*y):=by
 have bx:=hx.lt
 have byy:=hy.lt
 obtain⟨n,a1,c1,l,rfl,h1,hl,rfl⟩:=hx
 obtain⟨m,a2,c2,k,rfl,h2,hk,rfl⟩:=hy
 refine C.fn Tryz.func37 rfl (by kernel_rfl) rfl (go ?_)
 refine L.nr [.bool n,.slice a1 l.length c1] wT rfl rfl (fun b2 Tb2 gb2 kb2 rb2=>?_)
 refine L.nr [.bool m,.slice a2 k.length c2] wT rfl rfl (fun b3 Tb3 gb3 kb3 rb3=>?_)
 refine L.nr [.bool false,.slice none 0 0] wT rfl rfl (fun b4 Tb4 gb4 kb4 rb4=>?_)
 have kM:=(kb2.trans kb3).trans kb4
 have g4:S.length≤b4:=Nat.le_trans (kb2.trans kb3).len gb4
 replace rb2:=Cons.row (h:=kb3.trans kb4) rb2
 replace rb3:=Cons.row (h:=kb4) rb3
 replace h1:=h1.cons kM
 replace h2:=h2.cons kM
 have hc:=Cons.refl Tb4
 clear kb2 kb3 kb4 gb2 gb3 gb4
 refine go ?_
 unfold zz2
 refine L.z2 (Cons.row (h:=hc) rb2) rfl rfl rfl ?_
 refine L.cv (rzFits_C ⟨n,a1,c1,l,rfl,h1.cons hc,hl,rfl⟩ (by omega)) rfl rfl fun T' k'=>?_
 replace hc:=hc.trans k'
 refine go ?_
 cases hfx:zfz (zv n l)
 ·rw[show (false && zfz (zv m k))=false from rfl,if_neg Bool.false_ne_true]
  refine go ?_
  refine W.condT rfl (go ?_)
  refine L.b0 rfl ?_
  refine L.st2 (Cons.row (h:=hc) rb4) rfl rfl rfl rfl rfl rfl (fun T2 kk r2=>go ?_)
  exact⟨.inr rfl,_,res2 rfl (load2 r2 rfl),_,rfl,kk.mono (kM.trans hc) g4,ZIs.z0 (by decide)⟩
 refine L.z2 (Cons.row (h:=hc) rb3) rfl rfl rfl ?_
 refine L.cv (rzFits_C ⟨m,a2,c2,k,rfl,h2.cons hc,hk,rfl⟩ (by omega)) rfl rfl fun T' k'=>?_
 replace hc:=hc.trans k'
 refine go ?_
 cases hfy:zfz (zv m k)
 ·rw[show (true && false)=false from rfl,if_neg Bool.false_ne_true]
  refine W.condT rfl (go ?_)
  refine L.b0 rfl ?_
  refine L.st2 (Cons.row (h:=hc) rb4) rfl rfl rfl rfl rfl rfl (fun T2 kk r2=>go ?_)
  exact⟨.inr rfl,_,res2 rfl (load2 r2 rfl),_,rfl,kk.mono (kM.trans hc) g4,ZIs.z0 (by decide)⟩
 refine W.condF rfl ?_
 rw[show (true && true)=true from rfl,if_pos rfl]
 refine go ?_
 refine L.z2 (Cons.row (h:=hc) rb2) rfl rfl rfl ?_
 refine L.z2 (Cons.row (h:=hc) rb3) rfl rfl rfl ?_
 refine L.cl (rzTimes_C (i:=i) (j:=j) ⟨n,a1,c1,l,rfl,h1.cons hc,hl,rfl⟩ ⟨m,a2,c2,k,rfl,h2.cons hc,hk,rfl⟩ (by omega) (by omega)) rfl rfl ?_
 rintro u8 T' ⟨hu8,k'⟩
 refine⟨fun _=>k',?_⟩
 replace hc:=hc.trans k'
 refine L.cl (rzTold_C (hu8.inn (zmul_lt bx byy)) (by omega)) rfl rfl ?_
 rintro _ T' ⟨_,rfl,k',a9,c9,rfl,w9⟩
 refine⟨fun _=>k',?_⟩
 replace hc:=hc.trans k'
 refine go ?_
 refine L.st2 (Cons.row (h:=hc) rb4) rfl rfl rfl rfl rfl rfl (fun T2 kk r2=>go ?_)
 exact⟨.inr rfl,_,res2 rfl (load2 r2 rfl),_,rfl,kk.mono (kM.trans hc) g4,⟨a9,c9,rfl,w9.kn kk (Cons.row (h:=hc) rb4) noW⟩⟩
theorem rzNeg_C (hx:ZIn S u x i) (hi:i<1000):C Tryz.prog gN Ext 40 [u] S fun w S'=>ZT S S' w (zE (-x)) (-x):=by
 obtain⟨n,a,c,l,rfl,h1,hl,rfl⟩:=hx
 refine C.fn Tryz.func40 rfl (by kernel_rfl) rfl (go ?_)
 refine L.nr [.bool n,.slice a l.length c] wT rfl rfl (fun b2 Tb2 gb2 kb2 rb2=>?_)
 refine L.nr [.bool false,.slice none 0 0] wT rfl rfl (fun b4 Tb4 gb4 kb4 rb4=>?_)
 have kM:=kb2.trans kb4
 have g4:S.length≤b4:=Nat.le_trans kb2.len gb4
 replace rb2:=Cons.row (h:=kb4) rb2
 replace h1:=h1.cons kM
 have hc:=Cons.refl Tb4
 clear kb2 kb4 gb2 gb4
 refine go ?_
 refine L.z2 (Cons.row (h:=hc) rb2) rfl rfl rfl ?_
 refine L.cv (rzFits_C ⟨n,a,c,l,rfl,h1.cons hc,hl,rfl⟩ (by omega)) rfl rfl fun T' k'=>?_
 replace hc:=hc.trans k'
 refine go ?_
 rw[zfz_E,show zfz (-zv n l)=zfz (zv n l) by unfold zfz;rw[Int.natAbs_neg]]
 cases hz:zfz (zv n l)
 ·refine go ?_
  refine W.condT rfl (go ?_)
  refine L.b0 rfl ?_
  refine L.st2 (Cons.row (h:=hc) rb4) rfl rfl rfl rfl rfl rfl (fun T2 kk r2=>go ?_)
  exact⟨.inr rfl,_,res2 rfl (load2 r2 rfl),_,rfl,kk.mono (kM.trans hc) g4,ZIs.z0 (by decide)⟩
 ·refine go ?_
  refine W.condF rfl (go ?_)
  refine L.z2 (Cons.row (h:=hc) rb2) rfl rfl rfl ?_
  refine L.cl (rzTurned_C ⟨n,a,c,l,rfl,h1.cons hc,hl,rfl⟩ (by omega)) rfl rfl ?_
  rintro _ T' ⟨⟨a9,c9,rfl,w9⟩,k'⟩
  refine⟨fun _=>k',?_⟩
  replace hc:=hc.trans k'
  refine L.st2 (Cons.row (h:=hc) rb4) rfl rfl rfl rfl rfl rfl (fun T2 kk r2=>go ?_)
  exact⟨.inr rfl,_,res2 rfl (load2 r2 rfl),_,rfl,kk.mono (kM.trans hc) g4,⟨a9,c9,rfl,w9.kn kk (Cons.row (h:=hc) rb4) noW⟩⟩
def zzD (x y:Int):Int:=if zfz x && zfz y then (if y=0 then 11 else 0) else 3
theorem zDE_zv (n m:Bool) (l k:WL):zDE l k=zzD (zv n l) (zv m k):=by
 unfold zDE zzD
 rw[zfit_zv n,zfit_zv m]
 have:=zv_abs m k
 by_cases h:wnum k=0
 ·rw[if_pos h,if_pos (c:=zv m k=0) (by omega)]
 ·rw[if_neg h,if_neg (c:=zv m k=0) (by omega)]
theorem rzQuo_C (hx:ZIn S u x i) (hy:ZIn S v y j) (hi:i<1000) (hj:j<1000):C Tryz.prog gN Ext 38 [u,v] S fun w S'=>ZT S S' w (zzD x y) (x.tdiv y):=by
 have bx:=hx.lt
 have byy:=hy.lt
 obtain⟨n,a1,c1,l,rfl,h1,hl,rfl⟩:=hx
 obtain⟨m,a2,c2,k,rfl,h2,hk,rfl⟩:=hy
 refine C.fn Tryz.func38 rfl (by kernel_rfl) rfl (go ?_)
 refine L.nr [.bool n,.slice a1 l.length c1] wT rfl rfl (fun b2 Tb2 gb2 kb2 rb2=>?_)
 refine L.nr [.bool m,.slice a2 k.length c2] wT rfl rfl (fun b3 Tb3 gb3 kb3 rb3=>?_)
 refine L.nr [.bool false,.slice none 0 0] wT rfl rfl (fun b4 Tb4 gb4 kb4 rb4=>?_)
 have kM:=(kb2.trans kb3).trans kb4
 have g4:S.length≤b4:=Nat.le_trans (kb2.trans kb3).len gb4
 replace rb2:=Cons.row (h:=kb3.trans kb4) rb2
 replace rb3:=Cons.row (h:=kb4) rb3
 replace h1:=h1.cons kM
 replace h2:=h2.cons kM
 have hc:=Cons.refl Tb4
 clear kb2 kb3 kb4 gb2 gb3 gb4
 refine go ?_
 unfold zzD
 refine L.z2 (Cons.row (h:=hc) rb2) rfl rfl rfl ?_
 refine L.cv (rzFits_C ⟨n,a1,c1,l,rfl,h1.cons hc,hl,rfl⟩ (by omega)) rfl rfl fun T' k'=>?_
 replace hc:=hc.trans k'
 refine go ?_
 cases hfx:zfz (zv n l)
 ·rw[show (false && zfz (zv m k))=false from rfl,if_neg Bool.false_ne_true]
  refine go ?_
  refine W.condT rfl (go ?_)
  refine L.b0 rfl ?_
  refine L.st2 (Cons.row (h:=hc) rb4) rfl rfl rfl rfl rfl rfl (fun T2 kk r2=>go ?_)
  exact⟨.inr rfl,_,res2 rfl (load2 r2 rfl),_,rfl,kk.mono (kM.trans hc) g4,ZIs.z0 (by decide)⟩
 refine L.z2 (Cons.row (h:=hc) rb3) rfl rfl rfl ?_
 refine L.cv (rzFits_C ⟨m,a2,c2,k,rfl,h2.cons hc,hk,rfl⟩ (by omega)) rfl rfl fun T' k'=>?_
 replace hc:=hc.trans k'
 refine go ?_
 cases hfy:zfz (zv m k)
 ·rw[show (true && false)=false from rfl,if_neg Bool.false_ne_true]
  refine W.condT rfl (go ?_)
  refine L.b0 rfl ?_
  refine L.st2 (Cons.row (h:=hc) rb4) rfl rfl rfl rfl rfl rfl (fun T2 kk r2=>go ?_)
  exact⟨.inr rfl,_,res2 rfl (load2 r2 rfl),_,rfl,kk.mono (kM.trans hc) g4,ZIs.z0 (by decide)⟩
 refine W.condF rfl ?_
 rw[show (true && true)=true from rfl,if_pos rfl]
 refine go ?_
 refine L.zf (Cons.row (h:=hc) rb3) rfl rfl rfl rfl rfl ?_
 refine L.cl (form_C a2 c2 k _ (h2.cons hc) (by omega)) rfl rfl ?_
 rintro _ T' ⟨k',a8,c8,rfl,w8⟩
 refine⟨fun _=>k',?_⟩
 replace hc:=hc.trans k'
 refine go ?_
 rw[show fm k=toW (wnum k) from rfl] at w8 ⊢
 have hp:=@toW_pos_len (wnum k)
 have hab:=zv_abs m k
 refine W.ite rfl (fun h=>?_) (fun h=>?_)
 ·have h0:((toW (wnum k)).length:Int)=0:=of_decide_eq_true h
  clear h
  rw[if_pos (by omega)]
  refine go ?_
  refine L.b0 rfl ?_
  refine L.st2 (Cons.row (h:=hc) rb4) rfl rfl rfl rfl rfl rfl (fun T2 kk r2=>go ?_)
  exact⟨.inr rfl,_,res2 rfl (load2 r2 rfl),_,rfl,kk.mono (kM.trans hc) g4,ZIs.z0 (by decide)⟩
 ·have h0:¬ ((toW (wnum k)).length:Int)=0:=of_decide_eq_false h
  clear h
  rw[if_neg (by omega)]
  refine go ?_
  refine L.zf (Cons.row (h:=hc) rb2) rfl rfl rfl rfl rfl (go ?_)
  refine L.zf (Cons.row (h:=hc) rb3) rfl rfl rfl rfl rfl ?_
  refine L.cl (over_C _ _ _ _ l k _ (h1.cons hc) (h2.cons hc) (by omega) (by omega) (by omega)) rfl rfl ?_
  rintro _ T' ⟨a6,a7,c6,c7,rfl,k',w6,w7⟩
  refine⟨fun _=>k',?_⟩
  replace hc:=hc.trans k'
  refine go ?_
  refine L.zf (Cons.row (h:=hc) rb2) rfl rfl rfl rfl rfl (go ?_)
  refine L.zf (Cons.row (h:=hc) rb3) rfl rfl rfl rfl rfl (go ?_)
  rw[zdiv]
  refine L.b2 rfl rfl rfl ?_
  refine L.cl (rzForm_C ⟨n != m,a6,c6,_,rfl,w6,le_len (num_len hl) (Nat.div_le_self _ _),rfl⟩ (by omega)) rfl rfl ?_
  rintro _ T' ⟨⟨a9,c9,rfl,w9⟩,k'⟩
  refine⟨fun _=>k',?_⟩
  replace hc:=hc.trans k'
  refine L.st2 (Cons.row (h:=hc) rb4) rfl rfl rfl rfl rfl rfl (fun T2 kk r2=>go ?_)
  exact⟨.inr rfl,_,res2 rfl (load2 r2 rfl),_,rfl,kk.mono (kM.trans hc) g4,⟨a9,c9,rfl,w9.kn kk (Cons.row (h:=hc) rb4) noW⟩⟩
theorem rzRem_C (hx:ZIn S u x i) (hy:ZIn S v y j) (hi:i<1000) (hj:j<1000):C Tryz.prog gN Ext 39 [u,v] S fun w S'=>ZT S S' w (zzD x y) (x.tmod y):=by
 have bx:=hx.lt
 have byy:=hy.lt
 obtain⟨n,a1,c1,l,rfl,h1,hl,rfl⟩:=hx
 obtain⟨m,a2,c2,k,rfl,h2,hk,rfl⟩:=hy
 refine C.fn Tryz.func39 rfl (by kernel_rfl) rfl (go ?_)
 refine L.nr [.bool n,.slice a1 l.length c1] wT rfl rfl (fun b2 Tb2 gb2 kb2 rb2=>?_)
 refine L.nr [.bool m,.slice a2 k.length c2] wT rfl rfl (fun b3 Tb3 gb3 kb3 rb3=>?_)
 refine L.nr [.bool false,.slice none 0 0] wT rfl rfl (fun b4 Tb4 gb4 kb4 rb4=>?_)
 have kM:=(kb2.trans kb3).trans kb4
 have g4:S.length≤b4:=Nat.le_trans (kb2.trans kb3).len gb4
 replace rb2:=Cons.row (h:=kb3.trans kb4) rb2
 replace rb3:=Cons.row (h:=kb4) rb3
 replace h1:=h1.cons kM
 replace h2:=h2.cons kM
 have hc:=Cons.refl Tb4
 clear kb2 kb3 kb4 gb2 gb3 gb4
 refine go ?_
 refine L.z2 (Cons.row (h:=hc) rb2) rfl rfl rfl ?_
 refine L.z2 (Cons.row (h:=hc) rb3) rfl rfl rfl ?_
 refine L.cl (rzQuo_C (i:=i) (j:=j) ⟨n,a1,c1,l,rfl,h1.cons hc,hl,rfl⟩ ⟨m,a2,c2,k,rfl,h2.cons hc,hk,rfl⟩ hi hj) rfl rfl ?_
 rintro _ T' ⟨_,rfl,k',hz8⟩
 refine⟨fun _=>k',?_⟩
 replace hc:=hc.trans k'
 obtain⟨a8,c8,rfl,w8⟩:=hz8
 refine go ?_
 refine L.nr [.bool false,.slice none 0 0] wT rfl rfl (fun b6 T6 g6 k6 r6=>?_)
 refine L.st2 r6 rfl rfl rfl rfl rfl rfl (fun T7 kk7 r7=>?_)
 have k7:=kk7.mono k6 g6
 replace w8:=w8.cons k7
 replace hc:=hc.trans k7
 refine go ?_
 by_cases hE:zzD (zv n l) (zv m k)=0
 ·rw[hE] at w8 r7 ⊢
  rw[if_pos rfl] at w8 r7
  refine W.condF rfl (go ?_)
  refine L.z2 (Cons.row (h:=hc) rb2) rfl rfl rfl ?_
  refine L.z2 (Cons.row (h:=hc) rb3) rfl rfl rfl ?_
  generalize hX:zv n l=x at *
  generalize hY:zv m k=y at *
  have h8:ZIs T7 (.agg #[.bool (decide (x.tdiv y<0)),.slice a8 (toW (x.tdiv y).natAbs).length c8]) (x.tdiv y):=⟨a8,c8,rfl,w8⟩
  have b8:(x.tdiv y).natAbs<2^(64*i):=by rw[Int.natAbs_tdiv];exact Nat.lt_of_le_of_lt (Nat.div_le_self _ _) bx
  refine L.z2 r7 rfl rfl rfl ?_
  refine L.cl (rzTimes_C (i:=j) (j:=i) ⟨m,a2,c2,k,rfl,h2.cons hc,hk,hY⟩ (h8.inn b8) (by omega) (by omega)) rfl rfl ?_
  rintro u9 T' ⟨hu9,k'⟩
  refine⟨fun _=>k',?_⟩
  replace hc:=hc.trans k'
  have b9:=zmul_lt byy b8
  refine L.cl (rzTurned_C (hu9.inn b9) (by omega)) rfl rfl ?_
  rintro u10 T' ⟨hu10,k'⟩
  refine⟨fun _=>k',?_⟩
  replace hc:=hc.trans k'
  have b10:(-(y*x.tdiv y)).natAbs<2^(64*(j+i)):=by rw[Int.natAbs_neg];exact b9
  have e:x+-(y*x.tdiv y)=x.tmod y:=by have:=Int.mul_tdiv_add_tmod x y;omega
  have hp:=rzPlus_C (Ext:=Ext) (i:=i) (j:=j+i) (S:=T') (u:=.agg #[.bool n,.slice a1 l.length c1]) (x:=x) ⟨n,a1,c1,l,rfl,h1.cons hc,hl,hX⟩ (hu10.inn b10) (by omega) (by omega)
  rw[e] at hp
  refine L.cl (hp) rfl rfl ?_
  rintro _ T' ⟨⟨a9,c9,rfl,w9⟩,k'⟩
  refine⟨fun _=>k',?_⟩
  replace hc:=hc.trans k'
  refine L.st2 (Cons.row (h:=hc) rb4) rfl rfl rfl rfl rfl rfl (fun T2 kk r2=>go ?_)
  exact⟨.inr rfl,_,res2 rfl (load2 r2 rfl),_,rfl,kk.mono (kM.trans hc) g4,⟨a9,c9,rfl,w9.kn kk (Cons.row (h:=hc) rb4) noW⟩⟩
 ·rw[show (zzD (zv n l) (zv m k) != (0:Int))=true from bne_iff_ne.2 hE]
  refine W.condT rfl (go ?_)
  refine L.b0 rfl (go ?_)
  refine L.st2 (Cons.row (h:=hc) rb4) rfl rfl rfl rfl rfl rfl (fun T2 kk r2=>go ?_)
  exact⟨.inr rfl,_,res2 rfl (load2 r2 rfl),_,rfl,kk.mono (kM.trans hc) g4,ZIs.z0 hE⟩
theorem rzCmp_C (hx:ZIn S u x i) (hy:ZIn S v y j) (hi:i<1000) (hj:j<1000):C Tryz.prog gN Ext 43 [u,v] S fun w S'=>w=.int .i64 (cmpI x y)∧Cons S S':=by
 have bx:=hx.lt
 have byy:=hy.lt
 obtain⟨n,a1,c1,l,rfl,h1,hl,rfl⟩:=hx
 obtain⟨m,a2,c2,k,rfl,h2,hk,rfl⟩:=hy
 refine C.fn Tryz.func43 rfl (by kernel_rfl) rfl (go ?_)
 refine L.nr [.bool n,.slice a1 l.length c1] wT rfl rfl (fun b2 Tb2 gb2 kb2 rb2=>?_)
 refine L.nr [.bool m,.slice a2 k.length c2] wT rfl rfl (fun b3 Tb3 gb3 kb3 rb3=>?_)
 have kM:=kb2.trans kb3
 replace rb2:=Cons.row (h:=kb3) rb2
 replace h1:=h1.cons kM
 replace h2:=h2.cons kM
 have hc:=Cons.refl Tb3
 clear kb2 kb3 gb2 gb3
 refine go ?_
 refine L.z2 (Cons.row (h:=hc) rb2) rfl rfl rfl ?_
 refine L.z2 (Cons.row (h:=hc) rb3) rfl rfl rfl ?_
 refine L.cl (rzTurned_C (i:=j) ⟨m,a2,c2,k,rfl,h2.cons hc,hk,rfl⟩ (by omega)) rfl rfl ?_
 rintro u7 T' ⟨hu7,k'⟩
 refine⟨fun _=>k',?_⟩
 replace hc:=hc.trans k'
 have bz:(-(zv m k)).natAbs<2^(64*j):=by rw[Int.natAbs_neg];exact byy
 refine L.cl (rzPlus_C (i:=i) (j:=j) ⟨n,a1,c1,l,rfl,h1.cons hc,hl,rfl⟩ (hu7.inn bz) (by omega) (by omega)) rfl rfl ?_
 rintro u8 T' ⟨hu8,k'⟩
 refine⟨fun _=>k',?_⟩
 replace hc:=hc.trans k'
 rw[cmp_sub]
 refine L.cv (rzSign_C (hu8.inn (zsum_lt bx bz)) (by omega)) rfl rfl fun T' k'=>?_
 replace hc:=hc.trans k'
 refine go ?_
 exact⟨.inr rfl,_,rfl,rfl,kM.trans hc⟩
end
section
open Go Ie
variable {Ext:FuncId→List Value→Mem→Outc→Mem→Prop} {S:Mem} {u v:Value} {x y:Int}
def zText (x:Int):BL:=if x<0 then 45#8 :: dec x.natAbs else dec x.natAbs
theorem dec_short {x:Int} (fx:zok x):(dec x.natAbs).length≤2467:=dec_bound (up4 fx)
theorem nText_C (hx:ZIs S u x) (fx:zok x) (hP:PowOk S):C Tryz.prog gN Ext 45 [u] S fun w S'=>w=.tuple #[.string (strB (zText x)),.int .i64 0]∧Cons S S':=by
 refine C.fn Tryz.func45 rfl (by kernel_rfl) rfl ?_
 obtain⟨a1,c1,rfl,h1⟩:=hx
 refine go ?_
 refine L.nr [.bool (decide (x<0)),.slice a1 (toW x.natAbs).length c1] wT rfl rfl (fun b2 Tb2 gb2 kb2 rb2=>?_)
 have hc:=Cons.refl Tb2
 refine go ?_
 refine L.z2 (Cons.row (h:=hc) rb2) rfl rfl rfl ?_
 refine L.bz [(decide (x<0),⟨a1,c1,toW x.natAbs⟩)] rfl rfl rfl rfl rfl (fun bs Ts gs ks rs=>?_)
 replace hc:=hc.trans ks
 refine L.cl (zFit_C bs [(decide (x<0),⟨a1,c1,toW x.natAbs⟩)] Ts rs (fun z hz=>by
  simp only [List.mem_cons,List.not_mem_nil,or_false] at hz
  rcases hz with rfl
  exact h1.cons (kb2.trans hc)) (by simp)) rfl rfl ?_
 rintro _ Tf ⟨rfl,kf⟩
 refine⟨fun _=>kf,?_⟩
 replace hc:=hc.trans kf
 rw[show (([(decide (x<0),WS.mk a1 c1 (toW x.natAbs))]:List ZW).all fun z=>zfit z.2.l)=true by simp [zok_fit fx]]
 refine go ?_
 refine W.condF rfl (go ?_)
 refine L.zf (Cons.row (h:=hc) rb2) rfl rfl rfl rfl rfl ?_
 have hsm:small (toW x.natAbs)=true:=small_of (by rw[wnum_toW];exact up4 fx)
 refine L.cv (natText_C a1 c1 (toW x.natAbs) _ (h1.cons (kb2.trans hc)) (hP.cons (kb2.trans hc))) rfl rfl fun Tt kt=>?_
 replace hc:=hc.trans kt
 rw[show textL (toW x.natAbs)=dec x.natAbs by unfold textL;rw[hsm,if_pos rfl,wnum_toW],show textE (toW x.natAbs)=0 by unfold textE;rw[hsm];rfl]
 refine go ?_
 refine L.z2 (Cons.row (h:=hc) rb2) rfl rfl rfl ?_
 refine L.cv (nSign_C (x:=x) ⟨a1,c1,rfl,h1.cons (kb2.trans hc)⟩) rfl rfl fun Tg kg=>?_
 replace hc:=hc.trans kg
 have hd:=dec_short fx
 unfold zText
 by_cases hneg:x<0
 ·rw[if_pos hneg,cmp_neg hneg]
  refine go ?_
  refine W.condT rfl (go ?_)
  refine L.tadd (a:=[45#8]) (b:=dec x.natAbs) rfl rfl (by simp;omega) rfl (go ?_)
  exact⟨.inr rfl,_,rfl,rfl,kb2.trans hc⟩
 ·rw[if_neg hneg]
  refine go ?_
  rw[show decide (cmpI x 0<0)=false from decide_eq_false (by rcases cmpI_vals x 0 with h | h | h<;>first | omega | (exact absurd (cz1 h) hneg))]
  refine W.condF rfl (go ?_)
  exact⟨.inr rfl,_,rfl,rfl,kb2.trans hc⟩
theorem zok_small {z:Int} (h:z.natAbs<18446744073709551616):zok z:=Nat.lt_of_lt_of_le h (by
 have:(2:Nat)^64≤2^4096:=Nat.pow_le_pow_right (by decide) (by decide)
 omega)
theorem works_C (S:Mem) (hS:SinOk S) (hP:PowOk S) (hG:gN≤S.length):C Tryz.prog gN Ext 18 [] S fun v S'=>v=.bool true∧Cons S S':=by
 refine C.fn Tryz.func18 rfl (by kernel_rfl) rfl ?_
 have hZ:=Zs.nil S
 have hc:=Cons.refl S
 refine go ?_
 refine L.cl (nInt_C (-7) (by decide)) rfl rfl ?_
 rintro _ T' ⟨⟨a0,c0,rfl,w0⟩,k',hf0⟩
 refine⟨fun _=>k',?_⟩
 replace hZ:=hZ.cons k'
 replace hc:=hc.trans k'
 refine L.cl (nInt_C 2 (by decide)) rfl rfl ?_
 rintro _ T' ⟨⟨a1,c1,rfl,w1⟩,k',hf1⟩
 refine⟨fun _=>k',?_⟩
 replace hZ:=hZ.cons k'
 replace hc:=hc.trans k'
 replace w0:=w0.cons k'
 refine L.nr [.bool false,.slice none 0 0] wT rfl rfl (fun b0 T1' g1' k1' r1'=>?_)
 refine L.nr [.bool false,.slice none 0 0] wT rfl rfl (fun b1 T2' g2' k2' r2'=>?_)
 have n12:b1≠b0:=by have:=row_lt r1';omega
 replace r1':=Cons.row (h:=k2') r1'
 refine L.st2 r1' rfl rfl rfl rfl rfl rfl (fun T3' kk1 s1'=>?_)
 refine L.st2 (kk1.row r2' n12) rfl rfl rfl rfl rfl rfl (fun T' kk2 s2'=>?_)
 replace s1':=kk2.row s1' (Ne.symm n12)
 have kx:=kk2.mono (kk1.mono (k1'.trans k2') g1') (Nat.le_trans k1'.len g2')
 replace hZ:=((hZ.cons kx).add ⟨a0,c0,s1',w0.cons kx⟩).add ⟨a1,c1,s2',w1.cons kx⟩
 replace hc:=hc.trans kx
 clear kx kk1 kk2 s1' s2' r1' r2' k1' k2' g1' g2' n12
 refine go ?_
 refine L.zl (hZ.at 0 rfl) rfl rfl rfl (fun u2 hu2=>?_)
 refine L.zl (hZ.at 1 rfl) rfl rfl rfl (fun u3 hu3=>?_)
 refine L.cl (nQuo_C hu2 hu3 (zok_small (by decide)) (zok_small (by decide))) rfl rfl ?_
 rintro _ T' hr
 refine⟨fun _=>let ⟨_,_,k,_⟩:=hr;k,?_⟩
 obtain⟨_,rfl,k',⟨a4,c4,rfl,w4⟩,hf4⟩:=hr.ok (rfl)
 clear hr
 replace hZ:=hZ.cons k'
 replace hc:=hc.trans k'
 refine go ?_
 refine L.nr [.bool false,.slice none 0 0] wT rfl rfl (fun b4 T' g' k' r'=>?_)
 refine L.st2 r' rfl rfl rfl rfl rfl rfl (fun T' kk' r''=>?_)
 have kx:=kk'.mono k' g'
 replace hZ:=(hZ.cons kx).add ⟨a4,c4,r'',w4.cons kx⟩
 replace hc:=hc.trans kx
 clear kx kk' r'' r' k' g' w4
 refine go ?_
 refine L.zl (hZ.at 0 rfl) rfl rfl rfl (fun u5 hu5=>?_)
 refine L.zl (hZ.at 1 rfl) rfl rfl rfl (fun u6 hu6=>?_)
 refine L.cl (nRem_C hu5 hu6 (zok_small (by decide)) (zok_small (by decide))) rfl rfl ?_
 rintro _ T' hr
 refine⟨fun _=>let ⟨_,_,k,_⟩:=hr;k,?_⟩
 obtain⟨_,rfl,k',⟨a7,c7,rfl,w7⟩,hf7⟩:=hr.ok (rfl)
 clear hr
 replace hZ:=hZ.cons k'
 replace hc:=hc.trans k'
 refine go ?_
 refine L.nr [.bool false,.slice none 0 0] wT rfl rfl (fun b7 T' g' k' r'=>?_)
 refine L.st2 r' rfl rfl rfl rfl rfl rfl (fun T' kk' r''=>?_)
 have kx:=kk'.mono k' g'
 replace hZ:=(hZ.cons kx).add ⟨a7,c7,r'',w7.cons kx⟩
 replace hc:=hc.trans kx
 clear kx kk' r'' r' k' g' w7
 refine go ?_
 refine L.cl (nInt_C (-2) (by decide)) rfl rfl ?_
 rintro _ T' ⟨⟨a8,c8,rfl,w8⟩,k',hf8⟩
 refine⟨fun _=>k',?_⟩
 replace hZ:=hZ.cons k'
 replace hc:=hc.trans k'
 refine L.cl (nInt_C 3 (by decide)) rfl rfl ?_
 rintro _ T' ⟨⟨a9,c9,rfl,w9⟩,k',hf9⟩
 refine⟨fun _=>k',?_⟩
 replace hZ:=hZ.cons k'
 replace hc:=hc.trans k'
 replace w8:=w8.cons k'
 refine L.cl (nPow_C ⟨a8,c8,rfl,w8⟩ ⟨a9,c9,rfl,w9⟩ (zok_small (by decide)) (zok_small (by decide)) (hS.cons hc) (Nat.le_trans hG hc.len)) rfl rfl ?_
 rintro _ T' hr
 refine⟨fun _=>let ⟨_,_,k,_⟩:=hr;k,?_⟩
 obtain⟨_,rfl,k',⟨a10,c10,rfl,w10⟩,hf10⟩:=hr.ok ((if_neg (by decide)).trans (zok_E (zok_small (z:=(-2)^(3:Int).toNat) (by decide))))
 clear hr
 replace hZ:=hZ.cons k'
 replace hc:=hc.trans k'
 refine go ?_
 refine L.nr [.bool false,.slice none 0 0] wT rfl rfl (fun b10 T' g' k' r'=>?_)
 refine L.st2 r' rfl rfl rfl rfl rfl rfl (fun T' kk' r''=>?_)
 have kx:=kk'.mono k' g'
 replace hZ:=(hZ.cons kx).add ⟨a10,c10,r'',w10.cons kx⟩
 replace hc:=hc.trans kx
 clear kx kk' r'' r' k' g' w10
 refine go ?_
 refine L.zl (hZ.at 4 rfl) rfl rfl rfl (fun u11 hu11=>?_)
 refine L.cv (nText_C hu11 (zok_small (by decide)) (hP.cons hc)) rfl rfl fun T' k'=>?_
 replace hZ:=hZ.cons k'
 replace hc:=hc.trans k'
 refine go ?_
 refine L.zl (hZ.at 0 rfl) rfl rfl rfl (fun u12 hu12=>?_)
 refine L.b0 rfl ?_
 refine L.cl (nQuo_C hu12 (ZIs.zero _) (zok_small (by decide)) (zok_small (by decide))) rfl rfl ?_
 rintro _ T' ⟨_,rfl,k',⟨a13,c13,rfl,w13⟩,hf13⟩
 refine⟨fun _=>k',?_⟩
 replace hZ:=hZ.cons k'
 replace hc:=hc.trans k'
 refine go ?_
 refine L.nr [.bool false,.slice none 0 0] wT rfl rfl (fun b13 T' g' k' r'=>?_)
 refine L.st2 r' rfl rfl rfl rfl rfl rfl (fun T' kk' r''=>?_)
 have kx:=kk'.mono k' g'
 replace hZ:=(hZ.cons kx).add ⟨a13,c13,r'',w13.cons kx⟩
 replace hc:=hc.trans kx
 clear kx kk' r'' r' k' g' w13
 refine go ?_
 refine L.zl (hZ.at 2 rfl) rfl rfl rfl (fun u14 hu14=>?_)
 refine L.cv (nInt64_C hu14) rfl rfl fun T' k'=>?_
 replace hZ:=hZ.cons k'
 replace hc:=hc.trans k'
 refine go ?_
 refine L.zl (hZ.at 3 rfl) rfl rfl rfl (fun u15 hu15=>?_)
 refine L.cv (nInt64_C hu15) rfl rfl fun T' k'=>?_
 replace hZ:=hZ.cons k'
 replace hc:=hc.trans k'
 refine go ?_
 rw[show zText ((-2)^(3:Int).toNat)=[45#8,56#8] by
  rw[show ((-2:Int)^(3:Int).toNat)=-8 from rfl]
  unfold zText
  rw[if_pos (by decide),show (-8:Int).natAbs=8 from rfl,dec_small (by decide)];rfl]
 refine⟨.inr rfl,_,rfl,(force_eq rfl).trans (congrArg Value.bool ?_),hc⟩
 exact beq_self_eq_true (strB [45#8,56#8]).toList
end
section
open Go Ie
variable {Ext:FuncId→List Value→Mem→Outc→Mem→Prop} {S:Mem} {u v:Value} {x y:Int} {i j:Nat}
theorem toW_big {N:Nat} (h:¬ N<18446744073709551616):2≤(toW N).length:=by
 have:=(toW_len N 1).1
 rw[show (2:Nat)^(64*1)=18446744073709551616 by decide] at this
 exact Nat.lt_of_not_le fun hc=>h (this hc)
theorem rzInt64_C (hx:ZIn S u x i) (hi:i<100000):C Tryz.prog gN Ext 42 [u] S fun w S'=>w=.tuple #[.int .i64 (if i64ok x then x else 0),.bool (i64ok x)]∧Cons S S':=by
 obtain⟨n,a,c,l,rfl,h1,hl,rfl⟩:=hx
 refine C.fn Tryz.func42 rfl (by kernel_rfl) rfl (go ?_)
 refine L.nr [.bool n,.slice a l.length c] wT rfl rfl (fun b2 Tb2 gb2 kb2 rb2=>?_)
 have hc:=Cons.refl Tb2
 refine go ?_
 refine L.z2 (Cons.row (h:=hc) rb2) rfl rfl rfl ?_
 refine L.cl (rzForm_C ⟨n,a,c,l,rfl,h1.cons (kb2.trans hc),hl,rfl⟩ hi) rfl rfl ?_
 rintro _ T' ⟨⟨a9,c9,rfl,w9⟩,k'⟩
 refine⟨fun _=>k',?_⟩
 replace hc:=hc.trans k'
 generalize zv n l=z at *
 refine L.nr [.bool false,.slice none 0 0] wT rfl rfl (fun b6 T5 g5 k5 r5=>?_)
 refine L.st2 r5 rfl rfl rfl rfl rfl rfl (fun T8 kk6 r8=>?_)
 have k9:=kk6.mono k5 g5
 have hcS:=(kb2.trans hc).trans k9
 have w8:=w9.cons k9
 clear hc
 have hc:=Cons.refl T8
 refine go ?_
 refine L.zf (Cons.row (h:=hc) r8) rfl rfl rfl rfl rfl (go ?_)
 by_cases h0:z.natAbs=0
 ·have hz0:z=0:=by omega
  rw[show (((toW z.natAbs).length:Int)==0)=true by rw[h0,toW_zero];rfl]
  refine W.condT rfl (go ?_)
  refine⟨.inr rfl,_,rfl,?_,hcS⟩
  rw[hz0];rfl
 by_cases hsm:z.natAbs<18446744073709551616
 rotate_left
 ·have hl2:=toW_big hsm
  rw[show (((toW z.natAbs).length:Int)==0)=false from decide_eq_false (by omega)]
  refine W.condF rfl (go ?_)
  refine L.zf (Cons.row (h:=hc) r8) rfl rfl rfl rfl rfl (go ?_)
  rw[show decide (((toW z.natAbs).length:Int) > 1)=true from decide_eq_true (by omega)]
  refine go ?_
  refine W.condT rfl ?_
  have hn:i64ok z=false:=by unfold i64ok;exact decide_eq_false (by omega)
  rw[hn]
  refine go ?_
  exact⟨.inr rfl,_,rfl,rfl,hcS⟩
 have h1w:=toW_one h0 hsm
 have hlen:(toW z.natAbs).length=1:=by rw[h1w];rfl
 have hx:(toW z.natAbs)[0]?=some (BitVec.ofNat 64 z.natAbs):=by rw[h1w];rfl
 have hxn:(BitVec.ofNat 64 z.natAbs).toNat=z.natAbs:=by rw[BitVec.toNat_ofNat];exact Nat.mod_eq_of_lt hsm
 have hxv:v64 (BitVec.ofNat 64 z.natAbs)=.int .u64 ((z.natAbs:Nat):Int):=congrArg (fun n:Nat=>Value.int .u64 (n:Int)) hxn
 rw[show (((toW z.natAbs).length:Int)==0)=false by rw[hlen];rfl]
 refine W.condF rfl (go ?_)
 refine L.zf (Cons.row (h:=hc) r8) rfl rfl rfl rfl rfl (go ?_)
 rw[show decide (((toW z.natAbs).length:Int) > 1)=false from decide_eq_false (by omega)]
 refine go ?_
 refine L.zf (Cons.row (h:=hc) r8) rfl rfl rfl rfl rfl (go ?_)
 by_cases hneg:z<0
 ·rw[show decide (z<0)=true from decide_eq_true hneg]
  refine go ?_
  refine L.zf (Cons.row (h:=hc) r8) rfl rfl rfl rfl rfl ?_
  refine L.el w8.1 (k:=0) rfl (wv_get hx) rfl rfl rfl rfl (fun _=>rfl) rfl (fun p=>?_)
  rw[hxv]
  refine go ?_
  refine W.ite rfl (fun h=>?_) (fun h=>?_)
  ·have:=of_decide_eq_true h
   have hn:i64ok z=false:=by unfold i64ok;exact decide_eq_false (by omega)
   rw[hn]
   refine go ?_
   exact⟨.inr rfl,_,rfl,rfl,hcS⟩
  ·have:=of_decide_eq_false h
   clear h
   have hn:i64ok z=true:=by unfold i64ok;exact decide_eq_true (by omega)
   rw[hn]
   refine go ?_
   refine L.zf (Cons.row (h:=hc) r8) rfl rfl rfl rfl rfl (go ?_)
   rw[show decide (z<0)=true from decide_eq_true hneg]
   refine W.condT rfl (go ?_)
   refine L.zf (Cons.row (h:=hc) r8) rfl rfl rfl rfl rfl ?_
   refine L.el w8.1 (k:=0) rfl (wv_get hx) rfl rfl rfl rfl (fun _=>rfl) rfl (fun p=>?_)
   rw[hxv]
   refine go ?_
   refine⟨.inr rfl,_,rfl,?_,hcS⟩
   have e:IntKind.i64.wrap (IntKind.u64.wrap (0 - ((z.natAbs:Nat):Int)))=z:=by
    simp only [IntKind.wrap,IntKind.bits,IntKind.signed,Bool.false_and,Bool.true_and,Bool.false_eq_true,if_false,decide_eq_true_eq,ge_iff_le]
    split<;>omega
   show Value.tuple #[.int .i64 (IntKind.i64.wrap (IntKind.u64.wrap (0 - ((z.natAbs:Nat):Int)))),.bool true]=_
   rw[e];rfl
 ·rw[show decide (z<0)=false from decide_eq_false hneg]
  refine go ?_
  refine L.zf (Cons.row (h:=hc) r8) rfl rfl rfl rfl rfl ?_
  refine L.el w8.1 (k:=0) rfl (wv_get hx) rfl rfl rfl rfl (fun _=>rfl) rfl (fun p=>?_)
  rw[hxv]
  refine go ?_
  cases hle:decide (((z.natAbs:Nat):Int) > 9223372036854775807)
  ·have:=of_decide_eq_false hle
   have hn:i64ok z=true:=by unfold i64ok;exact decide_eq_true (by omega)
   rw[hn]
   refine go ?_
   refine L.zf (Cons.row (h:=hc) r8) rfl rfl rfl rfl rfl ?_
   refine L.el w8.1 (k:=0) rfl (wv_get hx) rfl rfl rfl rfl (fun _=>rfl) rfl (fun p=>?_)
   rw[hxv]
   refine go ?_
   refine W.ite rfl (fun h=>?_) (fun h=>?_)
   ·have:=of_decide_eq_true h
    omega
   clear h
   refine go ?_
   refine L.zf (Cons.row (h:=hc) r8) rfl rfl rfl rfl rfl (go ?_)
   rw[show decide (z<0)=false from decide_eq_false hneg]
   refine W.condF rfl (go ?_)
   refine L.zf (Cons.row (h:=hc) r8) rfl rfl rfl rfl rfl ?_
   refine L.el w8.1 (k:=0) rfl (wv_get hx) rfl rfl rfl rfl (fun _=>rfl) rfl (fun p=>?_)
   rw[hxv]
   refine go ?_
   refine⟨.inr rfl,_,rfl,?_,hcS⟩
   have e:IntKind.i64.wrap ((z.natAbs:Nat):Int)=z:=by rw[wrap64 (by omega) (by omega)];omega
   show Value.tuple #[.int .i64 (IntKind.i64.wrap ((z.natAbs:Nat):Int)),.bool true]=_
   rw[e];rfl
  ·have:=of_decide_eq_true hle
   have hn:i64ok z=false:=by unfold i64ok;exact decide_eq_false (by omega)
   rw[hn]
   refine go ?_
   refine W.condT rfl (go ?_)
   exact⟨.inr rfl,_,rfl,rfl,hcS⟩
def zzP (x y:Int):Int:=if zfz x && zfz y then (if y<0 then 20 else zE (x^y.toNat)) else 3
theorem zPE_zv (n m:Bool) (l k:WL):zPE n m l k=zzP (zv n l) (zv m k):=by unfold zPE zzP;rw[zfit_zv n,zfit_zv m]
theorem zfz_lt (h:zfz x=true):x.natAbs<2^(64*64):=of_decide_eq_true h
theorem one_zpow (b:Bool) (K:Nat):(if b then (-1:Int) else 1)^K=if b && decide (K % 2=1) then -1 else 1:=by
 cases b
 ·exact Int.one_pow
 ·induction K with
  | zero=>rfl
  | succ K ih=>
   rw[Int.pow_succ,ih]
   by_cases h:K % 2=1
   ·simp [h,show (K+1) % 2=0 by omega]
   ·simp [h,show (K+1) % 2=1 by omega]
theorem rzPow_C (hx:ZIn S u x i) (hy:ZIn S v y j) (hi:i<1000) (hj:j<1000):C Tryz.prog gN Ext 13 [u,v] S fun w S'=>ZT S S' w (zzP x y) (x^y.toNat):=by
 have bx:=hx.lt
 have byy:=hy.lt
 obtain⟨n,a1,c1,l,rfl,h1,hl,rfl⟩:=hx
 obtain⟨m,a2,c2,k,rfl,h2,hk,rfl⟩:=hy
 refine C.fn Tryz.func13 rfl (by kernel_rfl) rfl (go ?_)
 refine L.nr [.bool n,.slice a1 l.length c1] wT rfl rfl (fun b2 Tb2 gb2 kb2 rb2=>?_)
 refine L.nr [.bool m,.slice a2 k.length c2] wT rfl rfl (fun b3 Tb3 gb3 kb3 rb3=>?_)
 refine L.nr [.bool false,.slice none 0 0] wT rfl rfl (fun b4 Tb4 gb4 kb4 rb4=>?_)
 have kM:=(kb2.trans kb3).trans kb4
 have g4:S.length≤b4:=Nat.le_trans (kb2.trans kb3).len gb4
 replace rb2:=Cons.row (h:=kb3.trans kb4) rb2
 replace rb3:=Cons.row (h:=kb4) rb3
 replace h1:=h1.cons kM
 replace h2:=h2.cons kM
 have hc:=Cons.refl Tb4
 clear kb2 kb3 kb4 gb2 gb3 gb4
 refine go ?_
 unfold zzP
 refine L.z2 (Cons.row (h:=hc) rb2) rfl rfl rfl ?_
 refine L.cv (rzFits_C ⟨n,a1,c1,l,rfl,h1.cons hc,hl,rfl⟩ (by omega)) rfl rfl fun T' k'=>?_
 replace hc:=hc.trans k'
 refine go ?_
 cases hfx:zfz (zv n l)
 ·rw[show (false && zfz (zv m k))=false from rfl,if_neg Bool.false_ne_true]
  refine go ?_
  refine W.condT rfl (go ?_)
  refine L.b0 rfl ?_
  refine L.st2 (Cons.row (h:=hc) rb4) rfl rfl rfl rfl rfl rfl (fun T2 kk r2=>go ?_)
  exact⟨.inr rfl,_,res2 rfl (load2 r2 rfl),_,rfl,kk.mono (kM.trans hc) g4,ZIs.z0 (by decide)⟩
 refine L.z2 (Cons.row (h:=hc) rb3) rfl rfl rfl ?_
 refine L.cv (rzFits_C ⟨m,a2,c2,k,rfl,h2.cons hc,hk,rfl⟩ (by omega)) rfl rfl fun T' k'=>?_
 replace hc:=hc.trans k'
 refine go ?_
 cases hfy:zfz (zv m k)
 ·rw[show (true && false)=false from rfl,if_neg Bool.false_ne_true]
  refine W.condT rfl (go ?_)
  refine L.b0 rfl ?_
  refine L.st2 (Cons.row (h:=hc) rb4) rfl rfl rfl rfl rfl rfl (fun T2 kk r2=>go ?_)
  exact⟨.inr rfl,_,res2 rfl (load2 r2 rfl),_,rfl,kk.mono (kM.trans hc) g4,ZIs.z0 (by decide)⟩
 refine W.condF rfl ?_
 rw[show (true && true)=true from rfl,if_pos rfl]
 refine go ?_
 refine L.z2 (Cons.row (h:=hc) rb2) rfl rfl rfl ?_
 refine L.cl (rzForm_C ⟨n,a1,c1,l,rfl,h1.cons hc,hl,rfl⟩ (by omega)) rfl rfl ?_
 rintro _ T' ⟨⟨a6,c6,rfl,w6⟩,k'⟩
 refine⟨fun _=>k',?_⟩
 replace hc:=hc.trans k'
 refine L.z2 (Cons.row (h:=hc) rb3) rfl rfl rfl ?_
 refine L.cl (rzForm_C ⟨m,a2,c2,k,rfl,h2.cons hc,hk,rfl⟩ (by omega)) rfl rfl ?_
 rintro _ T' ⟨⟨a7,c7,rfl,w7⟩,k'⟩
 refine⟨fun _=>k',?_⟩
 replace hc:=hc.trans k'
 replace w6:=w6.cons k'
 generalize hX:zv n l=x at *
 generalize hY:zv m k=y at *
 refine L.nr [.bool false,.slice none 0 0] wT rfl rfl (fun b6 T1' g1' k1' r1'=>?_)
 refine L.nr [.bool false,.slice none 0 0] wT rfl rfl (fun b7 T2' g2' k2' r2'=>?_)
 have n12:b7≠b6:=by have:=row_lt r1';omega
 replace r1':=Cons.row (h:=k2') r1'
 refine L.st2 r1' rfl rfl rfl rfl rfl rfl (fun T3' kk1 s1'=>?_)
 refine L.st2 (kk1.row r2' n12) rfl rfl rfl rfl rfl rfl (fun T4' kk2 r7=>?_)
 have r6:=kk2.row s1' (Ne.symm n12)
 have kx:=kk2.mono (kk1.mono (k1'.trans k2') g1') (Nat.le_trans k1'.len g2')
 replace hc:=hc.trans kx
 replace w6:=w6.cons kx
 replace w7:=w7.cons kx
 replace rb4:=Cons.row (h:=hc) rb4
 have kM:=kM.trans hc
 clear kx kk1 kk2 s1' r1' r2' k1' k2' g1' g2' n12 rb2 rb3 h1 h2 hc
 have hc:=Cons.refl T4'
 refine go ?_
 refine L.zf (Cons.row (h:=hc) r7) rfl rfl rfl rfl rfl (go ?_)
 by_cases hy0:y<0
 ·rw[show decide (y<0)=true from decide_eq_true hy0,if_pos hy0]
  refine W.condT rfl (go ?_)
  refine L.b0 rfl ?_
  refine L.st2 (Cons.row (h:=hc) rb4) rfl rfl rfl rfl rfl rfl (fun T2 kk r2=>go ?_)
  exact⟨.inr rfl,_,res2 rfl (load2 r2 rfl),_,rfl,kk.mono (kM.trans hc) g4,ZIs.z0 (by decide)⟩
 rw[show decide (y<0)=false from decide_eq_false hy0,if_neg hy0]
 obtain⟨K,hK⟩:∃ K,K=y.natAbs:=⟨_,rfl⟩
 have hyK:y.toNat=K:=by omega
 rw[hyK]
 rw[← hK] at w7 r7
 refine W.condF rfl (go ?_)
 refine L.zf (Cons.row (h:=hc) r7) rfl rfl rfl rfl rfl (go ?_)
 have hpk:=@toW_pos_len K
 by_cases hK0:K=0
 ·subst hK0
  rw[show (((toW 0).length:Int)==0)=true by rw[toW_zero];rfl,Int.pow_zero]
  refine W.condT rfl (go ?_)
  refine L.cl (rzInt_C 1 _ (by decide)) rfl rfl ?_
  rintro _ T' ⟨⟨a9,c9,rfl,w9⟩,k'⟩
  refine⟨fun _=>k',?_⟩
  replace hc:=hc.trans k'
  rw[show zE 1=0 from zok_E (zok_small (by decide))]
  refine L.st2 (Cons.row (h:=hc) rb4) rfl rfl rfl rfl rfl rfl (fun T2 kk r2=>go ?_)
  exact⟨.inr rfl,_,res2 rfl (load2 r2 rfl),_,rfl,kk.mono (kM.trans hc) g4,⟨a9,c9,rfl,w9.kn kk (Cons.row (h:=hc) rb4) noW⟩⟩
 rw[show (((toW K).length:Int)==0)=false from decide_eq_false (by omega)]
 refine W.condF rfl (go ?_)
 refine L.zf (Cons.row (h:=hc) r6) rfl rfl rfl rfl rfl (go ?_)
 have hpx:=@toW_pos_len x.natAbs
 by_cases hx0:x=0
 ·subst hx0
  rw[show (((toW (0:Int).natAbs).length:Int)==0)=true by rw[show (0:Int).natAbs=0 from rfl,toW_zero];rfl]
  rw[show (0:Int)^K=0 from Int.zero_pow hK0,show zE 0=0 from zok_E (zok_small (by decide))]
  refine W.condT rfl (go ?_)
  refine L.z2 (Cons.row (h:=hc) r6) rfl rfl rfl ?_
  have w9:=w6.cons hc
  refine L.st2 (Cons.row (h:=hc) rb4) rfl rfl rfl rfl rfl rfl (fun T2 kk r2=>go ?_)
  exact⟨.inr rfl,_,res2 rfl (load2 r2 rfl),_,rfl,kk.mono (kM.trans hc) g4,⟨a6,c6,rfl,w9.kn kk (Cons.row (h:=hc) rb4) noW⟩⟩
 rw[show (((toW x.natAbs).length:Int)==0)=false from decide_eq_false (by omega)]
 refine W.condF rfl (go ?_)
 refine L.zf (Cons.row (h:=hc) r6) rfl rfl rfl rfl rfl ?_
 have hl6:(toW x.natAbs).length≤64:=(toW_len _ _).2 (zfz_lt hfx)
 have hl7:(toW K).length≤64:=(toW_len _ _).2 (by rw[hK];exact zfz_lt hfy)
 refine L.cv (length_C a6 c6 (toW x.natAbs) _ (w6.cons hc) (by omega)) rfl rfl fun T' k'=>?_
 replace hc:=hc.trans k'
 refine go ?_
 rw[wnum_toW]
 by_cases hx1:x.natAbs=1
 ·rw[show (((blen x.natAbs:Nat):Int)==1)=true by rw[hx1];rfl]
  refine W.condT rfl ?_
  have hx2:x=if decide (x<0) then -1 else 1:=by
   by_cases h:x<0
   ·rw[decide_eq_true h,if_pos rfl];omega
   ·rw[decide_eq_false h];simp only [Bool.false_eq_true,if_false];omega
  have hpw:x^K=if decide (x<0) && decide (K % 2=1) then -1 else 1:=by rw[← one_zpow,← hx2]
  have hE1:zE (x^K)=0:=by rw[hpw];exact zok_E (zok_small (by split<;>decide))
  have hab:(x^K).natAbs=x.natAbs:=by rw[hpw,hx1];split<;>rfl
  have hsg:decide (x^K<0)=(decide (x<0) && decide (K % 2=1)):=by
   rw[hpw]
   cases decide (x<0) && decide (K % 2=1)<;>rfl
  rw[hE1]
  refine go ?_
  refine L.zf (Cons.row (h:=hc) r6) rfl rfl rfl rfl rfl (go ?_)
  have w9:=w6.cons hc
  by_cases hneg:x<0
  ·rw[show decide (x<0)=true from decide_eq_true hneg]
   refine go ?_
   refine L.zf (Cons.row (h:=hc) r7) rfl rfl rfl rfl rfl ?_
   have hk1:(toW K)[0]?=some (BitVec.ofNat 64 K):=by rw[toW_pos hK0];rfl
   refine L.el (w7.cons hc).1 (k:=0) rfl (wv_get hk1) rfl rfl rfl rfl (fun _=>rfl) rfl (fun p=>go ?_)
   have hmod:(Int.tmod ((BitVec.ofNat 64 K).toNat:Int) 2==1)=decide (K % 2=1):=by
    have e:(BitVec.ofNat 64 K).toNat=K % 18446744073709551616:=BitVec.toNat_ofNat ..
    rw[e]
    have:Int.tmod ((K % 18446744073709551616:Nat):Int) 2=((K % 2:Nat):Int):=by
     rw[show (2:Int)=((2:Nat):Int) from rfl,← Int.ofNat_tmod]
     congr 1
     omega
    rw[this]
    exact decide_eq_decide.2 (by omega)
   rw[hmod]
   refine L.zf (Cons.row (h:=hc) r6) rfl rfl rfl rfl rfl ?_
   refine L.b2 rfl rfl rfl ?_
   rw[decide_eq_true hneg,Bool.true_and] at hsg
   rw[← hsg]
   refine L.st2 (Cons.row (h:=hc) rb4) rfl rfl rfl rfl rfl rfl (fun T2 kk r2=>go ?_)
   exact⟨.inr rfl,_,res2 rfl (load2 r2 rfl),_,rfl,kk.mono (kM.trans hc) g4,⟨a6,c6,by rw[if_pos rfl,hab],by rw[if_pos rfl,hab];exact w9.kn kk (Cons.row (h:=hc) rb4) noW⟩⟩
  ·rw[show decide (x<0)=false from decide_eq_false hneg]
   refine go ?_
   refine L.zf (Cons.row (h:=hc) r6) rfl rfl rfl rfl rfl ?_
   refine L.b2 rfl rfl rfl ?_
   rw[decide_eq_false hneg,Bool.false_and] at hsg
   rw[← hsg]
   refine L.st2 (Cons.row (h:=hc) rb4) rfl rfl rfl rfl rfl rfl (fun T2 kk r2=>go ?_)
   exact⟨.inr rfl,_,res2 rfl (load2 r2 rfl),_,rfl,kk.mono (kM.trans hc) g4,⟨a6,c6,by rw[if_pos rfl,hab],by rw[if_pos rfl,hab];exact w9.kn kk (Cons.row (h:=hc) rb4) noW⟩⟩
 have hbl:((blen x.natAbs:Nat):Int)≠1:=by
  have h1:=@blen_le x.natAbs 1
  omega
 rw[show (((blen x.natAbs:Nat):Int)==1)=false from decide_eq_false hbl]
 refine W.condF rfl ?_
 have hx2:2≤x.natAbs:=by omega
 refine go ?_
 refine L.zf (Cons.row (h:=hc) r7) rfl rfl rfl rfl rfl (go ?_)
 by_cases hsm:K<18446744073709551616
 rotate_left
 ·have hl2:=toW_big hsm
  rw[show decide (((toW K).length:Int) > 1)=true from decide_eq_true (by omega)]
  refine go ?_
  refine W.condT rfl (go ?_)
  rw[zE_big hx2 (by omega)]
  refine L.b0 rfl ?_
  refine L.st2 (Cons.row (h:=hc) rb4) rfl rfl rfl rfl rfl rfl (fun T2 kk r2=>go ?_)
  exact⟨.inr rfl,_,res2 rfl (load2 r2 rfl),_,rfl,kk.mono (kM.trans hc) g4,ZIs.z0 (by decide)⟩
 have h1w:=toW_one hK0 hsm
 have hlen:(toW K).length=1:=by rw[h1w];rfl
 have hk1:(toW K)[0]?=some (BitVec.ofNat 64 K):=by rw[h1w];rfl
 have hkn:(BitVec.ofNat 64 K).toNat=K:=by rw[BitVec.toNat_ofNat];exact Nat.mod_eq_of_lt hsm
 have hkv:v64 (BitVec.ofNat 64 K)=.int .u64 (K:Int):=congrArg (fun n:Nat=>Value.int .u64 (n:Int)) hkn
 rw[show decide (((toW K).length:Int) > 1)=false from decide_eq_false (by omega)]
 refine go ?_
 refine L.zf (Cons.row (h:=hc) r7) rfl rfl rfl rfl rfl ?_
 refine L.el (w7.cons hc).1 (k:=0) rfl (wv_get hk1) rfl rfl rfl rfl (fun _=>rfl) rfl (fun p=>?_)
 rw[hkv]
 refine go ?_
 refine W.ite rfl (fun h=>?_) (fun h=>?_)
 ·have:=of_decide_eq_true h
  clear h
  refine go ?_
  rw[zE_big hx2 (by omega)]
  refine L.b0 rfl ?_
  refine L.st2 (Cons.row (h:=hc) rb4) rfl rfl rfl rfl rfl rfl (fun T2 kk r2=>go ?_)
  exact⟨.inr rfl,_,res2 rfl (load2 r2 rfl),_,rfl,kk.mono (kM.trans hc) g4,ZIs.z0 (by decide)⟩
 have hK4:K≤4096:=by have:=of_decide_eq_false h;omega
 clear h
 refine go ?_
 refine L.cl (rzInt_C 1 _ (by decide)) rfl rfl ?_
 rintro _ T' ⟨⟨a9,c9,rfl,w9⟩,k'⟩
 refine⟨fun _=>k',?_⟩
 replace hc:=hc.trans k'
 refine L.nr [.bool false,.slice none 0 0] wT rfl rfl (fun b8 T5 g5 k5 r5=>?_)
 have hM8:T4'.length≤b8:=Nat.le_trans hc.len g5
 refine L.st2 r5 rfl rfl rfl rfl rfl rfl (fun T6 kk6 r8=>?_)
 have k9:=kk6.mono k5 g5
 replace w9:=w9.cons k9
 replace hc:=hc.trans k9
 clear kk6 k5 g5 r5 k' k9
 refine go ?_
 refine W.mono (R:=fun q e T=>(q=.exit 0∧Cons T4' T∧e 4=.pointer (some ⟨b4,0,none⟩)∧e 8=.pointer (some ⟨b8,0,none⟩)∧ZCell T b8 (x^K)∧zE (x^K)=0)∨(q=.ret∧zE (x^K)=3∧∃ T0,Cons T4' T0∧Keep b4 T0 T∧T.row? b4=some (newR [.bool false,.slice none 0 0] wT)∧e 4=.pointer (some ⟨b4,0,none⟩)∧e 5=.int .i64 3)) ?_ ?_
 ·refine W.loop (fun j e T=>∃ s:Nat,j=K - s∧s≤K∧Cons T4' T∧e 4=.pointer (some ⟨b4,0,none⟩)∧e 6=.pointer (some ⟨b6,0,none⟩)∧e 7=.pointer (some ⟨b7,0,none⟩)∧e 8=.pointer (some ⟨b8,0,none⟩)∧e 9=.int .u64 (s:Int)∧ZCell T b8 (x^s)∧zE (x^s)=0) K
   ⟨0,rfl,Nat.zero_le _,hc,rfl,rfl,rfl,rfl,rfl,by rw[Int.pow_zero];exact⟨a9,c9,r8,w9⟩,by rw[Int.pow_zero];exact zok_E (zok_small (by decide))⟩ ?_
  clear hc w9 r8
  rintro q e T ⟨s,rfl,hs,hc,e4,e6,e7,e8,e9,hz8,hE⟩
  refine W.env5 e4 e6 e7 e8 e9 ?_
  clear e4 e6 e7 e8 e9
  refine go ?_
  refine L.zf (Cons.row (h:=hc) r7) rfl rfl rfl rfl rfl ?_
  refine L.el (w7.cons hc).1 (k:=0) rfl (wv_get hk1) rfl rfl rfl rfl (fun _=>rfl) rfl (fun p=>?_)
  rw[hkv]
  refine go ?_
  refine W.ite rfl (fun h=>?_) (fun h=>?_)
  ·have hsK:s<K:=by have:=of_decide_eq_true h;omega
   clear h
   refine go ?_
   obtain⟨a8,c8,r8,w8⟩:=hz8
   have b8l:=row_lt r8
   refine L.z2 r8 rfl rfl rfl ?_
   refine L.z2 (Cons.row (h:=hc) r6) rfl rfl rfl ?_
   have hb8:(x^s).natAbs<2^(64*64):=by
    unfold zE at hE
    split at hE
    ·assumption
    ·cases hE
   have h8:ZIs T (.agg #[.bool (decide (x^s<0)),.slice a8 (toW (x^s).natAbs).length c8]) (x^s):=⟨a8,c8,rfl,w8⟩
   have h6:ZIs T (.agg #[.bool (decide (x<0)),.slice a6 (toW x.natAbs).length c6]) x:=⟨a6,c6,rfl,w6.cons hc⟩
   refine L.cl (rzTimes_C (h8.inn hb8) (h6.inn (zfz_lt hfx)) (by omega) (by omega)) rfl rfl ?_
   rintro _ T' ⟨⟨a9,c9,rfl,w9⟩,k'⟩
   refine⟨fun _=>k',?_⟩
   have hbm:=zmul_lt hb8 (zfz_lt hfx)
   rw[← Int.pow_succ] at w9 hbm ⊢
   have rr:=Cons.row (h:=k') r8
   refine L.st2 rr rfl rfl rfl rfl rfl rfl (fun T6 kk6 r6'=>?_)
   replace hc:=kk6.mono (hc.trans k') hM8
   replace w9:=w9.kn kk6 rr noW
   clear kk6 rr k' r8 w8 h8 h6
   refine go ?_
   refine L.ldA (a:=⟨b8,0,none⟩) (n:=2) (l:=[.bool (decide (x^(s+1)<0)),.slice a9 (toW (x^(s+1)).natAbs).length c9]) (cellsAt_of (o:=0) (n:=2) r6' (Nat.le_refl 2)) rfl rfl rfl ?_
   have h9:ZIs T6 (.agg #[.bool (decide (x^(s+1)<0)),.slice a9 (toW (x^(s+1)).natAbs).length c9]) (x^(s+1)):=⟨a9,c9,rfl,w9⟩
   have hz9:ZCell T6 b8 (x^(s+1)):=⟨a9,c9,r6',w9⟩
   refine L.cv (rzFits_C (h9.inn hbm) (by omega)) rfl rfl fun T' k'=>?_
   replace hc:=hc.trans k'
   replace hz9:=hz9.cons k'
   refine go ?_
   cases hf9:zfz (x^(s+1))
   ·have hfin:zE (x^K)=3:=zE_up (i:=s+1) (by omega) (by omega) (by rw[zfz_E,hf9];rfl)
    refine W.condT rfl (go ?_)
    refine L.b0 rfl ?_
    refine L.st2 (Cons.row (h:=hc) rb4) rfl rfl rfl rfl rfl rfl (fun T2 kk r2=>go ?_)
    exact .inr ⟨rfl,hfin,_,hc,kk,r2,rfl,rfl⟩
   ·refine go ?_
    refine W.condF rfl (go ?_)
    refine⟨K - (s+1),by omega,s+1,rfl,by omega,hc,rfl,rfl,rfl,rfl,?_,hz9,by rw[zfz_E,hf9];rfl⟩
    exact congrArg (Value.int .u64) (wrapU64 (by omega) (by omega))
  ·have hsK:s=K:=by have:=of_decide_eq_false h;omega
   subst hsK
   clear h
   refine go ?_
   exact .inl ⟨rfl,hc,rfl,rfl,hz8,hE⟩
 clear hc w9 r8
 rintro q e T (⟨rfl,hc,e4,e8,⟨a9,c9,r9,w9⟩,hE⟩ | ⟨rfl,hE,T0,hc,kk,r2,e4,e5⟩)
 ·refine W.env2 e4 e8 ?_
  clear e4 e8
  rw[hE]
  refine go ?_
  refine L.z2 r9 rfl rfl rfl ?_
  refine L.st2 (Cons.row (h:=hc) rb4) rfl rfl rfl rfl rfl rfl (fun T2 kk r2=>go ?_)
  exact⟨.inr rfl,_,res2 rfl (load2 r2 rfl),_,rfl,kk.mono (kM.trans hc) g4,⟨a9,c9,rfl,w9.kn kk (Cons.row (h:=hc) rb4) noW⟩⟩
 ·rw[hE]
  refine⟨.inr rfl,_,res2 rfl (by rw[e4];exact load2 r2 rfl),_,by rw[e5],kk.mono (kM.trans hc) g4,ZIs.z0 (by decide)⟩
end
section
open Go
def PK (M0 T:Mem) (ds:List Hd):Prop:=Cons M0 T∧Alive T 57 ds∧Own ds∧∀ b∈blks ds,M0.length≤b
theorem PK.nil (M0:Mem):PK M0 M0 []:=⟨Cons.refl _,.nil _ _,.nil,fun b hb=>by simp [blks] at hb⟩
theorem PK.cons {M0 T T':Mem} {ds:List Hd} (h:PK M0 T ds) (k:Cons T T'):PK M0 T' ds:=by
 obtain⟨hc,hA,hO,hD⟩:=h
 exact⟨hc.trans k,hA.keep (k.keepL []) (by simp),hO,hD⟩
theorem PK.add {M0 T T':Mem} {ds:List Hd} {d:Hd} {l:WL} (h:PK M0 T ds) (r:RetW T T' d l) (hl:l.length≤1000000000000):PK M0 T' (ds++[d]):=by
 have h':=h.cons r.1
 obtain⟨hc,hA,hO,hD⟩:=h
 obtain⟨_,hA',_,_⟩:=h'
 have hlt:∀ b∈blks ds,b<T.length:=fun b hb=>hA.lt hb
 have hn:d.n=l.length:=by have:=r.2.2.1.len;rw[wv_len] at this;omega
 refine⟨hc.trans r.1,?_,?_,?_⟩
 ·intro i x hi
  rw[List.getElem?_append] at hi
  split at hi
  ·exact hA' i x hi
  ·rw[List.getElem?_singleton] at hi
   split at hi
   ·cases hi
    exact⟨by omega,_,r.2.2.1⟩
   ·cases hi
 ·intro i j x y b hi hj ex ey
  rw[List.getElem?_append] at hi hj
  split at hi<;>split at hj
  ·exact hO i j x y b hi hj ex ey
  ·rw[List.getElem?_singleton] at hj
   split at hj
   ·cases hj
    have h1:=hlt b (blks_mem hi ex)
    have h2:=r.2.2.2 b ey
    omega
   ·cases hj
  ·rw[List.getElem?_singleton] at hi
   split at hi
   ·cases hi
    have h1:=hlt b (blks_mem hj ey)
    have h2:=r.2.2.2 b ex
    omega
   ·cases hi
  ·rw[List.getElem?_singleton] at hi hj
   split at hi
   ·split at hj
    ·omega
    ·cases hj
   ·cases hi
 ·intro b hb
  rcases mem_blks'.1 hb with hb | hb
  ·exact hD b hb
  ·exact Nat.le_trans hc.len (r.2.2.2 b hb)
end
section
open Go Ie
variable {Ext:FuncId→List Value→Mem→Outc→Mem→Prop}
def BkT (T0 T:Mem) (rb:Nat) (ws ds:List Hd):Prop:=Cons T0 T∧∃ ps,Book T rb ws [] ps∧(∀ r∈ps,T0.length≤r∧r<T.length)∧Alive T 57 (ws++ds)∧Own (ws++ds)∧∀ b∈blks (ws++ds),b<T0.length
theorem BkT.cons {T0 T T':Mem} {rb:Nat} {ws ds:List Hd} (h:BkT T0 T rb ws ds) (k:Cons T T'):BkT T0 T' rb ws ds:=by
 obtain⟨hc,ps,hB,hp,hA,hO,hD⟩:=h
 exact⟨hc.trans k,ps,hB.cons k,fun r hm=>⟨(hp r hm).1,Nat.lt_of_lt_of_le (hp r hm).2 k.len⟩,hA.keep (k.keepL []) (by simp),hO,hD⟩
theorem PK.bookT {M0 T:Mem} {ds:List Hd} (h:PK M0 T ds):BkT T (T++[newR [.slice none 0 0,.slice none 0 0] 33]) T.length [] ds:=by
 obtain⟨hc,hA,hO,hD⟩:=h
 have k:Cons T (T++[newR [.slice none 0 0,.slice none 0 0] 33]):=Cons.push _ _
 refine⟨k,[T.length],Book.new T,fun r hm=>?_,by rw[List.nil_append];exact hA.keep (k.keepL []) (by simp),by rw[List.nil_append];exact hO,fun b hb=>?_⟩
 ·simp at hm
  subst hm
  exact⟨Nat.le_refl _,by simp⟩
 ·rw[List.nil_append] at hb
  exact hA.lt hb
theorem words_BkT {T0 T:Mem} {rb:Nat} {ws ds:List Hd} {d:Hd} (hK:BkT T0 T rb ws (d :: ds)) (hn:ws.length<1000000):C Tryz.prog gN Ext 62 [.pointer (some ⟨rb,0,none⟩),d.v] T fun v T'=>BkT T0 T' rb (ws++[d]) ds:=by
 obtain⟨hc,ps,hB,hp,hA,hO,hD⟩:=hK
 obtain⟨v,S',h1,ps',q1,q2,q3⟩:=words_C (G:=gN) (Ext:=Ext) T d rb ws [] ps hB hn
 have e:(ws++[d])++ds=ws++d :: ds:=by simp
 refine⟨v,S',h1,q3.cons0 hc (fun r hm=>(hp r hm).1),_,q1.trim,fun r hm=>?_,?_,by rw[e];exact hO,?_⟩
 ·obtain⟨m1,m2⟩:=List.mem_filter.1 hm
  exact⟨(q2 r m1).elim (fun h=>(hp r h).1) (fun h=>Nat.le_trans hc.len h),of_decide_eq_true m2⟩
 ·rw[e]
  exact hA.keep q3 (fun b hb hm=>by have:=hD b hm;have:=(hp b hb).1;omega)
 ·rw[e]
  exact hD
theorem apart_BkT {M0 T0 T:Mem} {rb:Nat} {ws:List Hd} (hK:BkT T0 T rb ws []) (hM:Cons M0 T0) (hL:∀ b∈blks ws,M0.length≤b) (hn:ws.length<1000000):C Tryz.prog gN Ext 16 [.pointer (some ⟨rb,0,none⟩)] T fun v T'=>v=.bool true∧Cons M0 T':=by
 obtain⟨hc,ps,hB,hp,hA,hO,hD⟩:=hK
 rw[List.append_nil] at hA hO hD
 obtain⟨v,S',h1,h2,h3⟩:=apart_C (G:=gN) (Ext:=Ext) T rb ws [] ps hB ⟨hn,by decide⟩ hA (.nil _ _) hO .nil (fun b hb hm=>by have:=hD b hb;have:=(hp b hm).1;omega) (by simp [blks]) (by simp [blks])
 refine⟨v,S',h1,h2,h3.cons0 (hM.trans hc) (fun b hm=>?_)⟩
 rw[blks_nil,List.append_nil] at hm
 exact hL b hm
end
section
open Go Ie
variable {Ext:FuncId→List Value→Mem→Outc→Mem→Prop}
theorem lent_win {S:Mem} {b:Nat} {l:WL} (h:S.row? b=some (grownR (wv (l++marksW 16)) 57 1)) (hl:l.length<4294967296):WIn S (some ⟨b,0,none⟩) (UNK+(l.length+16)) l:=by
 refine⟨?_,by rw[knownCap_unk];omega,nofun,by omega⟩
 have:=Slv.of (sz:=1) (n:=l.length) (o:=0) (c:=UNK+(l.length+16)) h (by simp [grownR,wv]) (.inl rfl)
 rwa [List.drop_zero,show ((grownR (wv (l++marksW 16)) 57 1).cells.take (l.length*1))=wv l by simp [grownR,wv]] at this
end
section
open Go Ie
variable {Ext:FuncId→List Value→Mem→Outc→Mem→Prop} {S:Mem} {u v:Value} {x y:Int} {i j:Nat}
def zcE (E z:Int):Int:=if E=0 then z else 0
theorem ZAns.both {S':Mem} {w:Value} {E z:Int} (h:ZAns S S' w E z):∃ d:Hd,w=.tuple #[.agg #[.bool (decide (zcE E z<0)),.slice d.ad (toW (zcE E z).natAbs).length d.c],.int .i64 E]∧RetW S S' d (toW (zcE E z).natAbs):=by
 obtain⟨d,rfl,r⟩:=h
 unfold zcE
 by_cases hE:E=0
 ·subst hE
  rw[if_pos rfl]
  have e:zL 0 z=toW z.natAbs:=if_pos rfl
  rw[e] at r
  refine⟨d,?_,r⟩
  rw[r.val]
  rfl
 ·rw[if_neg hE]
  have e:zL E z=[]:=if_neg hE
  have e2:zN E z=false:=if_neg hE
  have e3:toW (0:Int).natAbs=[]:=toW_zero
  rw[e] at r
  refine⟨d,?_,by rw[e3];exact r⟩
  rw[r.val,e2,e3]
  rfl
theorem zcE_len {z:Int} (h:zok z):(toW z.natAbs).length≤1000000000000:=Nat.le_trans ((toW_len _ 64).2 h) (by decide)
theorem zok_zero:zok 0:=zok_small (by decide)
theorem zcE_ok {E z:Int} (h:E=0→zok z):zok (zcE E z):=by
 unfold zcE
 split
 ·rename_i h0;exact h h0
 ·exact zok_zero
theorem zE_zok {z:Int} (h:zE z=0):zok z:=by
 unfold zE at h
 split at h
 ·assumption
 ·cases h
theorem zz2_ok {x y z:Int}:zok (zcE (zz2 x y z) z):=zcE_ok fun h=>by
 unfold zz2 at h
 split at h
 ·exact zE_zok h
 ·cases h
theorem zE_ok {z:Int}:zok (zcE (zE z) z):=zcE_ok fun h=>zE_zok h
theorem zzP_ok {x y:Int}:zok (zcE (zzP x y) (x^y.toNat)):=zcE_ok fun h=>by
 unfold zzP at h
 split at h
 ·split at h
  ·cases h
  ·exact zE_zok h
 ·cases h
theorem zzD_fit {x y:Int} (h:zzD x y=0):zok x:=by
 unfold zzD at h
 split at h
 ·rename_i h1
  rw[Bool.and_eq_true] at h1
  exact of_decide_eq_true (p:=x.natAbs<2^4096) h1.1
 ·cases h
theorem zzQ_ok {x y:Int}:zok (zcE (zzD x y) (x.tdiv y)):=zcE_ok fun h=>by
 have:=zzD_fit h
 unfold zok at *
 rw[Int.natAbs_tdiv]
 exact Nat.lt_of_le_of_lt (Nat.div_le_self _ _) this
theorem zzR_ok {x y:Int}:zok (zcE (zzD x y) (x.tmod y)):=zcE_ok fun h=>by
 have:=zzD_fit h
 unfold zok at *
 rw[Int.natAbs_tmod]
 exact Nat.lt_of_le_of_lt (Nat.mod_le _ _) this
theorem iAdd_C (hx:ZIn S u x i) (hy:ZIn S v y j):C Tryz.prog gN Ext 30 [u,v] S fun w S'=>ZAns S S' w (zz2 x y (x+y)) (x+y):=by
 obtain⟨n,a1,c1,l,rfl,h1,hl,rfl⟩:=hx
 obtain⟨m,a2,c2,k,rfl,h2,hk,rfl⟩:=hy
 rw[← zE2_zv]
 exact zAdd_C n m a1 a2 c1 c2 l k S h1 h2
theorem iSub_C (hx:ZIn S u x i) (hy:ZIn S v y j):C Tryz.prog gN Ext 31 [u,v] S fun w S'=>ZAns S S' w (zz2 x y (x - y)) (x - y):=by
 obtain⟨n,a1,c1,l,rfl,h1,hl,rfl⟩:=hx
 obtain⟨m,a2,c2,k,rfl,h2,hk,rfl⟩:=hy
 rw[← zE2_zv]
 exact zSub_C n m a1 a2 c1 c2 l k S h1 h2
theorem iMul_C (hx:ZIn S u x i) (hy:ZIn S v y j) (hS:SinOk S) (hG:gN≤S.length):C Tryz.prog gN Ext 24 [u,v] S fun w S'=>ZAns S S' w (zz2 x y (x*y)) (x*y):=by
 obtain⟨n,a1,c1,l,rfl,h1,hl,rfl⟩:=hx
 obtain⟨m,a2,c2,k,rfl,h2,hk,rfl⟩:=hy
 rw[← zE2_zv]
 exact zMul_C n m a1 a2 c1 c2 l k S h1 h2 hS hG
theorem iNeg_C (hx:ZIn S u x i):C Tryz.prog gN Ext 32 [u] S fun w S'=>ZAns S S' w (zE (-x)) (-x):=by
 obtain⟨n,a1,c1,l,rfl,h1,hl,rfl⟩:=hx
 exact zNeg_C n a1 c1 l S h1
theorem iQuo_C (hx:ZIn S u x i) (hy:ZIn S v y j):C Tryz.prog gN Ext 26 [u,v] S fun w S'=>ZAns S S' w (zzD x y) (x.tdiv y):=by
 obtain⟨n,a1,c1,l,rfl,h1,hl,rfl⟩:=hx
 obtain⟨m,a2,c2,k,rfl,h2,hk,rfl⟩:=hy
 rw[← zDE_zv]
 exact zQuo_C n m a1 a2 c1 c2 l k S h1 h2
theorem iRem_C (hx:ZIn S u x i) (hy:ZIn S v y j):C Tryz.prog gN Ext 27 [u,v] S fun w S'=>ZAns S S' w (zzD x y) (x.tmod y):=by
 obtain⟨n,a1,c1,l,rfl,h1,hl,rfl⟩:=hx
 obtain⟨m,a2,c2,k,rfl,h2,hk,rfl⟩:=hy
 rw[← zDE_zv]
 exact zRem_C n m a1 a2 c1 c2 l k S h1 h2
theorem iInt64_C (hx:ZIn S u x i):C Tryz.prog gN Ext 34 [u] S fun w S'=>w=.tuple #[.int .i64 (if i64ok x then x else 0),.bool (i64ok x)]∧Cons S S':=by
 obtain⟨n,a1,c1,l,rfl,h1,hl,rfl⟩:=hx
 exact zInt64_C n a1 c1 l S h1
theorem iCmp_C (hx:ZIn S u x i) (hy:ZIn S v y j):C Tryz.prog gN Ext 29 [u,v] S fun w S'=>w=.int .i64 (cmpI x y)∧Cons S S':=by
 obtain⟨n,a1,c1,l,rfl,h1,hl,rfl⟩:=hx
 obtain⟨m,a2,c2,k,rfl,h2,hk,rfl⟩:=hy
 exact zCmp_C n m a1 a2 c1 c2 l k S h1 h2
theorem iSign_C (hx:ZIn S u x i):C Tryz.prog gN Ext 28 [u] S fun w S'=>w=.int .i64 (cmpI x 0)∧Cons S S':=by
 obtain⟨n,a1,c1,l,rfl,h1,hl,rfl⟩:=hx
 exact zSign_C n a1 c1 l S h1
theorem iPow_C (hx:ZIn S u x i) (hy:ZIn S v y j) (hS:SinOk S) (hG:gN≤S.length):C Tryz.prog gN Ext 12 [u,v] S fun w S'=>ZAns S S' w (zzP x y) (x^y.toNat):=by
 obtain⟨n,a1,c1,l,rfl,h1,hl,rfl⟩:=hx
 obtain⟨m,a2,c2,k,rfl,h2,hk,rfl⟩:=hy
 rw[← zPE_zv]
 exact zPow_C n m a1 a2 c1 c2 l k S h1 h2 hS hG
theorem lentZ_C (n:Bool) (a:Option Addr) (c:Nat) (l:WL) (S:Mem) (h1:WIn S a c l) (hl:l.length<4294967296) :
  C Tryz.prog gN Ext 11 [.agg #[.bool n,.slice a l.length c]] S fun v S'=>Cons S S'∧∃ b,S.length≤b∧v=.agg #[.bool n,.slice (some ⟨b,0,none⟩) l.length (UNK+(l.length+16))]∧S'.row? b=some (grownR (wv (l++marksW 16)) 57 1):=by
 refine C.fn Tryz.func11 rfl (by kernel_rfl) rfl (go ?_)
 refine L.nr [.bool n,.slice a l.length c] wT rfl rfl (fun b2 Tb2 gb2 kb2 rb2=>?_)
 refine L.nr [.bool false,.slice none 0 0] wT rfl rfl (fun b4 Tb4 gb4 kb4 rb4=>?_)
 have kM:=kb2.trans kb4
 have g4:S.length≤b4:=Nat.le_trans kb2.len gb4
 replace rb2:=Cons.row (h:=kb4) rb2
 replace h1:=h1.cons kM
 have hc:=Cons.refl Tb4
 clear kb2 kb4 gb2 gb4
 refine go ?_
 refine L.zf (Cons.row (h:=hc) rb2) rfl rfl rfl rfl rfl (go ?_)
 refine L.zf (Cons.row (h:=hc) rb2) rfl rfl rfl rfl rfl (go ?_)
 refine L.cl (lentW_C _ l Tb4 h1.1 hl) rfl rfl ?_
 rintro _ S1 ⟨k1,x,hx,rfl,hr0⟩
 refine⟨fun _=>k1,?_⟩
 replace hc:=hc.trans k1
 refine go ?_
 refine L.b2 rfl rfl rfl (go ?_)
 refine L.st2 (Cons.row (h:=hc) rb4) rfl rfl rfl rfl rfl rfl (fun T2 kk r2=>go ?_)
 have h4:=row_lt rb4
 exact⟨.inr rfl,_,res1 rfl (load2 r2 rfl),kk.mono (kM.trans hc) g4,x,Nat.le_trans kM.len hx,rfl,kk.row hr0 (by omega)⟩
theorem keptZ_C (n:Bool) (a:Option Addr) (b c:Nat) (l:WL) (S:Mem) (hr:S.row? b=some (grownR (wv (l++marksW 16)) 57 1)) (h1:WIn S a c l) (hl:l.length<4294967296) :
  C Tryz.prog gN Ext 17 [.agg #[.bool n,.slice (some ⟨b,0,none⟩) l.length (UNK+(l.length+16))],.agg #[.bool n,.slice a l.length c]] S fun v S'=>v=.bool true∧Cons S S':=by
 refine C.fn Tryz.func17 rfl (by kernel_rfl) rfl (go ?_)
 refine L.nr [.bool n,.slice (some ⟨b,0,none⟩) l.length (UNK+(l.length+16))] wT rfl rfl (fun b2 Tb2 gb2 kb2 rb2=>?_)
 refine L.nr [.bool n,.slice a l.length c] wT rfl rfl (fun b3 Tb3 gb3 kb3 rb3=>?_)
 have kM:=kb2.trans kb3
 replace rb2:=Cons.row (h:=kb3) rb2
 replace h1:=h1.cons kM
 have hc:=Cons.refl Tb3
 clear kb2 kb3 gb2 gb3
 refine go ?_
 refine L.zf (Cons.row (h:=hc) rb2) rfl rfl rfl rfl rfl (go ?_)
 refine L.zf (Cons.row (h:=hc) rb3) rfl rfl rfl rfl rfl (go ?_)
 rw[show (n==n)=true from beq_self_eq_true n]
 refine go ?_
 refine L.zf (Cons.row (h:=hc) rb2) rfl rfl rfl rfl rfl (go ?_)
 refine L.zf (Cons.row (h:=hc) rb3) rfl rfl rfl rfl rfl (go ?_)
 refine L.cs (keptW_C _ l b _ _ (Cons.row (h:=kM) hr) rfl rfl h1.1 hl) rfl rfl (go ?_)
 exact⟨.inr rfl,_,rfl,rfl,kM⟩
theorem zsame_C (E:Int) (hx:ZIs S u x) (hy:ZIs S v x):C Tryz.prog gN Ext 14 [u,.int .i64 E,v,.int .i64 E] S fun w S'=>w=.bool true∧Cons S S':=by
 refine C.fn Tryz.func14 rfl (by kernel_rfl) rfl ?_
 have hZ:=Zs.nil S
 have hc:=Cons.refl S
 refine go ?_
 obtain⟨aa,cc,rfl,ww⟩:=hx
 refine L.nr [.bool _,.slice aa _ cc] wT rfl rfl (fun b2 T' k' g' r'=>?_)
 replace hZ:=(hZ.cons g').add ⟨aa,cc,r',ww.cons g'⟩
 replace hc:=hc.trans g'
 clear g' k' r' ww
 replace hy:=hy.cons hc
 obtain⟨aa,cc,rfl,ww⟩:=hy
 refine L.nr [.bool _,.slice aa _ cc] wT rfl rfl (fun b3 T' k' g' r'=>?_)
 replace hZ:=(hZ.cons g').add ⟨aa,cc,r',ww.cons g'⟩
 replace hc:=hc.trans g'
 clear g' k' r' ww
 refine go ?_
 rw[show (E==E)=true from beq_self_eq_true E]
 refine go ?_
 refine L.zl (hZ.at 0 rfl) rfl rfl rfl (fun u1 hu1=>go ?_)
 refine L.zl (hZ.at 1 rfl) rfl rfl rfl (fun u2 hu2=>go ?_)
 refine L.cv (nSame_C hu1 hu2) rfl rfl fun T' k'=>?_
 replace hZ:=hZ.cons k'
 replace hc:=hc.trans k'
 refine go ?_
 exact⟨.inr rfl,_,rfl,congrArg Value.bool (decide_eq_true rfl),hc⟩
theorem zBook_C {T0 T:Mem} {rb:Nat} {ws ds:List Hd} {d:Hd} (b:Bool) (n:Nat) (hv:d.v=.slice d.ad n d.c) (hK:BkT T0 T rb ws (d :: ds)) (hn:ws.length<1000000) :
  C Tryz.prog gN Ext 15 [.pointer (some ⟨rb,0,none⟩),.agg #[.bool b,.slice d.ad n d.c]] T fun v T'=>BkT T0 T' rb (ws++[d]) ds:=by
 refine C.fn Tryz.func15 rfl (by kernel_rfl) rfl (go ?_)
 refine L.nr [.bool b,.slice d.ad n d.c] wT rfl rfl (fun b2 Tb2 gb2 kb2 rb2=>?_)
 have hc:=Cons.refl Tb2
 refine go ?_
 refine L.zf (Cons.row (h:=hc) rb2) rfl rfl rfl rfl rfl (go ?_)
 rw[← hv]
 refine L.cl (words_BkT (hK.cons kb2) hn) rfl rfl ?_
 rintro _ T' hB'
 refine⟨nofun,go ?_⟩
 exact⟨.inl rfl,_,rfl,hB'⟩
def QCell (T:Mem) (b:Nat) (d:Hd) (z:Int):Prop:=T.row? b=some (newR [.bool (decide (z<0)),.slice d.ad (toW z.natAbs).length d.c] wT)∧WIn T d.ad d.c (toW z.natAbs)
def Qs (T:Mem) (L:List (Nat × Hd × Int)):Prop:=∀ p∈L,QCell T p.1 p.2.1 p.2.2
theorem Qs.nil (T:Mem):Qs T []:=fun p hp=>by simp at hp
theorem Qs.cons {T T':Mem} {L:List (Nat × Hd × Int)} (h:Qs T L) (k:Cons T T'):Qs T' L:=fun p hp=>⟨Cons.row (h:=k) (h p hp).1,(h p hp).2.cons k⟩
theorem Qs.add {T:Mem} {L:List (Nat × Hd × Int)} {b:Nat} {d:Hd} {z:Int} (h:Qs T L) (w:QCell T b d z):Qs T (L++[(b,d,z)]):=fun p hp=>by
 rcases List.mem_append.1 hp with hp | hp
 ·exact h p hp
 ·obtain rfl:p=(b,d,z):=by simpa using hp
  exact w
theorem Qs.at {T:Mem} {L:List (Nat × Hd × Int)} {b:Nat} {d:Hd} {z:Int} (h:Qs T L) (i:Nat) (e:L[i]?=some (b,d,z)):QCell T b d z:=h _ (List.mem_of_getElem? e)
theorem QCell.zis {T:Mem} {b:Nat} {d:Hd} {z:Int} (h:QCell T b d z):ZIs T (.agg #[.bool (decide (z<0)),.slice d.ad (toW z.natAbs).length d.c]) z:=⟨_,_,rfl,h.2⟩
section
variable {P:Program} {G:Nat} {e:Env} {fl:Bool} {ops:Array Oper} {K:Kont}
variable {rest:List Oper} {dst:Option Tmp} {ty:TypeId} {pos:String} {af:Array Edge} {gd:Option (Nat × Bool)}
theorem L.ql {t:TypeId} {x:Operand} {b:Nat} {d:Hd} {z:Int} (hc:QCell S b d z) (hw:awanted ops ⟨dst,.load t x,ty,pos,af,gd⟩ e=true) (hx:e.eval x=.pointer (some ⟨b,0,none⟩)) (hl:aggSize P t=some 2)
  (h:L P G Ext fl ops rest (e.put dst (.agg #[.bool (decide (z<0)),.slice d.ad (toW z.natAbs).length d.c])) S K):L P G Ext fl ops (⟨dst,.load t x,ty,pos,af,gd⟩ :: rest) e S K:=
 L.ldA (a:=⟨b,0,none⟩) (n:=2) (cellsAt_of (o:=0) (n:=2) hc.1 (Nat.le_refl 2)) hw hx hl h
end
end
section
open Go
variable {G:Nat} {Ext:FuncId→List Value→Mem→Outc→Mem→Prop}
theorem v8_beq (x y:BitVec 8):((x.toNat:Int)==(y.toNat:Int))=(x==y):=by
 have:((x.toNat:Int)=(y.toNat:Int))↔x=y:=by rw[Int.ofNat_inj];exact BitVec.toNat_inj
 rw[Bool.eq_iff_iff];simp [this]
theorem trimLB_C (l:BL) (b:BitVec 8) (S:Mem) (hl:l.length<1000000000):C Tryz.prog G Ext 143 [.string (strB l),v8 b] S fun v S'=>v=.string (strB (l.dropWhile (·==b)))∧S'=S:=by
 refine C.fn Tryz.func143 rfl (by kernel_rfl) rfl (go ?_)
 refine W.loop (fun j e T=>∃ m:BL,j=m.length∧m.length<1000000000∧T=S∧e 0=.string (strB m)∧e 1=v8 b∧l.dropWhile (·==b)=m.dropWhile (·==b)) l.length ⟨l,rfl,hl,rfl,rfl,rfl,rfl⟩ ?_
 rintro j e T ⟨m,rfl,hm,rfl,e0,e1,hd⟩
 refine W.env2 e0 e1 (go ?_)
 refine L.tlen rfl rfl rfl rfl ?_
 cases m with
 | nil=>
  refine go ?_
  refine W.condF rfl ?_
  rw[hd]
  refine go ?_
  exact⟨.inr rfl,_,rfl,rfl,rfl⟩
 | cons x m=>
  have hp:decide (((x :: m).length:Int) > 0)=true:=decide_eq_true (by simp)
  refine go ?_
  rw[hp]
  refine go ?_
  refine W.ite rfl (fun h=>?_) (fun h=>?_)
  ·have hx:(((UInt8.ofNat x.toNat).toNat:Int)==(b.toNat:Int))=true:=h
   rw[byte_back,v8_beq] at hx
   clear h
   have hd2:(x :: m).dropWhile (·==b)=m.dropWhile (·==b):=List.dropWhile_cons_of_pos hx
   refine go ?_
   refine L.from (l:=x :: m) (i:=1) rfl rfl (by simp) rfl rfl (go ?_)
   exact⟨m.length,by simp,m,rfl,by simp at hm;omega,rfl,rfl,rfl,hd.trans hd2⟩
  ·have hx:(((UInt8.ofNat x.toNat).toNat:Int)==(b.toNat:Int))=false:=h
   rw[byte_back,v8_beq] at hx
   clear h
   have hd2:(x :: m).dropWhile (·==b)=x :: m:=List.dropWhile_cons_of_neg (by rw[hx];decide)
   rw[hd,hd2]
   refine go ?_
   exact⟨.inr rfl,_,rfl,rfl,rfl⟩
theorem trimL0_C (l:BL) (S:Mem) (hl:l.length<1000000000):C Tryz.prog G Ext 121 [.string (strB l),.string ⟨#[48]⟩] S fun v S'=>v=.string (strB (l.dropWhile (·==48#8)))∧S'=S:=by
 refine C.fn Tryz.func121 rfl (by kernel_rfl) rfl ?_
 have he:((strB l).toList==(ByteArray.mk #[]).toList)=decide (l=[]):=by
  rw[show ByteArray.mk #[]=strB [] from rfl,strB_same]
 refine go ?_
 rw[he]
 by_cases h0:l=[]
 ·rw[decide_eq_true h0]
  subst h0
  refine go ?_
  refine W.ite rfl (fun h=>?_) (fun h=>?_)
  ·refine go ?_
   exact⟨.inr rfl,_,rfl,rfl,rfl⟩
  ·cases h
 rw[decide_eq_false h0]
 refine go ?_
 rw[show ((ByteArray.mk #[48]).toList==(ByteArray.mk #[]).toList)=false by decide +kernel]
 refine W.condF rfl (go ?_)
 refine L.tlen (a:=[48#8]) rfl rfl rfl rfl (go ?_)
 refine W.condT rfl (go ?_)
 refine L.cl (trimLB_C l 48#8 S hl) rfl rfl ?_
 rintro _ _ ⟨rfl,rfl⟩
 refine⟨fun _=>Cons.refl _,go ?_⟩
 exact⟨.inr rfl,_,rfl,rfl,rfl⟩
end
section
open Go
variable {G:Nat} {Ext:FuncId→List Value→Mem→Outc→Mem→Prop}
def isDig (x:BitVec 8):Prop:=48≤x.toNat∧x.toNat≤57
def decN (n:Nat) (l:BL):Nat:=l.foldl (fun n x=>n*10+(x.toNat - 48)) n
theorem decN_snoc (n:Nat) (l:BL) (x:BitVec 8):decN n (l++[x])=decN n l*10+(x.toNat - 48):=by simp [decN]
theorem decN_app (n:Nat) (l m:BL):decN n (l++m)=decN (decN n l) m:=by simp [decN]
theorem decN_pow (n:Nat) (l:BL):decN n l=n*10^l.length+decN 0 l:=by
 induction l generalizing n with
 | nil=>simp [decN]
 | cons x l ih=>
  show decN (n*10+(x.toNat - 48)) l=n*10^(l.length+1)+decN (0*10+(x.toNat - 48)) l
  rw[ih,ih (0*10+(x.toNat - 48)),Nat.pow_succ,Nat.add_mul,Nat.zero_mul,Nat.zero_add,Nat.mul_assoc,Nat.mul_comm 10]
  omega
theorem decN_lt (l:BL) (h:∀ x∈l,isDig x):decN 0 l<10^l.length:=by
 induction l with
 | nil=>simp [decN]
 | cons x l ih=>
  have h1:=ih (fun y hy=>h y (List.mem_cons_of_mem _ hy))
  have h2:=h x List.mem_cons_self
  unfold isDig at h2
  show decN (0*10+(x.toNat - 48)) l<10^(l.length+1)
  rw[decN_pow,Nat.zero_mul,Nat.zero_add,Nat.pow_succ]
  have h3:(x.toNat - 48)*10^l.length≤9*10^l.length:=Nat.mul_le_mul_right _ (by omega)
  omega
theorem strB_bv (l:BL):((strB l).data.toList.map fun b=>Value.int .u8 (b.toNat:Int))=bv l:=by
 unfold bv
 show ((l.map _).toArray.toList.map _)=_
 simp only [List.map_map]
 refine List.map_congr_left fun x _=>?_
 show Value.int .u8 ((UInt8.ofNat x.toNat).toNat:Int)=v8 x
 rw[byte_back]
section
variable {P:Program} {e:Env} {S:Mem} {fl:Bool} {ops:Array Oper} {K:Kont} {rest:List Oper} {dst:Option Tmp} {ty:TypeId} {pos:String} {af:Array Edge} {gd:Option (Nat × Bool)}
theorem L.tob {s d el:TypeId} {x:Operand} {l:BL} (hx:e.eval x=.string (strB l)) (hs:P.underlying s=some .string) (hd:P.underlying d=some (.slice el)) (hel:isBytes P el=true) (hw:awanted ops ⟨dst,.convert s d x,ty,pos,af,gd⟩ e=true)
  (k:L P G Ext fl ops rest (e.put dst (.slice (some ⟨S.length,0,none⟩) l.length (UNK+l.length))) (S++[grownR (bv l) el 1]) K):L P G Ext fl ops (⟨dst,.convert s d x,ty,pos,af,gd⟩ :: rest) e S K:=by
 refine L.eff hw ?_ k
 simp only [aeff,hx,hs,hd,hel,if_true,strB_size,strB_bv]
end
theorem parseU_C (d:BL) (S:Mem) (h0:d≠[]) (hd:∀ x∈d,isDig x) (hl:d.length≤19) :
  C Tryz.prog G Ext 150 [.string (strB d),vi 10,vi 64] S fun v S'=>v=.tuple #[.int .u64 (decN 0 d:Nat),.nilIface]∧Cons S S':=by
 refine C.fn Tryz.func150 rfl (by kernel_rfl) rfl ?_
 have he:((strB d).toList==(ByteArray.mk #[]).toList)=false:=by
  rw[show ByteArray.mk #[]=strB [] from rfl,strB_same,decide_eq_false h0]
 refine go ?_
 rw[he]
 refine W.condF rfl (go ?_)
 refine W.condT rfl (go ?_)
 refine W.condF rfl (go ?_)
 refine W.condF rfl (go ?_)
 refine W.condT rfl (go ?_)
 refine L.tob (l:=d) rfl rfl rfl rfl rfl ?_
 have hc:Cons S (S++[grownR (bv d) 5 1]):=Cons.push _ _
 have hr:Mem.row? (S++[grownR (bv d) 5 1]) S.length=some (grownR (bv d) 5 1):=row_push_new rfl
 have hO:=HdOk.grown (b:=S.length) (n:=d.length) hr (bv_len d)
 generalize S++[grownR (bv d) 5 1]=S1 at *
 refine go ?_
 refine W.loop (fun j e T=>∃ i:Nat,j=d.length - i∧i≤d.length∧T=S1∧e 1=vi 10∧e 8=.bool false∧e 10=.int .u64 1844674407370955162∧e 11=.int .u64 18446744073709551615∧e 12=.bool false∧e 13=.int .u64 (decN 0 (d.take i):Nat)∧e 99=.slice (some ⟨S.length,0,none⟩) d.length (UNK+d.length)∧e 100=vi d.length∧e 101=vi i) d.length
  ⟨0,by omega,by omega,rfl,rfl,rfl,rfl,rfl,rfl,rfl,rfl,rfl,rfl⟩ ?_
 rintro j e T ⟨i,rfl,hi,rfl,e1,e8,e10,e11,e12,e13,e99,e100,e101⟩
 refine W.env9 e1 e8 e10 e11 e12 e13 e99 e100 e101 (go ?_)
 refine W.ite rfl (fun h=>?_) (fun h=>?_)
 ·have hin:i<d.length:=by have:=of_decide_eq_true h;omega
  clear h
  obtain⟨x,hx⟩:∃ x,d[i]?=some x:=⟨_,List.getElem?_eq_getElem hin⟩
  have hxd:=hd x (List.mem_of_getElem? hx)
  unfold isDig at hxd
  have hst:decN 0 (d.take (i+1))=decN 0 (d.take i)*10+(x.toNat - 48):=by
   rw[List.take_add_one,hx];exact decN_snoc 0 (d.take i) x
  have hN:decN 0 (d.take i)<10^18:=by
   have h1:=decN_lt (d.take i) (fun y hy=>hd y (List.mem_of_mem_take hy))
   exact Nat.lt_of_lt_of_le h1 (Nat.pow_le_pow_right (by decide) (by rw[List.length_take];omega))
  obtain⟨N,hNe⟩:∃ N,N=decN 0 (d.take i):=⟨_,rfl⟩
  rw[← hNe] at hst hN ⊢
  refine go ?_
  refine L.el hO.slv rfl (show (bv d)[i]?=some (v8 x) by simp [bv,hx]) rfl rfl rfl rfl (fun _=>rfl) rfl (fun p=>go ?_)
  rw[show ((x.toNat:Int)==95)=false from beq_eq_false_iff_ne.2 (by omega)]
  refine go ?_
  refine W.condF rfl (go ?_)
  rw[show decide (48≤(x.toNat:Int))=true from decide_eq_true (by omega)]
  refine go ?_
  rw[show decide ((x.toNat:Int)≤57)=true from decide_eq_true (by omega)]
  refine W.condT rfl ?_
  have hx8:IntKind.u8.wrap ((x.toNat:Int) - 48)=((x.toNat - 48:Nat):Int):=by
   have h:∀ n:Fin 256,48≤n.val→IntKind.u8.wrap ((n.val:Int) - 48)=((n.val - 48:Nat):Int):=by decide +kernel
   exact h ⟨x.toNat,x.isLt⟩ hxd.1
  refine go ?_
  rw[hx8]
  refine W.ite rfl (fun h=>?_) (fun h=>?_)
  ·have:=of_decide_eq_true h
   exfalso
   have h9:IntKind.u8.wrap ((10:Nat):Int)=10:=by decide
   omega
  clear h
  refine go ?_
  refine W.ite rfl (fun h=>?_) (fun h=>?_)
  ·have:=of_decide_eq_true h
   omega
  clear h
  have hm:IntKind.u64.wrap ((N:Int)*10)=((N*10:Nat):Int):=by rw[wrapU64 (by omega) (by omega)];omega
  have ha:IntKind.u64.wrap (((N*10:Nat):Int)+((x.toNat - 48:Nat):Int))=((N*10+(x.toNat - 48):Nat):Int):=by rw[wrapU64 (by omega) (by omega)];omega
  have hw:IntKind.u64.wrap ((10:Nat):Int)=10:=by decide
  have hcv:IntKind.u64.wrap ((x.toNat - 48:Nat):Int)=((x.toNat - 48:Nat):Int):=by rw[wrapU64 (by omega) (by omega)]
  refine go ?_
  rw[hw,hm,hcv,ha,show decide (((N*10+(x.toNat - 48):Nat):Int)<((N*10:Nat):Int))=false from decide_eq_false (by omega)]
  refine go ?_
  rw[show decide (((N*10+(x.toNat - 48):Nat):Int) > 18446744073709551615)=false from decide_eq_false (by omega)]
  refine W.condF rfl (go ?_)
  refine⟨d.length - (i+1),by omega,i+1,rfl,by omega,rfl,rfl,rfl,rfl,rfl,rfl,?_,rfl,rfl,congrArg (Value.int .i64) (wrap64 (by omega) (by omega))⟩
  rw[hst];rfl
 ·have hin:i=d.length:=by have:=of_decide_eq_false h;omega
  subst hin
  clear h
  rw[List.take_length]
  refine go ?_
  refine W.condF rfl (go ?_)
  exact⟨.inr rfl,_,rfl,rfl,hc⟩
end
section
open Go
variable {G:Nat} {Ext:FuncId→List Value→Mem→Outc→Mem→Prop}
theorem parseUint_C (d:BL) (S:Mem) (h0:d≠[]) (hd:∀ x∈d,isDig x) (hl:d.length≤19) :
  C Tryz.prog G Ext 122 [.string (strB d),vi 10,vi 64] S fun v S'=>v=.tuple #[.int .u64 (decN 0 d:Nat),.nilIface]∧Cons S S':=by
 refine C.fn Tryz.func122 rfl (by kernel_rfl) rfl (go ?_)
 refine L.cv (parseU_C d S h0 hd hl) rfl rfl fun S1 k1=>go ?_
 refine W.condF rfl (go ?_)
 exact⟨.inr rfl,_,rfl,rfl,k1⟩
end
section
open Go
variable {G:Nat} {Ext:FuncId→List Value→Mem→Outc→Mem→Prop}
def digL:BL:=[48#8,49#8,50#8,51#8,52#8,53#8,54#8,55#8,56#8,57#8]
def setTo (i:Nat):List Value:=(List.range 256).map fun k=>.bool (decide (48≤k∧k<48+i))
theorem setTo_step (i:Nat) (h:48+i<256):(setTo i).set (48+i) (.bool true)=setTo (i+1):=by
 unfold setTo
 refine List.ext_getElem (by simp) fun k h1 h2=>?_
 simp only [List.getElem_set,List.getElem_map,List.getElem_range]
 split
 ·rename_i hk
  rw[decide_eq_true (by omega)]
 ·rename_i hk
  exact congrArg Value.bool (decide_eq_decide.2 (by omega))
theorem set_cells (i:Nat):(Value.agg (setTo i).toArray).cells.toList=setTo i:=rfl
theorem makeSet_C (S:Mem):C Tryz.prog G Ext 145 [.string (strB digL)] S fun v S'=>v=.tuple #[.agg (setTo 10).toArray,.bool true]∧Cons S S':=by
 refine C.fn Tryz.func145 rfl (by kernel_rfl) rfl (go ?_)
 refine L.eff (v:=.pointer (some ⟨S.length,0,none⟩)) (S1:=S++[newR (setTo 0) 135]) rfl (by rfl) ?_
 have hc:Cons S (S++[newR (setTo 0) 135]):=Cons.push _ _
 have hr:Mem.row? (S++[newR (setTo 0) 135]) S.length=some (newR (setTo 0) 135):=row_push_new rfl
 generalize S++[newR (setTo 0) 135]=S1 at *
 refine go ?_
 refine W.loop (fun j e T=>∃ i:Nat,j=10 - i∧i≤10∧Cons S T∧T.row? S.length=some (newR (setTo i) 135)∧e 0=.string (strB digL)∧e 2=.pointer (some ⟨S.length,0,none⟩)∧e 4=vi i) 10 ⟨0,rfl,by decide,hc,hr,rfl,rfl,rfl⟩ ?_
 clear hc hr
 rintro j e T ⟨i,rfl,hi,hc,hr,e0,e2,e4⟩
 refine W.env3 e0 e2 e4 (go ?_)
 refine L.tlen (a:=digL) rfl rfl rfl rfl (go ?_)
 refine W.ite rfl (fun h=>?_) (fun h=>?_)
 ·have hin:i<10:=by have:=of_decide_eq_true h;simp [digL] at this;omega
  clear h
  have hx:digL[i]?=some (BitVec.ofNat 8 (48+i)):=by
   have h:∀ i:Fin 10,digL[i.val]?=some (BitVec.ofNat 8 (48+i.val)):=by decide
   exact h ⟨i,hin⟩
  have hxn:(BitVec.ofNat 8 (48+i)).toNat=48+i:=by rw[BitVec.toNat_ofNat];omega
  refine go ?_
  refine L.sB (l:=digL) (i:=i) rfl rfl hx rfl rfl (go ?_)
  refine W.ite rfl (fun h=>?_) (fun h=>?_)
  ·have:=of_decide_eq_true h
   rw[hxn] at this
   omega
  clear h
  refine go ?_
  refine L.elstA (k:=48+i) (o:=0) (n:=256) (w:=.bool true) hr rfl (by simp [newR,setTo]) (by rw[hxn]) (by omega) rfl rfl rfl rfl (fun _=>rfl) (fun p=>rfl) rfl rfl (fun p=>?_)
  have hr2:Mem.row? (List.set T S.length { newR (setTo i) 135 with cells:=(newR (setTo i) 135).cells.set (0+(48+i)) (.bool true) }) S.length=some (newR (setTo (i+1)) 135):=by
   rw[row_set_same hr rfl]
   refine congrArg some ?_
   show newR ((setTo i).set (0+(48+i)) (.bool true)) 135=_
   rw[Nat.zero_add,setTo_step i (by omega)]
  have hc2:=hc.set _ { newR (setTo i) 135 with cells:=(newR (setTo i) 135).cells.set (0+(48+i)) (.bool true) } (Nat.le_refl S.length)
  generalize List.set T S.length _=T2 at *
  refine go ?_
  exact⟨10 - (i+1),by omega,i+1,rfl,by omega,hc2,hr2,rfl,rfl,congrArg (Value.int .i64) (wrap64 (by omega) (by omega))⟩
 ·have hin:i=10:=by have:=of_decide_eq_false h;simp [digL] at this;omega
  subst hin
  clear h
  refine go ?_
  have hl:(setTo 10).length=256:=by simp [setTo]
  have hca:T.cellsAt ⟨S.length,0,none⟩ 256=some (setTo 10):=by
   rw[cellsAt_of (o:=0) (n:=256) hr (by show 0+256≤(setTo 10).length;omega)]
   exact congrArg some (by rw[List.drop_zero];exact List.take_of_length_le (by show (setTo 10).length≤256;omega))
  refine L.ldA (a:=⟨S.length,0,none⟩) (n:=256) hca rfl rfl rfl ?_
  have hall:(setTo 10).all oneCell=true:=by
   unfold setTo
   rw[List.all_map]
   exact List.all_eq_true.2 fun x _=>rfl
  refine L.st (ad:=⟨S.length,0,none⟩) (vs:=setTo 10) (write_of (o:=0) hr rfl (by show 0+(setTo 10).length≤(setTo 10).length;omega) hall) rfl rfl ?_ (by rw[hl];rfl) ?_
  ·exact set_cells 10
  have hr2:Mem.row? (List.set T S.length { newR (setTo 10) 135 with cells:=putFrom (newR (setTo 10) 135).cells 0 (setTo 10) }) S.length=some (newR (setTo 10) 135):=by
   rw[row_set_same hr rfl]
   show some (newR (putFrom (setTo 10) 0 (setTo 10)) 135)=_
   unfold putFrom
   rw[Nat.zero_add,List.drop_length]
   simp
  have hc2:=hc.set _ { newR (setTo 10) 135 with cells:=putFrom (newR (setTo 10) 135).cells 0 (setTo 10) } (Nat.le_refl S.length)
  generalize List.set T S.length _=T2 at *
  refine go ?_
  have hld:aloadAt Tryz.prog 135 (.pointer (some ⟨S.length,0,none⟩)) T2=some (.agg (setTo 10).toArray):=by
   refine aload_agg rfl rfl (n:=256) ?_
   rw[cellsAt_of (o:=0) (n:=256) hr2 (by show 0+256≤(setTo 10).length;omega)]
   exact congrArg some (by rw[List.drop_zero];exact List.take_of_length_le (by show (setTo 10).length≤256;omega))
  refine⟨.inr rfl,.tuple #[.agg (setTo 10).toArray,.bool true],?_,rfl,hc2⟩
  show (aloadAt Tryz.prog 135 (.pointer (some ⟨S.length,0,none⟩)) T2).bind _=_
  rw[hld]
  rfl
end
section
open Go
variable {G:Nat} {Ext:FuncId→List Value→Mem→Outc→Mem→Prop}
section
variable {P:Program} {G:Nat} {Ext:FuncId→List Value→Mem→Outc→Mem→Prop} {e:Env} {S:Mem} {fl:Bool} {ops:Array Oper} {K:Kont}
variable {rest:List Oper} {dst:Option Tmp} {ty:TypeId} {pos:String} {af:Array Edge} {gd:Option (Nat × Bool)}
theorem L.sub {t:TypeId} {x lo hi:Operand} {l:BL} {k k':IntKind} {i j:Nat} (hx:e.eval x=.string (strB l)) (hlo:e.eval lo=.int k (i:Int)) (hj:e.eval hi=.int k' (j:Int)) (hij:i≤j) (hb:j≤l.length) (hu:P.underlying t=some .string)
  (hw:awanted ops ⟨dst,.slice t x (some lo) (some hi) none,ty,pos,af,gd⟩ e=true) (h:L P G Ext fl ops rest (e.put dst (.string (strB ((l.take j).drop i)))) S K):L P G Ext fl ops (⟨dst,.slice t x (some lo) (some hi) none,ty,pos,af,gd⟩ :: rest) e S K:=by
 refine L.flat (by simp [Op.operands,hx,hlo,hj];exact⟨rfl,rfl,rfl⟩) rfl nofun ?_ hw h
 have h0:(0:Int)≤(i:Int)∧(i:Int)≤(l.length:Nat):=by omega
 have h1:(0:Int)≤(j:Int)∧(j:Int)≤(l.length:Nat):=by omega
 have hb:pureRun P (Instr.sliceAt t (.string (strB l)) (some (.int k (i:Int))) (some (.int k' (j:Int))) none)=some (.string (strB ((l.take j).drop i))):=by
  unfold Instr.sliceAt
  rw[pureRun_bind,pureRun_underlying hu]
  show pureRun P (Instr.slice t (.string (strB l)) (some (.int k (i:Int))) (some (.int k' (j:Int))) none)=_
  unfold Instr.slice
  rw[pureRun_bind,pureRun_underlying hu]
  show pureRun P (Instr.sliceBounds false (strB l).size (strB l).size (some (.int k (i:Int))) (some (.int k' (j:Int))) none >>= fun (l',h,_)=>Pure.pure (Value.string ((strB l).extract l' h)))=_
  rw[pureRun_bind]
  have hs:pureRun P (Instr.sliceBounds false (strB l).size (strB l).size (some (.int k (i:Int))) (some (.int k' (j:Int))) none)=some (i,j,(strB l).size):=by
   unfold Instr.sliceBounds
   simp [pureRun_bind,Instr.sliceBound,asIntOf,h0,h1,strB_size]
   rw[if_pos hb]
   show pureRun P ((fun a_1=>(a_1,j,l.length)) <$> if i≤j then Pure.pure i else boundsPanic k (i:Int) (j:Int) BoundsCode.sliceB)=_
   rw[if_pos hij];rfl
  rw[hs]
  show some (Value.string ((strB l).extract _ _))=_
  rw[strB_part]
 simp only [execOp,hx,hlo,hj,Option.map_some,Option.map_none,pureRun_bind,hb]
 rfl
end
def digT (x:BitVec 8):Bool:=decide (48≤x.toNat∧x.toNat<58)
theorem digT_dig {x:BitVec 8}:digT x=true↔isDig x:=by
 unfold digT isDig
 rw[decide_eq_true_eq]
 omega
theorem contains_C (b:Nat) (x:BitVec 8) (S:Mem) (hr:S.row? b=some (newR (setTo 10) 135)):C Tryz.prog G Ext 166 [.pointer (some ⟨b,0,none⟩),v8 x] S fun v S'=>v=.bool (digT x)∧S'=S:=by
 refine C.fn Tryz.func166 rfl (by kernel_rfl) rfl (go ?_)
 refine L.ixA (b:=b) (o:=0) (n:=256) (k:=x.toNat) (sz:=1) rfl x.isLt rfl rfl rfl rfl ?_
 have hg:(setTo 10)[0+x.toNat * 1]?=some (.bool (digT x)):=by
  rw[Nat.zero_add,Nat.mul_one]
  unfold setTo digT
  rw[List.getElem?_map,List.getElem?_range x.isLt]
  rfl
 refine L.ld (a:=⟨b,0+x.toNat * 1,none⟩) (v:=.bool (digT x)) (cell_of hr hg (.inl rfl)) rfl rfl rfl (go ?_)
 exact⟨.inr rfl,_,rfl,rfl,rfl⟩
theorem trimR_C (b:Nat) (l:BL) (S:Mem) (hr:S.row? b=some (newR (setTo 10) 135)) (hl:l.length<1000000000) :
  C Tryz.prog G Ext 147 [.string (strB l),.pointer (some ⟨b,0,none⟩)] S fun v S'=>(∃ m:BL,v=.string (strB m)∧m.length≤l.length∧(∃ ds,l=m++ds∧∀ x∈ds,isDig x)∧∀ x,m.getLast?=some x→¬ isDig x)∧S'=S:=by
 refine C.fn Tryz.func147 rfl (by kernel_rfl) rfl (go ?_)
 refine W.loop (fun j e T=>∃ m:BL,j=m.length∧T=S∧e 0=.string (strB m)∧e 1=.pointer (some ⟨b,0,none⟩)∧m.length≤l.length∧∃ ds,l=m++ds∧∀ x∈ds,isDig x) l.length ⟨l,rfl,rfl,rfl,rfl,Nat.le_refl _,[],by simp,by simp⟩ ?_
 rintro j e T ⟨m,rfl,hT,e0,e1,hml,ds,hds,hdd⟩
 have hT:=hT.symm
 subst hT
 refine W.env2 e0 e1 ?_
 clear e0 e1
 refine go ?_
 refine L.tlen rfl rfl rfl rfl ?_
 rcases List.eq_nil_or_concat m with rfl | ⟨m',x,rfl⟩
 ·refine go ?_
  refine W.condF rfl (go ?_)
  exact⟨.inr rfl,_,rfl,⟨[],rfl,Nat.zero_le _,⟨ds,hds,hdd⟩,nofun⟩,rfl⟩
 ·simp only [List.concat_eq_append] at *
  have hlen:(m'++[x]).length=m'.length+1:=by simp
  have hp:decide ((((m'++[x]).length:Nat):Int) > 0)=true:=decide_eq_true (by omega)
  have e1:IntKind.i64.wrap ((((m'++[x]).length:Nat):Int) - 1)=(m'.length:Int):=by rw[wrap64 (by omega) (by omega)];omega
  refine go ?_
  rw[hp]
  refine W.condT rfl (go ?_)
  refine L.tlen rfl rfl rfl rfl (go ?_)
  rw[e1]
  refine L.sB (l:=m'++[x]) (i:=m'.length) (b:=x) rfl rfl (by simp) rfl rfl ?_
  refine L.cs (contains_C b x S hr) rfl rfl (go ?_)
  cases hd:digT x
  ·refine go ?_
   refine W.condT rfl (go ?_)
   refine⟨.inr rfl,_,rfl,⟨m'++[x],rfl,hml,⟨ds,hds,hdd⟩,fun y hy=>?_⟩,rfl⟩
   rw[List.getLast?_concat] at hy
   cases hy
   intro hdig
   rw[digT_dig.2 hdig] at hd
   cases hd
  ·refine go ?_
   refine W.condF rfl (go ?_)
   refine L.tlen rfl rfl rfl rfl (go ?_)
   rw[e1]
   refine L.upto (l:=m'++[x]) (i:=m'.length) rfl rfl (by omega) rfl rfl ?_
   rw[List.take_left]
   refine go ?_
   exact⟨m'.length,by omega,m',rfl,rfl,rfl,rfl,by omega,x :: ds,by rw[hds];simp,fun y hy=>by
    rcases List.mem_cons.1 hy with rfl | hy
    ·exact digT_dig.1 hd
    ·exact hdd y hy⟩
theorem trimLA_C (b:Nat) (l:BL) (S:Mem) (hr:S.row? b=some (newR (setTo 10) 135)) (hl:l.length<1000000000) :
  C Tryz.prog G Ext 146 [.string (strB l),.pointer (some ⟨b,0,none⟩)] S fun v S'=>(∃ m:BL,v=.string (strB m)∧(∃ ds,l=ds++m∧∀ x∈ds,isDig x)∧∀ x,m.head?=some x→¬ isDig x)∧S'=S:=by
 refine C.fn Tryz.func146 rfl (by kernel_rfl) rfl (go ?_)
 refine W.loop (fun j e T=>∃ m:BL,j=m.length∧T=S∧e 0=.string (strB m)∧e 1=.pointer (some ⟨b,0,none⟩)∧m.length≤l.length∧∃ ds,l=ds++m∧∀ x∈ds,isDig x) l.length ⟨l,rfl,rfl,rfl,rfl,Nat.le_refl _,[],by simp,by simp⟩ ?_
 rintro j e T ⟨m,rfl,hT,e0,e1,hml,ds,hds,hdd⟩
 have hT:=hT.symm
 subst hT
 refine W.env2 e0 e1 ?_
 clear e0 e1
 refine go ?_
 refine L.tlen rfl rfl rfl rfl ?_
 cases m with
 | nil=>
  refine go ?_
  refine W.condF rfl (go ?_)
  exact⟨.inr rfl,_,rfl,⟨[],rfl,⟨ds,hds,hdd⟩,nofun⟩,rfl⟩
 | cons x m=>
  have hp:decide ((((x :: m).length:Nat):Int) > 0)=true:=decide_eq_true (by simp)
  refine go ?_
  rw[hp]
  refine W.condT rfl (go ?_)
  have hv:Value.int .u8 (((UInt8.ofNat x.toNat).toNat:Nat):Int)=v8 x:=by rw[byte_back]
  refine L.cs (contains_C b x S hr) rfl ((show acall _ _=some (_,[.pointer (some ⟨b,0,none⟩),.int .u8 (((UInt8.ofNat x.toNat).toNat:Nat):Int)]) from rfl).trans (by rw[hv])) (go ?_)
  cases hd:digT x
  ·refine go ?_
   refine W.condT rfl (go ?_)
   refine⟨.inr rfl,_,rfl,⟨x :: m,rfl,⟨ds,hds,hdd⟩,fun y hy=>?_⟩,rfl⟩
   cases hy
   intro hdig
   rw[digT_dig.2 hdig] at hd
   cases hd
  ·refine go ?_
   refine W.condF rfl (go ?_)
   refine L.from (l:=x :: m) (i:=1) rfl rfl (by simp) rfl rfl (go ?_)
   exact⟨m.length,by simp,m,rfl,rfl,rfl,rfl,by simp at hml;omega,ds++[x],by rw[hds];simp,fun y hy=>by
    rcases List.mem_append.1 hy with hy | hy
    ·exact hdd y hy
    ·rw[List.mem_singleton] at hy;rw[hy];exact digT_dig.1 hd⟩
theorem trim_digits_C (l:BL) (S:Mem) (h0:l≠[]) (hl:l.length<1000000000) :
  C Tryz.prog G Ext 120 [.string (strB l),.string (strB digL)] S fun v S'=>(∃ m:BL,v=.string (strB m)∧(m=[]↔∀ x∈l,isDig x))∧Cons S S':=by
 refine C.fn Tryz.func120 rfl (by kernel_rfl) rfl ?_
 have he:((strB l).toList==(ByteArray.mk #[]).toList)=false:=by
  rw[show ByteArray.mk #[]=strB [] from rfl,strB_same,decide_eq_false h0]
 have he2:((strB digL).toList==(ByteArray.mk #[]).toList)=false:=by
  rw[show ByteArray.mk #[]=strB [] from rfl,strB_same];rfl
 refine go ?_
 rw[he]
 refine go ?_
 rw[he2]
 refine W.condF rfl (go ?_)
 refine L.tlen (a:=digL) rfl rfl rfl rfl (go ?_)
 refine W.condF rfl (go ?_)
 refine L.cv (makeSet_C S) rfl rfl fun T1 k1=>go ?_
 refine L.eff (v:=.pointer (some ⟨T1.length,0,none⟩)) (S1:=T1++[newR (setTo 0) 135]) rfl (by rfl) ?_
 have hc:Cons T1 (T1++[newR (setTo 0) 135]):=Cons.push _ _
 have hr:Mem.row? (T1++[newR (setTo 0) 135]) T1.length=some (newR (setTo 0) 135):=row_push_new rfl
 generalize T1++[newR (setTo 0) 135]=T2 at *
 have hl2:∀ i,(setTo i).length=256:=fun i=>by simp [setTo]
 have hall:(setTo 10).all oneCell=true:=by
  unfold setTo
  rw[List.all_map]
  exact List.all_eq_true.2 fun x _=>rfl
 refine L.st (ad:=⟨T1.length,0,none⟩) (vs:=setTo 10) (write_of (o:=0) hr rfl (by show 0+(setTo 10).length≤(setTo 0).length;rw[hl2,hl2];omega) hall) rfl rfl (set_cells 10) (by rw[hl2];rfl) ?_
 have hr2:Mem.row? (List.set T2 T1.length { newR (setTo 0) 135 with cells:=putFrom (newR (setTo 0) 135).cells 0 (setTo 10) }) T1.length=some (newR (setTo 10) 135):=by
  rw[row_set_same hr rfl]
  show some (newR (putFrom (setTo 0) 0 (setTo 10)) 135)=_
  unfold putFrom
  rw[Nat.zero_add,hl2,List.drop_of_length_le (by rw[hl2];omega)]
  simp
 have hc2:=(k1.trans hc).set T1.length { newR (setTo 0) 135 with cells:=putFrom (newR (setTo 0) 135).cells 0 (setTo 10) } k1.len
 generalize List.set T2 T1.length _=T3 at *
 refine go ?_
 refine W.condT rfl (go ?_)
 refine L.cl (trimR_C T1.length l T3 hr2 hl) rfl rfl ?_
 rintro _ M ⟨⟨m,rfl,hml,⟨ds,hds,hdd⟩,hlast⟩,hM⟩
 have hM:=hM.symm
 subst hM
 refine⟨fun _=>Cons.refl _,?_⟩
 refine L.cl (trimLA_C T1.length m T3 hr2 (by omega)) rfl rfl ?_
 rintro _ M ⟨⟨m2,rfl,⟨es,hes,hee⟩,hhead⟩,hM⟩
 have hM:=hM.symm
 subst hM
 refine⟨fun _=>Cons.refl _,go ?_⟩
 refine⟨.inr rfl,_,rfl,⟨m2,rfl,?_,?_⟩,hc2⟩
 ·rintro rfl
  rw[List.append_nil] at hes
  subst hes
  intro x hx
  rw[hds] at hx
  rcases List.mem_append.1 hx with hx | hx
  ·exact hee x hx
  ·exact hdd x hx
 ·intro hd
  cases m2 with
  | nil=>rfl
  | cons x t=>
   exfalso
   refine hhead x rfl (hd x ?_)
   rw[hds,hes]
   simp
end
section
open Go
theorem toW_eq {l:WL} {N:Nat} (hl:wnum l=N) (h:l.length=0∨2^(64*(l.length - 1))≤N):toW N=l:=by
 have h1:(toW N).length=l.length:=by
  have h2:(toW N).length≤l.length:=(toW_len N l.length).2 (by rw[← hl];exact wnum_lt l)
  rcases h with h | h
  ·omega
  ·by_cases h0:l.length=0
   ·omega
   ·have h3:¬ (toW N).length≤l.length - 1:=fun hc=>by
     have:=(toW_len N (l.length - 1)).1 hc
     omega
    omega
 have h4:=toW_take l
 rw[hl,h1,List.take_length] at h4
 exact h4.symm
theorem short_mul {l l2:WL} {k p n0 cr:Nat} {x q:BitVec 64} (hk:k<l.length) (hll:l2.length=l.length) (hx:l2[k]?=some x) (hd:l2.drop k=l.drop k) (hinv:wnum (l2.take k)+2^(64*k)*cr=wnum (l.take k)*p+n0) (hq:q.toNat=(x.toNat * p+cr) % 18446744073709551616) :
  wnum ((l2.set k q).take (k+1))+2^(64*(k+1))*((x.toNat * p+cr) / 18446744073709551616)=wnum (l.take (k+1))*p+n0∧(l2.set k q).drop (k+1)=l.drop (k+1):=by
 have hx2:l[k]?=some x:=by
  have h1:(l2.drop k)[0]?=some x:=by rw[List.getElem?_drop,Nat.add_zero];exact hx
  rw[hd,List.getElem?_drop,Nat.add_zero] at h1
  exact h1
 have h1:=wnum_take_succ (l:=l2.set k q) (i:=k) (x:=q) (by rw[List.getElem?_set_self (by omega)])
 have h2:=wnum_take_succ hx2
 rw[List.take_set_of_le (Nat.le_refl k)] at h1
 constructor
 ·rw[h1,h2,hq]
  have e:2^(64*(k+1))=2^(64*k)*18446744073709551616:=by rw[Nat.mul_add,Nat.pow_add]
  have hdm:=Nat.div_add_mod (x.toNat * p+cr) 18446744073709551616
  rw[e,Nat.add_mul (wnum (l.take k)),Nat.mul_assoc,Nat.mul_assoc]
  have h5:2^(64*k)*((x.toNat * p+cr) % 18446744073709551616)+2^(64*k)*(18446744073709551616*((x.toNat * p+cr) / 18446744073709551616))=2^(64*k)*(x.toNat * p)+2^(64*k)*cr:=by
   rw[← Nat.mul_add,← Nat.mul_add,Nat.add_comm ((x.toNat * p+cr) % _),hdm]
  omega
 ·rw[List.drop_set_of_lt (by omega),← List.drop_drop,← List.drop_drop,hd]
theorem short_fin {V p n0 cr:Nat} {l2:WL} {q:BitVec 64} (hp:1≤p) (hl:l2.length=(toW V).length) (h:wnum l2+2^(64*l2.length)*cr=V*p+n0) (hq:q.toNat=cr):(0<cr→toW (V*p+n0)=l2++[q])∧(cr=0→toW (V*p+n0)=l2):=by
 constructor
 ·intro hc
  refine toW_eq ?_ (.inr ?_)
  ·rw[wnum_append]
   show wnum l2+2^(64*l2.length)*(q.toNat+18446744073709551616*0)=_
   rw[hq,Nat.mul_zero,Nat.add_zero,h]
  ·rw[List.length_append,List.length_singleton,Nat.add_sub_cancel,← h]
   have:=Nat.mul_le_mul_left (2^(64*l2.length)) hc
   omega
 ·intro hc
  subst hc
  rw[Nat.mul_zero,Nat.add_zero] at h
  refine toW_eq h ?_
  by_cases h0:l2.length=0
  ·exact .inl h0
  ·right
   have h1:=toW_ge (N:=V) (by omega)
   rw[← hl] at h1
   have:=Nat.mul_le_mul_left V hp
   omega
end
section
open Go
variable {Ext:FuncId→List Value→Mem→Outc→Mem→Prop}
instance (l:BL):Decidable (∀ x∈l,isDig x):=by unfold isDig;infer_instance
def prsE (s:BL):Int:=if 65536<s.length then 3 else if s=[]∨¬ (∀ x∈s,isDig x) then 12 else if decN 0 s<2^8192 then 0 else 3
def prsL (s:BL):WL:=if prsE s=0 then toW (decN 0 s) else []
theorem decN_drop0 (s:BL):decN 0 (s.dropWhile (·==48#8))=decN 0 s:=by
 induction s with
 | nil=>rfl
 | cons x s ih=>
  by_cases h:x=48#8
  ·subst h
   rw[List.dropWhile_cons_of_pos (by decide),ih]
   rfl
  ·rw[List.dropWhile_cons_of_neg (by simpa using h)]
theorem dropw_mem {s:BL} {x:BitVec 8} (h:x∈s.dropWhile (·==48#8)):x∈s:=(List.dropWhile_sublist _).subset h
theorem decN_part (t:BL) {i j:Nat} (hij:i≤j) (hj:j≤t.length):decN 0 (t.take j)=decN 0 (t.take i)*10^(j - i)+decN 0 ((t.take j).drop i):=by
 have e:t.take j=t.take i++(t.take j).drop i:=by
  have:=(List.take_append_drop i (t.take j)).symm
  rwa [List.take_take,Nat.min_eq_left hij] at this
 rw[e,decN_app,decN_pow (decN 0 (t.take i))]
 rw[← e,List.length_drop,List.length_take,Nat.min_eq_left hj]
theorem decN_mono (t:BL) (i:Nat) (hi:i≤t.length):decN 0 (t.take i)≤decN 0 t:=by
 have h:=decN_part t hi (Nat.le_refl _)
 rw[List.take_length] at h
 have h1:decN 0 (t.take i)*1≤decN 0 (t.take i)*10^(t.length - i):=Nat.mul_le_mul_left _ (Nat.one_le_pow _ _ (by decide))
 omega
theorem pow10_lt {k:Nat} (h:k≤19):10^k<18446744073709551616:=Nat.lt_of_le_of_lt (Nat.pow_le_pow_right (by decide) h) (by decide)
theorem nParse_C (s:BL) (S:Mem) (hl:s.length<1000000000) :
  C Tryz.prog gN Ext 80 [.string (strB s)] S fun v S'=>∃ d:Hd,v=.tuple #[d.v,.int .i64 (prsE s)]∧RetW S S' d (prsL s):=by
 refine C.fn Tryz.func80 rfl (by kernel_rfl) rfl ?_
 obtain⟨E,hE⟩:∃ E,prsE s=E:=⟨_,rfl⟩
 have hL:prsL s=if E=0 then toW (decN 0 s) else []:=by unfold prsL;rw[hE]
 rw[hE,hL]
 unfold prsE at hE
 refine go ?_
 refine L.tlen rfl rfl rfl rfl (go ?_)
 refine W.ite rfl (fun h=>?_) (fun h=>?_)
 ·have:=of_decide_eq_true h
  rw[if_pos (by omega)] at hE
  subst hE
  clear h
  refine go ?_
  exact⟨.inr rfl,_,rfl,Hd0,rfl,RetW.nil (Cons.refl _)⟩
 rw[if_neg (by have:=of_decide_eq_false h;omega)] at hE
 clear h
 have he:∀ m:BL,((strB m).toList==(ByteArray.mk #[]).toList)=decide (m=[]):=fun m=>by
  rw[show ByteArray.mk #[]=strB [] from rfl,strB_same]
 refine go ?_
 rw[he]
 by_cases h0:s=[]
 ·rw[decide_eq_true h0]
  rw[if_pos (.inl h0)] at hE
  subst hE
  refine go ?_
  refine W.condT rfl (go ?_)
  exact⟨.inr rfl,_,rfl,Hd0,rfl,RetW.nil (Cons.refl _)⟩
 rw[decide_eq_false h0]
 refine go ?_
 refine L.cl (trim_digits_C s S h0 hl) rfl rfl ?_
 rintro _ S1 ⟨⟨m,rfl,hm⟩,k1⟩
 refine⟨fun _=>k1,go ?_⟩
 rw[show (!((strB m).toList==(ByteArray.mk #[]).toList))=!decide (m=[]) by rw[he]]
 by_cases hd:∀ x∈s,isDig x
 rotate_left
 ·have hm0:m≠[]:=fun h=>hd (hm.1 h)
  rw[decide_eq_false hm0]
  rw[if_pos (.inr hd)] at hE
  subst hE
  refine W.condT rfl (go ?_)
  exact⟨.inr rfl,_,rfl,Hd0,rfl,RetW.nil k1⟩
 rw[decide_eq_true (hm.2 hd)]
 rw[if_neg (fun h=>h.elim h0 (fun h=>h hd))] at hE
 refine W.ite rfl (fun h=>?_) (fun h=>?_)
 ·cases h
 clear h hm
 refine go ?_
 refine L.cs (trimL0_C s S1 hl) rfl rfl ?_
 rw[← decN_drop0] at hE ⊢
 have htd:∀ x∈s.dropWhile (·==48#8),isDig x:=fun x hx=>hd x (dropw_mem hx)
 have htl:(s.dropWhile (·==48#8)).length<1000000000:=Nat.lt_of_le_of_lt (List.dropWhile_sublist _).length_le hl
 generalize s.dropWhile (·==48#8)=t at *
 clear hd h0 hL
 refine go ?_
 refine W.loop (fun j e T=>∃ (i:Nat) (d:Hd) (l:WL),j=t.length - i∧i≤t.length∧Cons S T∧e 0=.string (strB t)∧e 4=.slice d.ad l.length d.c∧e 5=vi i∧HdOk T 57 d (wv l)∧(∀ b,d.a=some b→S.length≤b)∧l=toW (decN 0 (t.take i))∧l.length≤128) t.length
  ⟨0,Hd0,[],by omega,by omega,k1,rfl,rfl,rfl,HdOk.nil _ _,nofun,by rw[List.take_zero];exact toW_zero.symm,by decide⟩ ?_
 clear k1
 rintro j e T ⟨i,d,l,rfl,hi,hc,e0,e4,e5,hdk,hdn,hlV,hl128⟩
 refine W.env3 e0 e4 e5 ?_
 clear e0 e4 e5
 have hdl:d.n=l.length:=by have:=hdk.len;rw[wv_len] at this;omega
 refine go ?_
 refine L.tlen rfl rfl rfl rfl (go ?_)
 refine W.ite rfl (fun h=>?_) (fun h=>?_)
 ·have hin:i<t.length:=by have:=of_decide_eq_true h;omega
  clear h
  refine go ?_
  refine L.tlen rfl rfl rfl rfl (go ?_)
  obtain⟨q,hq⟩:∃ q,q=min t.length (i+19):=⟨_,rfl⟩
  have hqi:i<q:=by omega
  have hqt:q≤t.length:=by omega
  have hq19:q - i≤19:=by omega
  rw[wrap64 (x:=(i:Int)+19) (by omega) (by omega)]
  refine L.min (c:=((q:Nat):Int)) rfl rfl rfl ?_ ?_
  ·split<;>omega
  clear hq
  refine go ?_
  refine L.sub (l:=t) (i:=i) (j:=q) rfl rfl rfl (by omega) hqt rfl rfl ?_
  have hpart:=decN_part t (i:=i) (j:=q) (by omega) hqt
  have hpl:((t.take q).drop i).length=q - i:=by rw[List.length_drop,List.length_take];omega
  have hpd:∀ x∈(t.take q).drop i,isDig x:=fun x hx=>htd x (List.mem_of_mem_take (List.mem_of_mem_drop hx))
  have hp0:(t.take q).drop i≠[]:=fun h=>by rw[h] at hpl;simp at hpl;omega
  have hplt:=decN_lt _ hpd
  rw[hpl] at hplt
  generalize (t.take q).drop i=dg at *
  refine L.cv (parseUint_C dg T hp0 hpd (by omega)) rfl rfl fun T1 k1=>?_
  replace hc:=hc.trans k1
  replace hdk:=hdk.cons k1
  clear k1
  generalize decN 0 dg=n0 at *
  generalize hV:decN 0 (t.take i)=V at *
  obtain⟨kk,hkk⟩:∃ kk,kk=q - i:=⟨_,rfl⟩
  rw[← hkk] at hpart hplt hq19
  have hp10:=pow10_lt hq19
  refine go ?_
  rw[show IntKind.i64.wrap ((q:Int) - (i:Int))=(kk:Int) by rw[wrap64 (by omega) (by omega)];omega]
  refine W.mono (R:=fun x e' T'=>x=.exit 2∧T'=T1∧e' 0=.string (strB t)∧e' 4=.slice d.ad l.length d.c∧e' 5=vi i∧e' 6=vi q∧e' 7=.int .u64 (n0:Int)∧e' 9=.int .u64 ((10^kk:Nat):Int)) ?_ ?_
  ·refine W.loop (fun j e' T'=>∃ z:Nat,j=kk - z∧z≤kk∧T'=T1∧e' 0=.string (strB t)∧e' 4=.slice d.ad l.length d.c∧e' 5=vi i∧e' 6=vi q∧e' 7=.int .u64 (n0:Int)∧e' 9=.int .u64 ((10^z:Nat):Int)∧e' 45=vi kk∧e' 46=vi z) kk
    ⟨0,rfl,Nat.zero_le _,rfl,rfl,rfl,rfl,rfl,rfl,rfl,rfl,rfl⟩ ?_
   rintro j e' T' ⟨z,rfl,hz,hT,e0,e4,e5,e6,e7,e9,e45,e46⟩
   have hT:=hT.symm
   subst hT
   refine W.env8 e0 e4 e5 e6 e7 e9 e45 e46 ?_
   clear e0 e4 e5 e6 e7 e9 e45 e46
   refine go ?_
   refine W.ite rfl (fun h=>?_) (fun h=>?_)
   ·have hzk:z<kk:=by have:=of_decide_eq_true h;omega
    clear h
    have hp:=pow10_lt (k:=z+1) (by omega)
    have e1:IntKind.u64.wrap (((10^z:Nat):Int)*10)=((10^(z+1):Nat):Int):=by
     rw[Nat.pow_succ] at hp ⊢
     rw[wrapU64 (by omega) (by omega)]
     omega
    refine go ?_
    rw[e1]
    refine⟨kk - (z+1),by omega,z+1,rfl,by omega,rfl,rfl,rfl,rfl,rfl,rfl,rfl,rfl,?_⟩
    exact congrArg (Value.int .i64) (wrap64 (by omega) (by omega))
   ·have hzk:z=kk:=by have:=of_decide_eq_false h;omega
    subst hzk
    clear h
    refine go ?_
    exact⟨rfl,rfl,rfl,rfl,rfl,rfl,rfl,rfl⟩
  rintro _ e' T' ⟨rfl,hT,e0,e4,e5,e6,e7,e9⟩
  have hT:=hT.symm
  subst hT
  refine W.env6 e0 e4 e5 e6 e7 e9 ?_
  clear e0 e4 e5 e6 e7 e9
  obtain⟨p,hp⟩:∃ p,p=10^kk:=⟨_,rfl⟩
  have hp1:1≤p:=by rw[hp];exact Nat.one_le_pow _ _ (by decide)
  rw[← hp] at hpart hplt hp10 ⊢
  clear hp
  refine go ?_
  refine W.mono (R:=fun x e' T'=>x=.exit 4∧∃ (l2:WL) (cr:Nat),e' 0=.string (strB t)∧e' 4=.slice d.ad l.length d.c∧e' 6=vi q∧e' 7=.int .u64 (cr:Int)∧Cons S T'∧HdOk T' 57 d (wv l2)∧l2.length=l.length∧cr<18446744073709551616∧wnum l2+2^(64*l2.length)*cr=V*p+n0) ?_ ?_
  ·refine W.loop (fun j e' T'=>∃ (k:Nat) (l2:WL) (cr:Nat),j=l.length - k∧k≤l.length∧e' 0=.string (strB t)∧e' 4=.slice d.ad l.length d.c∧e' 6=vi q∧e' 7=.int .u64 (cr:Int)∧e' 9=.int .u64 (p:Int)∧e' 52=vi l.length∧e' 53=vi k∧Cons S T'∧HdOk T' 57 d (wv l2)∧l2.length=l.length∧cr<18446744073709551616∧l2.drop k=l.drop k∧wnum (l2.take k)+2^(64*k)*cr=wnum (l.take k)*p+n0) l.length
    ⟨0,l,n0,by omega,Nat.zero_le _,rfl,rfl,rfl,rfl,rfl,rfl,rfl,hc,hdk,rfl,by omega,rfl,by simp [wnum]⟩ ?_
   clear hdk hc
   rintro j e' T' ⟨k,l2,cr,rfl,hk,e0,e4,e6,e7,e9,e52,e53,hc,hdk,hl2,hcr,hdr,hinv⟩
   refine W.env7 e0 e4 e6 e7 e9 e52 e53 ?_
   clear e0 e4 e6 e7 e9 e52 e53
   refine go ?_
   refine W.ite rfl (fun h=>?_) (fun h=>?_)
   ·have hkl:k<l.length:=by have:=of_decide_eq_true h;omega
    clear h
    obtain⟨b,hb⟩:∃ b,d.a=some b:=by
     cases hda:d.a with
     | some b=>exact⟨b,rfl⟩
     | none=>
      obtain⟨h1,⟨_,h3,_⟩ | ⟨b,r,h2,_⟩⟩:=hdk
      ·omega
      ·rw[hda] at h2;cases h2
    have hbS:=hdn b hb
    have hd3:d=⟨some b,l.length,d.c⟩:=by cases d;simp at hb hdl ⊢;exact⟨hb,hdl⟩
    rw[hd3] at hdk
    obtain⟨r,hr,hro,hrl,hrt⟩:=hdk.row
    have had:d.ad=some ⟨b,0,none⟩:=by rw[hd3];rfl
    rw[had]
    obtain⟨x,hx⟩:∃ x,l2[k]?=some x:=⟨_,List.getElem?_eq_getElem (by omega)⟩
    have hsl:Slv T' 1 (.slice (some ⟨b,0,none⟩) l.length d.c) l.length (wv l2):=hdk.slv
    refine go ?_
    refine L.el hsl (k:=k) rfl (wv_get hx) rfl rfl rfl rfl (fun _=>rfl) rfl (fun _=>go ?_)
    obtain⟨pw,hpw⟩:=word_of (n:=p) hp10
    rw[← hpw]
    refine L.cl (mul64_C x pw T') rfl rfl ?_
    rintro _ T5 ⟨rfl,hT5⟩
    have hT5:=hT5.symm
    subst hT5
    refine⟨nofun,go ?_⟩
    refine L.add64 (a:=(x*pw).toNat) (b:=cr) (c:=0) (by omega) rfl rfl ?_
    have hxp:(x*pw).toNat=x.toNat * p % 18446744073709551616:=by rw[BitVec.toNat_mul,hpw]
    have hhi:(hiW x pw).toNat=x.toNat * p / 18446744073709551616:=by rw[hiW_val,hpw]
    have hxl:=x.isLt
    have hprod:x.toNat * p≤18446744073709551615*p:=Nat.mul_le_mul_right p (by omega)
    obtain⟨XP,hXP⟩:∃ XP,XP=x.toNat * p:=⟨_,rfl⟩
    rw[← hXP] at hxp hhi hprod
    have hnew:(XP+cr) / 18446744073709551616=XP / 18446744073709551616+(XP % 18446744073709551616+cr+0) / 18446744073709551616:=by omega
    have hlo:(XP+cr) % 18446744073709551616=(XP % 18446744073709551616+cr+0) % 18446744073709551616:=by omega
    have hcr2:(XP+cr) / 18446744073709551616<18446744073709551616:=by omega
    rw[hxp]
    refine go ?_
    rw[hhi]
    rw[show IntKind.u64.wrap (((XP / 18446744073709551616:Nat):Int)+(((XP % 18446744073709551616+cr+0) / 18446744073709551616:Nat):Int))=(((XP+cr) / 18446744073709551616:Nat):Int) by rw[wrapU64 (by omega) (by omega)];omega]
    obtain⟨qw,hqw⟩:=word_of (n:=(XP % 18446744073709551616+cr+0) % 18446744073709551616) (Nat.mod_lt _ (by decide))
    rw[← hqw]
    have hst:=short_mul (q:=qw) hkl hl2 hx hdr hinv (by rw[hqw,← hXP,hlo])
    rw[← hXP] at hst
    refine L.elst hr hro (by omega) (k:=k) rfl hkl rfl rfl rfl rfl (fun _=>rfl) (fun _=>rfl) rfl rfl rfl (fun _=>?_)
    have hset:=hdk.set (i:=0+k) (v64 qw) hr
    have hc2:=hc.set b { r with cells:=r.cells.set (0+k) (v64 qw) } hbS
    rw[← hd3,show (wv l2).set (0+k) (v64 qw)=wv (l2.set k qw) by rw[Nat.zero_add];unfold wv;rw[List.map_set]] at hset
    generalize List.set T' b _=T6 at *
    refine go ?_
    refine⟨l.length - (k+1),by omega,k+1,l2.set k qw,(XP+cr) / 18446744073709551616,rfl,by omega,rfl,rfl,rfl,rfl,rfl,rfl,?_,hc2,hset,by rw[List.length_set];exact hl2,hcr2,hst.2,by rw[hpw];exact hst.1⟩
    ·exact congrArg (Value.int .i64) (wrap64 (by omega) (by omega))
   ·have hkl:k=l.length:=by have:=of_decide_eq_false h;omega
    subst hkl
    clear h
    rw[List.take_length,← hl2,List.take_length] at hinv
    refine go ?_
    refine⟨rfl,l2,cr,rfl,rfl,rfl,rfl,hc,hdk,hl2,hcr,?_⟩
    rw[hinv,hlV,wnum_toW]
  clear hdk hc
  rintro _ e' T' ⟨rfl,l2,cr,e0,e4,e6,e7,hc,hdk,hl2,hcr,hsum⟩
  refine W.env4 e0 e4 e6 e7 ?_
  clear e0 e4 e6 e7
  obtain⟨qw,hqw⟩:=word_of (n:=cr) hcr
  have hfin:=short_fin (V:=V) hp1 (by rw[hl2,hlV]) hsum hqw
  rw[← hpart] at hfin
  have hmono:=decN_mono t q hqt
  refine go ?_
  refine W.ite rfl (fun h=>?_) (fun h=>?_)
  ·have hc0:0<cr:=by have:=of_decide_eq_true h;omega
   clear h
   have hl':=hfin.1 hc0
   refine go ?_
   rw[← hqw]
   refine L.pushC (w:=v64 qw) (h:=d) rfl hdk rfl rfl rfl rfl ((force_eq rfl).trans (by unfold Hd.v;rw[hdl];rfl)) (by omega) rfl (fun _=>rfl) ?_
   rintro _ h' T3 u1 u2 uc ⟨b',u3,u5⟩ u4
   have hc3:Cons S T3:=u4.cons0 hc (fun x hx=>hdn x (by simpa using hx))
   rw[show wv l2++[v64 qw]=wv (l2++[qw]) by unfold wv;rw[List.map_append];rfl] at u1
   have hlen':(l2++[qw]).length=h'.n:=by have:=u1.len;rw[wv_len] at this;exact this
   refine go ?_
   rw[← hlen']
   refine W.ite rfl (fun h=>?_) (fun h=>?_)
   ·have hbig:128<((l2++[qw])).length:=by have:=of_decide_eq_true h;omega
    clear h
    have hge:2^8192≤decN 0 (t.take q):=by
     refine Nat.le_of_not_lt fun hlt=>?_
     have:=(toW_len (decN 0 (t.take q)) 128).2 hlt
     rw[hl'] at this
     omega
    rw[if_neg (by omega)] at hE
    subst hE
    refine go ?_
    exact⟨.inr rfl,_,rfl,Hd0,rfl,RetW.nil hc3⟩
   ·have hsm:((l2++[qw])).length≤128:=by have:=of_decide_eq_false h;omega
    clear h
    refine go ?_
    exact⟨t.length - q,by omega,q,h',((l2++[qw])),rfl,hqt,hc3,rfl,rfl,rfl,u1,(fun b hb=>by rw[u3] at hb;cases hb;have:=hc.len;omega),hl'.symm,hsm⟩
  ·have hc0:cr=0:=by have:=of_decide_eq_false h;omega
   clear h
   have hl':=hfin.2 hc0
   have hlen':l2.length=d.n:=by rw[hl2,hdl]
   refine go ?_
   rw[← hl2]
   refine W.ite rfl (fun h=>?_) (fun h=>?_)
   ·have hbig:128<(l2).length:=by have:=of_decide_eq_true h;omega
    clear h
    have hge:2^8192≤decN 0 (t.take q):=by
     refine Nat.le_of_not_lt fun hlt=>?_
     have:=(toW_len (decN 0 (t.take q)) 128).2 hlt
     rw[hl'] at this
     omega
    rw[if_neg (by omega)] at hE
    subst hE
    refine go ?_
    exact⟨.inr rfl,_,rfl,Hd0,rfl,RetW.nil hc⟩
   ·have hsm:(l2).length≤128:=by have:=of_decide_eq_false h;omega
    clear h
    refine go ?_
    exact⟨t.length - q,by omega,q,d,(l2),rfl,hqt,hc,rfl,rfl,rfl,hdk,hdn,hl'.symm,hsm⟩
 ·have hin:i=t.length:=by have:=of_decide_eq_false h;omega
  subst hin
  clear h
  rw[List.take_length] at hlV
  have hNlt:decN 0 t<2^8192:=by
   have:=(toW_len (decN 0 t) 128).1 (by rw[← hlV];exact hl128)
   exact this
  rw[if_pos hNlt] at hE
  subst hE
  have hdv:d.v=.slice d.ad l.length d.c:=by unfold Hd.v;rw[hdl];rfl
  have hw:WIn T d.ad d.c l:=(hdk.wown (N:=0) (fun _ _=>Nat.zero_le _) (by omega)).1.1
  refine go ?_
  refine L.cs (clip_C d.ad d.c l T hw) rfl rfl (go ?_)
  have e0:(if (0:Int)=0 then toW (decN 0 t) else [])=l:=by rw[if_pos rfl,hlV]
  rw[e0]
  cases hda:d.a with
  | none=>
   have hl0:l=[]:=by
    obtain⟨h1,⟨_,h3,_⟩ | ⟨b,r,h2,_⟩⟩:=hdk
    ·exact List.length_eq_zero_iff.1 (by omega)
    ·rw[hda] at h2;cases h2
   subst hl0
   refine⟨.inr rfl,_,rfl,Hd0,?_,RetW.nil hc⟩
   unfold Hd.ad
   rw[hda]
   rfl
  | some b=>
   have hd3:d=⟨some b,l.length,d.c⟩:=by cases d;simp at hda hdl ⊢;exact⟨hda,hdl⟩
   rw[hd3] at hdk
   obtain⟨r,hr,hro,hrl,hrt⟩:=hdk.row
   refine⟨.inr rfl,_,rfl,⟨some b,l.length,l.length⟩,?_,hc,by omega,HdOk.full hr hro (wv_len l) hrt (by unfold UNK;omega),fun x hx=>by cases hx;exact hdn b hda⟩
   unfold Hd.ad
   rw[hda]
   rfl
end
section
open Go
def HC (l:WL) (V:Nat):Prop:=hnum l=V∧Small32 l∧(l.length=0∨2^(32*(l.length - 1))≤V)
theorem HC.big {l:WL} {V:Nat} (h:HC l V):256<l.length↔2^8192≤V:=by
 constructor
 ·intro hl
  rcases h.2.2 with h0 | h0
  ·omega
  ·exact Nat.le_trans (Nat.pow_le_pow_right (by decide) (by omega)) h0
 ·intro hV
  refine Nat.lt_of_not_le fun hl=>?_
  have h1:=hnum_lt h.2.1
  rw[h.1] at h1
  have h2:(2:Nat)^(32*l.length)≤2^8192:=Nat.pow_le_pow_right (by decide) (by omega)
  omega
theorem half_mul {l l2:WL} {k n0 cr:Nat} {x q:BitVec 64} (hk:k<l.length) (hll:l2.length=l.length) (hx:l2[k]?=some x) (hd:l2.drop k=l.drop k) (hinv:hnum (l2.take k)+2^(32*k)*cr=hnum (l.take k)*10+n0) (hq:q.toNat=(x.toNat * 10+cr) % 4294967296) :
  hnum ((l2.set k q).take (k+1))+2^(32*(k+1))*((x.toNat * 10+cr) / 4294967296)=hnum (l.take (k+1))*10+n0∧(l2.set k q).drop (k+1)=l.drop (k+1):=by
 have hx2:l[k]?=some x:=by
  have h1:(l2.drop k)[0]?=some x:=by rw[List.getElem?_drop,Nat.add_zero];exact hx
  rw[hd,List.getElem?_drop,Nat.add_zero] at h1
  exact h1
 have h1:=hnum_take_succ (l:=l2.set k q) (i:=k) (x:=q) (by rw[List.getElem?_set_self (by omega)])
 have h2:=hnum_take_succ hx2
 rw[List.take_set_of_le (Nat.le_refl k)] at h1
 constructor
 ·rw[h1,h2,hq]
  have e:2^(32*(k+1))=2^(32*k)*4294967296:=by rw[Nat.mul_add,Nat.pow_add]
  have hdm:=Nat.div_add_mod (x.toNat * 10+cr) 4294967296
  rw[e,Nat.add_mul (hnum (l.take k)),Nat.mul_assoc,Nat.mul_assoc]
  have h5:2^(32*k)*((x.toNat * 10+cr) % 4294967296)+2^(32*k)*(4294967296*((x.toNat * 10+cr) / 4294967296))=2^(32*k)*(x.toNat * 10)+2^(32*k)*cr:=by
   rw[← Nat.mul_add,← Nat.mul_add,Nat.add_comm ((x.toNat * 10+cr) % _),hdm]
  omega
 ·rw[List.drop_set_of_lt (by omega),← List.drop_drop,← List.drop_drop,hd]
theorem half_fin {V n0 cr:Nat} {l l2:WL} {q:BitVec 64} (hV:HC l V) (hl:l2.length=l.length) (hs:Small32 l2) (h:hnum l2+2^(32*l2.length)*cr=V*10+n0) (hq:q.toNat=cr) (hcr:cr<4294967296):(0<cr→HC (l2++[q]) (V*10+n0))∧(cr=0→HC l2 (V*10+n0)):=by
 constructor
 ·intro hc
  refine⟨by rw[hnum_snoc,hq,h],fun x hx=>?_,.inr ?_⟩
  ·rcases List.mem_append.1 hx with h1 | h1
   ·exact hs x h1
   ·rw[List.mem_singleton] at h1;rw[h1,hq];exact hcr
  ·rw[List.length_append,List.length_singleton,Nat.add_sub_cancel,← h]
   have:=Nat.mul_le_mul_left (2^(32*l2.length)) hc
   omega
 ·intro hc
  subst hc
  rw[Nat.mul_zero,Nat.add_zero] at h
  refine⟨h,hs,?_⟩
  rcases hV.2.2 with h0 | h0
  ·exact .inl (by omega)
  ·right
   rw[hl]
   omega
end
section
open Go
variable {Ext:FuncId→List Value→Mem→Outc→Mem→Prop}
theorem hc_nil:HC [] 0:=⟨rfl,fun x hx=>by simp at hx,.inl rfl⟩
theorem half_len256 {l:WL} {V:Nat} (h:HC l V) (hl:l.length≤256):V<2^8192:=Nat.lt_of_not_le fun hc=>by
 have:=h.big.2 hc
 omega
theorem nilP (S:Mem):WIn S none 0 []:=⟨Slv.nil _ _ _ _,by decide,fun _=>rfl,by decide⟩
theorem pParse_C (s:BL) (S:Mem) (hl:s.length<1000000000) :
  C Tryz.prog gN Ext 82 [.string (strB s)] S fun v S'=>∃ a c,v=.tuple #[.slice a (prsL s).length c,.int .i64 (prsE s)]∧Cons S S'∧WIn S' a c (prsL s):=by
 refine C.fn Tryz.func82 rfl (by kernel_rfl) rfl ?_
 obtain⟨E,hE⟩:∃ E,prsE s=E:=⟨_,rfl⟩
 have hL:prsL s=if E=0 then toW (decN 0 s) else []:=by unfold prsL;rw[hE]
 rw[hE,hL]
 unfold prsE at hE
 refine go ?_
 refine L.tlen rfl rfl rfl rfl (go ?_)
 refine W.ite rfl (fun h=>?_) (fun h=>?_)
 ·have:=of_decide_eq_true h
  rw[if_pos (by omega)] at hE
  subst hE
  clear h
  refine go ?_
  exact⟨.inr rfl,_,rfl,none,0,rfl,Cons.refl _,nilP _⟩
 rw[if_neg (by have:=of_decide_eq_false h;omega)] at hE
 clear h
 refine go ?_
 refine L.tlen rfl rfl rfl rfl (go ?_)
 refine W.ite rfl (fun h=>?_) (fun h=>?_)
 ·have h0:(s.length:Int)=0:=of_decide_eq_true h
  rw[if_pos (.inl (List.length_eq_zero_iff.1 (by omega)))] at hE
  subst hE
  clear h
  refine go ?_
  exact⟨.inr rfl,_,rfl,none,0,rfl,Cons.refl _,nilP _⟩
 have hs0:s≠[]:=fun hc=>by
  have h0:¬ (s.length:Int)=0:=of_decide_eq_false h
  subst hc
  exact h0 rfl
 clear h
 refine go ?_
 refine W.mono (R:=fun q e T=>(q=.exit 0∧T=S∧e 0=.string (strB s)∧∀ x∈s,isDig x)∨(q=.ret∧T=S∧e 2=.slice none 0 0∧e 3=.int .i64 12∧¬ ∀ x∈s,isDig x)) ?_ ?_
 ·refine W.loop (fun j e T=>∃ i:Nat,j=s.length - i∧i≤s.length∧T=S∧e 0=.string (strB s)∧e 4=vi i∧∀ k x,k<i→s[k]?=some x→isDig x) s.length
   ⟨0,rfl,Nat.zero_le _,rfl,rfl,rfl,fun k x hk=>by omega⟩ ?_
  rintro j e T ⟨i,rfl,hi,hT,e0,e4,hd⟩
  have hT:=hT.symm
  subst hT
  refine W.env2 e0 e4 ?_
  clear e0 e4
  refine go ?_
  refine L.tlen rfl rfl rfl rfl (go ?_)
  refine W.ite rfl (fun h=>?_) (fun h=>?_)
  ·have hil:i<s.length:=by have:=of_decide_eq_true h;omega
   clear h
   obtain⟨x,hx⟩:∃ x,s[i]?=some x:=⟨_,List.getElem?_eq_getElem hil⟩
   refine go ?_
   refine L.sB (l:=s) (i:=i) (b:=x) rfl rfl hx rfl rfl (go ?_)
   cases h48:decide ((x.toNat:Int)<48)
   ·have h48':=of_decide_eq_false h48
    refine go ?_
    refine L.sB (l:=s) (i:=i) (b:=x) rfl rfl hx rfl rfl (go ?_)
    refine W.ite rfl (fun h=>?_) (fun h=>?_)
    ·have:=of_decide_eq_true h
     refine go ?_
     exact .inr ⟨rfl,rfl,rfl,rfl,fun hc=>by have:=hc x (List.mem_of_getElem? hx);unfold isDig at this;omega⟩
    ·have:=of_decide_eq_false h
     clear h
     refine go ?_
     refine⟨s.length - (i+1),by omega,i+1,rfl,by omega,rfl,rfl,congrArg (Value.int .i64) (wrap64 (by omega) (by omega)),fun k y hk hy=>?_⟩
     by_cases hki:k=i
     ·subst hki
      rw[hx] at hy
      cases hy
      unfold isDig
      omega
     ·exact hd k y (by omega) hy
   ·have h48':=of_decide_eq_true h48
    refine go ?_
    refine W.ite rfl (fun h=>?_) (fun h=>?_)
    ·refine go ?_
     exact .inr ⟨rfl,rfl,rfl,rfl,fun hc=>by have:=hc x (List.mem_of_getElem? hx);unfold isDig at this;omega⟩
    ·cases h
  ·have hil:i=s.length:=by have:=of_decide_eq_false h;omega
   subst hil
   clear h
   refine go ?_
   refine .inl ⟨rfl,rfl,rfl,fun x hx=>?_⟩
   obtain⟨k,hk,rfl⟩:=List.mem_iff_getElem.1 hx
   exact hd k _ hk (List.getElem?_eq_getElem hk)
 rintro q e T (⟨rfl,hT,e0,hd⟩ | ⟨rfl,hT,e2,e3,hd⟩)
 rotate_left
 ·have hT:=hT.symm
  subst hT
  rw[if_pos (.inr hd)] at hE
  subst hE
  refine⟨.inr rfl,.tuple #[e 2,e 3],rfl,none,0,?_,Cons.refl _,nilP _⟩
  rw[e2,e3]
  rfl
 have hT:=hT.symm
 subst hT
 rw[if_neg (fun h=>h.elim hs0 (fun h=>h hd))] at hE
 refine W.env e0 ?_
 clear e0
 refine go ?_
 refine W.loop (fun j e T=>∃ (i:Nat) (d:Hd) (l:WL),j=s.length - i∧i≤s.length∧Cons S T∧e 0=.string (strB s)∧e 5=.slice d.ad l.length d.c∧e 6=vi i∧HdOk T 57 d (wv l)∧(∀ b,d.a=some b→S.length≤b)∧HC l (decN 0 (s.take i))∧l.length≤256) s.length
  ⟨0,Hd0,[],by omega,by omega,Cons.refl _,rfl,rfl,rfl,HdOk.nil _ _,nofun,by rw[List.take_zero];exact hc_nil,by decide⟩ ?_
 rintro j e T ⟨i,d,l,rfl,hi,hc,e0,e5,e6,hdk,hdn,hlV,hl256⟩
 refine W.env3 e0 e5 e6 ?_
 clear e0 e5 e6
 have hdl:d.n=l.length:=by have:=hdk.len;rw[wv_len] at this;omega
 refine go ?_
 refine L.tlen rfl rfl rfl rfl (go ?_)
 refine W.ite rfl (fun h=>?_) (fun h=>?_)
 ·have hin:i<s.length:=by have:=of_decide_eq_true h;omega
  clear h
  obtain⟨y,hy⟩:∃ y,s[i]?=some y:=⟨_,List.getElem?_eq_getElem hin⟩
  have hyd:=hd y (List.mem_of_getElem? hy)
  unfold isDig at hyd
  obtain⟨n0,hn0⟩:∃ n0,n0=y.toNat - 48:=⟨_,rfl⟩
  have hstep:decN 0 (s.take (i+1))=decN 0 (s.take i)*10+n0:=by
   rw[List.take_add_one,hy]
   show decN 0 (s.take i++[y])=_
   rw[decN_snoc,hn0]
  refine go ?_
  refine L.sB (l:=s) (i:=i) (b:=y) rfl rfl hy rfl rfl (go ?_)
  rw[show IntKind.u64.wrap (IntKind.u8.wrap ((y.toNat:Int) - 48))=(n0:Int) by rw[wrapU8 (by omega) (by omega),wrapU64 (by omega) (by omega)];omega]
  generalize hV:decN 0 (s.take i)=V at *
  refine W.mono (R:=fun q e' T'=>q=.exit 4∧∃ (l2:WL) (cr:Nat),e' 0=.string (strB s)∧e' 5=.slice d.ad l.length d.c∧e' 6=vi i∧e' 7=.int .u64 (cr:Int)∧Cons S T'∧HdOk T' 57 d (wv l2)∧l2.length=l.length∧cr<10∧Small32 l2∧hnum l2+2^(32*l2.length)*cr=V*10+n0) ?_ ?_
  ·refine W.loop (fun j e' T'=>∃ (k:Nat) (l2:WL) (cr:Nat),j=l.length - k∧k≤l.length∧e' 0=.string (strB s)∧e' 5=.slice d.ad l.length d.c∧e' 6=vi i∧e' 7=.int .u64 (cr:Int)∧e' 8=vi k∧Cons S T'∧HdOk T' 57 d (wv l2)∧l2.length=l.length∧cr<10∧Small32 l2∧l2.drop k=l.drop k∧hnum (l2.take k)+2^(32*k)*cr=hnum (l.take k)*10+n0) l.length
    ⟨0,l,n0,by omega,Nat.zero_le _,rfl,rfl,rfl,rfl,rfl,hc,hdk,rfl,by omega,hlV.2.1,rfl,by simp [hnum]⟩ ?_
   clear hdk hc
   rintro j e' T' ⟨k,l2,cr,rfl,hk,e0,e5,e6,e7,e8,hc,hdk,hl2,hcr,hs2,hdr,hinv⟩
   refine W.env5 e0 e5 e6 e7 e8 ?_
   clear e0 e5 e6 e7 e8
   refine go ?_
   refine W.ite rfl (fun h=>?_) (fun h=>?_)
   ·have hkl:k<l.length:=by have:=of_decide_eq_true h;omega
    clear h
    obtain⟨b,hb⟩:∃ b,d.a=some b:=by
     cases hda:d.a with
     | some b=>exact⟨b,rfl⟩
     | none=>
      obtain⟨h1,⟨_,h3,_⟩ | ⟨b,r,h2,_⟩⟩:=hdk
      ·omega
      ·rw[hda] at h2;cases h2
    have hbS:=hdn b hb
    have hd3:d=⟨some b,l.length,d.c⟩:=by cases d;simp at hb hdl ⊢;exact⟨hb,hdl⟩
    rw[hd3] at hdk
    obtain⟨r,hr,hro,hrl,hrt⟩:=hdk.row
    have had:d.ad=some ⟨b,0,none⟩:=by rw[hd3];rfl
    rw[had]
    obtain⟨x,hx⟩:∃ x,l2[k]?=some x:=⟨_,List.getElem?_eq_getElem (by omega)⟩
    have hxl:=small32_get hs2 hx
    have hsl:Slv T' 1 (.slice (some ⟨b,0,none⟩) l.length d.c) l.length (wv l2):=hdk.slv
    obtain⟨q,hq⟩:∃ q,q=x.toNat * 10+cr:=⟨_,rfl⟩
    have hw1:IntKind.u64.wrap (IntKind.u64.wrap ((x.toNat:Int)*10)+(cr:Int))=(q:Int):=by
     rw[wrapU64 (x:=(x.toNat:Int)*10) (by omega) (by omega),wrapU64 (by omega) (by omega)]
     omega
    have hql:q<18446744073709551616:=by omega
    obtain⟨rw_,hrw⟩:=word32 q
    have hst:=half_mul (q:=rw_) hkl hl2 hx hdr hinv (by rw[hrw,hq])
    refine go ?_
    refine L.el hsl (k:=k) rfl (wv_get hx) rfl rfl rfl rfl (fun _=>rfl) rfl (fun p=>go ?_)
    rw[hw1]
    rw[andLo hql,← hrw]
    refine L.elst hr hro (by omega) (k:=k) rfl hkl rfl rfl rfl rfl (fun _=>rfl) (fun _=>rfl) rfl rfl rfl (fun _=>?_)
    have hset:=hdk.set (i:=0+k) (v64 rw_) hr
    have hc2:=hc.set b { r with cells:=r.cells.set (0+k) (v64 rw_) } hbS
    rw[← hd3,show (wv l2).set (0+k) (v64 rw_)=wv (l2.set k rw_) by rw[Nat.zero_add];unfold wv;rw[List.map_set]] at hset
    generalize List.set T' b _=T6 at *
    refine go ?_
    refine⟨l.length - (k+1),by omega,k+1,l2.set k rw_,q / 4294967296,rfl,by omega,rfl,rfl,rfl,(force_eq rfl).trans (congrArg (Value.int .u64) (shrHi q)),congrArg (Value.int .i64) (wrap64 (by omega) (by omega)),hc2,hset,by rw[List.length_set];exact hl2,by omega,small32_set hs2 (by omega),hst.2,by rw[hq];exact hst.1⟩
   ·have hkl:k=l.length:=by have:=of_decide_eq_false h;omega
    subst hkl
    clear h
    rw[List.take_length,← hl2,List.take_length] at hinv
    refine go ?_
    refine⟨rfl,l2,cr,rfl,rfl,rfl,rfl,hc,hdk,hl2,hcr,hs2,?_⟩
    rw[hinv,hlV.1]
  clear hdk hc
  rintro _ e' T' ⟨rfl,l2,cr,e0,e5,e6,e7,hc,hdk,hl2,hcr,hs2,hsum⟩
  refine W.env4 e0 e5 e6 e7 ?_
  clear e0 e5 e6 e7
  obtain⟨qw,hqw⟩:=word_of (n:=cr) (by omega)
  have hfin:=half_fin hlV hl2 hs2 hsum hqw (by omega)
  rw[← hstep] at hfin
  refine go ?_
  refine W.ite rfl (fun h=>?_) (fun h=>?_)
  ·have hc0:0<cr:=by have:=of_decide_eq_true h;omega
   clear h
   replace hfin:=hfin.1 hc0
   refine go ?_
   rw[← hqw]
   refine L.pushC (w:=v64 qw) (h:=d) rfl hdk rfl rfl rfl rfl ((force_eq rfl).trans (by unfold Hd.v;rw[hdl];rfl)) (by omega) rfl (fun _=>rfl) ?_
   rintro _ h' T3 u1 u2 uc ⟨b',u3,u5⟩ u4
   have hc3:Cons S T3:=u4.cons0 hc (fun x hx=>hdn x (by simpa using hx))
   rw[show wv l2++[v64 qw]=wv (l2++[qw]) by unfold wv;rw[List.map_append];rfl] at u1
   have hlen':(l2++[qw]).length=h'.n:=by have:=u1.len;rw[wv_len] at this;exact this
   refine go ?_
   rw[← hlen']
   refine W.ite rfl (fun h=>?_) (fun h=>?_)
   ·have hbig:256<((l2++[qw])).length:=by have:=of_decide_eq_true h;omega
    clear h
    have hge:=hfin.big.1 hbig
    have hge2:=decN_mono s (i+1) (by omega)
    rw[if_neg (by omega)] at hE
    subst hE
    refine go ?_
    exact⟨.inr rfl,_,rfl,none,0,rfl,hc3,nilP _⟩
   ·have hsm:((l2++[qw])).length≤256:=by have:=of_decide_eq_false h;omega
    clear h
    refine go ?_
    refine⟨s.length - (i+1),by omega,i+1,h',(l2++[qw]),rfl,by omega,hc3,rfl,rfl,congrArg (Value.int .i64) (wrap64 (by omega) (by omega)),u1,(fun b hb=>by rw[u3] at hb;cases hb;have:=hc.len;omega),hfin,hsm⟩
  ·have hc0:cr=0:=by have:=of_decide_eq_false h;omega
   clear h
   replace hfin:=hfin.2 hc0
   have hlen':l2.length=d.n:=by rw[hl2,hdl]
   refine go ?_
   rw[← hl2]
   refine W.ite rfl (fun h=>?_) (fun h=>?_)
   ·have hbig:256<(l2).length:=by have:=of_decide_eq_true h;omega
    clear h
    have hge:=hfin.big.1 hbig
    have hge2:=decN_mono s (i+1) (by omega)
    rw[if_neg (by omega)] at hE
    subst hE
    refine go ?_
    exact⟨.inr rfl,_,rfl,none,0,rfl,hc,nilP _⟩
   ·have hsm:(l2).length≤256:=by have:=of_decide_eq_false h;omega
    clear h
    refine go ?_
    refine⟨s.length - (i+1),by omega,i+1,d,l2,rfl,by omega,hc,rfl,rfl,congrArg (Value.int .i64) (wrap64 (by omega) (by omega)),hdk,hdn,hfin,hsm⟩
 ·have hin:i=s.length:=by have:=of_decide_eq_false h;omega
  subst hin
  clear h
  rw[List.take_length] at hlV
  have hNlt:=half_len256 hlV hl256
  rw[if_pos hNlt] at hE
  subst hE
  rw[if_pos rfl]
  have hw:WIn T d.ad d.c l:=(hdk.wown (N:=0) (fun _ _=>Nat.zero_le _) (by omega)).1.1
  refine go ?_
  refine L.cl (limbsN_C d.ad d.c l T hw hlV.2.1 (by omega)) rfl rfl ?_
  rintro _ T' ⟨k',a9,c9,rfl,w9⟩
  refine⟨fun _=>k',?_⟩
  rw[hlV.1] at w9 ⊢
  refine go ?_
  exact⟨.inr rfl,_,rfl,a9,c9,rfl,hc.trans k',w9⟩
end
section
open Go Ie
variable {G:Nat} {Ext:FuncId→List Value→Mem→Outc→Mem→Prop}
theorem orHi {r x:Nat} (hr:r<4294967296) (hx:x<4294967296):IntKind.u64.wrap ((BitVec.ofInt IntKind.u64.bits (IntKind.u64.wrap ((r:Int)*2^min (Int.toNat 32) IntKind.u64.bits)) ||| BitVec.ofInt IntKind.u64.bits (x:Int)).toNat:Int)=((r*4294967296+x:Nat):Int):=by
 rw[show min (Int.toNat 32) IntKind.u64.bits=32 from rfl,shl_nat]
 rw[Nat.mod_eq_of_lt (by omega),or_nat (by omega) (by omega)]
 congr 1
 have:=Nat.two_pow_add_eq_or_of_lt (i:=32) (b:=x) (by omega) r
 rw[Nat.mul_comm r,show (2:Nat)^32=4294967296 from rfl] at *
 exact this.symm
theorem nine_step {h q:WL} {i r:Nat} {x y:BitVec 64} (hx:h[i]?=some x) (hy:y.toNat=(r*4294967296+x.toNat) / 1000000000) (e:hnum (h.drop (i+1))=1000000000*hnum q.reverse+r) :
  hnum (h.drop i)=1000000000*hnum (q++[y]).reverse+(r*4294967296+x.toNat) % 1000000000:=by
 have hlt:=(List.getElem?_eq_some_iff.1 hx).1
 have hd:h.drop i=x :: h.drop (i+1):=by
  rw[List.drop_eq_getElem_cons hlt,(List.getElem?_eq_some_iff.1 hx).2]
 rw[hd,List.reverse_append,List.reverse_singleton,List.singleton_append,hnum,hnum,e,hy]
 have:=Nat.div_add_mod (r*4294967296+x.toNat) 1000000000
 omega
def DigI (N M:Nat) (d:BL):Prop:=dec N=(if M=0 then [] else dec M)++d
def partD (M:Nat):BL:=if M<1000000000 then dec M else pad 9 M
theorem DigI.step {N M:Nat} {d:BL} (h:DigI N M d) (hM:0<M):DigI N (M / 1000000000) (partD M++d):=by
 unfold DigI at h ⊢
 rw[if_neg (by omega)] at h
 rw[h,← List.append_assoc]
 congr 1
 unfold partD
 by_cases hl:M<1000000000
 ·rw[if_pos hl,if_pos (by omega),List.nil_append]
 ·rw[if_neg hl,if_neg (by omega)]
  exact dec_split (k:=9) (n:=M) (by omega)
theorem part_end {M i:Nat} (hM:0<M) (hi:i≤9) (hp:i=0∨0<M / 1000000000∨10^(i - 1)≤M % 1000000000) (he:i=9∨(M / 1000000000=0∧M % 1000000000 / 10^i=0)):pad i (M % 1000000000)=partD M:=by
 unfold partD
 by_cases hl:M<1000000000
 ·rw[if_pos hl]
  have hm:M % 1000000000=M:=Nat.mod_eq_of_lt hl
  have h0:M / 1000000000=0:=Nat.div_eq_of_lt hl
  rw[hm] at hp he ⊢
  have hi0:i≠0:=by
   intro e
   rcases he with he | ⟨_,he⟩
   ·omega
   ·rw[e,Nat.pow_zero,Nat.div_one] at he;omega
  obtain⟨k,rfl⟩:∃ k,i=k+1:=⟨i - 1,by omega⟩
  refine(dec_pad ?_ ?_).symm
  ·rcases he with he | ⟨_,he⟩
   ·rw[he];exact hl
   ·exact(Nat.div_eq_zero_iff_lt (Nat.pow_pos (by decide))).1 he
  ·rcases hp with hp | hp | hp
   ·omega
   ·omega
   ·exact .inr hp
 ·rw[if_neg hl]
  have h0:M / 1000000000≠0:=by omega
  have h9:i=9:=by
   rcases he with he | ⟨he,_⟩
   ·exact he
   ·exact absurd he h0
  subst h9
  exact pad_mod 9 M
theorem digW (n:Nat):IntKind.u8.wrap (IntKind.u64.wrap (48+((n % 10:Nat):Int)))=((48+n % 10:Nat):Int):=by
 have h:∀ n:Fin 10,IntKind.u8.wrap (IntKind.u64.wrap (48+(n.val:Int)))=((48+n.val:Nat):Int):=by decide +kernel
 exact h ⟨n % 10,Nat.mod_lt _ (by decide)⟩
theorem dec_size {n b:Nat} (h:n<2^b):(dec n).length≤b+1:=by
 obtain⟨k,k1,k2,k3,k4⟩:=dec_of_len (n:=n)
 rw[k1]
 rcases k3 with rfl | k3
 ·omega
 ·have h1:2^k≤10^k:=Nat.pow_le_pow_left (by decide) k
  have h2:k<b:=(Nat.pow_lt_pow_iff_right (by decide)).1 (Nat.lt_of_le_of_lt (Nat.le_trans h1 k3) h)
  omega
theorem refDigits_C (a:Option Addr) (c:Nat) (l:WL) (S:Mem) (hI:WIn S a c l) (hlen:l.length<400000) :
  C Tryz.prog G Ext 124 [.slice a l.length c] S fun v S'=>v=.string (strB (dec (wnum l)))∧Cons S S':=by
 refine C.fn Tryz.func124 rfl (by kernel_rfl) rfl (go ?_)
 refine L.cl (halvesN_C a c l S hI (by omega)) rfl rfl ?_
 rintro _ S1 ⟨f,⟨k1,a1,c1,rfl,i1⟩,o1,e1,q1⟩
 refine⟨fun _=>k1,go ?_⟩
 refine W.ite rfl (fun h=>?_) (fun h=>?_)
 ·have h0:f=[]:=List.length_eq_zero_iff.1 (by have:=of_decide_eq_true h;omega)
  subst h0
  clear h
  have hN:wnum l=0:=e1.symm
  have hz:(⟨#[48]⟩:ByteArray)=strB (dec 0):=by rw[dec_small (by decide)];rfl
  rw[hN,← hz]
  refine go ?_
  exact⟨.inr rfl,_,rfl,rfl,k1⟩
 have hf0:f≠[]:=by
  rintro rfl
  cases h
 clear h
 have hfp:0<hnum f:=half_pos o1 (List.length_pos_iff.2 hf0)
 have hI0:DigI (wnum l) (hnum f) []:=by
  unfold DigI
  rw[if_neg (by omega),e1,List.append_nil]
 refine go ?_
 refine W.loop (fun j e T=>∃ (g:WL) (ag:Option Addr) (cg:Nat) (d:BL),j=hnum g∧g.length<1000000∧Cons S T∧e 3=.slice ag g.length cg∧e 4=.string (strB d)∧WIn T ag cg g∧HalfOk g∧DigI (wnum l) (hnum g) d) (hnum f)
  ⟨f,a1,c1,[],rfl,by omega,k1,rfl,rfl,i1,o1,hI0⟩ ?_
 rintro j e T ⟨g,ag,cg,d,rfl,hgl,hc,e3,e4,hg,og,hd⟩
 refine W.env2 e3 e4 (go ?_)
 refine W.ite rfl (fun h=>?_) (fun h=>?_)
 ·have hlp:0<g.length:=by have:=of_decide_eq_true h;omega
  clear h
  have hgp:=half_pos og hlp
  refine go ?_
  refine W.loop (fun i e T'=>∃ (q:WL) (a6:Option Addr) (c6 r:Nat),i≤g.length∧Cons T T'∧e 3=.slice ag g.length cg∧e 4=.string (strB d)∧e 5=.int .u64 (r:Int)∧e 6=.slice a6 q.length c6∧e 7=.int .i64 ((i:Int) - 1)∧Grow T.length T' 57 1 (.slice a6 q.length c6) q.length (wv q)∧q.length=g.length - i∧Small32 q∧r<1000000000∧hnum (g.drop i)=1000000000*hnum q.reverse+r) g.length
   ⟨[],none,0,0,Nat.le_refl _,Cons.refl _,rfl,rfl,rfl,rfl,congrArg (Value.int .i64) (wrap64 (by omega) (by omega)),Grow.nil _ _ _ _,by simp,(fun x hx=>by simp at hx),by decide,by rw[List.drop_length];rfl⟩ ?_
  rintro i e T' ⟨q,a6,c6,r,hi,hk,e3,e4,e5,e6,e7,hq,hql,hqs,hr,hv⟩
  refine W.env5 e3 e4 e5 e6 e7 (go ?_)
  refine W.ite rfl (fun h=>?_) (fun h=>?_)
  ·have hi1:1≤i:=by have:=of_decide_eq_true h;omega
   clear h
   obtain⟨j,rfl⟩:∃ j,i=j+1:=⟨i - 1,by omega⟩
   have hm:(((j+1:Nat):Int) - 1)=(j:Int):=by omega
   rw[hm]
   obtain⟨x,hx⟩:∃ x,g[j]?=some x:=⟨_,List.getElem?_eq_getElem (by omega)⟩
   have hxl:=small32_get og.1 hx
   obtain⟨y,hy⟩:=word_of (n:=(r*4294967296+x.toNat) / 1000000000) (by omega)
   have hst:=nine_step hx hy hv
   refine go ?_
   refine L.el (hg.cons hk).1 (k:=j) rfl (wv_get hx) rfl rfl rfl rfl (fun _=>rfl) rfl (fun p=>go ?_)
   rw[orHi (by omega) hxl]
   have hwq:IntKind.u64.wrap (Int.tdiv ((r*4294967296+x.toNat:Nat):Int) 1000000000)=((y.toNat:Nat):Int):=by
    rw[show Int.tdiv ((r*4294967296+x.toNat:Nat):Int) 1000000000=(((r*4294967296+x.toNat) / 1000000000:Nat):Int) from (Int.ofNat_tdiv _ 1000000000).symm,← hy,wrapU64 (by omega) (by have:=y.isLt;omega)]
   have hyl:y.toNat<4294967296:=by rw[hy];omega
   rw[hwq]
   refine L.push1 (w:=v64 y) rfl hk.len (.inl hq) rfl rfl rfl rfl rfl (by omega) rfl (fun _=>rfl) (fun p a7 c7 T2 h2 h3 h4=>go ?_)
   refine⟨j,by omega,q++[y],a7,c7,(r*4294967296+x.toNat) % 1000000000,by omega,hk.trans' h4,rfl,rfl,?_,by rw[List.length_append];rfl,congrArg (Value.int .i64) (wrap64 (by omega) (by omega)),by rw[List.length_append,wv,List.map_append];exact h2,by rw[List.length_append,hql];show _+1=_;omega,small32_snoc hqs hyl,Nat.mod_lt _ (by decide),hst⟩
   refine(force_eq rfl).trans (congrArg (Value.int .u64) ?_)
   exact(Int.ofNat_tmod _ 1000000000).symm
  ·have hi0:i=0:=by have:=of_decide_eq_false h;omega
   subst hi0
   clear h
   rw[List.drop_zero] at hv
   have hwq:WIn T' a6 c6 q:=grow_win hq (by omega)
   have hM1:hnum g / 1000000000=hnum q.reverse:=by omega
   have hM2:hnum g % 1000000000=r:=by omega
   refine go ?_
   refine W.loop (fun i e T2=>∃ (a9:Option Addr) (c9:Nat),i≤q.length∧Cons T' T2∧e 4=.string (strB d)∧e 5=.int .u64 (r:Int)∧e 6=.slice a6 q.length c6∧e 9=.slice a9 (q.length - i) c9∧e 10=.int .i64 ((i:Int) - 1)∧Grow T'.length T2 57 1 (.slice a9 (q.length - i) c9) (q.length - i) (wv (q.reverse.take (q.length - i)))) q.length
    ⟨none,0,Nat.le_refl _,Cons.refl _,rfl,rfl,rfl,by rw[Nat.sub_self];rfl,congrArg (Value.int .i64) (wrap64 (by omega) (by omega)),by rw[Nat.sub_self];exact Grow.nil _ _ _ _⟩ ?_
   rintro i e T2 ⟨a9,c9,hi,hk2,e4,e5,e6,e9,e10,hg9⟩
   refine W.env5 e4 e5 e6 e9 e10 (go ?_)
   refine W.ite rfl (fun h=>?_) (fun h=>?_)
   ·have hi1:1≤i:=by have:=of_decide_eq_true h;omega
    clear h
    obtain⟨j,rfl⟩:∃ j,i=j+1:=⟨i - 1,by omega⟩
    have hm:(((j+1:Nat):Int) - 1)=(j:Int):=by omega
    rw[hm]
    obtain⟨x,hx⟩:∃ x,q[j]?=some x:=⟨_,List.getElem?_eq_getElem (by omega)⟩
    have hxr:q.reverse[q.length - (j+1)]?=some x:=by
     rw[List.getElem?_reverse (by omega),← hx]
     congr 1
     omega
    refine go ?_
    refine L.el (hwq.cons hk2).1 (k:=j) rfl (wv_get hx) rfl rfl rfl rfl (fun _=>rfl) rfl (fun p=>?_)
    refine L.push1 (w:=v64 x) rfl hk2.len (.inl hg9) rfl rfl rfl rfl rfl (by omega) rfl (fun _=>rfl) (fun p a7 c7 T3 h2 h3 h4=>go ?_)
    have hs:q.length - j=q.length - (j+1)+1:=by omega
    refine⟨j,by omega,a7,c7,by omega,hk2.trans' h4,rfl,rfl,rfl,by rw[hs];rfl,congrArg (Value.int .i64) (wrap64 (by omega) (by omega)),?_⟩
    rw[hs,List.take_add_one,hxr,wv,List.map_append]
    exact h2
   ·have hi0:i=0:=by have:=of_decide_eq_false h;omega
    subst hi0
    clear h
    rw[Nat.sub_zero,List.take_of_length_le (by rw[List.length_reverse];exact Nat.le_refl _)] at hg9
    rw[Nat.sub_zero]
    have hW:WIn T2 a9 c9 q.reverse:=grow_win (by rw[List.length_reverse];exact hg9) (by rw[List.length_reverse];omega)
    refine go ?_
    refine L.cl (strip_C a9 c9 q.reverse T2 hW) rfl (by rw[List.length_reverse];rfl) ?_
    rintro _ _ ⟨rfl,rfl⟩
    refine⟨nofun,go ?_⟩
    rename Mem=>T2
    have hF:WIn T2 a9 c9 (fm q.reverse):=hW.form
    have hFok:HalfOk (fm q.reverse):=HalfOk.form (fun x hx=>hqs x (List.mem_reverse.1 hx))
    have hFn:hnum (fm q.reverse)=hnum g / 1000000000:=by rw[hnum_form];exact hM1.symm
    have hFl:(fm q.reverse).length≤g.length:=by
     have:=toW_len_le q.reverse
     rw[List.length_reverse] at this
     exact Nat.le_trans this (by omega)
    have hF0:(fm q.reverse).length=0↔hnum g / 1000000000=0:=by
     rw[← hFn]
     constructor
     ·intro e;rw[List.length_eq_zero_iff.1 e];rfl
     ·intro e;rw[half_zero hFok e];rfl
    generalize fm q.reverse=F at *
    clear hW hg9 hv hq hwq hqs hql e9 e10 hi e6
    refine W.loop (fun j e T3=>∃ i:Nat,j=9 - i∧i≤9∧Cons T2 T3∧e 3=.slice a9 F.length c9∧e 4=.string (strB d)∧e 5=.int .u64 ((r / 10^i:Nat):Int)∧e 11=.string (strB (pad i r))∧e 12=vi i∧(i=0∨0<hnum g / 1000000000∨10^(i - 1)≤r)) 9
     ⟨0,rfl,by decide,Cons.refl _,rfl,rfl,by rw[Nat.pow_zero,Nat.div_one];rfl,rfl,rfl,.inl rfl⟩ ?_
    rintro j e T3 ⟨i,rfl,hi,hk3,e3,e4,e5,e11,e12,hp⟩
    refine W.env5 e3 e4 e5 e11 e12 ?_
    refine W.seq ?_
    refine W.seq ?_
    refine W.mono (R:=fun x' e' T'=>x'=.nrm∧T'=T3∧e' 3=.slice a9 F.length c9∧e' 4=.string (strB d)∧e' 5=.int .u64 ((r / 10^i:Nat):Int)∧e' 11=.string (strB (pad i r))∧e' 12=vi i∧e' 68=.bool (decide (i<9∧(0<F.length∨0<r / 10^i)))) ?_ ?_
    ·have hc9:decide ((i:Int)<9)=decide (i<9):=decide_eq_decide.2 (by omega)
     have hcF:decide ((F.length:Int) > 0)=decide (0<F.length):=decide_eq_decide.2 (by omega)
     have hcr:decide (((r / 10^i:Nat):Int) > 0)=decide (0<r / 10^i):=decide_eq_decide.2 (by omega)
     refine go ?_
     rw[hc9]
     by_cases q1:i<9
     ·rw[decide_eq_true q1]
      refine go ?_
      rw[hcF]
      by_cases q2:0<F.length
      ·rw[decide_eq_true q2]
       refine go ?_
       exact⟨rfl,rfl,rfl,rfl,rfl,rfl,rfl,congrArg Value.bool (decide_eq_true ⟨q1,.inl q2⟩).symm⟩
      ·rw[decide_eq_false q2]
       refine go ?_
       rw[hcr]
       by_cases q3:0<r / 10^i
       ·rw[decide_eq_true q3]
        exact⟨rfl,rfl,rfl,rfl,rfl,rfl,rfl,congrArg Value.bool (decide_eq_true ⟨q1,.inr q3⟩).symm⟩
       ·rw[decide_eq_false q3]
        exact⟨rfl,rfl,rfl,rfl,rfl,rfl,rfl,congrArg Value.bool (decide_eq_false (fun h=>h.2.elim q2 q3)).symm⟩
     ·rw[decide_eq_false q1]
      refine go ?_
      exact⟨rfl,rfl,rfl,rfl,rfl,rfl,rfl,congrArg Value.bool (decide_eq_false (fun h=>q1 h.1)).symm⟩
    ·rintro _ e' T' ⟨rfl,rfl,e3,e4,e5,e11,e12,e68⟩
     refine W.env6 e3 e4 e5 e11 e12 e68 ?_
     refine W.ite rfl (fun h=>?_) (fun h=>?_)
     ·have hc1:=of_decide_eq_true h
      clear h
      refine go ?_
      have hdg:Value.int IntKind.u8 (IntKind.u8.wrap (IntKind.u64.wrap (48+Int.tmod ((r / 10^i:Nat):Int) 10)))=v8 (digB (r / 10^i)):=by
       rw[show Int.tmod ((r / 10^i:Nat):Int) 10=((r / 10^i % 10:Nat):Int) from (Int.ofNat_tmod _ 10).symm]
       unfold v8
       rw[digB_val,digW]
      rw[hdg]
      refine L.bs [v8 (digB (r / 10^i))] rfl rfl rfl rfl rfl rfl ?_
      have hkp:Cons T' (T'++[newR [v8 (digB (r / 10^i))] 5]):=Cons.push _ _
      have hrp:Mem.row? (T'++[newR [v8 (digB (r / 10^i))] 5]) T'.length=some (newR [v8 (digB (r / 10^i))] 5):=row_push_new rfl
      generalize T'++[newR [v8 (digB (r / 10^i))] 5]=T5 at *
      refine L.text (h:=⟨some T'.length,1,1⟩) (l:=[digB (r / 10^i)]) (el2:=5) rfl (HdOk.full hrp rfl rfl rfl (by decide)) rfl rfl rfl rfl (go ?_)
      refine L.tadd rfl rfl (by rw[pad_len];simp;omega) rfl (go ?_)
      refine⟨9 - (i+1),by omega,i+1,rfl,by omega,hk3.trans hkp,rfl,rfl,?_,?_,congrArg (Value.int .i64) (wrap64 (by omega) (by omega)),?_⟩
      ·refine(force_eq rfl).trans (congrArg (Value.int .u64) ?_)
       rw[Nat.pow_succ,← Nat.div_div_eq_div_mul]
       have hle:r / 10^i / 10≤r:=Nat.le_trans (Nat.div_le_self _ _) (Nat.div_le_self _ _)
       show IntKind.u64.wrap (Int.tdiv ((r / 10^i:Nat):Int) 10)=_
       rw[show Int.tdiv ((r / 10^i:Nat):Int) 10=((r / 10^i / 10:Nat):Int) from (Int.ofNat_tdiv (r / 10^i) 10).symm]
       generalize r / 10^i / 10=z at *
       rw[wrapU64 (by omega) (by omega)]
      ·rw[Nat.add_comm i 1,pad_add 1 i r];rfl
      ·refine .inr ?_
       rcases hc1.2 with h1 | h1
       ·exact .inl (Nat.pos_of_ne_zero fun e=>by have:=hF0.2 e;omega)
       ·refine .inr ?_
        rw[Nat.add_sub_cancel]
        exact(Nat.div_pos_iff.1 h1).2
     ·have hc1:=of_decide_eq_false h
      clear h
      have hfin:pad i r=partD (hnum g):=by
       have:=part_end (M:=hnum g) (i:=i) hgp hi (by rw[hM2];exact hp) (by
        rw[hM2]
        rcases Nat.lt_or_ge i 9 with h1 | h1
        ·refine .inr ⟨hF0.1 (Nat.eq_zero_of_not_pos fun h2=>hc1 ⟨h1,.inl h2⟩),Nat.eq_zero_of_not_pos fun h2=>hc1 ⟨h1,.inr h2⟩⟩
        ·exact .inl (by omega))
       rwa [hM2] at this
      have hlen2:(pad i r).length+d.length<1000000000:=by
       have h1:=dec_size (wnum_lt l)
       have h2:=congrArg List.length hd
       rw[List.length_append] at h2
       rw[pad_len]
       omega
      refine go ?_
      refine L.tadd rfl rfl hlen2 rfl (go ?_)
      have hMlt:hnum g / 1000000000<hnum g:=Nat.div_lt_self hgp (by decide)
      refine⟨hnum F,by rw[hFn];exact hMlt,F,a9,c9,pad i r++d,rfl,by omega,?_,rfl,rfl,hF.cons hk3,hFok,?_⟩
      ·exact((hc.trans hk).trans hk2).trans hk3
      ·rw[hFn,hfin]
       exact hd.step hgp
 ·have hl0:g=[]:=List.length_eq_zero_iff.1 (by have:=of_decide_eq_false h;omega)
  subst hl0
  clear h
  have hdd:dec (wnum l)=d:=by
   unfold DigI at hd
   rw[if_pos (show hnum []=0 from rfl),List.nil_append] at hd
   exact hd
  rw[hdd]
  refine go ?_
  exact⟨.inr rfl,_,rfl,rfl,hc⟩
end
section
open Go Ie
variable {Ext:FuncId→List Value→Mem→Outc→Mem→Prop} {S:Mem} {u v:Value} {x y:Int} {i j:Nat}
def txtL (x:Int):BL:=if zfz x then zText x else []
def txtE (x:Int):Int:=if zfz x then 0 else 3
theorem iText_C (hx:ZIn S u x i) (hP:PowOk S):C Tryz.prog gN Ext 45 [u] S fun w S'=>w=.tuple #[.string (strB (txtL x)),.int .i64 (txtE x)]∧Cons S S':=by
 obtain⟨n,a1,c1,l,rfl,h1,hl,hX⟩:=hx
 refine C.fn Tryz.func45 rfl (by kernel_rfl) rfl (go ?_)
 refine L.nr [.bool n,.slice a1 l.length c1] wT rfl rfl (fun b2 Tb2 gb2 kb2 rb2=>?_)
 have hc:=Cons.refl Tb2
 refine go ?_
 refine L.z2 (Cons.row (h:=hc) rb2) rfl rfl rfl ?_
 refine L.bz [(n,⟨a1,c1,l⟩)] rfl rfl rfl rfl rfl (fun bs Ts gs ks rs=>?_)
 replace hc:=hc.trans ks
 refine L.cl (zFit_C bs [(n,⟨a1,c1,l⟩)] Ts rs (fun z hz=>by
  simp only [List.mem_cons,List.not_mem_nil,or_false] at hz
  rcases hz with rfl
  exact h1.cons (kb2.trans hc)) (by simp)) rfl rfl ?_
 rintro _ Tf ⟨rfl,kf⟩
 refine⟨fun _=>kf,?_⟩
 replace hc:=hc.trans kf
 rw[show (([(n,WS.mk a1 c1 l)]:List ZW).all fun z=>zfit z.2.l)=zfit l by simp,zfit_zv n l,hX]
 unfold txtL txtE
 cases hz:zfz x
 ·refine go ?_
  refine W.condT rfl (go ?_)
  exact⟨.inr rfl,_,rfl,rfl,kb2.trans hc⟩
 refine go ?_
 refine W.condF rfl (go ?_)
 refine L.zf (Cons.row (h:=hc) rb2) rfl rfl rfl rfl rfl ?_
 have hab:x.natAbs=wnum l:=by rw[← hX,zv_abs]
 have fx:zok x:=of_decide_eq_true (p:=x.natAbs<2^4096) hz
 have hsm:small l=true:=small_of (by rw[← hab];exact up4 fx)
 refine L.cv (natText_C a1 c1 l _ (h1.cons (kb2.trans hc)) (hP.cons (kb2.trans hc))) rfl rfl fun Tt kt=>?_
 replace hc:=hc.trans kt
 rw[show textL l=dec x.natAbs by unfold textL;rw[hsm,if_pos rfl,hab],show textE l=0 by unfold textE;rw[hsm];rfl]
 refine go ?_
 refine L.z2 (Cons.row (h:=hc) rb2) rfl rfl rfl ?_
 refine L.cv (zSign_C n a1 c1 l _ (h1.cons (kb2.trans hc))) rfl rfl fun Tg kg=>?_
 replace hc:=hc.trans kg
 rw[hX]
 have hd:=dec_short fx
 rw[if_pos rfl,if_pos rfl]
 unfold zText
 by_cases hneg:x<0
 ·rw[if_pos hneg,cmp_neg hneg]
  refine go ?_
  refine W.condT rfl (go ?_)
  refine L.tadd (a:=[45#8]) (b:=dec x.natAbs) rfl rfl (by simp;omega) rfl (go ?_)
  exact⟨.inr rfl,_,rfl,rfl,kb2.trans hc⟩
 ·rw[if_neg hneg]
  refine go ?_
  rw[show decide (cmpI x 0<0)=false from decide_eq_false (by rcases cmpI_vals x 0 with h | h | h<;>first | omega | (exact absurd (cz1 h) hneg))]
  refine W.condF rfl (go ?_)
  exact⟨.inr rfl,_,rfl,rfl,kb2.trans hc⟩
theorem rzDigits_C (hx:ZIn S u x i) (hi:i<1000):C Tryz.prog gN Ext 81 [u] S fun w S'=>w=.string (strB (zText x))∧Cons S S':=by
 have hlt:=hx.lt
 obtain⟨n,a,c,l,rfl,h1,hl,rfl⟩:=hx
 refine C.fn Tryz.func81 rfl (by kernel_rfl) rfl (go ?_)
 refine L.nr [.bool n,.slice a l.length c] wT rfl rfl (fun b2 Tb2 gb2 kb2 rb2=>?_)
 have hc:=Cons.refl Tb2
 refine go ?_
 refine L.z2 (Cons.row (h:=hc) rb2) rfl rfl rfl ?_
 refine L.cl (rzForm_C ⟨n,a,c,l,rfl,h1.cons (kb2.trans hc),hl,rfl⟩ (by omega)) rfl rfl ?_
 rintro _ T' ⟨⟨a9,c9,rfl,w9⟩,k'⟩
 refine⟨fun _=>k',?_⟩
 replace hc:=hc.trans k'
 generalize zv n l=z at *
 refine L.nr [.bool false,.slice none 0 0] wT rfl rfl (fun b6 T5 g5 k5 r5=>?_)
 refine L.st2 r5 rfl rfl rfl rfl rfl rfl (fun T8 kk6 r8=>?_)
 have k9:=kk6.mono k5 g5
 have hcS:=(kb2.trans hc).trans k9
 have w8:=w9.cons k9
 clear hc
 have hc:=Cons.refl T8
 have hl8:(toW z.natAbs).length<400000:=Nat.lt_of_le_of_lt ((toW_len _ i).2 hlt) (by omega)
 have hdl:(dec z.natAbs).length≤64*i+1:=dec_size hlt
 refine go ?_
 refine L.zf (Cons.row (h:=hc) r8) rfl rfl rfl rfl rfl (go ?_)
 unfold zText
 by_cases hneg:z<0
 ·rw[if_pos hneg,show decide (z<0)=true from decide_eq_true hneg]
  refine W.condT rfl (go ?_)
  refine L.zf (Cons.row (h:=hc) r8) rfl rfl rfl rfl rfl ?_
  refine L.cv (refDigits_C a9 c9 (toW z.natAbs) _ w8 hl8) rfl rfl fun T' k'=>?_
  rw[wnum_toW]
  refine L.tadd (a:=[45#8]) (b:=dec z.natAbs) rfl rfl (by simp;omega) rfl (go ?_)
  exact⟨.inr rfl,_,rfl,rfl,hcS.trans k'⟩
 ·rw[if_neg hneg,show decide (z<0)=false from decide_eq_false hneg]
  refine W.condF rfl (go ?_)
  refine L.zf (Cons.row (h:=hc) r8) rfl rfl rfl rfl rfl ?_
  refine L.cv (refDigits_C a9 c9 (toW z.natAbs) _ w8 hl8) rfl rfl fun T' k'=>?_
  rw[wnum_toW]
  refine go ?_
  exact⟨.inr rfl,_,rfl,rfl,hcS.trans k'⟩
theorem rzText_C (hx:ZIn S u x i) (hi:i<1000):C Tryz.prog gN Ext 47 [u] S fun w S'=>w=.tuple #[.string (strB (txtL x)),.int .i64 (txtE x)]∧Cons S S':=by
 obtain⟨n,a,c,l,rfl,h1,hl,rfl⟩:=hx
 refine C.fn Tryz.func47 rfl (by kernel_rfl) rfl (go ?_)
 refine L.nr [.bool n,.slice a l.length c] wT rfl rfl (fun b2 Tb2 gb2 kb2 rb2=>?_)
 have hc:=Cons.refl Tb2
 refine go ?_
 refine L.z2 (Cons.row (h:=hc) rb2) rfl rfl rfl ?_
 refine L.cv (rzFits_C ⟨n,a,c,l,rfl,h1.cons (kb2.trans hc),hl,rfl⟩ (by omega)) rfl rfl fun T' k'=>?_
 replace hc:=hc.trans k'
 refine go ?_
 unfold txtL txtE
 cases hz:zfz (zv n l)
 ·refine go ?_
  refine W.condT rfl (go ?_)
  exact⟨.inr rfl,_,rfl,rfl,kb2.trans hc⟩
 ·rw[if_pos rfl,if_pos rfl]
  refine W.condF rfl (go ?_)
  refine L.z2 (Cons.row (h:=hc) rb2) rfl rfl rfl ?_
  refine L.cv (rzDigits_C ⟨n,a,c,l,rfl,h1.cons (kb2.trans hc),hl,rfl⟩ hi) rfl rfl fun T' k'=>?_
  replace hc:=hc.trans k'
  refine go ?_
  exact⟨.inr rfl,_,rfl,rfl,kb2.trans hc⟩
def zNeg (s:BL):Bool:=s.head?==some 45#8
def zRest (s:BL):BL:=if zNeg s then s.drop 1 else s
def zprsZ (s:BL):Int:=zv (zNeg s) (prsL (zRest s))
def zprsE (s:BL):Int:=if 65536<s.length then 3 else if prsE (zRest s)=0 then zE (zprsZ s) else prsE (zRest s)
theorem neg_pre (s:BL):preB s [45#8]=zNeg s:=by
 unfold preB zNeg
 cases s with
 | nil=>rfl
 | cons x s=>
  show (decide (1≤s.length+1) && decide ([x]=[45#8]))=(some x==some 45#8)
  rw[decide_eq_true (by omega),Bool.true_and,Bool.eq_iff_iff]
  simp
theorem cutPre_C (s:BL) (S:Mem):C Tryz.prog gN Ext 79 [.string (strB s),.string (strB [45#8])] S fun v S'=>v=.tuple #[.string (strB (zRest s)),.bool (zNeg s)]∧S'=S:=by
 refine C.fn Tryz.func79 rfl (by kernel_rfl) rfl (go ?_)
 have h0:C Tryz.prog gN Ext 119 [.string (strB s),.string (strB [45#8])] S fun v S'=>v=.tuple #[.string (strB (zRest s)),.bool (zNeg s)]∧S'=S:=by
  refine C.fn Tryz.func119 rfl (by kernel_rfl) rfl (go ?_)
  refine L.cl (hasPrefix0_C s [45#8] S) rfl rfl ?_
  rintro _ _ ⟨rfl,rfl⟩
  refine⟨nofun,?_⟩
  rw[neg_pre]
  unfold zRest
  cases hn:zNeg s
  ·refine go ?_
   refine W.condT rfl (go ?_)
   exact⟨.inr rfl,_,rfl,rfl,rfl⟩
  ·refine go ?_
   refine W.condF rfl (go ?_)
   refine L.tlen (a:=[45#8]) rfl rfl rfl rfl ?_
   have hl1:1≤s.length:=by
    cases s with
    | nil=>cases hn
    | cons x s=>simp
   refine L.from (l:=s) (i:=1) rfl rfl hl1 rfl rfl (go ?_)
   exact⟨.inr rfl,_,rfl,rfl,rfl⟩
 refine L.cl h0 rfl rfl ?_
 rintro _ _ ⟨rfl,rfl⟩
 refine⟨nofun,go ?_⟩
 exact⟨.inr rfl,_,rfl,rfl,rfl⟩
theorem zMade2_C (z:Int) (d:Value) (E:Int) (hE:E≠0) (bx:Nat) (S:Mem):C Tryz.prog gN Ext 92 [d,.int .i64 E,.pointer (some ⟨bx,0,none⟩)] S fun v S'=>ZAns S S' v E z:=by
 refine C.fn Tryz.func92 rfl (by kernel_rfl) rfl (go ?_)
 refine L.nr [.bool false,.slice none 0 0] wT rfl rfl (fun b1 Tb1 gb1 kb1 rb1=>go ?_)
 rw[show (E != (0:Int))=true from bne_iff_ne.2 hE]
 refine W.condT rfl (go ?_)
 refine L.b0 rfl (go ?_)
 refine L.st2 rb1 rfl rfl rfl rfl rfl rfl (fun T2 kk r2=>go ?_)
 exact⟨.inr rfl,_,res2 rfl (load2 r2 rfl),.no (kk.mono kb1 gb1) hE⟩
theorem zParse_C (s:BL) (S:Mem) (hl:s.length<1000000000):C Tryz.prog gN Ext 46 [.string (strB s)] S fun v S'=>ZAns S S' v (zprsE s) (zprsZ s):=by
 refine C.fn Tryz.func46 rfl (by kernel_rfl) rfl (go ?_)
 refine L.nr [.bool false,.slice none 0 0] wT rfl rfl (fun b4 Tb4 gb4 kb4 rb4=>?_)
 have hc:=Cons.refl Tb4
 refine go ?_
 refine L.tlen rfl rfl rfl rfl (go ?_)
 unfold zprsE
 refine W.ite rfl (fun h=>?_) (fun h=>?_)
 ·have hbig:=of_decide_eq_true h
  clear h
  rw[if_pos (by omega)]
  refine go ?_
  refine L.b0 rfl ?_
  refine L.st2 rb4 rfl rfl rfl rfl rfl rfl (fun T2 kk r2=>go ?_)
  exact⟨.inr rfl,_,res2 rfl (load2 r2 rfl),.no (kk.mono kb4 gb4) (by decide)⟩
 have hsm:=of_decide_eq_false h
 clear h
 rw[if_neg (by omega)]
 refine go ?_
 refine L.cs (cutPre_C s _) rfl rfl (go ?_)
 have hrl:(zRest s).length<1000000000:=by
  unfold zRest
  split
  ·rw[List.length_drop];omega
  ·exact hl
 refine L.cl (zMade_C (zNeg s) _) rfl rfl ?_
 rintro _ Tm ⟨bx,rfl,km,rx⟩
 refine⟨fun _=>km,?_⟩
 replace hc:=hc.trans km
 clear km
 refine go ?_
 refine L.cl (nParse_C (zRest s) _ hrl) rfl rfl ?_
 rintro _ Tn ⟨d,rfl,r⟩
 refine⟨fun _=>r.1,?_⟩
 rw[r.val]
 have hc0:=hc
 replace hc:=hc.trans r.1
 refine go ?_
 have fin:C Tryz.prog gN Ext 92 [.slice d.ad (prsL (zRest s)).length d.c,.int .i64 (prsE (zRest s)),.pointer (some ⟨bx,0,none⟩)] Tn fun v S'=>ZAns Tn S' v (if prsE (zRest s)=0 then zE (zprsZ s) else prsE (zRest s)) (zprsZ s):=by
  by_cases h0:prsE (zRest s)=0
  ·rw[h0,if_pos rfl]
   exact zMade1_C (zNeg s) _ _ bx _ Tn r.win (Cons.row (h:=r.1) rx)
  ·rw[if_neg h0]
   exact zMade2_C _ _ _ h0 bx Tn
 refine L.cl fin rfl rfl ?_
 rintro _ T9 ⟨d9,rfl,r9⟩
 refine⟨fun _=>r9.1,go ?_⟩
 refine L.st2 (Cons.row (h:=hc.trans r9.1) rb4) rfl rfl rfl rfl rfl rfl (fun T10 kk r10=>go ?_)
 exact⟨.inr rfl,_,res2 rfl (load2 r10 rfl),d9,rfl,zfin kb4 hc r9 kk gb4 rb4⟩
theorem rzParse_C (s:BL) (S:Mem) (hl:s.length<1000000000):C Tryz.prog gN Ext 48 [.string (strB s)] S fun v S'=>ZT S S' v (zprsE s) (zprsZ s):=by
 refine C.fn Tryz.func48 rfl (by kernel_rfl) rfl (go ?_)
 refine L.nr [.bool false,.slice none 0 0] wT rfl rfl (fun b4 Tb4 gb4 kb4 rb4=>?_)
 have kM:=kb4
 have g4:=gb4
 have hc:=Cons.refl Tb4
 clear kb4 gb4
 refine go ?_
 refine L.tlen rfl rfl rfl rfl (go ?_)
 unfold zprsE
 refine W.ite rfl (fun h=>?_) (fun h=>?_)
 ·have hbig:=of_decide_eq_true h
  clear h
  rw[if_pos (by omega)]
  refine go ?_
  refine L.b0 rfl ?_
  refine L.st2 (Cons.row (h:=hc) rb4) rfl rfl rfl rfl rfl rfl (fun T2 kk r2=>go ?_)
  exact⟨.inr rfl,_,res2 rfl (load2 r2 rfl),_,rfl,kk.mono (kM.trans hc) g4,ZIs.z0 (by decide)⟩
 have hsm:=of_decide_eq_false h
 clear h
 rw[if_neg (by omega)]
 refine go ?_
 refine L.tlen rfl rfl rfl rfl (go ?_)
 have hll:prsE (zRest s)=0→(prsL (zRest s)).length≤128:=fun h0=>by
  unfold prsL
  rw[if_pos h0]
  refine(toW_len _ 128).2 ?_
  unfold prsE at h0
  split at h0
  ·cases h0
  ·split at h0
   ·cases h0
   ·split at h0
    ·assumption
    ·cases h0
 have rest:∀ r:BL,zRest s=r→r.length<1000000000→C Tryz.prog gN Ext 82 [.string (strB r)] Tb4 fun v S'=>∃ a c,v=.tuple #[.slice a (prsL (zRest s)).length c,.int .i64 (prsE (zRest s))]∧Cons Tb4 S'∧WIn S' a c (prsL (zRest s)):=fun r hr hr2=>by
  rw[hr]
  exact pParse_C r Tb4 hr2
 have hZ:zprsZ s=zv (zNeg s) (prsL (zRest s)):=rfl
 generalize zprsZ s=Z at *
 generalize prsL (zRest s)=L1 at *
 generalize prsE (zRest s)=E1 at *
 cases s with
 | nil=>
  refine go ?_
  refine W.condF rfl (go ?_)
  refine L.cl (rest [] rfl (by decide)) rfl rfl ?_
  rintro _ T' ⟨a9,c9,rfl,k',w9⟩
  refine⟨fun _=>k',?_⟩
  replace hc:=hc.trans k'
  refine go ?_
  by_cases h0:E1=0
  ·rw[h0,if_pos rfl]
   refine W.condF rfl (go ?_)
   refine L.b2 rfl rfl rfl ?_
   have ht:=rzTold_C (Ext:=Ext) (i:=128) (S:=T') (u:=.agg #[.bool false,.slice a9 L1.length c9]) (x:=Z) ⟨_,_,_,_,rfl,w9,hll h0,by rw[hZ,show zNeg []=false from rfl]⟩ (by decide)
   refine L.cl ht rfl rfl ?_
   rintro _ T' ⟨_,rfl,k',a9,c9,rfl,w9⟩
   refine⟨fun _=>k',?_⟩
   replace hc:=hc.trans k'
   refine go ?_
   refine L.st2 (Cons.row (h:=hc) rb4) rfl rfl rfl rfl rfl rfl (fun T2 kk r2=>go ?_)
   exact⟨.inr rfl,_,res2 rfl (load2 r2 rfl),_,rfl,kk.mono (kM.trans hc) g4,⟨a9,c9,rfl,w9.kn kk (Cons.row (h:=hc) rb4) noW⟩⟩
  ·rw[if_neg h0]
   rw[show (E1 != (0:Int))=true from bne_iff_ne.2 h0]
   refine W.condT rfl (go ?_)
   refine L.b0 rfl (go ?_)
   refine L.st2 (Cons.row (h:=hc) rb4) rfl rfl rfl rfl rfl rfl (fun T2 kk r2=>go ?_)
   exact⟨.inr rfl,_,res2 rfl (load2 r2 rfl),_,rfl,kk.mono (kM.trans hc) g4,ZIs.z0 h0⟩
 | cons c s=>
  rw[show decide (((c :: s).length:Int) > 0)=true from decide_eq_true (by simp)]
  refine go ?_
  have hb:(((UInt8.ofNat c.toNat).toNat:Int)==45)=(c==45#8):=by rw[byte_back];exact v8_beq c 45#8
  refine W.env2 (t1:=4) (v1:=.bool (c==45#8)) (t2:=19) (v2:=.bool (c==45#8)) ((force_eq rfl).trans (congrArg Value.bool hb)) ((force_eq rfl).trans (congrArg Value.bool hb)) ?_
  clear hb
  cases hcc:(c==45#8)
  ·have hn:zNeg (c :: s)=false:=by unfold zNeg;simpa using hcc
   have hr:zRest (c :: s)=c :: s:=by unfold zRest;rw[hn];rfl
   refine W.condF rfl (go ?_)
   refine L.cl (rest (c :: s) hr hl) rfl rfl ?_
   rintro _ T' ⟨a9,c9,rfl,k',w9⟩
   refine⟨fun _=>k',?_⟩
   replace hc:=hc.trans k'
   refine go ?_
   by_cases h0:E1=0
   ·rw[h0,if_pos rfl]
    refine W.condF rfl (go ?_)
    refine L.b2 rfl rfl rfl ?_
    have ht:=rzTold_C (Ext:=Ext) (i:=128) (S:=T') (u:=.agg #[.bool false,.slice a9 L1.length c9]) (x:=Z) ⟨_,_,_,_,rfl,w9,hll h0,by rw[hZ,hn]⟩ (by decide)
    refine L.cl ht rfl rfl ?_
    rintro _ T' ⟨_,rfl,k',a9,c9,rfl,w9⟩
    refine⟨fun _=>k',?_⟩
    replace hc:=hc.trans k'
    refine go ?_
    refine L.st2 (Cons.row (h:=hc) rb4) rfl rfl rfl rfl rfl rfl (fun T2 kk r2=>go ?_)
    exact⟨.inr rfl,_,res2 rfl (load2 r2 rfl),_,rfl,kk.mono (kM.trans hc) g4,⟨a9,c9,rfl,w9.kn kk (Cons.row (h:=hc) rb4) noW⟩⟩
   ·rw[if_neg h0]
    rw[show (E1 != (0:Int))=true from bne_iff_ne.2 h0]
    refine W.condT rfl (go ?_)
    refine L.b0 rfl (go ?_)
    refine L.st2 (Cons.row (h:=hc) rb4) rfl rfl rfl rfl rfl rfl (fun T2 kk r2=>go ?_)
    exact⟨.inr rfl,_,res2 rfl (load2 r2 rfl),_,rfl,kk.mono (kM.trans hc) g4,ZIs.z0 h0⟩
  ·have hn:zNeg (c :: s)=true:=by unfold zNeg;simpa using hcc
   have hr:zRest (c :: s)=s:=by unfold zRest;rw[hn];rfl
   refine W.condT rfl (go ?_)
   refine L.from (l:=c :: s) (i:=1) rfl rfl (by simp) rfl rfl (go ?_)
   refine L.cl (rest s hr (by simp at hl;omega)) rfl rfl ?_
   rintro _ T' ⟨a9,c9,rfl,k',w9⟩
   refine⟨fun _=>k',?_⟩
   replace hc:=hc.trans k'
   refine go ?_
   by_cases h0:E1=0
   ·rw[h0,if_pos rfl]
    refine W.condF rfl (go ?_)
    refine L.b2 rfl rfl rfl ?_
    have ht:=rzTold_C (Ext:=Ext) (i:=128) (S:=T') (u:=.agg #[.bool true,.slice a9 L1.length c9]) (x:=Z) ⟨_,_,_,_,rfl,w9,hll h0,by rw[hZ,hn]⟩ (by decide)
    refine L.cl ht rfl rfl ?_
    rintro _ T' ⟨_,rfl,k',a9,c9,rfl,w9⟩
    refine⟨fun _=>k',?_⟩
    replace hc:=hc.trans k'
    refine go ?_
    refine L.st2 (Cons.row (h:=hc) rb4) rfl rfl rfl rfl rfl rfl (fun T2 kk r2=>go ?_)
    exact⟨.inr rfl,_,res2 rfl (load2 r2 rfl),_,rfl,kk.mono (kM.trans hc) g4,⟨a9,c9,rfl,w9.kn kk (Cons.row (h:=hc) rb4) noW⟩⟩
   ·rw[if_neg h0]
    rw[show (E1 != (0:Int))=true from bne_iff_ne.2 h0]
    refine W.condT rfl (go ?_)
    refine L.b0 rfl (go ?_)
    refine L.st2 (Cons.row (h:=hc) rb4) rfl rfl rfl rfl rfl rfl (fun T2 kk r2=>go ?_)
    exact⟨.inr rfl,_,res2 rfl (load2 r2 rfl),_,rfl,kk.mono (kM.trans hc) g4,ZIs.z0 h0⟩
end
section
open Go Ie
variable {Ext:FuncId→List Value→Mem→Outc→Mem→Prop}
theorem zprs_zok {s:BL} (h:zprsE s=0):zok (zprsZ s):=by
 unfold zprsE at h
 split at h
 ·cases h
 ·split at h
  ·exact zE_zok h
  ·rename_i h1;exact absurd h h1
theorem zprs_ok {s:BL}:zok (zcE (zprsE s) (zprsZ s)):=zcE_ok zprs_zok
theorem int_zok {n:Int} (h:-9223372036854775808≤n∧n≤9223372036854775807):zok n:=zok_small (by omega)
theorem wholeReads_C (sb:ByteArray) (b0:Bool) (a0:Option Addr) (c0:Nat) (l0:WL) (n:Int) (S:Mem) (h0:WPre S a0 c0 l0) (hn:-9223372036854775808≤n∧n≤9223372036854775807) (hS:SinOk S) (hP:PowOk S) (hG:gN≤S.length) :
  C Tryz.prog gN Ext 8 [.string sb,wZ b0 (.slice a0 l0.length c0),.int .i64 n] S fun v S'=>v=.bool true∧Cons S S':=by
 obtain⟨s,rfl⟩:=strB_of sb
 refine C.fn Tryz.func8 rfl (by kernel_rfl) rfl (go ?_)
 refine L.nr [.bool b0,.slice a0 l0.length c0] wT rfl rfl (fun b2 Tb2 gb2 kb2 rb2=>?_)
 have kM:=kb2
 have hc:=Cons.refl Tb2
 clear kb2 gb2
 refine go ?_
 refine L.tlen rfl rfl rfl rfl (go ?_)
 cases hg0:decide ((s.length:Int) > 4096)
 case true=>
  refine go ?_
  refine W.ite rfl (fun h=>?_) (fun h=>?_)
  ·refine go ?_
   exact⟨.inr rfl,_,rfl,rfl,kM.trans hc⟩
  ·cases h
 refine go ?_
 refine L.zf (Cons.row (h:=hc) rb2) rfl rfl rfl rfl rfl (go ?_)
 cases hg1:decide ((l0.length:Int) > 200)
 case true=>
  refine W.ite rfl (fun h=>?_) (fun h=>?_)
  ·refine go ?_
   exact⟨.inr rfl,_,rfl,rfl,kM.trans hc⟩
  ·cases h
 refine W.condF rfl ?_
 have hsl:s.length<1000000000:=by have:=of_decide_eq_false hg0;omega
 have hn0:l0.length≤200:=by have:=of_decide_eq_false hg1;omega
 clear hg0 hg1
 replace h0:=(h0.win (by omega)).cons kM
 refine go ?_
 refine L.z2 (Cons.row (h:=hc) rb2) rfl rfl rfl ?_
 refine L.cl (lentZ_C b0 a0 c0 l0 _ (h0.cons hc) (by omega)) rfl rfl ?_
 rintro _ S1 ⟨k1,x,hx,rfl,hr0⟩
 refine⟨fun _=>k1,?_⟩
 replace hc:=hc.trans k1
 refine L.nr [.bool false,.slice none 0 0] wT rfl rfl (fun b5 T1' g1' k1' r1'=>?_)
 refine L.st2 r1' rfl rfl rfl rfl rfl rfl (fun M0 kk1 rb5=>?_)
 have kx:=kk1.mono k1' g1'
 replace hc:=hc.trans kx
 replace hr0:=Cons.row (h:=kx) hr0
 replace rb2:=Cons.row (h:=hc) rb2
 replace h0:=h0.cons hc
 have kS:=kM.trans hc
 replace hS:=hS.cons kS
 replace hP:=hP.cons kS
 replace hG:=Nat.le_trans hG kS.len
 have hx:=lent_win hr0 (by omega)
 clear kx kk1 r1' k1' g1' hc kM
 have hc:=Cons.refl M0
 have hZ:=Zs.nil M0
 have hQ:=Qs.nil M0
 have hK:=PK.nil M0
 obtain⟨X,hX⟩:∃ X,zv b0 l0=X:=⟨_,rfl⟩
 have X5:ZIn M0 (.agg #[.bool b0,.slice (some ⟨x,0,none⟩) l0.length (UNK+(l0.length+16))]) X 200:=⟨_,_,_,_,rfl,hx,hn0,hX⟩
 have X2:ZIn M0 (.agg #[.bool b0,.slice a0 l0.length c0]) X 200:=⟨_,_,_,_,rfl,h0,hn0,hX⟩
 refine go ?_
 refine L.z2 (Cons.row (h:=hc) rb5) rfl rfl rfl ?_
 refine L.cv (iText_C (X5.cons hc) (hP.cons hc)) rfl rfl fun T' k'=>?_
 replace hZ:=hZ.cons k'
 replace hQ:=hQ.cons k'
 replace hK:=hK.cons k'
 replace hc:=hc.trans k'
 clear k'
 refine go ?_
 refine L.cl (zParse_C s _ hsl) rfl rfl ?_
 rintro _ T' hr
 obtain⟨d11,rfl,r11⟩:=hr.both
 refine⟨fun _=>r11.1,?_⟩
 clear hr
 have w11:=r11.win
 have v11:=r11.val
 replace hZ:=hZ.cons r11.1
 replace hQ:=hQ.cons r11.1
 replace hK:=hK.add r11 (zcE_len (zprs_ok))
 replace hc:=hc.trans r11.1
 clear r11
 refine go ?_
 refine L.nr [.bool false,.slice none 0 0] wT rfl rfl (fun b11 T' g' k' r'=>?_)
 refine L.st2 r' rfl rfl rfl rfl rfl rfl (fun T' kk' r''=>?_)
 have kx:=kk'.mono k' g'
 replace hZ:=hZ.cons kx
 replace hQ:=(hQ.cons kx).add ⟨r'',w11.cons kx⟩
 replace hK:=hK.cons kx
 replace hc:=hc.trans kx
 clear kx kk' r'' r' k' g' w11
 refine go ?_
 refine L.cl (zInt_C n _ hn) rfl rfl ?_
 rintro _ T' ⟨d12,rfl,r12⟩
 refine⟨fun _=>r12.1,?_⟩
 have w12:=r12.win
 have v12:=r12.val
 rw[v12]
 replace hZ:=hZ.cons r12.1
 replace hQ:=hQ.cons r12.1
 replace hK:=hK.add r12 (zcE_len (int_zok hn))
 replace hc:=hc.trans r12.1
 clear r12
 refine L.nr [.bool false,.slice none 0 0] wT rfl rfl (fun b12 T' g' k' r'=>?_)
 refine L.st2 r' rfl rfl rfl rfl rfl rfl (fun T' kk' r''=>?_)
 have kx:=kk'.mono k' g'
 replace hZ:=hZ.cons kx
 replace hQ:=(hQ.cons kx).add ⟨r'',w12.cons kx⟩
 replace hK:=hK.cons kx
 replace hc:=hc.trans kx
 clear kx kk' r'' r' k' g' w12
 refine go ?_
 refine L.z2 (Cons.row (h:=hc) rb2) rfl rfl rfl ?_
 refine L.cv (rzText_C (X2.cons hc) (by decide)) rfl rfl fun T' k'=>?_
 replace hZ:=hZ.cons k'
 replace hQ:=hQ.cons k'
 replace hK:=hK.cons k'
 replace hc:=hc.trans k'
 clear k'
 refine go ?_
 refine L.cl (rzParse_C s _ hsl) rfl rfl ?_
 rintro _ T' ⟨_,rfl,k0',a21,c21,rfl,w21⟩
 refine⟨fun _=>k0',?_⟩
 replace hZ:=hZ.cons k0'
 replace hQ:=hQ.cons k0'
 replace hK:=hK.cons k0'
 replace hc:=hc.trans k0'
 clear k0'
 refine go ?_
 refine L.nr [.bool false,.slice none 0 0] wT rfl rfl (fun b21 T' g' k' r'=>?_)
 refine L.st2 r' rfl rfl rfl rfl rfl rfl (fun T' kk' r''=>?_)
 have kx:=kk'.mono k' g'
 replace hZ:=(hZ.cons kx).add ⟨_,_,r'',w21.cons kx⟩
 replace hK:=hK.cons kx
 replace hQ:=hQ.cons kx
 replace hc:=hc.trans kx
 clear kx kk' r'' r' k' g' w21
 refine go ?_
 refine L.eff (v:=.pointer (some ⟨List.length T',0,none⟩)) (S1:=T'++[newR [.slice none 0 0,.slice none 0 0] 33]) rfl rfl ?_
 have hB:=hK.bookT
 have hL:=hK.2.2.2
 have hQ0:=hQ
 have hc0:=hc
 have kb:Cons T' (T'++[newR [.slice none 0 0,.slice none 0 0] 33]):=Cons.push _ _
 replace hZ:=hZ.cons kb
 replace hQ:=hQ.cons kb
 replace hc:=hc.trans kb
 generalize T'++[newR [.slice none 0 0,.slice none 0 0] 33]=TB at *
 clear kb
 refine go ?_
 rw[show ((strB (txtL X)).toList==(strB (txtL X)).toList)=true from beq_self_eq_true _]
 refine go ?_
 rw[show (txtE X==txtE X)=true from beq_self_eq_true _]
 refine L.ql (hQ.at 0 rfl) rfl rfl rfl (go ?_)
 refine L.zl (hZ.at 0 rfl) rfl rfl rfl (fun u hu=>go ?_)
 refine L.cv (zsame_C _ (hQ.at 0 rfl).zis hu) rfl rfl fun T2 k'=>?_
 clear hu
 replace hQ:=hQ.cons k'
 replace hB:=hB.cons k'
 replace hc:=hc.trans k'
 clear k' hZ
 refine go ?_
 refine L.ql (hQ.at 1 rfl) rfl rfl rfl (go ?_)
 refine L.cl (rzInt_C n _ hn) rfl rfl ?_
 rintro u T3 ⟨hu,k'⟩
 refine⟨fun _=>k',?_⟩
 replace hQ:=hQ.cons k'
 replace hB:=hB.cons k'
 replace hc:=hc.trans k'
 clear k'
 refine L.cv (nSame_C (hQ.at 1 rfl).zis hu) rfl rfl fun T4 k'=>?_
 rw[show decide (n=n)=true from decide_eq_true rfl]
 replace hB:=hB.cons k'
 clear k' hu hQ hc
 have hQ:=hQ0
 have hc:=hc0
 refine go ?_
 refine L.ql ((hQ.cons hB.1).at 0 rfl) rfl rfl rfl ?_
 refine L.cl (zBook_C _ _ v11 hB (by first | omega | (simp<;>omega))) rfl rfl ?_
 rintro _ TB' hB'
 refine⟨nofun,?_⟩
 replace hB:=hB'
 clear hB'
 refine go ?_
 refine L.ql ((hQ.cons hB.1).at 1 rfl) rfl rfl rfl ?_
 refine L.cl (zBook_C _ _ v12 hB (by first | omega | (simp<;>omega))) rfl rfl ?_
 rintro _ TB' hB'
 refine⟨nofun,?_⟩
 replace hB:=hB'
 clear hB'
 refine go ?_
 refine L.cl (apart_BkT hB hc hL (by first | omega | (simp<;>omega))) rfl rfl ?_
 rintro _ TA ⟨rfl,hc'⟩
 refine⟨nofun,?_⟩
 replace hc:=hc'
 clear hc' hB hL hQ hK
 refine go ?_
 refine L.z2 (Cons.row (h:=hc) rb5) rfl rfl rfl ?_
 refine L.z2 (Cons.row (h:=hc) rb2) rfl rfl rfl ?_
 refine L.cv (keptZ_C b0 a0 x c0 l0 _ (Cons.row (h:=hc) hr0) (h0.cons hc) (by omega)) rfl rfl fun T' k'=>?_
 replace hc:=hc.trans k'
 clear k'
 refine go ?_
 refine L.cv (works_C _ (hS.cons hc) (hP.cons hc) (Nat.le_trans hG hc.len)) rfl rfl fun M4 k4=>go ?_
 exact⟨.inr rfl,_,rfl,rfl,(kS.trans hc).trans k4⟩
end
section
open Go
end
section
open Go Go.ChangeShapes Go.WideShapes
end
section
open Go Go.ChangeShapes Go.WideShapes
end
section
open Go Go.RowKit Ie
open Go.ChangeShapes Go.WideShapes Go.ChangeAt
section
variable {H:Type} {enc:TypeId × Value→H} {P:Program} {w:World} {base:Nat} {spare:Nat→Bool} {held:Bool} {fuel:Nat} {t:TypeId} {cs:List Value} {x:DataW H × List MemPlace}
theorem trod_float {k:FloatKind} (ht:P.underlying t=some (.float k)) (h:DataW.trod enc P w base spare held fuel t cs=some x):∃ b,cs=[.float k b]∧x=(.lit (.float k b),[]):=by
 cases fuel with
 | zero=>simp [DataW.trod] at h
 | succ n=>
  unfold DataW.trod at h
  rw[ht] at h
  split at h<;>simp_all
theorem arr_cells {n:Nat} {e:TypeId} {vs:List Value} {ls:List (DataW H)} {p:List MemPlace} (ht:P.underlying t=some (.array n e)) (c1:P.cellsOf e=1) (ct:P.cellsOf t=n) (hl:ls.length=n) (hvl:vs.length=n)
  (hel:∀ (m i:Nat) (c:List Value) (y:DataW H × List MemPlace) (d:DataW H) (v:Value),DataW.trod enc P w base spare held m e c=some y→y.1=d→ls[i]?=some d→vs[i]?=some v→c=[v])
  (h:DataW.trod enc P w base spare held fuel t cs=some (.agg ls,p)):cs=vs:=by
 obtain⟨xs,m,rfl,hx,hlen,hn,hels⟩:=DataW.trod_array ht h
 simp only [Prod.mk.injEq,DataW.agg.injEq] at hx
 rw[ct] at hlen
 apply List.ext_getElem?
 intro i
 by_cases hi:i<n
 ·have h1:=hels i hi
  rw[c1,Nat.mul_one] at h1
  obtain⟨y,hy⟩:∃ y,xs[i]?=some y:=⟨_,List.getElem?_eq_getElem (by omega)⟩
  obtain⟨v,hv⟩:∃ v,vs[i]?=some v:=⟨_,List.getElem?_eq_getElem (by omega)⟩
  rw[hy] at h1
  have hd:ls[i]?=some y.1:=by rw[hx.1,List.getElem?_map,hy];rfl
  have h2:=hel m i _ y y.1 v h1 rfl hd hv
  have h3:((cs.drop i).take 1)[0]?=some v:=by rw[h2];rfl
  rw[List.getElem?_take,if_pos (by decide),List.getElem?_drop,Nat.add_zero] at h3
  rw[h3,hv]
 ·rw[List.getElem?_eq_none (by omega),List.getElem?_eq_none (by omega)]
theorem arr_ints {n:Nat} {e:TypeId} {k:IntKind} {zs:List Int} {p:List MemPlace} (ht:P.underlying t=some (.array n e)) (he:P.underlying e=some (.int k)) (c1:P.cellsOf e=1) (ct:P.cellsOf t=n) (hl:zs.length=n)
  (h:DataW.trod enc P w base spare held fuel t cs=some (.agg (zs.map fun z=>.lit (.int k z)),p)):cs=zs.map (Value.int k):=by
 refine arr_cells ht c1 ct (by rw[List.length_map,hl]) (by rw[List.length_map,hl]) (fun m i c y d v h1 h2 h3 h4=>?_) h
 obtain⟨z,rfl,rfl,_⟩:=DataW.trod_int he h1
 dsimp only at h2
 subst h2
 rw[List.getElem?_map,Option.map_eq_some_iff] at h3 h4
 obtain⟨z1,q1,q2⟩:=h3
 obtain⟨z2,q3,rfl⟩:=h4
 rw[q1] at q3
 cases q3
 cases q2
 rfl
theorem arr_floats {n:Nat} {e:TypeId} {k:FloatKind} {zs:List Nat} {p:List MemPlace} (ht:P.underlying t=some (.array n e)) (he:P.underlying e=some (.float k)) (c1:P.cellsOf e=1) (ct:P.cellsOf t=n) (hl:zs.length=n)
  (h:DataW.trod enc P w base spare held fuel t cs=some (.agg (zs.map fun z=>.lit (.float k z)),p)):cs=zs.map (Value.float k):=by
 refine arr_cells ht c1 ct (by rw[List.length_map,hl]) (by rw[List.length_map,hl]) (fun m i c y d v h1 h2 h3 h4=>?_) h
 obtain⟨z,rfl,rfl⟩:=trod_float he h1
 dsimp only at h2
 subst h2
 rw[List.getElem?_map,Option.map_eq_some_iff] at h3 h4
 obtain⟨z1,q1,q2⟩:=h3
 obtain⟨z2,q3,rfl⟩:=h4
 rw[q1] at q3
 cases q3
 cases q2
 rfl
theorem laid_var {laid:List (String × DataW Unit)} {n:String} {d:DataW Unit} {ps:List MemPlace} (hm:(n,d)∈laid) (h:DataW.LaidVars P w laid ps) :
  ∃ g t cs fuel p,P.globalNamed n=some g∧(P.globals[g]?).map (·.type)=some t∧w.var? P n=some cs∧DataW.trod (fun _=>()) P w 0 (fun _=>true) false fuel t cs.toList=some (d,p):=by
 induction laid generalizing ps with
 | nil=>simp at hm
 | cons y l ih=>
  obtain⟨n',d'⟩:=y
  obtain⟨g,t,cs,fuel,p,q,h1,h2,h3,h4,h5,_⟩:=h
  rcases List.mem_cons.1 hm with h6 | h6
  ·cases h6
   exact⟨g,t,cs,fuel,p,h1,h2,h3,h4⟩
  ·exact ih h6 h5
end
theorem var_row {W:World} {n:String} {g:Nat} {cs:Array Value} {vs:List Value} (hg:Tryz.prog.globalNamed n=some g) (hv:W.var? Tryz.prog n=some cs) (hcs:cs.toList=vs) (hs:vs.all scalar=true) :
  g<W.heap.size∧∀ N,RowIs (mem0 W N) g vs:=by
 simp only [World.var?,hg,Option.bind_some] at hv
 split at hv
 ·rename_i c e fz hh
  obtain rfl:c=cs:=by simpa using hv
  refine⟨(Array.getElem?_eq_some_iff.1 hh).1,fun N=>?_⟩
  obtain⟨rw',hr,hrl,hrc⟩:=mem0_live (N:=N) hh
  refine⟨rw',hr,List.ext_getElem? fun k=>?_⟩
  rw[List.getElem?_take]
  split
  ·rename_i hk
   obtain⟨v,hv⟩:∃ v,vs[k]?=some v:=⟨_,List.getElem?_eq_getElem hk⟩
   rw[hv]
   refine hrc k _ ?_ (fixed_scalar W N ?_)
   ·rw[← Array.getElem?_toList,hcs];exact hv
   ·exact List.all_eq_true.1 hs _ (List.mem_of_getElem? hv)
  ·rename_i hk
   rw[List.getElem?_eq_none (by omega)]
 ·cases hv
end
section
open Go Go.RowKit Ie
open Go.ChangeShapes Go.WideShapes Go.ChangeAt
abbrev laidL : List (String × DataW Unit) := [("math/bits.deBruijn32tab", Rows.laid_math_bits_deBruijn32tab), ("math/bits.deBruijn64tab", Rows.laid_math_bits_deBruijn64tab), ("internal/strconv.uint64pow10", Rows.laid_internal_strconv_uint64pow10), ("unicode/utf8.acceptRanges", Rows.laid_unicode_utf8_acceptRanges), ("math._sin", Rows.laid_math_sin), ("math._cos", Rows.laid_math_cos), ("math.mPi4", Rows.laid_math_mPi4), ("strconv.ErrRange", Rows.laid_strconv_ErrRange), ("strconv.ErrSyntax", Rows.laid_strconv_ErrSyntax), ("unicode/utf8.first", Rows.laid_unicode_utf8_first)]
theorem of_laid {W:World} (h:laidMetH Tryz.prog laidL W):gN≤W.heap.size∧∀ N,SinOk (mem0 W N)∧PowOk (mem0 W N):=by
 rw[MakeChecks.laidMetH_plain _ _ _ (by kernel_rfl)] at h
 obtain⟨ps,hv,_,_⟩:=h
 obtain ⟨g1, t1, cs1, f1, p1, a1, b1, c1, d1⟩ := laid_var (n := "internal/strconv.uint64pow10") (d := Rows.laid_internal_strconv_uint64pow10) (by simp) hv
 obtain ⟨g2, t2, cs2, f2, p2, a2, b2, c2, d2⟩ := laid_var (n := "math._sin") (d := Rows.laid_math_sin) (by simp) hv
 obtain ⟨g3, t3, cs3, f3, p3, a3, b3, c3, d3⟩ := laid_var (n := "math._cos") (d := Rows.laid_math_cos) (by simp) hv
 obtain ⟨g4, t4, cs4, f4, p4, a4, b4, c4, d4⟩ := laid_var (n := "math/bits.deBruijn64tab") (d := Rows.laid_math_bits_deBruijn64tab) (by simp) hv
 obtain rfl := Option.some.inj ((show Tryz.prog.globalNamed "internal/strconv.uint64pow10" = some 5 by kernel_rfl).symm.trans a1)
 obtain rfl := Option.some.inj ((show Tryz.prog.globalNamed "math._sin" = some 4 by kernel_rfl).symm.trans a2)
 obtain rfl := Option.some.inj ((show Tryz.prog.globalNamed "math._cos" = some 3 by kernel_rfl).symm.trans a3)
 obtain rfl := Option.some.inj ((show Tryz.prog.globalNamed "math/bits.deBruijn64tab" = some 13 by kernel_rfl).symm.trans a4)
 obtain rfl:=Option.some.inj ((show (Tryz.prog.globals[5]?).map (·.type)=some 171 by kernel_rfl).symm.trans b1)
 obtain rfl:=Option.some.inj ((show (Tryz.prog.globals[4]?).map (·.type)=some 169 by kernel_rfl).symm.trans b2)
 obtain rfl:=Option.some.inj ((show (Tryz.prog.globals[3]?).map (·.type)=some 169 by kernel_rfl).symm.trans b3)
 have e1:cs1.toList=powT:=arr_ints (k:=.u64) (zs:=(List.range 20).map fun i=>((10^i:Nat):Int)) Tryz.underlying171 Tryz.underlying57 (by kernel_rfl) (by kernel_rfl) rfl d1
 have e2:cs2.toList=sinT.map vf:=arr_floats (k:=.f64) (zs:=sinT) Tryz.underlying169 Tryz.underlying117 (by kernel_rfl) (by kernel_rfl) rfl d2
 have e3:cs3.toList=cosT.map vf:=arr_floats (k:=.f64) (zs:=cosT) Tryz.underlying169 Tryz.underlying117 (by kernel_rfl) (by kernel_rfl) rfl d3
 have r1:=var_row a1 c1 e1 rfl
 have r2:=var_row a2 c2 e2 rfl
 have r3:=var_row a3 c3 e3 rfl
 have hlt:13<W.heap.size:=by
  simp only [World.var?,a4,Option.bind_some] at c4
  split at c4
  ·rename_i c e fz hh
   exact(Array.getElem?_eq_some_iff.1 hh).1
  ·cases c4
 have hgN:gN≤13+1:=Nat.le_of_ble_eq_true (by kernel_rfl)
 exact⟨by omega,fun N=>⟨⟨r3.2 N,r2.2 N⟩,r1.2 N⟩⟩
theorem door_met (os:Os) (args:Array Value):laidMetH Tryz.prog laidL ((World.laidAll Tryz.prog os laidL).forCall (fun _ _=>0) ⟨#[],args,[]⟩).memory:=by
 rw[MakeChecks.laidMetH_plain _ _ _ (by kernel_rfl)]
 exact laidMet_laidAll _ (by kernel_rfl) (by kernel_rfl)
end
end Go.Proofs.YtbiigbicgfchiaaGreatDoor
