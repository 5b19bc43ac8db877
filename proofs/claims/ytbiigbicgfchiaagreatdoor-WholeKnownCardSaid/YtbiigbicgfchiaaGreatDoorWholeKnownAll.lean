/- The proof of the statement WholeKnown. Conditions: none. -/
import Derived.Test.YtbiigbicgfchiaaGreatDoorLieA
import Derived.Test.YtbiigbicgfchiaaGreatDoorLieB
import Derived.Test.YtbiigbicgfchiaaGreatDoorLieC
import Derived.Test.YtbiigbicgfchiaaGreatDoorLieD
import Derived.Test.YtbiigbicgfchiaaGreatDoorLieE
import Derived.Test.YtbiigbicgfchiaaGreatDoorLieF
import Derived.Test.YtbiigbicgfchiaaGreatDoorLieG
import Derived.Test.YtbiigbicgfchiaaGreatDoorRows
import Derived.Test.YtbiigbicgfchiaaGreatDoorTie
import Derived.Test.YtbiigbicgfchiaaGreatDoorCards
import Derived.SevenTiedAt
import Derived.WalkKit
import Derived.ProofKit
import Derived.OpenShut
import Derived.ShutString
import Derived.ChangeOld
import Derived.Below
/- Decimal digits there and back: the texts of numbers, with noughts ahead, read again. Plain. -/
set_option linter.unusedSimpArgs false
set_option linter.unusedVariables false
set_option maxRecDepth 100000
set_option exponentiation.threshold 20000
namespace Go.Proofs.YtbiigbicgfchiaaGreatDoor
open Go Ie
theorem digB_dig (n:Nat):isDig (digB n):=by unfold isDig;rw[digB_val];omega
theorem dec_digs (n:Nat):(∀ x∈dec n,isDig x)∧decN 0 (dec n)=n:=by
 induction n using Nat.strongRecOn with
 | _ n ih=>
  by_cases h:n<10
  ·rw[dec_small h]
   refine⟨fun x hx=>?_,?_⟩
   ·rw[List.mem_singleton] at hx;rw[hx];exact digB_dig n
   ·show 0*10+((digB n).toNat - 48)=n
    rw[digB_val];omega
  ·rw[dec_big (by omega)]
   obtain⟨h1,h2⟩:=ih (n / 10) (by omega)
   refine⟨fun x hx=>?_,?_⟩
   ·rcases List.mem_append.1 hx with hx | hx
    ·exact h1 x hx
    ·rw[List.mem_singleton] at hx;rw[hx];exact digB_dig n
   ·rw[decN_snoc,h2,digB_val];omega
def zeros (k:Nat):BL:=List.replicate k 48#8
theorem zeros_dig (k:Nat):∀ x∈zeros k,isDig x:=fun x hx=>by rw[List.eq_of_mem_replicate hx];unfold isDig;decide
theorem decN_zeros (k:Nat) (l:BL):decN 0 (zeros k++l)=decN 0 l:=by
 induction k with
 | zero=>rfl
 | succ k ih=>exact ih
theorem prs_dec {k N:Nat} (hN:N<2^8192) (hk:k≤10):prsE (zeros k++dec N)=0∧prsL (zeros k++dec N)=toW N:=by
 have hl:=dec_bound hN
 have hp:=dec_len_pos N
 have hd:=dec_digs N
 have h0:prsE (zeros k++dec N)=0:=by
  unfold prsE
  rw[if_neg (by rw[List.length_append];unfold zeros;rw[List.length_replicate];omega),if_neg,if_pos (by rw[decN_zeros,hd.2];exact hN)]
  rintro (h | h)
  ·have:=congrArg List.length h
   rw[List.length_append] at this
   have:(zeros k).length+(dec N).length=0:=this
   omega
  ·exact h fun x hx=>by
    rcases List.mem_append.1 hx with hx | hx
    ·exact zeros_dig k x hx
    ·exact hd.1 x hx
 exact⟨h0,by unfold prsL;rw[if_pos h0,decN_zeros,hd.2]⟩
end Go.Proofs.YtbiigbicgfchiaaGreatDoor
set_option maxHeartbeats 4000000
namespace Go.Proofs.YtbiigbicgfchiaaGreatDoor
section
open Go Ie
variable {Ext:FuncId→List Value→Mem→Outc→Mem→Prop}
def txtK (neg:Bool) (k N:Nat):BL:=(if neg then [45#8] else [])++(zeros k++dec N)
theorem head_dig (k N:Nat):∃ c,(zeros k++dec N).head?=some c∧isDig c:=by
 cases h:(zeros k++dec N) with
 | nil=>
  have:=congrArg List.length h
  have hp:=dec_len_pos N
  rw[List.length_append] at this
  have:(zeros k).length+(dec N).length=0:=this
  omega
 | cons c l=>
  refine⟨c,rfl,?_⟩
  have hm:c∈zeros k++dec N:=by rw[h];exact List.mem_cons_self
  rcases List.mem_append.1 hm with hx | hx
  ·exact zeros_dig k c hx
  ·exact(dec_digs N).1 c hx
theorem txtK_neg (neg:Bool) (k N:Nat):zNeg (txtK neg k N)=neg∧zRest (txtK neg k N)=zeros k++dec N:=by
 cases neg
 ·have h1:zNeg (txtK false k N)=false:=by
   obtain⟨c,hc,hd⟩:=head_dig k N
   unfold zNeg txtK
   simp only [Bool.false_eq_true,if_false,List.nil_append]
   rw[hc]
   unfold isDig at hd
   rw[beq_eq_false_iff_ne]
   intro e
   cases e
   revert hd
   decide
  exact⟨h1,by unfold zRest;rw[h1];rfl⟩
 ·exact⟨rfl,rfl⟩
theorem txtK_prs {neg:Bool} {k N:Nat} (hN:N<2^4096) (hk:k≤10):zprsE (txtK neg k N)=0∧zprsZ (txtK neg k N)=if neg then -(N:Int) else (N:Int):=by
 obtain⟨h1,h2⟩:=txtK_neg neg k N
 obtain⟨h3,h4⟩:=prs_dec (k:=k) (up4 hN) hk
 have hl:=dec_bound (up4 hN)
 have hZ:zprsZ (txtK neg k N)=if neg then -(N:Int) else (N:Int):=by
  unfold zprsZ
  rw[h1,h2,h4,zv_toW]
 refine⟨?_,hZ⟩
 unfold zprsE
 rw[if_neg,h2,if_pos h3,hZ]
 ·refine zok_E ?_
  unfold zok
  cases neg
  ·simp only [Bool.false_eq_true,if_false];rw[Int.natAbs_natCast];exact hN
  ·simp only [if_true];rw[Int.natAbs_neg,Int.natAbs_natCast];exact hN
 ·unfold txtK zeros
  rw[List.length_append,List.length_append,List.length_replicate]
  have:(if neg=true then [45#8] else []:BL).length≤1:=by cases neg<;>decide
  omega
theorem zText_K (x:Int):zText x=txtK (decide (x<0)) 0 x.natAbs:=by
 unfold zText txtK
 by_cases h:x<0
 ·rw[if_pos h,decide_eq_true h];rfl
 ·rw[if_neg h,decide_eq_false h];rfl
theorem txtK_val (x:Int):(if decide (x<0) then -(x.natAbs:Int) else (x.natAbs:Int))=x:=by
 by_cases h:x<0
 ·rw[decide_eq_true h,if_pos rfl];omega
 ·rw[decide_eq_false h];simp only [Bool.false_eq_true,if_false];omega
theorem txtK_head (neg:Bool) (k N:Nat):∃ c,(txtK neg k N)[0]?=some c∧(c==45#8)=neg:=by
 cases neg
 ·obtain⟨c,hc,hd⟩:=head_dig k N
  refine⟨c,?_,?_⟩
  ·show ((zeros k++dec N):BL)[0]?=some c
   rw[← hc,List.head?_eq_getElem?]
  ·unfold isDig at hd
   rw[beq_eq_false_iff_ne]
   intro e
   subst e
   revert hd
   decide
 ·exact⟨45#8,rfl,rfl⟩
theorem txtK_len {neg:Bool} {k N:Nat} (hN:N<2^4096) (hk:k≤10):1≤(txtK neg k N).length∧(txtK neg k N).length≤3000:=by
 have hl:=dec_bound (up4 hN)
 have hp:=dec_len_pos N
 unfold txtK zeros
 rw[List.length_append,List.length_append,List.length_replicate]
 have:(if neg=true then [45#8] else []:BL).length≤1:=by cases neg<;>decide
 omega
theorem minus_minus (k N:Nat) (hN:N<2^4096) (hk:k≤10):zprsE (45#8 :: txtK true k N)=12:=by
 have hl:=(txtK_len (neg:=true) hN hk).2
 have h1:zRest (45#8 :: txtK true k N)=txtK true k N:=rfl
 unfold zprsE
 rw[if_neg (by simp;omega),h1]
 have h2:prsE (txtK true k N)=12:=by
  unfold prsE
  rw[if_neg (by omega),if_pos]
  right
  intro h
  have:=h 45#8 (by unfold txtK;simp)
  unfold isDig at this
  revert this
  decide
 rw[h2,if_neg (by decide)]
theorem minus_zero:zprsE [45#8,48#8]=0∧zprsZ [45#8,48#8]=0:=by
 have h:=txtK_prs (neg:=true) (k:=0) (N:=0) (Nat.two_pow_pos _) (by decide)
 have e:txtK true 0 0=[45#8,48#8]:=by
  unfold txtK zeros
  rw[dec_small (by decide)]
  rfl
 rw[e] at h
 exact h
theorem yParse_C (s:BL) (S:Mem) (hl:s.length<1000000000):C Tryz.prog gN Ext 46 [.string (strB s)] S fun v S'=>ZR S S' v (zprsE s) (zprsZ s):=(zParse_C s S hl).mono fun _ _ h=>h.zr
theorem wholeBack_C (b0:Bool) (a0:Option Addr) (c0:Nat) (l0:WL) (S:Mem) (h0:Slv S 1 (.slice a0 l0.length c0) l0.length (wv l0)) (n0:l0.length<UNK) (hS:SinOk S) (hP:PowOk S) (hG:gN≤S.length) :
  C Tryz.prog gN Ext 9 [wZ b0 (.slice a0 l0.length c0)] S fun v S'=>v=.bool true∧Cons S S':=by
 refine C.fn Tryz.func9 rfl (by kernel_rfl) rfl (go ?_)
 refine L.nr [.bool b0,.slice a0 l0.length c0] wT rfl rfl (fun b2 Tb2 gb2 kb2 rb2=>?_)
 have kM:=kb2
 replace h0:=h0.cons kM
 replace hS:=hS.cons kM
 replace hP:=hP.cons kM
 replace hG:=Nat.le_trans hG kM.len
 have hZ:=Zs.nil Tb2
 have hc:=Cons.refl Tb2
 clear kb2 gb2
 refine go ?_
 refine L.z2 (Cons.row (h:=hc) rb2) rfl rfl rfl (go ?_)
 refine L.cl (zSome_C b0 a0 c0 64 l0 _ (h0.cons hc) n0 (by decide)) rfl rfl ?_
 rintro _ T' ⟨⟨a0,c0,rfl,w0⟩,k',hf0⟩
 refine⟨fun _=>k',?_⟩
 replace hZ:=hZ.cons k'
 replace hc:=hc.trans k'
 refine go ?_
 have fA:zok (zv b0 (l0.take 64)):=by
  unfold zok
  rw[zv_abs]
  exact num_len (k:=64) (by rw[List.length_take];omega)
 generalize zv b0 (l0.take 64)=A at *
 refine L.nr [.bool false,.slice none 0 0] wT rfl rfl (fun b0 T' g' k' r'=>?_)
 refine L.st2 r' rfl rfl rfl rfl rfl rfl (fun T' kk' r''=>?_)
 have kx:=kk'.mono k' g'
 replace hZ:=(hZ.cons kx).add ⟨a0,c0,r'',w0.cons kx⟩
 replace hc:=hc.trans kx
 clear kx kk' r'' r' k' g' w0
 refine go ?_
 refine L.zl (hZ.at 0 rfl) rfl rfl rfl (fun u1 hu1=>go ?_)
 refine L.cv (nText_C hu1 fA (hP.cons hc)) rfl rfl fun T' k'=>?_
 replace hZ:=hZ.cons k'
 replace hc:=hc.trans k'
 refine go ?_
 obtain⟨s,hs⟩:∃ s,s=zText A:=⟨_,rfl⟩
 obtain⟨ng,hng⟩:∃ ng,ng=decide (A<0):=⟨_,rfl⟩
 have hsK:s=txtK ng 0 A.natAbs:=by rw[hs,hng,zText_K]
 have hval:=txtK_val A
 rw[← hng] at hval
 rw[← hs]
 have hsl:=txtK_len (neg:=ng) (k:=0) fA (by decide)
 rw[← hsK] at hsl
 have hsp:=txtK_prs (neg:=ng) (k:=0) fA (by decide)
 rw[← hsK,hval] at hsp
 obtain⟨ch,hch,hcn⟩:=txtK_head ng 0 A.natAbs
 rw[← hsK] at hch
 have hch8:((ch.toNat:Int)==45)=ng:=by rw[← hcn];exact v8_beq ch 45#8
 have hp1:=yParse_C (Ext:=Ext) s T' (by omega)
 rw[hsp.1,hsp.2] at hp1
 refine L.cl (hp1) rfl rfl ?_
 rintro _ T' hr
 refine⟨fun _=>let ⟨_,_,k,_⟩:=hr;k,?_⟩
 obtain⟨_,rfl,k',⟨a2,c2,rfl,w2⟩,hf2⟩:=hr.ok (rfl)
 clear hr
 replace hZ:=hZ.cons k'
 replace hc:=hc.trans k'
 refine go ?_
 refine L.nr [.bool false,.slice none 0 0] wT rfl rfl (fun b2 T' g' k' r'=>?_)
 refine L.st2 r' rfl rfl rfl rfl rfl rfl (fun T' kk' r''=>?_)
 have kx:=kk'.mono k' g'
 replace hZ:=(hZ.cons kx).add ⟨a2,c2,r'',w2.cons kx⟩
 replace hc:=hc.trans kx
 clear kx kk' r'' r' k' g' w2
 refine go ?_
 refine L.zl (hZ.at 0 rfl) rfl rfl rfl (fun u3 hu3=>go ?_)
 refine L.zl (hZ.at 1 rfl) rfl rfl rfl (fun u4 hu4=>go ?_)
 refine L.cv (zSame2_C hu3 hu4) rfl rfl fun T' k'=>?_
 replace hZ:=hZ.cons k'
 replace hc:=hc.trans k'
 refine go ?_
 rw[show decide (A=A)=true from decide_eq_true rfl]
 refine go ?_
 refine L.tlen rfl rfl rfl rfl (go ?_)
 rw[show decide ((s.length:Int)<1)=false from decide_eq_false (by omega)]
 refine go ?_
 refine L.sB (l:=s) (i:=0) (b:=ch) rfl rfl hch rfl rfl (go ?_)
 rw[hch8]
 refine go ?_
 refine L.zl (hZ.at 0 rfl) rfl rfl rfl (fun u5 hu5=>go ?_)
 refine L.cv (nSign_C hu5) rfl rfl fun T' k'=>?_
 replace hZ:=hZ.cons k'
 replace hc:=hc.trans k'
 refine go ?_
 have hsg:decide (cmpI A 0<0)=ng:=by
  rw[hng]
  by_cases h:A<0
  ·rw[cmp_neg h,decide_eq_true h];rfl
  ·rw[decide_eq_false h]
   exact decide_eq_false (by rcases cmpI_vals A 0 with h1 | h1 | h1<;>first | omega | exact absurd (cz1 h1) h)
 rw[hsg]
 refine W.ite (t:=false) ((force_eq rfl).trans (congrArg Value.bool (bne_self_eq_false ng))) (fun h=>?_) (fun h=>?_)
 ·cases h
 clear h
 refine go ?_
 refine L.tadd (a:=[48#8,48#8,48#8]) (b:=s) rfl rfl (by simp;omega) rfl (go ?_)
 refine L.sB (l:=s) (i:=0) (b:=ch) rfl rfl hch rfl rfl (go ?_)
 rw[hch8]
 have ft:=txtK_prs (neg:=ng) (k:=3) fA (by decide)
 have fl:=txtK_len (neg:=ng) (k:=3) fA (by decide)
 rw[hval] at ft
 obtain⟨tt,htt⟩:∃ tt,tt=txtK ng 3 A.natAbs:=⟨_,rfl⟩
 rw[← htt] at ft fl
 have hmm:zprsE ([45#8]++tt)=if ng then 12 else 0:=by
  rw[htt]
  cases ng
  ·have:=(txtK_prs (neg:=true) (k:=3) fA (by decide)).1
   exact this
  ·exact minus_minus 3 _ fA (by decide)
 have hsK2:=hsK
 clear hng hsg hsK
 have hz0:=minus_zero
 cases ng
 ·have e:[48#8,48#8,48#8]++s=tt:=by rw[htt,hsK2];rfl
  rw[e]
  rw[if_neg Bool.false_ne_true] at hmm
  refine go ?_
  refine W.condF rfl (go ?_)
  have hp2:=yParse_C (Ext:=Ext) tt T' (by omega)
  rw[ft.1,ft.2] at hp2
  refine L.cl (hp2) rfl rfl ?_
  rintro _ T' hr
  refine⟨fun _=>let ⟨_,_,k,_⟩:=hr;k,?_⟩
  obtain⟨_,rfl,k',⟨a6,c6,rfl,w6⟩,hf6⟩:=hr.ok (rfl)
  clear hr
  replace hZ:=hZ.cons k'
  replace hc:=hc.trans k'
  refine go ?_
  refine L.nr [.bool false,.slice none 0 0] wT rfl rfl (fun b6 T' g' k' r'=>?_)
  refine L.st2 r' rfl rfl rfl rfl rfl rfl (fun T' kk' r''=>?_)
  have kx:=kk'.mono k' g'
  replace hZ:=(hZ.cons kx).add ⟨a6,c6,r'',w6.cons kx⟩
  replace hc:=hc.trans kx
  clear kx kk' r'' r' k' g' w6
  refine go ?_
  have hp3:=yParse_C (Ext:=Ext) [45#8,48#8] T' (by decide)
  rw[hz0.1,hz0.2] at hp3
  refine L.cl (hp3) rfl rfl ?_
  rintro _ T' hr
  refine⟨fun _=>let ⟨_,_,k,_⟩:=hr;k,?_⟩
  obtain⟨_,rfl,k',⟨a7,c7,rfl,w7⟩,hf7⟩:=hr.ok (rfl)
  clear hr
  replace hZ:=hZ.cons k'
  replace hc:=hc.trans k'
  refine go ?_
  refine L.nr [.bool false,.slice none 0 0] wT rfl rfl (fun b7 T' g' k' r'=>?_)
  refine L.st2 r' rfl rfl rfl rfl rfl rfl (fun T' kk' r''=>?_)
  have kx:=kk'.mono k' g'
  replace hZ:=(hZ.cons kx).add ⟨a7,c7,r'',w7.cons kx⟩
  replace hc:=hc.trans kx
  clear kx kk' r'' r' k' g' w7
  refine go ?_
  refine L.tadd (a:=[45#8]) (b:=tt) rfl rfl (by simp;omega) rfl (go ?_)
  have hp4:=yParse_C (Ext:=Ext) ([45#8]++tt) T' (by simp;omega)
  rw[hmm] at hp4
  refine L.cl hp4 rfl rfl ?_
  rintro _ T' ⟨_,rfl,k',⟨a8,c8,rfl,w8⟩,_⟩
  refine⟨fun _=>k',?_⟩
  replace hZ:=hZ.cons k'
  replace hc:=hc.trans k'
  refine go ?_
  refine L.nr [.bool false,.slice none 0 0] wT rfl rfl (fun b8 T' g' k' r'=>?_)
  refine L.st2 r' rfl rfl rfl rfl rfl rfl (fun T' kk' r''=>?_)
  have kx:=kk'.mono k' g'
  replace hZ:=(hZ.cons kx).add ⟨a8,c8,r'',w8.cons kx⟩
  replace hc:=hc.trans kx
  clear kx kk' r'' r' k' g' w8
  refine go ?_
  refine L.zl (hZ.at 0 rfl) rfl rfl rfl (fun u9 hu9=>go ?_)
  refine L.zl (hZ.at 2 rfl) rfl rfl rfl (fun u10 hu10=>go ?_)
  refine L.cv (zSame2_C hu9 hu10) rfl rfl fun T' k'=>?_
  replace hZ:=hZ.cons k'
  replace hc:=hc.trans k'
  refine go ?_
  rw[show decide (A=A)=true from decide_eq_true rfl]
  refine go ?_
  refine L.zl (hZ.at 3 rfl) rfl rfl rfl (fun u11 hu11=>go ?_)
  refine L.b0 rfl (go ?_)
  refine L.cv (zSame2_C hu11 (ZIs.zero _)) rfl rfl fun T' k'=>?_
  replace hZ:=hZ.cons k'
  replace hc:=hc.trans k'
  refine go ?_
  refine L.sB (l:=s) (i:=0) (b:=ch) rfl rfl hch rfl rfl (go ?_)
  rw[hch8]
  refine go ?_
  refine L.cv (works_C _ (hS.cons hc) (hP.cons hc) (Nat.le_trans hG hc.len)) rfl rfl fun M4 k4=>go ?_
  exact⟨.inr rfl,_,rfl,rfl,(kM.trans hc).trans k4⟩
 ·have e:[45#8,48#8,48#8,48#8]++s.drop 1=tt:=by rw[htt,hsK2];rfl
  rw[if_pos rfl] at hmm
  refine go ?_
  refine W.condT rfl (go ?_)
  refine L.from (l:=s) (i:=1) rfl rfl hsl.1 rfl rfl (go ?_)
  refine L.tadd (a:=[45#8,48#8,48#8,48#8]) (b:=s.drop 1) rfl rfl (by rw[List.length_drop];simp;omega) rfl ?_
  rw[e]
  refine go ?_
  have hp2:=yParse_C (Ext:=Ext) tt T' (by omega)
  rw[ft.1,ft.2] at hp2
  refine L.cl (hp2) rfl rfl ?_
  rintro _ T' hr
  refine⟨fun _=>let ⟨_,_,k,_⟩:=hr;k,?_⟩
  obtain⟨_,rfl,k',⟨a6,c6,rfl,w6⟩,hf6⟩:=hr.ok (rfl)
  clear hr
  replace hZ:=hZ.cons k'
  replace hc:=hc.trans k'
  refine go ?_
  refine L.nr [.bool false,.slice none 0 0] wT rfl rfl (fun b6 T' g' k' r'=>?_)
  refine L.st2 r' rfl rfl rfl rfl rfl rfl (fun T' kk' r''=>?_)
  have kx:=kk'.mono k' g'
  replace hZ:=(hZ.cons kx).add ⟨a6,c6,r'',w6.cons kx⟩
  replace hc:=hc.trans kx
  clear kx kk' r'' r' k' g' w6
  refine go ?_
  have hp3:=yParse_C (Ext:=Ext) [45#8,48#8] T' (by decide)
  rw[hz0.1,hz0.2] at hp3
  refine L.cl (hp3) rfl rfl ?_
  rintro _ T' hr
  refine⟨fun _=>let ⟨_,_,k,_⟩:=hr;k,?_⟩
  obtain⟨_,rfl,k',⟨a7,c7,rfl,w7⟩,hf7⟩:=hr.ok (rfl)
  clear hr
  replace hZ:=hZ.cons k'
  replace hc:=hc.trans k'
  refine go ?_
  refine L.nr [.bool false,.slice none 0 0] wT rfl rfl (fun b7 T' g' k' r'=>?_)
  refine L.st2 r' rfl rfl rfl rfl rfl rfl (fun T' kk' r''=>?_)
  have kx:=kk'.mono k' g'
  replace hZ:=(hZ.cons kx).add ⟨a7,c7,r'',w7.cons kx⟩
  replace hc:=hc.trans kx
  clear kx kk' r'' r' k' g' w7
  refine go ?_
  refine L.tadd (a:=[45#8]) (b:=tt) rfl rfl (by simp;omega) rfl (go ?_)
  have hp4:=yParse_C (Ext:=Ext) ([45#8]++tt) T' (by simp;omega)
  rw[hmm] at hp4
  refine L.cl hp4 rfl rfl ?_
  rintro _ T' ⟨_,rfl,k',⟨a8,c8,rfl,w8⟩,_⟩
  refine⟨fun _=>k',?_⟩
  replace hZ:=hZ.cons k'
  replace hc:=hc.trans k'
  refine go ?_
  refine L.nr [.bool false,.slice none 0 0] wT rfl rfl (fun b8 T' g' k' r'=>?_)
  refine L.st2 r' rfl rfl rfl rfl rfl rfl (fun T' kk' r''=>?_)
  have kx:=kk'.mono k' g'
  replace hZ:=(hZ.cons kx).add ⟨a8,c8,r'',w8.cons kx⟩
  replace hc:=hc.trans kx
  clear kx kk' r'' r' k' g' w8
  refine go ?_
  refine L.zl (hZ.at 0 rfl) rfl rfl rfl (fun u9 hu9=>go ?_)
  refine L.zl (hZ.at 2 rfl) rfl rfl rfl (fun u10 hu10=>go ?_)
  refine L.cv (zSame2_C hu9 hu10) rfl rfl fun T' k'=>?_
  replace hZ:=hZ.cons k'
  replace hc:=hc.trans k'
  refine go ?_
  rw[show decide (A=A)=true from decide_eq_true rfl]
  refine go ?_
  refine L.zl (hZ.at 3 rfl) rfl rfl rfl (fun u11 hu11=>go ?_)
  refine L.b0 rfl (go ?_)
  refine L.cv (zSame2_C hu11 (ZIs.zero _)) rfl rfl fun T' k'=>?_
  replace hZ:=hZ.cons k'
  replace hc:=hc.trans k'
  refine go ?_
  refine L.sB (l:=s) (i:=0) (b:=ch) rfl rfl hch rfl rfl (go ?_)
  rw[hch8]
  refine go ?_
  refine L.cv (works_C _ (hS.cons hc) (hP.cons hc) (Nat.le_trans hG hc.len)) rfl rfl fun M4 k4=>go ?_
  exact⟨.inr rfl,_,rfl,rfl,(kM.trans hc).trans k4⟩
end
section
open Go Ie
variable {Ext:FuncId→List Value→Mem→Outc→Mem→Prop}
theorem wholeReckons_C (b0 b1:Bool) (a0 a1:Option Addr) (c0 c1:Nat) (l0 l1:WL) (S:Mem) (h0:WPre S a0 c0 l0) (h1:WPre S a1 c1 l1) (hS:SinOk S) (hP:PowOk S) (hG:gN≤S.length) :
  C Tryz.prog gN Ext 6 [wZ b0 (.slice a0 l0.length c0),wZ b1 (.slice a1 l1.length c1)] S fun v S'=>v=.bool true∧Cons S S':=by
 refine C.fn Tryz.func6 rfl (by kernel_rfl) rfl (go ?_)
 refine L.nr [.bool b0,.slice a0 l0.length c0] wT rfl rfl (fun b2 Tb2 gb2 kb2 rb2=>?_)
 refine L.nr [.bool b1,.slice a1 l1.length c1] wT rfl rfl (fun b3 Tb3 gb3 kb3 rb3=>?_)
 have kM:=kb2.trans kb3
 replace rb2:=Cons.row (h:=kb3) rb2
 have hc:=Cons.refl Tb3
 clear kb2 kb3 gb2 gb3
 refine go ?_
 refine L.zf (Cons.row (h:=hc) rb2) rfl rfl rfl rfl rfl (go ?_)
 cases hg0:decide ((l0.length:Int) > 200)
 case true=>
  refine go ?_
  refine W.ite rfl (fun h=>?_) (fun h=>?_)
  ·refine go ?_
   exact⟨.inr rfl,_,rfl,rfl,kM.trans hc⟩
  ·cases h
 refine go ?_
 refine L.zf (Cons.row (h:=hc) rb3) rfl rfl rfl rfl rfl (go ?_)
 cases hg1:decide ((l1.length:Int) > 200)
 case true=>
  refine W.ite rfl (fun h=>?_) (fun h=>?_)
  ·refine go ?_
   exact⟨.inr rfl,_,rfl,rfl,kM.trans hc⟩
  ·cases h
 refine W.condF rfl ?_
 have hn0:l0.length≤200:=by have:=of_decide_eq_false hg0;omega
 have hn1:l1.length≤200:=by have:=of_decide_eq_false hg1;omega
 clear hg0 hg1
 replace h0:=(h0.win (by omega)).cons kM
 replace h1:=(h1.win (by omega)).cons kM
 refine go ?_
 refine L.z2 (Cons.row (h:=hc) rb2) rfl rfl rfl ?_
 refine L.cl (lentZ_C b0 a0 c0 l0 _ (h0.cons hc) (by omega)) rfl rfl ?_
 rintro _ S1 ⟨k1,x,hx,rfl,hr0⟩
 refine⟨fun _=>k1,?_⟩
 replace hc:=hc.trans k1
 refine L.z2 (Cons.row (h:=hc) rb3) rfl rfl rfl ?_
 refine L.cl (lentZ_C b1 a1 c1 l1 _ (h1.cons hc) (by omega)) rfl rfl ?_
 rintro _ S2 ⟨k2,y,hy,rfl,hr1⟩
 refine⟨fun _=>k2,?_⟩
 replace hc:=hc.trans k2
 replace hr0:=Cons.row (h:=k2) hr0
 clear hx hy k1 k2
 refine L.nr [.bool false,.slice none 0 0] wT rfl rfl (fun b5 T1' g1' k1' r1'=>?_)
 refine L.nr [.bool false,.slice none 0 0] wT rfl rfl (fun b6 T2' g2' k2' r2'=>?_)
 have n12:b6≠b5:=by have:=row_lt r1';omega
 replace r1':=Cons.row (h:=k2') r1'
 refine L.st2 r1' rfl rfl rfl rfl rfl rfl (fun T3' kk1 s1'=>?_)
 refine L.st2 (kk1.row r2' n12) rfl rfl rfl rfl rfl rfl (fun M0 kk2 rb6=>?_)
 have rb5:=kk2.row s1' (Ne.symm n12)
 have kx:=kk2.mono (kk1.mono (k1'.trans k2') g1') (Nat.le_trans k1'.len g2')
 replace hc:=hc.trans kx
 replace hr0:=Cons.row (h:=kx) hr0
 replace hr1:=Cons.row (h:=kx) hr1
 replace rb2:=Cons.row (h:=hc) rb2
 replace rb3:=Cons.row (h:=hc) rb3
 replace h0:=h0.cons hc
 replace h1:=h1.cons hc
 have kS:=kM.trans hc
 replace hS:=hS.cons kS
 replace hP:=hP.cons kS
 replace hG:=Nat.le_trans hG kS.len
 have hx:=lent_win hr0 (by omega)
 have hy:=lent_win hr1 (by omega)
 clear kx kk1 kk2 s1' r1' r2' k1' k2' g1' g2' n12 hc kM
 have hc:=Cons.refl M0
 have hZ:=Zs.nil M0
 have hQ:=Qs.nil M0
 have hK:=PK.nil M0
 obtain⟨X,hX⟩:∃ X,zv b0 l0=X:=⟨_,rfl⟩
 obtain⟨Y,hY⟩:∃ Y,zv b1 l1=Y:=⟨_,rfl⟩
 have X5:ZIn M0 (.agg #[.bool b0,.slice (some ⟨x,0,none⟩) l0.length (UNK+(l0.length+16))]) X 200:=⟨_,_,_,_,rfl,hx,hn0,hX⟩
 have Y6:ZIn M0 (.agg #[.bool b1,.slice (some ⟨y,0,none⟩) l1.length (UNK+(l1.length+16))]) Y 200:=⟨_,_,_,_,rfl,hy,hn1,hY⟩
 have X2:ZIn M0 (.agg #[.bool b0,.slice a0 l0.length c0]) X 200:=⟨_,_,_,_,rfl,h0,hn0,hX⟩
 have Y3:ZIn M0 (.agg #[.bool b1,.slice a1 l1.length c1]) Y 200:=⟨_,_,_,_,rfl,h1,hn1,hY⟩
 refine go ?_
 refine L.z2 (Cons.row (h:=hc) rb5) rfl rfl rfl ?_
 refine L.z2 (Cons.row (h:=hc) rb6) rfl rfl rfl ?_
 refine L.cl (iAdd_C (X5.cons hc) (Y6.cons hc)) rfl rfl ?_
 rintro _ T' hr
 obtain⟨d11,rfl,r11⟩:=hr.both
 refine⟨fun _=>r11.1,?_⟩
 clear hr
 have w11:=r11.win
 have v11:=r11.val
 replace hZ:=hZ.cons r11.1
 replace hQ:=hQ.cons r11.1
 replace hK:=hK.add r11 (zcE_len (zz2_ok))
 replace hc:=hc.trans r11.1
 clear r11
 refine go ?_
 refine L.nr [.bool false,.slice none 0 0] wT rfl rfl (fun b11 T' g' k' r'=>?_)
 refine L.st2 r' rfl rfl rfl rfl rfl rfl (fun T' kk' r''=>?_)
 have kx:=kk'.mono k' g'
 replace hZ:=hZ.cons kx
 replace hQ:=(hQ.cons kx).add ⟨r'',w11.cons kx⟩
 replace hK:=hK.cons kx
 replace hc:=hc.trans kx
 clear kx kk' r'' r' k' g' w11
 refine go ?_
 refine L.z2 (Cons.row (h:=hc) rb5) rfl rfl rfl ?_
 refine L.z2 (Cons.row (h:=hc) rb6) rfl rfl rfl ?_
 refine L.cl (iSub_C (X5.cons hc) (Y6.cons hc)) rfl rfl ?_
 rintro _ T' hr
 obtain⟨d12,rfl,r12⟩:=hr.both
 refine⟨fun _=>r12.1,?_⟩
 clear hr
 have w12:=r12.win
 have v12:=r12.val
 replace hZ:=hZ.cons r12.1
 replace hQ:=hQ.cons r12.1
 replace hK:=hK.add r12 (zcE_len (zz2_ok))
 replace hc:=hc.trans r12.1
 clear r12
 refine go ?_
 refine L.nr [.bool false,.slice none 0 0] wT rfl rfl (fun b12 T' g' k' r'=>?_)
 refine L.st2 r' rfl rfl rfl rfl rfl rfl (fun T' kk' r''=>?_)
 have kx:=kk'.mono k' g'
 replace hZ:=hZ.cons kx
 replace hQ:=(hQ.cons kx).add ⟨r'',w12.cons kx⟩
 replace hK:=hK.cons kx
 replace hc:=hc.trans kx
 clear kx kk' r'' r' k' g' w12
 refine go ?_
 refine L.z2 (Cons.row (h:=hc) rb5) rfl rfl rfl ?_
 refine L.z2 (Cons.row (h:=hc) rb6) rfl rfl rfl ?_
 refine L.cl (iMul_C (X5.cons hc) (Y6.cons hc) (hS.cons hc) (Nat.le_trans hG hc.len)) rfl rfl ?_
 rintro _ T' hr
 obtain⟨d13,rfl,r13⟩:=hr.both
 refine⟨fun _=>r13.1,?_⟩
 clear hr
 have w13:=r13.win
 have v13:=r13.val
 replace hZ:=hZ.cons r13.1
 replace hQ:=hQ.cons r13.1
 replace hK:=hK.add r13 (zcE_len (zz2_ok))
 replace hc:=hc.trans r13.1
 clear r13
 refine go ?_
 refine L.nr [.bool false,.slice none 0 0] wT rfl rfl (fun b13 T' g' k' r'=>?_)
 refine L.st2 r' rfl rfl rfl rfl rfl rfl (fun T' kk' r''=>?_)
 have kx:=kk'.mono k' g'
 replace hZ:=hZ.cons kx
 replace hQ:=(hQ.cons kx).add ⟨r'',w13.cons kx⟩
 replace hK:=hK.cons kx
 replace hc:=hc.trans kx
 clear kx kk' r'' r' k' g' w13
 refine go ?_
 refine L.z2 (Cons.row (h:=hc) rb5) rfl rfl rfl ?_
 refine L.z2 (Cons.row (h:=hc) rb6) rfl rfl rfl ?_
 refine L.cl (iQuo_C (X5.cons hc) (Y6.cons hc)) rfl rfl ?_
 rintro _ T' hr
 obtain⟨d14,rfl,r14⟩:=hr.both
 refine⟨fun _=>r14.1,?_⟩
 clear hr
 have w14:=r14.win
 have v14:=r14.val
 replace hZ:=hZ.cons r14.1
 replace hQ:=hQ.cons r14.1
 replace hK:=hK.add r14 (zcE_len (zzQ_ok))
 replace hc:=hc.trans r14.1
 clear r14
 refine go ?_
 refine L.nr [.bool false,.slice none 0 0] wT rfl rfl (fun b14 T' g' k' r'=>?_)
 refine L.st2 r' rfl rfl rfl rfl rfl rfl (fun T' kk' r''=>?_)
 have kx:=kk'.mono k' g'
 replace hZ:=hZ.cons kx
 replace hQ:=(hQ.cons kx).add ⟨r'',w14.cons kx⟩
 replace hK:=hK.cons kx
 replace hc:=hc.trans kx
 clear kx kk' r'' r' k' g' w14
 refine go ?_
 refine L.z2 (Cons.row (h:=hc) rb5) rfl rfl rfl ?_
 refine L.z2 (Cons.row (h:=hc) rb6) rfl rfl rfl ?_
 refine L.cl (iRem_C (X5.cons hc) (Y6.cons hc)) rfl rfl ?_
 rintro _ T' hr
 obtain⟨d15,rfl,r15⟩:=hr.both
 refine⟨fun _=>r15.1,?_⟩
 clear hr
 have w15:=r15.win
 have v15:=r15.val
 replace hZ:=hZ.cons r15.1
 replace hQ:=hQ.cons r15.1
 replace hK:=hK.add r15 (zcE_len (zzR_ok))
 replace hc:=hc.trans r15.1
 clear r15
 refine go ?_
 refine L.nr [.bool false,.slice none 0 0] wT rfl rfl (fun b15 T' g' k' r'=>?_)
 refine L.st2 r' rfl rfl rfl rfl rfl rfl (fun T' kk' r''=>?_)
 have kx:=kk'.mono k' g'
 replace hZ:=hZ.cons kx
 replace hQ:=(hQ.cons kx).add ⟨r'',w15.cons kx⟩
 replace hK:=hK.cons kx
 replace hc:=hc.trans kx
 clear kx kk' r'' r' k' g' w15
 refine go ?_
 refine L.z2 (Cons.row (h:=hc) rb5) rfl rfl rfl ?_
 refine L.cl (iNeg_C (X5.cons hc)) rfl rfl ?_
 rintro _ T' hr
 obtain⟨d16,rfl,r16⟩:=hr.both
 refine⟨fun _=>r16.1,?_⟩
 clear hr
 have w16:=r16.win
 have v16:=r16.val
 replace hZ:=hZ.cons r16.1
 replace hQ:=hQ.cons r16.1
 replace hK:=hK.add r16 (zcE_len (zE_ok))
 replace hc:=hc.trans r16.1
 clear r16
 refine go ?_
 refine L.nr [.bool false,.slice none 0 0] wT rfl rfl (fun b16 T' g' k' r'=>?_)
 refine L.st2 r' rfl rfl rfl rfl rfl rfl (fun T' kk' r''=>?_)
 have kx:=kk'.mono k' g'
 replace hZ:=hZ.cons kx
 replace hQ:=(hQ.cons kx).add ⟨r'',w16.cons kx⟩
 replace hK:=hK.cons kx
 replace hc:=hc.trans kx
 clear kx kk' r'' r' k' g' w16
 refine go ?_
 refine L.zf (Cons.row (h:=hc) rb5) rfl rfl rfl rfl rfl (go ?_)
 refine L.zf (Cons.row (h:=hc) rb5) rfl rfl rfl rfl rfl ?_
 have hmk:=zMake_C (Ext:=Ext) b0 _ _ l0 T' (hx.cons hc)
 have hmr:=fun T (h:Cons M0 T)=>rzMake_C (Ext:=Ext) b0 _ _ l0 (h0.cons h) (by omega)
 rw[hX] at hmk hmr
 refine L.cl (hmk) rfl rfl ?_
 rintro _ T' hr
 obtain⟨d17,rfl,r17⟩:=hr.both
 refine⟨fun _=>r17.1,?_⟩
 clear hr
 have w17:=r17.win
 have v17:=r17.val
 replace hZ:=hZ.cons r17.1
 replace hQ:=hQ.cons r17.1
 replace hK:=hK.add r17 (zcE_len (zE_ok))
 replace hc:=hc.trans r17.1
 clear r17
 refine go ?_
 refine L.nr [.bool false,.slice none 0 0] wT rfl rfl (fun b17 T' g' k' r'=>?_)
 refine L.st2 r' rfl rfl rfl rfl rfl rfl (fun T' kk' r''=>?_)
 have kx:=kk'.mono k' g'
 replace hZ:=hZ.cons kx
 replace hQ:=(hQ.cons kx).add ⟨r'',w17.cons kx⟩
 replace hK:=hK.cons kx
 replace hc:=hc.trans kx
 clear kx kk' r'' r' k' g' w17
 refine go ?_
 refine L.z2 (Cons.row (h:=hc) rb5) rfl rfl rfl ?_
 refine L.cv (iInt64_C (X5.cons hc)) rfl rfl fun T' k'=>?_
 replace hZ:=hZ.cons k'
 replace hQ:=hQ.cons k'
 replace hK:=hK.cons k'
 replace hc:=hc.trans k'
 clear k'
 refine go ?_
 refine L.z2 (Cons.row (h:=hc) rb2) rfl rfl rfl ?_
 refine L.z2 (Cons.row (h:=hc) rb3) rfl rfl rfl ?_
 refine L.cl (rzAdd_C (X2.cons hc) (Y3.cons hc) (by decide) (by decide)) rfl rfl ?_
 rintro _ T' ⟨_,rfl,k0',a21,c21,rfl,w21⟩
 refine⟨fun _=>k0',?_⟩
 replace hZ:=hZ.cons k0'
 replace hQ:=hQ.cons k0'
 replace hK:=hK.cons k0'
 replace hc:=hc.trans k0'
 clear k0'
 refine go ?_
 refine L.nr [.bool false,.slice none 0 0] wT rfl rfl (fun b21 T' g' k' r'=>?_)
 refine L.st2 r' rfl rfl rfl rfl rfl rfl (fun T' kk' r''=>?_)
 have kx:=kk'.mono k' g'
 replace hZ:=(hZ.cons kx).add ⟨_,_,r'',w21.cons kx⟩
 replace hK:=hK.cons kx
 replace hQ:=hQ.cons kx
 replace hc:=hc.trans kx
 clear kx kk' r'' r' k' g' w21
 refine go ?_
 refine L.z2 (Cons.row (h:=hc) rb2) rfl rfl rfl ?_
 refine L.z2 (Cons.row (h:=hc) rb3) rfl rfl rfl ?_
 refine L.cl (rzSub_C (X2.cons hc) (Y3.cons hc) (by decide) (by decide)) rfl rfl ?_
 rintro _ T' ⟨_,rfl,k0',a22,c22,rfl,w22⟩
 refine⟨fun _=>k0',?_⟩
 replace hZ:=hZ.cons k0'
 replace hQ:=hQ.cons k0'
 replace hK:=hK.cons k0'
 replace hc:=hc.trans k0'
 clear k0'
 refine go ?_
 refine L.nr [.bool false,.slice none 0 0] wT rfl rfl (fun b22 T' g' k' r'=>?_)
 refine L.st2 r' rfl rfl rfl rfl rfl rfl (fun T' kk' r''=>?_)
 have kx:=kk'.mono k' g'
 replace hZ:=(hZ.cons kx).add ⟨_,_,r'',w22.cons kx⟩
 replace hK:=hK.cons kx
 replace hQ:=hQ.cons kx
 replace hc:=hc.trans kx
 clear kx kk' r'' r' k' g' w22
 refine go ?_
 refine L.z2 (Cons.row (h:=hc) rb2) rfl rfl rfl ?_
 refine L.z2 (Cons.row (h:=hc) rb3) rfl rfl rfl ?_
 refine L.cl (rzMul_C (X2.cons hc) (Y3.cons hc) (by decide) (by decide)) rfl rfl ?_
 rintro _ T' ⟨_,rfl,k0',a23,c23,rfl,w23⟩
 refine⟨fun _=>k0',?_⟩
 replace hZ:=hZ.cons k0'
 replace hQ:=hQ.cons k0'
 replace hK:=hK.cons k0'
 replace hc:=hc.trans k0'
 clear k0'
 refine go ?_
 refine L.nr [.bool false,.slice none 0 0] wT rfl rfl (fun b23 T' g' k' r'=>?_)
 refine L.st2 r' rfl rfl rfl rfl rfl rfl (fun T' kk' r''=>?_)
 have kx:=kk'.mono k' g'
 replace hZ:=(hZ.cons kx).add ⟨_,_,r'',w23.cons kx⟩
 replace hK:=hK.cons kx
 replace hQ:=hQ.cons kx
 replace hc:=hc.trans kx
 clear kx kk' r'' r' k' g' w23
 refine go ?_
 refine L.z2 (Cons.row (h:=hc) rb2) rfl rfl rfl ?_
 refine L.z2 (Cons.row (h:=hc) rb3) rfl rfl rfl ?_
 refine L.cl (rzQuo_C (X2.cons hc) (Y3.cons hc) (by decide) (by decide)) rfl rfl ?_
 rintro _ T' ⟨_,rfl,k0',a24,c24,rfl,w24⟩
 refine⟨fun _=>k0',?_⟩
 replace hZ:=hZ.cons k0'
 replace hQ:=hQ.cons k0'
 replace hK:=hK.cons k0'
 replace hc:=hc.trans k0'
 clear k0'
 refine go ?_
 refine L.nr [.bool false,.slice none 0 0] wT rfl rfl (fun b24 T' g' k' r'=>?_)
 refine L.st2 r' rfl rfl rfl rfl rfl rfl (fun T' kk' r''=>?_)
 have kx:=kk'.mono k' g'
 replace hZ:=(hZ.cons kx).add ⟨_,_,r'',w24.cons kx⟩
 replace hK:=hK.cons kx
 replace hQ:=hQ.cons kx
 replace hc:=hc.trans kx
 clear kx kk' r'' r' k' g' w24
 refine go ?_
 refine L.z2 (Cons.row (h:=hc) rb2) rfl rfl rfl ?_
 refine L.z2 (Cons.row (h:=hc) rb3) rfl rfl rfl ?_
 refine L.cl (rzRem_C (X2.cons hc) (Y3.cons hc) (by decide) (by decide)) rfl rfl ?_
 rintro _ T' ⟨_,rfl,k0',a25,c25,rfl,w25⟩
 refine⟨fun _=>k0',?_⟩
 replace hZ:=hZ.cons k0'
 replace hQ:=hQ.cons k0'
 replace hK:=hK.cons k0'
 replace hc:=hc.trans k0'
 clear k0'
 refine go ?_
 refine L.nr [.bool false,.slice none 0 0] wT rfl rfl (fun b25 T' g' k' r'=>?_)
 refine L.st2 r' rfl rfl rfl rfl rfl rfl (fun T' kk' r''=>?_)
 have kx:=kk'.mono k' g'
 replace hZ:=(hZ.cons kx).add ⟨_,_,r'',w25.cons kx⟩
 replace hK:=hK.cons kx
 replace hQ:=hQ.cons kx
 replace hc:=hc.trans kx
 clear kx kk' r'' r' k' g' w25
 refine go ?_
 refine L.z2 (Cons.row (h:=hc) rb2) rfl rfl rfl ?_
 refine L.cl (rzNeg_C (X2.cons hc) (by decide)) rfl rfl ?_
 rintro _ T' ⟨_,rfl,k0',a26,c26,rfl,w26⟩
 refine⟨fun _=>k0',?_⟩
 replace hZ:=hZ.cons k0'
 replace hQ:=hQ.cons k0'
 replace hK:=hK.cons k0'
 replace hc:=hc.trans k0'
 clear k0'
 refine go ?_
 refine L.nr [.bool false,.slice none 0 0] wT rfl rfl (fun b26 T' g' k' r'=>?_)
 refine L.st2 r' rfl rfl rfl rfl rfl rfl (fun T' kk' r''=>?_)
 have kx:=kk'.mono k' g'
 replace hZ:=(hZ.cons kx).add ⟨_,_,r'',w26.cons kx⟩
 replace hK:=hK.cons kx
 replace hQ:=hQ.cons kx
 replace hc:=hc.trans kx
 clear kx kk' r'' r' k' g' w26
 refine go ?_
 refine L.zf (Cons.row (h:=hc) rb2) rfl rfl rfl rfl rfl (go ?_)
 refine L.zf (Cons.row (h:=hc) rb2) rfl rfl rfl rfl rfl ?_
 refine L.cl (hmr _ hc) rfl rfl ?_
 rintro _ T' ⟨_,rfl,k0',a27,c27,rfl,w27⟩
 refine⟨fun _=>k0',?_⟩
 replace hZ:=hZ.cons k0'
 replace hQ:=hQ.cons k0'
 replace hK:=hK.cons k0'
 replace hc:=hc.trans k0'
 clear k0'
 refine go ?_
 refine L.nr [.bool false,.slice none 0 0] wT rfl rfl (fun b27 T' g' k' r'=>?_)
 refine L.st2 r' rfl rfl rfl rfl rfl rfl (fun T' kk' r''=>?_)
 have kx:=kk'.mono k' g'
 replace hZ:=(hZ.cons kx).add ⟨_,_,r'',w27.cons kx⟩
 replace hK:=hK.cons kx
 replace hQ:=hQ.cons kx
 replace hc:=hc.trans kx
 clear kx kk' r'' r' k' g' w27
 refine go ?_
 refine L.z2 (Cons.row (h:=hc) rb2) rfl rfl rfl ?_
 refine L.cv (rzInt64_C (X2.cons hc) (by decide)) rfl rfl fun T' k'=>?_
 replace hZ:=hZ.cons k'
 replace hQ:=hQ.cons k'
 replace hK:=hK.cons k'
 replace hc:=hc.trans k'
 clear k'
 refine go ?_
 generalize (if i64ok X=true then X else 0)=V
 generalize i64ok X=B
 refine L.ql (hQ.at 0 rfl) rfl rfl rfl (go ?_)
 refine L.zl (hZ.at 0 rfl) rfl rfl rfl (fun u hu=>go ?_)
 refine L.cv (zsame_C _ (hQ.at 0 rfl).zis hu) rfl rfl fun T' k'=>?_
 clear hu
 replace hZ:=hZ.cons k'
 replace hQ:=hQ.cons k'
 replace hK:=hK.cons k'
 replace hc:=hc.trans k'
 clear k'
 refine go ?_
 refine L.ql (hQ.at 1 rfl) rfl rfl rfl (go ?_)
 refine L.zl (hZ.at 1 rfl) rfl rfl rfl (fun u hu=>go ?_)
 refine L.cv (zsame_C _ (hQ.at 1 rfl).zis hu) rfl rfl fun T' k'=>?_
 clear hu
 replace hZ:=hZ.cons k'
 replace hQ:=hQ.cons k'
 replace hK:=hK.cons k'
 replace hc:=hc.trans k'
 clear k'
 refine go ?_
 refine L.ql (hQ.at 2 rfl) rfl rfl rfl (go ?_)
 refine L.zl (hZ.at 2 rfl) rfl rfl rfl (fun u hu=>go ?_)
 refine L.cv (zsame_C _ (hQ.at 2 rfl).zis hu) rfl rfl fun T' k'=>?_
 clear hu
 replace hZ:=hZ.cons k'
 replace hQ:=hQ.cons k'
 replace hK:=hK.cons k'
 replace hc:=hc.trans k'
 clear k'
 refine go ?_
 refine L.ql (hQ.at 3 rfl) rfl rfl rfl (go ?_)
 refine L.zl (hZ.at 3 rfl) rfl rfl rfl (fun u hu=>go ?_)
 refine L.cv (zsame_C _ (hQ.at 3 rfl).zis hu) rfl rfl fun T' k'=>?_
 clear hu
 replace hZ:=hZ.cons k'
 replace hQ:=hQ.cons k'
 replace hK:=hK.cons k'
 replace hc:=hc.trans k'
 clear k'
 refine go ?_
 refine L.ql (hQ.at 4 rfl) rfl rfl rfl (go ?_)
 refine L.zl (hZ.at 4 rfl) rfl rfl rfl (fun u hu=>go ?_)
 refine L.cv (zsame_C _ (hQ.at 4 rfl).zis hu) rfl rfl fun T' k'=>?_
 clear hu
 replace hZ:=hZ.cons k'
 replace hQ:=hQ.cons k'
 replace hK:=hK.cons k'
 replace hc:=hc.trans k'
 clear k'
 refine go ?_
 refine L.ql (hQ.at 5 rfl) rfl rfl rfl (go ?_)
 refine L.zl (hZ.at 5 rfl) rfl rfl rfl (fun u hu=>go ?_)
 refine L.cv (zsame_C _ (hQ.at 5 rfl).zis hu) rfl rfl fun T' k'=>?_
 clear hu
 replace hZ:=hZ.cons k'
 replace hQ:=hQ.cons k'
 replace hK:=hK.cons k'
 replace hc:=hc.trans k'
 clear k'
 refine go ?_
 refine L.ql (hQ.at 6 rfl) rfl rfl rfl (go ?_)
 refine L.zl (hZ.at 6 rfl) rfl rfl rfl (fun u hu=>go ?_)
 refine L.cv (zsame_C _ (hQ.at 6 rfl).zis hu) rfl rfl fun T' k'=>?_
 clear hu
 replace hZ:=hZ.cons k'
 replace hQ:=hQ.cons k'
 replace hK:=hK.cons k'
 replace hc:=hc.trans k'
 clear k'
 refine go ?_
 rw[show (V != V)=false from bne_self_eq_false V]
 refine go ?_
 refine W.ite rfl (fun h=>?_) (fun h=>?_)
 ·exfalso
  have h':(B != B)=true:=h
  rw[bne_self_eq_false] at h'
  cases h'
 clear h
 refine go ?_
 refine L.z2 (Cons.row (h:=hc) rb5) rfl rfl rfl ?_
 refine L.z2 (Cons.row (h:=hc) rb6) rfl rfl rfl ?_
 refine L.cv (iCmp_C (X5.cons hc) (Y6.cons hc)) rfl rfl fun T' k'=>?_
 replace hZ:=hZ.cons k'
 replace hQ:=hQ.cons k'
 replace hK:=hK.cons k'
 replace hc:=hc.trans k'
 clear k'
 refine L.z2 (Cons.row (h:=hc) rb2) rfl rfl rfl ?_
 refine L.z2 (Cons.row (h:=hc) rb3) rfl rfl rfl ?_
 refine L.cv (rzCmp_C (X2.cons hc) (Y3.cons hc) (by decide) (by decide)) rfl rfl fun T' k'=>?_
 replace hZ:=hZ.cons k'
 replace hQ:=hQ.cons k'
 replace hK:=hK.cons k'
 replace hc:=hc.trans k'
 clear k'
 refine go ?_
 rw[show (cmpI X Y != cmpI X Y)=false from bne_self_eq_false _]
 refine L.z2 (Cons.row (h:=hc) rb5) rfl rfl rfl ?_
 refine L.cv (iSign_C (X5.cons hc)) rfl rfl fun T' k'=>?_
 replace hZ:=hZ.cons k'
 replace hQ:=hQ.cons k'
 replace hK:=hK.cons k'
 replace hc:=hc.trans k'
 clear k'
 refine L.z2 (Cons.row (h:=hc) rb2) rfl rfl rfl ?_
 refine L.cv (rzSign_C (X2.cons hc) (by decide)) rfl rfl fun T' k'=>?_
 replace hZ:=hZ.cons k'
 replace hQ:=hQ.cons k'
 replace hK:=hK.cons k'
 replace hc:=hc.trans k'
 clear k'
 refine go ?_
 rw[show (cmpI X 0 != cmpI X 0)=false from bne_self_eq_false _]
 refine L.z2 (Cons.row (h:=hc) rb5) rfl rfl rfl ?_
 refine L.z2 (Cons.row (h:=hc) rb5) rfl rfl rfl ?_
 refine L.cv (iCmp_C (X5.cons hc) (X5.cons hc)) rfl rfl fun T' k'=>?_
 replace hZ:=hZ.cons k'
 replace hQ:=hQ.cons k'
 replace hK:=hK.cons k'
 replace hc:=hc.trans k'
 clear k'
 refine go ?_
 rw[show cmpI X X=0 from (cmp_eq X X).2 rfl]
 refine L.z2 (Cons.row (h:=hc) rb5) rfl rfl rfl ?_
 refine L.z2 (Cons.row (h:=hc) rb2) rfl rfl rfl ?_
 refine L.cv (keptZ_C b0 a0 x c0 l0 _ (Cons.row (h:=hc) hr0) (h0.cons hc) (by omega)) rfl rfl fun T' k'=>?_
 replace hZ:=hZ.cons k'
 replace hQ:=hQ.cons k'
 replace hK:=hK.cons k'
 replace hc:=hc.trans k'
 clear k'
 refine go ?_
 refine L.z2 (Cons.row (h:=hc) rb6) rfl rfl rfl ?_
 refine L.z2 (Cons.row (h:=hc) rb3) rfl rfl rfl ?_
 refine L.cv (keptZ_C b1 a1 y c1 l1 _ (Cons.row (h:=hc) hr1) (h1.cons hc) (by omega)) rfl rfl fun T' k'=>?_
 replace hZ:=hZ.cons k'
 replace hQ:=hQ.cons k'
 replace hK:=hK.cons k'
 replace hc:=hc.trans k'
 clear k'
 refine go ?_
 refine W.condF rfl (go ?_)
 refine L.eff (v:=.pointer (some ⟨List.length T',0,none⟩)) (S1:=T'++[newR [.slice none 0 0,.slice none 0 0] 33]) rfl rfl ?_
 have hB:=hK.bookT
 have hL:=hK.2.2.2
 generalize T'++[newR [.slice none 0 0,.slice none 0 0] 33]=TB at *
 clear hZ
 refine go ?_
 refine L.ql ((hQ.cons hB.1).at 0 rfl) rfl rfl rfl ?_
 refine L.cl (zBook_C _ _ v11 hB (by first | omega | (simp<;>omega))) rfl rfl ?_
 rintro _ TB' hB'
 refine⟨nofun,?_⟩
 replace hB:=hB'
 clear hB'
 refine go ?_
 refine L.ql ((hQ.cons hB.1).at 1 rfl) rfl rfl rfl ?_
 refine L.cl (zBook_C _ _ v12 hB (by first | omega | (simp<;>omega))) rfl rfl ?_
 rintro _ TB' hB'
 refine⟨nofun,?_⟩
 replace hB:=hB'
 clear hB'
 refine go ?_
 refine L.ql ((hQ.cons hB.1).at 2 rfl) rfl rfl rfl ?_
 refine L.cl (zBook_C _ _ v13 hB (by first | omega | (simp<;>omega))) rfl rfl ?_
 rintro _ TB' hB'
 refine⟨nofun,?_⟩
 replace hB:=hB'
 clear hB'
 refine go ?_
 refine L.ql ((hQ.cons hB.1).at 3 rfl) rfl rfl rfl ?_
 refine L.cl (zBook_C _ _ v14 hB (by first | omega | (simp<;>omega))) rfl rfl ?_
 rintro _ TB' hB'
 refine⟨nofun,?_⟩
 replace hB:=hB'
 clear hB'
 refine go ?_
 refine L.ql ((hQ.cons hB.1).at 4 rfl) rfl rfl rfl ?_
 refine L.cl (zBook_C _ _ v15 hB (by first | omega | (simp<;>omega))) rfl rfl ?_
 rintro _ TB' hB'
 refine⟨nofun,?_⟩
 replace hB:=hB'
 clear hB'
 refine go ?_
 refine L.ql ((hQ.cons hB.1).at 5 rfl) rfl rfl rfl ?_
 refine L.cl (zBook_C _ _ v16 hB (by first | omega | (simp<;>omega))) rfl rfl ?_
 rintro _ TB' hB'
 refine⟨nofun,?_⟩
 replace hB:=hB'
 clear hB'
 refine go ?_
 refine L.ql ((hQ.cons hB.1).at 6 rfl) rfl rfl rfl ?_
 refine L.cl (zBook_C _ _ v17 hB (by first | omega | (simp<;>omega))) rfl rfl ?_
 rintro _ TB' hB'
 refine⟨nofun,?_⟩
 replace hB:=hB'
 clear hB'
 refine go ?_
 refine L.cl (apart_BkT hB hc hL (by first | omega | (simp<;>omega))) rfl rfl ?_
 rintro _ TA ⟨rfl,hc'⟩
 refine⟨nofun,?_⟩
 replace hc:=hc'
 clear hc' hB hL hQ hK
 refine go ?_
 refine L.z2 (Cons.row (h:=hc) rb5) rfl rfl rfl ?_
 refine L.z2 (Cons.row (h:=hc) rb2) rfl rfl rfl ?_
 refine L.cv (keptZ_C b0 a0 x c0 l0 _ (Cons.row (h:=hc) hr0) (h0.cons hc) (by omega)) rfl rfl fun T' k'=>?_
 replace hc:=hc.trans k'
 clear k'
 refine go ?_
 refine L.z2 (Cons.row (h:=hc) rb6) rfl rfl rfl ?_
 refine L.z2 (Cons.row (h:=hc) rb3) rfl rfl rfl ?_
 refine L.cv (keptZ_C b1 a1 y c1 l1 _ (Cons.row (h:=hc) hr1) (h1.cons hc) (by omega)) rfl rfl fun T' k'=>?_
 replace hc:=hc.trans k'
 clear k'
 refine go ?_
 refine L.cv (works_C _ (hS.cons hc) (hP.cons hc) (Nat.le_trans hG hc.len)) rfl rfl fun M4 k4=>go ?_
 exact⟨.inr rfl,_,rfl,rfl,(kS.trans hc).trans k4⟩
end
section
open Go Ie
variable {Ext:FuncId→List Value→Mem→Outc→Mem→Prop}
theorem wholePowers_C (b0 b1:Bool) (a0 a1:Option Addr) (c0 c1:Nat) (l0 l1:WL) (S:Mem) (h0:WPre S a0 c0 l0) (h1:WPre S a1 c1 l1) (hS:SinOk S) (hP:PowOk S) (hG:gN≤S.length) :
  C Tryz.prog gN Ext 3 [wZ b0 (.slice a0 l0.length c0),wZ b1 (.slice a1 l1.length c1)] S fun v S'=>v=.bool true∧Cons S S':=by
 refine C.fn Tryz.func3 rfl (by kernel_rfl) rfl (go ?_)
 refine L.nr [.bool b0,.slice a0 l0.length c0] wT rfl rfl (fun b2 Tb2 gb2 kb2 rb2=>?_)
 refine L.nr [.bool b1,.slice a1 l1.length c1] wT rfl rfl (fun b3 Tb3 gb3 kb3 rb3=>?_)
 have kM:=kb2.trans kb3
 replace rb2:=Cons.row (h:=kb3) rb2
 have hc:=Cons.refl Tb3
 clear kb2 kb3 gb2 gb3
 refine go ?_
 refine L.zf (Cons.row (h:=hc) rb2) rfl rfl rfl rfl rfl (go ?_)
 cases hg0:decide ((l0.length:Int) > 200)
 case true=>
  refine go ?_
  refine W.ite rfl (fun h=>?_) (fun h=>?_)
  ·refine go ?_
   exact⟨.inr rfl,_,rfl,rfl,kM.trans hc⟩
  ·cases h
 refine go ?_
 refine L.zf (Cons.row (h:=hc) rb3) rfl rfl rfl rfl rfl (go ?_)
 cases hg1:decide ((l1.length:Int) > 200)
 case true=>
  refine W.ite rfl (fun h=>?_) (fun h=>?_)
  ·refine go ?_
   exact⟨.inr rfl,_,rfl,rfl,kM.trans hc⟩
  ·cases h
 refine W.condF rfl ?_
 have hn0:l0.length≤200:=by have:=of_decide_eq_false hg0;omega
 have hn1:l1.length≤200:=by have:=of_decide_eq_false hg1;omega
 clear hg0 hg1
 replace h0:=(h0.win (by omega)).cons kM
 replace h1:=(h1.win (by omega)).cons kM
 refine go ?_
 refine L.z2 (Cons.row (h:=hc) rb2) rfl rfl rfl ?_
 refine L.cl (lentZ_C b0 a0 c0 l0 _ (h0.cons hc) (by omega)) rfl rfl ?_
 rintro _ S1 ⟨k1,x,hx,rfl,hr0⟩
 refine⟨fun _=>k1,?_⟩
 replace hc:=hc.trans k1
 refine L.z2 (Cons.row (h:=hc) rb3) rfl rfl rfl ?_
 refine L.cl (lentZ_C b1 a1 c1 l1 _ (h1.cons hc) (by omega)) rfl rfl ?_
 rintro _ S2 ⟨k2,y,hy,rfl,hr1⟩
 refine⟨fun _=>k2,?_⟩
 replace hc:=hc.trans k2
 replace hr0:=Cons.row (h:=k2) hr0
 clear hx hy k1 k2
 refine L.nr [.bool false,.slice none 0 0] wT rfl rfl (fun b5 T1' g1' k1' r1'=>?_)
 refine L.nr [.bool false,.slice none 0 0] wT rfl rfl (fun b6 T2' g2' k2' r2'=>?_)
 have n12:b6≠b5:=by have:=row_lt r1';omega
 replace r1':=Cons.row (h:=k2') r1'
 refine L.st2 r1' rfl rfl rfl rfl rfl rfl (fun T3' kk1 s1'=>?_)
 refine L.st2 (kk1.row r2' n12) rfl rfl rfl rfl rfl rfl (fun M0 kk2 rb6=>?_)
 have rb5:=kk2.row s1' (Ne.symm n12)
 have kx:=kk2.mono (kk1.mono (k1'.trans k2') g1') (Nat.le_trans k1'.len g2')
 replace hc:=hc.trans kx
 replace hr0:=Cons.row (h:=kx) hr0
 replace hr1:=Cons.row (h:=kx) hr1
 replace rb2:=Cons.row (h:=hc) rb2
 replace rb3:=Cons.row (h:=hc) rb3
 replace h0:=h0.cons hc
 replace h1:=h1.cons hc
 have kS:=kM.trans hc
 replace hS:=hS.cons kS
 replace hP:=hP.cons kS
 replace hG:=Nat.le_trans hG kS.len
 have hx:=lent_win hr0 (by omega)
 have hy:=lent_win hr1 (by omega)
 clear kx kk1 kk2 s1' r1' r2' k1' k2' g1' g2' n12 hc kM
 have hc:=Cons.refl M0
 have hZ:=Zs.nil M0
 have hQ:=Qs.nil M0
 have hK:=PK.nil M0
 obtain⟨X,hX⟩:∃ X,zv b0 l0=X:=⟨_,rfl⟩
 obtain⟨Y,hY⟩:∃ Y,zv b1 l1=Y:=⟨_,rfl⟩
 have X5:ZIn M0 (.agg #[.bool b0,.slice (some ⟨x,0,none⟩) l0.length (UNK+(l0.length+16))]) X 200:=⟨_,_,_,_,rfl,hx,hn0,hX⟩
 have Y6:ZIn M0 (.agg #[.bool b1,.slice (some ⟨y,0,none⟩) l1.length (UNK+(l1.length+16))]) Y 200:=⟨_,_,_,_,rfl,hy,hn1,hY⟩
 have X2:ZIn M0 (.agg #[.bool b0,.slice a0 l0.length c0]) X 200:=⟨_,_,_,_,rfl,h0,hn0,hX⟩
 have Y3:ZIn M0 (.agg #[.bool b1,.slice a1 l1.length c1]) Y 200:=⟨_,_,_,_,rfl,h1,hn1,hY⟩
 refine go ?_
 refine L.z2 (Cons.row (h:=hc) rb5) rfl rfl rfl ?_
 refine L.z2 (Cons.row (h:=hc) rb6) rfl rfl rfl ?_
 refine L.cl (iPow_C (X5.cons hc) (Y6.cons hc) (hS.cons hc) (Nat.le_trans hG hc.len)) rfl rfl ?_
 rintro _ T' hr
 obtain⟨d11,rfl,r11⟩:=hr.both
 refine⟨fun _=>r11.1,?_⟩
 clear hr
 have w11:=r11.win
 have v11:=r11.val
 replace hZ:=hZ.cons r11.1
 replace hQ:=hQ.cons r11.1
 replace hK:=hK.add r11 (zcE_len (zzP_ok))
 replace hc:=hc.trans r11.1
 clear r11
 refine go ?_
 refine L.nr [.bool false,.slice none 0 0] wT rfl rfl (fun b11 T' g' k' r'=>?_)
 refine L.st2 r' rfl rfl rfl rfl rfl rfl (fun T' kk' r''=>?_)
 have kx:=kk'.mono k' g'
 replace hZ:=hZ.cons kx
 replace hQ:=(hQ.cons kx).add ⟨r'',w11.cons kx⟩
 replace hK:=hK.cons kx
 replace hc:=hc.trans kx
 clear kx kk' r'' r' k' g' w11
 refine go ?_
 refine L.z2 (Cons.row (h:=hc) rb2) rfl rfl rfl ?_
 refine L.z2 (Cons.row (h:=hc) rb3) rfl rfl rfl ?_
 refine L.cl (rzPow_C (X2.cons hc) (Y3.cons hc) (by decide) (by decide)) rfl rfl ?_
 rintro _ T' ⟨_,rfl,k0',a21,c21,rfl,w21⟩
 refine⟨fun _=>k0',?_⟩
 replace hZ:=hZ.cons k0'
 replace hQ:=hQ.cons k0'
 replace hK:=hK.cons k0'
 replace hc:=hc.trans k0'
 clear k0'
 refine go ?_
 refine L.nr [.bool false,.slice none 0 0] wT rfl rfl (fun b21 T' g' k' r'=>?_)
 refine L.st2 r' rfl rfl rfl rfl rfl rfl (fun T' kk' r''=>?_)
 have kx:=kk'.mono k' g'
 replace hZ:=(hZ.cons kx).add ⟨_,_,r'',w21.cons kx⟩
 replace hK:=hK.cons kx
 replace hQ:=hQ.cons kx
 replace hc:=hc.trans kx
 clear kx kk' r'' r' k' g' w21
 refine go ?_
 refine L.ql (hQ.at 0 rfl) rfl rfl rfl (go ?_)
 refine L.zl (hZ.at 0 rfl) rfl rfl rfl (fun u hu=>go ?_)
 refine L.cv (zsame_C _ (hQ.at 0 rfl).zis hu) rfl rfl fun T' k'=>?_
 clear hu
 replace hZ:=hZ.cons k'
 replace hQ:=hQ.cons k'
 replace hK:=hK.cons k'
 replace hc:=hc.trans k'
 clear k'
 refine go ?_
 refine W.condF rfl (go ?_)
 refine L.eff (v:=.pointer (some ⟨List.length T',0,none⟩)) (S1:=T'++[newR [.slice none 0 0,.slice none 0 0] 33]) rfl rfl ?_
 have hB:=hK.bookT
 have hL:=hK.2.2.2
 generalize T'++[newR [.slice none 0 0,.slice none 0 0] 33]=TB at *
 clear hZ
 refine go ?_
 refine L.ql ((hQ.cons hB.1).at 0 rfl) rfl rfl rfl ?_
 refine L.cl (zBook_C _ _ v11 hB (by first | omega | (simp<;>omega))) rfl rfl ?_
 rintro _ TB' hB'
 refine⟨nofun,?_⟩
 replace hB:=hB'
 clear hB'
 refine go ?_
 refine L.cl (apart_BkT hB hc hL (by first | omega | (simp<;>omega))) rfl rfl ?_
 rintro _ TA ⟨rfl,hc'⟩
 refine⟨nofun,?_⟩
 replace hc:=hc'
 clear hc' hB hL hQ hK
 refine go ?_
 refine L.z2 (Cons.row (h:=hc) rb5) rfl rfl rfl ?_
 refine L.z2 (Cons.row (h:=hc) rb2) rfl rfl rfl ?_
 refine L.cv (keptZ_C b0 a0 x c0 l0 _ (Cons.row (h:=hc) hr0) (h0.cons hc) (by omega)) rfl rfl fun T' k'=>?_
 replace hc:=hc.trans k'
 clear k'
 refine go ?_
 refine L.z2 (Cons.row (h:=hc) rb6) rfl rfl rfl ?_
 refine L.z2 (Cons.row (h:=hc) rb3) rfl rfl rfl ?_
 refine L.cv (keptZ_C b1 a1 y c1 l1 _ (Cons.row (h:=hc) hr1) (h1.cons hc) (by omega)) rfl rfl fun T' k'=>?_
 replace hc:=hc.trans k'
 clear k'
 refine go ?_
 refine L.cv (works_C _ (hS.cons hc) (hP.cons hc) (Nat.le_trans hG hc.len)) rfl rfl fun M4 k4=>go ?_
 exact⟨.inr rfl,_,rfl,rfl,(kS.trans hc).trans k4⟩
end
section
open Go Ie
variable {Ext:FuncId→List Value→Mem→Outc→Mem→Prop}
def Bd (k:Nat) (z:Int):Prop:=z.natAbs<2^k
theorem Bd.ok {k:Nat} {z:Int} (h:Bd k z) (hk:k≤4096):zok z:=Nat.lt_of_lt_of_le h (Nat.pow_le_pow_right (by decide) hk)
theorem Bd.up {k j:Nat} {z:Int} (h:Bd k z) (hk:k≤j):Bd j z:=Nat.lt_of_lt_of_le h (Nat.pow_le_pow_right (by decide) hk)
theorem Bd.add {k:Nat} {x y:Int} (h:Bd k x) (g:Bd k y):Bd (k+1) (x+y):=by
 unfold Bd at *
 rw[Nat.pow_succ]
 have:=Int.natAbs_add_le x y
 omega
theorem Bd.neg {k:Nat} {x:Int} (h:Bd k x):Bd k (-x):=by unfold Bd at *;rw[Int.natAbs_neg];exact h
theorem Bd.mul {i j:Nat} {x y:Int} (h:Bd i x) (g:Bd j y):Bd (i+j) (x*y):=by
 unfold Bd at *
 rw[Int.natAbs_mul,Nat.pow_add]
 exact Nat.mul_lt_mul'' h g
theorem Bd.take {b:Bool} {l:WL} {k:Nat}:Bd (64*k) (zv b (l.take k)):=by
 unfold Bd
 rw[zv_abs]
 exact num_len (by rw[List.length_take];omega)
theorem ZR.bad {S S':Mem} {w:Value} {E z:Int} (h:ZR S S' w E z) (hE:E≠0):∃ u,w=.tuple #[u,.int .i64 E]∧Cons S S'∧ZIs S' u 0∧ZFr S.length u:=by
 obtain⟨u,e,k,h,f⟩:=h
 rw[if_neg hE] at h
 exact⟨u,e,k,h,f⟩
theorem wholeParts_C (b0 b1:Bool) (a0 a1:Option Addr) (c0 c1:Nat) (l0 l1:WL) (S:Mem) (h0:Slv S 1 (.slice a0 l0.length c0) l0.length (wv l0)) (h1:Slv S 1 (.slice a1 l1.length c1) l1.length (wv l1)) (n0:l0.length<UNK) (n1:l1.length<UNK) (hS:SinOk S) (hP:PowOk S) (hG:gN≤S.length) :
  C Tryz.prog gN Ext 5 [wZ b0 (.slice a0 l0.length c0),wZ b1 (.slice a1 l1.length c1)] S fun v S'=>v=.bool true∧Cons S S':=by
 refine C.fn Tryz.func5 rfl (by kernel_rfl) rfl ?_
 have hZ:=Zs.nil S
 refine go ?_
 refine L.nr [.bool b0,.slice a0 l0.length c0] wT rfl rfl (fun b2 Tb2 gb2 kb2 rb2=>?_)
 refine L.nr [.bool b1,.slice a1 l1.length c1] wT rfl rfl (fun b3 Tb3 gb3 kb3 rb3=>?_)
 have kM:=kb2.trans kb3
 replace rb2:=Cons.row (h:=kb3) rb2
 have hc0:=Cons.refl Tb3
 replace h0:=h0.cons kM
 replace h1:=h1.cons kM
 replace hS:=hS.cons kM
 replace hP:=hP.cons kM
 replace hG:=Nat.le_trans hG kM.len
 replace hZ:=Zs.nil Tb3
 have hc:=hc0
 clear kb2 kb3 gb2 gb3
 refine go ?_
 refine L.z2 (Cons.row (h:=hc) rb2) rfl rfl rfl ?_
 refine L.cl (zSome_C b0 a0 c0 64 l0 _ (h0.cons hc) n0 (by decide)) rfl rfl ?_
 rintro _ T' ⟨⟨a0,c0,rfl,w0⟩,k',hf0⟩
 refine⟨fun _=>k',?_⟩
 replace hZ:=hZ.cons k'
 replace hc:=hc.trans k'
 refine L.z2 (Cons.row (h:=hc) rb3) rfl rfl rfl ?_
 refine L.cl (zSome_C b1 a1 c1 64 l1 _ (h1.cons hc) n1 (by decide)) rfl rfl ?_
 rintro _ T' ⟨⟨a1,c1,rfl,w1⟩,k',hf1⟩
 refine⟨fun _=>k',?_⟩
 replace hZ:=hZ.cons k'
 replace hc:=hc.trans k'
 replace w0:=w0.cons k'
 have fA:zok (zv b0 (l0.take 64)):=(Bd.take (b:=b0) (l:=l0) (k:=64)).ok (by decide)
 have fB:zok (zv b1 (l1.take 64)):=(Bd.take (b:=b1) (l:=l1) (k:=64)).ok (by decide)
 generalize zv b0 (l0.take 64)=A at *
 generalize zv b1 (l1.take 64)=B at *
 refine L.nr [.bool false,.slice none 0 0] wT rfl rfl (fun b0 T1' g1' k1' r1'=>?_)
 refine L.nr [.bool false,.slice none 0 0] wT rfl rfl (fun b1 T2' g2' k2' r2'=>?_)
 have n12:b1≠b0:=by have:=row_lt r1';omega
 replace r1':=Cons.row (h:=k2') r1'
 refine L.st2 r1' rfl rfl rfl rfl rfl rfl (fun T3' kk1 s1'=>?_)
 refine L.st2 (kk1.row r2' n12) rfl rfl rfl rfl rfl rfl (fun T' kk2 s2'=>?_)
 replace s1':=kk2.row s1' (Ne.symm n12)
 have kx:=kk2.mono (kk1.mono (k1'.trans k2') g1') (Nat.le_trans k1'.len g2')
 replace hZ:=((hZ.cons kx).add ⟨a0,c0,s1',w0.cons kx⟩).add ⟨a1,c1,s2',w1.cons kx⟩
 replace hc:=hc.trans kx
 clear kx kk1 kk2 s1' s2' r1' r2' k1' k2' g1' g2' n12
 refine go ?_
 by_cases hB:B=0
 ·refine L.zl (hZ.at 0 rfl) rfl rfl rfl (fun u2 hu2=>?_)
  refine L.zl (hZ.at 1 rfl) rfl rfl rfl (fun u3 hu3=>?_)
  refine L.cl (nQuo_C hu2 hu3 fA fB) rfl rfl ?_
  rintro _ T' hr
  refine⟨fun _=>let ⟨_,_,k,_⟩:=hr;k,?_⟩
  rw[if_pos hB] at hr
  obtain⟨_,rfl,k',⟨a4,c4,rfl,w4⟩,hf4⟩:=hr.bad (by decide)
  clear hr
  replace hZ:=hZ.cons k'
  replace hc:=hc.trans k'
  refine go ?_
  refine L.nr [.bool false,.slice none 0 0] wT rfl rfl (fun b4 T' g' k' r'=>?_)
  refine L.st2 r' rfl rfl rfl rfl rfl rfl (fun T' kk' r''=>?_)
  have kx:=kk'.mono k' g'
  replace hZ:=(hZ.cons kx).add ⟨a4,c4,r'',w4.cons kx⟩
  replace hc:=hc.trans kx
  clear kx kk' r'' r' k' g' w4
  refine go ?_
  refine L.zl (hZ.at 0 rfl) rfl rfl rfl (fun u5 hu5=>?_)
  refine L.zl (hZ.at 1 rfl) rfl rfl rfl (fun u6 hu6=>?_)
  refine L.cl (nRem_C hu5 hu6 fA fB) rfl rfl ?_
  rintro _ T' hr
  refine⟨fun _=>let ⟨_,_,k,_⟩:=hr;k,?_⟩
  rw[if_pos hB] at hr
  obtain⟨_,rfl,k',⟨a7,c7,rfl,w7⟩,hf7⟩:=hr.bad (by decide)
  clear hr
  replace hZ:=hZ.cons k'
  replace hc:=hc.trans k'
  refine go ?_
  refine L.nr [.bool false,.slice none 0 0] wT rfl rfl (fun b7 T' g' k' r'=>?_)
  refine L.st2 r' rfl rfl rfl rfl rfl rfl (fun T' kk' r''=>?_)
  have kx:=kk'.mono k' g'
  replace hZ:=(hZ.cons kx).add ⟨a7,c7,r'',w7.cons kx⟩
  replace hc:=hc.trans kx
  clear kx kk' r'' r' k' g' w7
  refine go ?_
  refine L.zl (hZ.at 1 rfl) rfl rfl rfl (fun u8 hu8=>?_)
  refine L.cv (nSign_C hu8) rfl rfl fun T' k'=>?_
  replace hZ:=hZ.cons k'
  replace hc:=hc.trans k'
  refine go ?_
  rw[hB,cmp_zero]
  refine W.condT rfl (go ?_)
  refine L.zl (hZ.at 2 rfl) rfl rfl rfl (fun u9 hu9=>?_)
  refine L.b0 rfl ?_
  refine L.cv (zSame2_C hu9 (ZIs.zero _)) rfl rfl fun T' k'=>?_
  replace hZ:=hZ.cons k'
  replace hc:=hc.trans k'
  refine go ?_
  refine L.zl (hZ.at 3 rfl) rfl rfl rfl (fun u10 hu10=>?_)
  refine L.b0 rfl ?_
  refine L.cv (zSame2_C hu10 (ZIs.zero _)) rfl rfl fun T' k'=>?_
  replace hZ:=hZ.cons k'
  replace hc:=hc.trans k'
  refine go ?_
  refine L.cv (works_C _ (hS.cons hc) (hP.cons hc) (Nat.le_trans hG hc.len)) rfl rfl fun M4 k4=>go ?_
  exact⟨.inr rfl,_,rfl,rfl,(kM.trans hc).trans k4⟩
 ·have hid:=Int.mul_tdiv_add_tmod A B
  have fP:zok (B*A.tdiv B):=by
   unfold zok at *
   rw[Int.natAbs_mul,Int.natAbs_tdiv]
   exact Nat.lt_of_le_of_lt (Nat.mul_div_le _ _) fA
  have fQ:zok (A.tdiv B):=by
   unfold zok at *
   rw[Int.natAbs_tdiv]
   exact Nat.lt_of_le_of_lt (Nat.div_le_self _ _) fA
  have fR:zok (A.tmod B):=by
   unfold zok at *
   rw[Int.natAbs_tmod]
   exact Nat.lt_of_le_of_lt (Nat.mod_le _ _) fA
  have hlt:(A.tmod B).natAbs<B.natAbs:=by
   rw[Int.natAbs_tmod]
   exact Nat.mod_lt _ (by omega)
  have hsg:A.tmod B=0∨cmpI (A.tmod B) 0=cmpI A 0:=by
   rcases Int.lt_trichotomy A 0 with h | h | h
   ·have h1:A.tmod B≤0:=by
     have h2:=Int.tmod_nonneg B (a:=-A) (by omega)
     rw[Int.neg_tmod] at h2
     omega
    rcases Int.lt_or_eq_of_le h1 with h2 | h2
    ·right;rw[cmp_neg h2,cmp_neg h]
    ·left;exact h2
   ·left;rw[h];exact Int.zero_tmod B
   ·have h1:0≤A.tmod B:=Int.tmod_nonneg B (by omega)
    rcases Int.lt_or_eq_of_le h1 with h2 | h2
    ·right;rw[cmp_pos h2,cmp_pos h]
    ·left;exact h2.symm
  generalize hQe:A.tdiv B=Q at *
  generalize hRe:A.tmod B=R at *
  refine L.zl (hZ.at 0 rfl) rfl rfl rfl (fun u2 hu2=>?_)
  refine L.zl (hZ.at 1 rfl) rfl rfl rfl (fun u3 hu3=>?_)
  refine L.cl (nQuo_C hu2 hu3 fA fB) rfl rfl ?_
  rintro _ T' hr
  refine⟨fun _=>let ⟨_,_,k,_⟩:=hr;k,?_⟩
  obtain⟨_,rfl,k',⟨a4,c4,rfl,w4⟩,hf4⟩:=hr.ok (if_neg hB)
  clear hr
  replace hZ:=hZ.cons k'
  replace hc:=hc.trans k'
  refine go ?_
  rw[hQe] at w4 ⊢
  refine L.nr [.bool false,.slice none 0 0] wT rfl rfl (fun b4 T' g' k' r'=>?_)
  refine L.st2 r' rfl rfl rfl rfl rfl rfl (fun T' kk' r''=>?_)
  have kx:=kk'.mono k' g'
  replace hZ:=(hZ.cons kx).add ⟨a4,c4,r'',w4.cons kx⟩
  replace hc:=hc.trans kx
  clear kx kk' r'' r' k' g' w4
  refine go ?_
  refine L.zl (hZ.at 0 rfl) rfl rfl rfl (fun u5 hu5=>?_)
  refine L.zl (hZ.at 1 rfl) rfl rfl rfl (fun u6 hu6=>?_)
  refine L.cl (nRem_C hu5 hu6 fA fB) rfl rfl ?_
  rintro _ T' hr
  refine⟨fun _=>let ⟨_,_,k,_⟩:=hr;k,?_⟩
  obtain⟨_,rfl,k',⟨a7,c7,rfl,w7⟩,hf7⟩:=hr.ok (if_neg hB)
  clear hr
  replace hZ:=hZ.cons k'
  replace hc:=hc.trans k'
  refine go ?_
  rw[hRe] at w7 ⊢
  refine L.nr [.bool false,.slice none 0 0] wT rfl rfl (fun b7 T' g' k' r'=>?_)
  refine L.st2 r' rfl rfl rfl rfl rfl rfl (fun T' kk' r''=>?_)
  have kx:=kk'.mono k' g'
  replace hZ:=(hZ.cons kx).add ⟨a7,c7,r'',w7.cons kx⟩
  replace hc:=hc.trans kx
  clear kx kk' r'' r' k' g' w7
  refine go ?_
  refine L.zl (hZ.at 1 rfl) rfl rfl rfl (fun u8 hu8=>?_)
  refine L.cv (nSign_C hu8) rfl rfl fun T' k'=>?_
  replace hZ:=hZ.cons k'
  replace hc:=hc.trans k'
  refine go ?_
  refine W.ite rfl (fun h=>?_) (fun h=>?_)
  ·exfalso
   exact hB ((cmp_eq B 0).1 (of_decide_eq_true h))
  clear h
  refine go ?_
  obtain⟨aa,cc,rr,ww⟩:=hZ.at 1 rfl
  refine L.zf rr rfl rfl rfl rfl rfl ?_
  refine L.bd #[.bool false,.slice aa (toW (B).natAbs).length cc] (pl:=[(1,.slice aa (toW (B).natAbs).length cc)]) (z:=.agg #[.bool false,.slice none 0 0]) rfl rfl rfl (by kernel_rfl) rfl ?_
  refine L.nr [.bool false,.slice none 0 0] wT rfl rfl (fun b11 T' g' k' r'=>?_)
  refine L.st2 r' rfl rfl rfl rfl rfl rfl (fun T' kk' r''=>?_)
  have kx:=kk'.mono k' g'
  replace hZ:=(hZ.cons kx).add (b:=b11) (z:=((B).natAbs:Int)) ⟨aa,cc,by rw[show decide (((B).natAbs:Int)<0)=false from decide_eq_false (by omega),Int.natAbs_natCast];exact r'',by rw[Int.natAbs_natCast];exact ww.cons kx⟩
  replace hc:=hc.trans kx
  clear kx kk' r'' r' k' g' ww rr
  refine go ?_
  obtain⟨aa,cc,rr,ww⟩:=hZ.at 3 rfl
  refine L.zf rr rfl rfl rfl rfl rfl ?_
  refine L.bd #[.bool false,.slice aa (toW (R).natAbs).length cc] (pl:=[(1,.slice aa (toW (R).natAbs).length cc)]) (z:=.agg #[.bool false,.slice none 0 0]) rfl rfl rfl (by kernel_rfl) rfl ?_
  refine L.nr [.bool false,.slice none 0 0] wT rfl rfl (fun b12 T' g' k' r'=>?_)
  refine L.st2 r' rfl rfl rfl rfl rfl rfl (fun T' kk' r''=>?_)
  have kx:=kk'.mono k' g'
  replace hZ:=(hZ.cons kx).add (b:=b12) (z:=((R).natAbs:Int)) ⟨aa,cc,by rw[show decide (((R).natAbs:Int)<0)=false from decide_eq_false (by omega),Int.natAbs_natCast];exact r'',by rw[Int.natAbs_natCast];exact ww.cons kx⟩
  replace hc:=hc.trans kx
  clear kx kk' r'' r' k' g' ww rr
  refine go ?_
  refine L.zl (hZ.at 1 rfl) rfl rfl rfl (fun u13 hu13=>?_)
  refine L.zl (hZ.at 2 rfl) rfl rfl rfl (fun u14 hu14=>?_)
  refine L.cl (zProd_C hu13 hu14 fB fQ fP (hS.cons hc) (Nat.le_trans hG hc.len)) rfl rfl ?_
  rintro _ T' ⟨⟨a15,c15,rfl,w15⟩,k',hf15⟩
  refine⟨fun _=>k',?_⟩
  replace hZ:=hZ.cons k'
  replace hc:=hc.trans k'
  refine L.zl (hZ.at 3 rfl) rfl rfl rfl (fun u16 hu16=>?_)
  refine L.cl (zSum_C ⟨_,_,rfl,w15⟩ hu16 fP fR (hid ▸ fA)) rfl rfl ?_
  rintro _ T' ⟨⟨a17,c17,rfl,w17⟩,k',hf17⟩
  refine⟨fun _=>k',?_⟩
  replace hZ:=hZ.cons k'
  replace hc:=hc.trans k'
  rw[hid] at w17 ⊢
  refine L.zl (hZ.at 0 rfl) rfl rfl rfl (fun u18 hu18=>?_)
  refine L.cv (zSame2_C ⟨_,_,rfl,w17⟩ hu18) rfl rfl fun T' k'=>?_
  replace hZ:=hZ.cons k'
  replace hc:=hc.trans k'
  refine go ?_
  rw[decide_eq_true rfl]
  refine L.zl (hZ.at 3 rfl) rfl rfl rfl (fun u19 hu19=>?_)
  refine L.cv (nSign_C hu19) rfl rfl fun T' k'=>?_
  replace hZ:=hZ.cons k'
  replace hc:=hc.trans k'
  refine go ?_
  have hlt':cmpI ((R.natAbs:Nat):Int) ((B.natAbs:Nat):Int)=-1:=by unfold cmpI;rw[if_pos (by omega)]
  by_cases hR0:R=0
  ·rw[show cmpI R 0=0 from (cmp_eq R 0).2 hR0]
   refine go ?_
   refine L.zl (hZ.at 5 rfl) rfl rfl rfl (fun u20 hu20=>?_)
   refine L.zl (hZ.at 4 rfl) rfl rfl rfl (fun u21 hu21=>?_)
   refine L.cv (nCmp_C hu20 hu21) rfl rfl fun T' k'=>?_
   replace hZ:=hZ.cons k'
   replace hc:=hc.trans k'
   refine go ?_
   rw[hlt']
   refine L.cv (works_C _ (hS.cons hc) (hP.cons hc) (Nat.le_trans hG hc.len)) rfl rfl fun M4 k4=>go ?_
   exact⟨.inr rfl,_,rfl,rfl,(kM.trans hc).trans k4⟩
  ·have hs1:¬ cmpI R 0=0:=fun h=>hR0 ((cmp_eq R 0).1 h)
   rw[show (cmpI R 0==(0:Int))=false from decide_eq_false hs1]
   refine L.zl (hZ.at 3 rfl) rfl rfl rfl (fun u22 hu22=>?_)
   refine L.cv (nSign_C hu22) rfl rfl fun T' k'=>?_
   replace hZ:=hZ.cons k'
   replace hc:=hc.trans k'
   refine L.zl (hZ.at 0 rfl) rfl rfl rfl (fun u23 hu23=>?_)
   refine L.cv (nSign_C hu23) rfl rfl fun T' k'=>?_
   replace hZ:=hZ.cons k'
   replace hc:=hc.trans k'
   refine go ?_
   rw[hsg.resolve_left hR0]
   rw[show (cmpI A 0==cmpI A 0)=true from decide_eq_true rfl]
   refine L.zl (hZ.at 5 rfl) rfl rfl rfl (fun u20 hu20=>?_)
   refine L.zl (hZ.at 4 rfl) rfl rfl rfl (fun u21 hu21=>?_)
   refine L.cv (nCmp_C hu20 hu21) rfl rfl fun T' k'=>?_
   replace hZ:=hZ.cons k'
   replace hc:=hc.trans k'
   refine go ?_
   rw[hlt']
   refine L.cv (works_C _ (hS.cons hc) (hP.cons hc) (Nat.le_trans hG hc.len)) rfl rfl fun M4 k4=>go ?_
   exact⟨.inr rfl,_,rfl,rfl,(kM.trans hc).trans k4⟩
end
section
open Go
def Ws (S:Mem) (L:List WS):Prop:=∀ w∈L,WIn S w.a w.c w.l
theorem Ws.nil (S:Mem):Ws S []:=fun w hw=>by simp at hw
theorem Ws.cons {S S':Mem} {L:List WS} (h:Ws S L) (k:Cons S S'):Ws S' L:=fun w hw=>(h w hw).cons k
theorem Ws.add {S:Mem} {L:List WS} {a:Option Addr} {c:Nat} {l:WL} (h:Ws S L) (w:WIn S a c l):Ws S (L++[⟨a,c,l⟩]):=fun x hx=>by
 rcases List.mem_append.1 hx with hx | hx
 ·exact h x hx
 ·obtain rfl:x=⟨a,c,l⟩:=by simpa using hx
  exact w
theorem Ws.at {S:Mem} {L:List WS} {a:Option Addr} {c:Nat} {l:WL} (h:Ws S L) (i:Nat) (e:L[i]?=some ⟨a,c,l⟩):WIn S a c l:=h _ (List.mem_of_getElem? e)
theorem WIn.pre {S:Mem} {a:Option Addr} {c:Nat} {l:WL} (h:WIn S a c l):WPre S a c l:=⟨h.1,h.2.1,h.2.2.1⟩
theorem kn_set {S:Mem} {b k:Nat} {l:WL} {r:BitVec 64} (h:S.row? b=some (newR (wv l) 57)):Mem.row? (S.set b { newR (wv l) 57 with cells:=(newR (wv l) 57).cells.set (0+k) (v64 r) }) b=some (newR (wv (l.set k r)) 57):=by
 rw[row_set_same h rfl,Nat.zero_add]
 simp only [newR,wv,List.map_set]
theorem u64_is (z:Int):Value.int .u64 (IntKind.u64.wrap z)=v64 (BitVec.ofInt 64 z):=congrArg (Value.int .u64) (wrap_u64 z)
end
end Go.Proofs.YtbiigbicgfchiaaGreatDoor
set_option exponentiation.threshold 30000
namespace Go.Proofs.YtbiigbicgfchiaaGreatDoor
section
open Go Ie
variable {Ext:FuncId→List Value→Mem→Outc→Mem→Prop}
theorem power_C (n:Nat) (hn:n<100000) (less:Bool) (S:Mem):C Tryz.prog gN Ext 85 [vi n,.bool less] S fun v S'=>∃ l,RefW S S' v l∧l.length=n / 64+1∧wnum l=if less then 2^n - 1 else 2^n:=by
 refine C.fn Tryz.func85 rfl (by kernel_rfl) rfl ?_
 have e1:IntKind.i64.wrap (Int.tdiv (n:Int) 64)=((n / 64:Nat):Int):=by
  rw[show Int.tdiv (n:Int) 64=((n / 64:Nat):Int) from (Int.ofNat_tdiv n 64).symm,wrap64 (by omega) (by omega)]
 have e2:IntKind.i64.wrap (IntKind.i64.wrap (Int.tdiv (n:Int) 64)+1)=((n / 64+1:Nat):Int):=by
  rw[e1,wrap64 (by omega) (by omega)];rfl
 have e3:Int.tmod (n:Int) 64=((n % 64:Nat):Int):=(Int.ofNat_tmod n 64).symm
 refine go ?_
 refine L.mk (n:=n / 64+1) (m:=n / 64+1) (bytes:=8) (zv:=v64 0#64) rfl rfl e2 rfl e2 (Nat.le_refl _) (by omega) rfl rfl ?_
 have hro:Mem.row? (S++[newR (List.replicate (n / 64+1) (v64 0#64)) 57]) S.length=some (newR (wv (List.replicate (n / 64+1) 0#64)) 57):=by
  rw[row_push_new rfl];simp [wv]
 have hk:=Cons.push S (newR (List.replicate (n / 64+1) (v64 0#64)) 57)
 generalize S++[newR (List.replicate (n / 64+1) (v64 0#64)) 57]=T at *
 obtain⟨ro,hro0⟩:∃ ro,ro=S.length:=⟨_,rfl⟩
 rw[← hro0] at hro ⊢
 generalize hq:n / 64+1=q at *
 obtain⟨r,hr⟩:=word_of (n:=2^(n % 64)) (by rw[← show (2:Nat)^64=18446744073709551616 by decide];exact Nat.pow_lt_pow_right (by decide) (Nat.mod_lt _ (by decide)))
 have hw:IntKind.u64.wrap (1*2^(n % 64))=(r.toNat:Int):=by
  rw[show (1:Int)*2^(n % 64)=((1:Nat):Int)*2^(n % 64) from rfl,shl_nat,Nat.one_mul,← hr,Nat.mod_eq_of_lt r.isLt]
 refine go ?_
 rw[e3,show min (Int.toNat ((n % 64:Nat):Int)) IntKind.u64.bits=n % 64 by rw[bits_u64,Int.toNat_natCast];omega,hw]
 refine L.elst hro rfl (by show 0+q≤(wv (List.replicate q 0#64)).length;rw[wv_len,List.length_replicate];omega) (k:=n / 64) e1 (by omega) rfl rfl rfl rfl (fun _=>rfl) (fun _=>rfl) rfl rfl rfl (fun p=>?_)
 have hr2:=row_set_w (k:=n / 64) (r:=r) hro
 have hk2:=hk.set ro { newR (wv (List.replicate q 0#64)) 57 with cells:=(newR (wv (List.replicate q 0#64)) 57).cells.set (0+n / 64) (v64 r) } (by omega)
 have hws:=wnum_set (l:=List.replicate q 0#64) (q:=n / 64) (x:=0#64) (y:=r) (by rw[List.getElem?_replicate,if_pos (by omega)])
 rw[zero_word,wnum_zeros,Nat.zero_add,Nat.add_zero,hr,← Nat.pow_add,show n % 64+64*(n / 64)=n by omega] at hws
 generalize List.set T ro _=T2 at *
 have hl:((List.replicate q 0#64).set (n / 64) r).length=q:=by simp
 generalize (List.replicate q 0#64).set (n / 64) r=o at *
 clear hro hk hw hr
 obtain⟨V,hV⟩:∃ V,V=2^n:=⟨_,rfl⟩
 have hVp:0<V:=by rw[hV];exact Nat.two_pow_pos n
 rw[← hV] at hws ⊢
 clear hV
 refine go ?_
 refine W.loop (fun j e T=>∃ (i:Nat) (b:Bool) (o:WL),j=q - i∧i≤q∧o.length=q∧Cons S T∧T.row? ro=some (newR (wv o) 57)∧e 1=.bool b∧e 5=.slice (some ⟨ro,0,none⟩) q q∧e 6=vi i∧(if b then less=true∧wnum o+1=V+2^(64*i) else wnum o=if less then V - 1 else V)) q
  ⟨0,less,o,by omega,by omega,hl,hk2,hr2,rfl,rfl,rfl,by
   cases less
   ·simpa using hws
   ·simp only [if_true]
    exact⟨trivial,by rw[hws]⟩⟩ ?_
 clear hr2 hk2 hl hws
 rintro j e T ⟨i,b,o,rfl,hi,hl,hc,hr,ee1,ee5,ee6,hval⟩
 refine W.env3 ee1 ee5 ee6 ?_
 clear ee1 ee5 ee6
 have hS:Slv T 1 (.slice (some ⟨ro,0,none⟩) q q) q (wv o):=Slv.all hr rfl (by rw[wv_len,hl,Nat.mul_one])
 have fin:RefW S T (.slice (some ⟨ro,0,none⟩) q q) o:=⟨hc,some ⟨ro,0,none⟩,q,by rw[hl],(WOwn.row (N:=0) hr hl (Nat.zero_le _) (by omega)).1⟩
 have hlt:=wnum_lt o
 rw[hl] at hlt
 refine go ?_
 cases b with
 | false=>
  refine go ?_
  refine W.condF rfl (go ?_)
  exact⟨.inr rfl,_,rfl,o,fin,hl,hval⟩
 | true=>
  simp only [if_true] at hval
  refine go ?_
  refine W.ite rfl (fun h=>?_) (fun h=>?_)
  ·have hin:i<q:=by have:=of_decide_eq_true h;omega
   clear h
   obtain⟨x,hx⟩:∃ x,o[i]?=some x:=⟨_,List.getElem?_eq_getElem (by omega)⟩
   refine go ?_
   refine L.el hS (k:=i) rfl (wv_get hx) rfl rfl rfl rfl (fun _=>rfl) rfl (fun p=>go ?_)
   rw[u64_is]
   obtain⟨y,hy⟩:∃ y,y=BitVec.ofInt 64 ((x.toNat:Int) - 1):=⟨_,rfl⟩
   have hyn:y.toNat=if x.toNat=0 then 18446744073709551615 else x.toNat - 1:=by
    rw[hy]
    have hxl:=x.isLt
    rw[BitVec.toNat_ofInt]
    by_cases hx0:x.toNat=0
    ·rw[if_pos hx0,hx0];decide
    ·rw[if_neg hx0]
     have:((x.toNat:Int) - 1) % ((2:Nat)^64:Nat)=(x.toNat:Int) - 1:=Int.emod_eq_of_lt (by omega) (by
      have e:((2:Nat)^64:Nat)=18446744073709551616:=by decide
      rw[e]
      omega)
     rw[this]
     omega
   rw[← hy]
   refine L.elst hr rfl (by show 0+q≤(wv o).length;rw[wv_len,hl];omega) (k:=i) rfl hin rfl rfl rfl rfl (fun _=>rfl) (fun _=>rfl) rfl rfl rfl (fun p=>?_)
   have hr2:=kn_set (k:=i) (r:=y) hr
   have hc2:=hc.set ro { newR (wv o) 57 with cells:=(newR (wv o) 57).cells.set (0+i) (v64 y) } (by omega)
   have hl2:(o.set i y).length=q:=by rw[List.length_set];exact hl
   have hx2:(o.set i y)[i]?=some y:=by rw[List.getElem?_set_self (by omega)]
   have hws:=wnum_set (l:=o) (q:=i) (x:=x) (y:=y) hx
   have hx3:=wnum_take_succ hx
   generalize List.set T ro _=T3 at *
   generalize o.set i y=o2 at *
   have hS2:Slv T3 1 (.slice (some ⟨ro,0,none⟩) q q) q (wv o2):=Slv.all hr2 rfl (by rw[wv_len,hl2,Nat.mul_one])
   have hbool:((y.toNat:Int)==18446744073709551615)=decide (x.toNat=0):=by
    have hxl:=x.isLt
    refine decide_eq_decide.2 ?_
    rw[hyn]
    by_cases hx0:x.toNat=0
    ·rw[if_pos hx0];simp [hx0]
    ·rw[if_neg hx0];omega
   have hp:=pow64_succ i
   have hval2:if decide (x.toNat=0) then less=true∧wnum o2+1=V+2^(64*(i+1)) else wnum o2=if less then V - 1 else V:=by
    by_cases hx0:x.toNat=0
    ·rw[decide_eq_true hx0,if_pos rfl]
     rw[hx0,Nat.zero_mul,hyn,if_pos hx0] at hws
     exact⟨hval.1,by rw[hp];omega⟩
    ·rw[decide_eq_false hx0,if_neg Bool.false_ne_true,hval.1,if_pos rfl]
     rw[hyn,if_neg hx0,Nat.sub_mul,Nat.one_mul] at hws
     have:2^(64*i)≤x.toNat * 2^(64*i):=Nat.le_mul_of_pos_left _ (by omega)
     omega
   refine go ?_
   refine L.el hS2 (k:=i) rfl (wv_get hx2) rfl rfl rfl rfl (fun _=>rfl) rfl (fun p=>go ?_)
   refine⟨q - (i+1),by omega,i+1,decide (x.toNat=0),o2,rfl,by omega,hl2,hc2,hr2,(force_eq rfl).trans (congrArg Value.bool hbool),rfl,?_,hval2⟩
   refine(force_eq rfl).trans ?_
   rw[wrap64 (by omega) (by omega)];rfl
  ·have hin:i=q:=by have:=of_decide_eq_false h;omega
   subst hin
   omega
end
section
open Go Ie
variable {Ext:FuncId→List Value→Mem→Outc→Mem→Prop}
def ZPre (S:Mem) (z:ZW):Prop:=WIn S z.2.a z.2.c z.2.l
theorem win_unk {S:Mem} {z:ZW} (h:ZPre S z):z.2.l.length<UNK:=by have:=h.2.2.2;unfold UNK;omega
theorem get_zs {M0:Mem} {rb:Nat} {zs:List ZW} (hr:M0.row? rb=some (newR (zc zs) wT)) {i:Nat} {z:ZW} (hz:zs[i]?=some z) {T:Mem} (k:Cons M0 T):T.cellsAt ⟨rb,0+i*2,none⟩ 2=some [.bool z.1,z.2.v]:=by
 have hlt:=(List.getElem?_eq_some_iff.1 hz).1
 rw[cellsAt_of (o:=0+i*2) (n:=2) (Cons.row (h:=k) hr) (by show 0+i*2+2≤(zc zs).length;rw[zc_len];omega),show 0+i*2=2*i by omega]
 exact congrArg some (zc_get hz)
theorem knShown_C (S:Mem) (hS:SinOk S) (hP:PowOk S) (hG:gN≤S.length):C Tryz.prog gN Ext 51 [] S fun v S'=>v=.bool true∧Cons S S':=by
 refine C.fn Tryz.func51 rfl (by kernel_rfl) rfl ?_
 have hW:=Ws.nil S
 have hc:=Cons.refl S
 refine go ?_
 refine L.b0 rfl ?_
 refine L.bd #[.bool true,.slice none 0 0] (pl:=[(0,.bool true)]) (z:=.agg #[.bool false,.slice none 0 0]) rfl rfl rfl (by kernel_rfl) rfl ?_
 refine L.bsW [0#64,0#64] rfl rfl rfl rfl rfl rfl (fun b1 T' k' w'=>?_)
 replace hW:=(hW.cons k').add w'
 replace hc:=hc.trans k'
 clear k' w'
 refine L.bd #[.bool false,(.slice (some ⟨b1,0,none⟩) 2 2)] (pl:=[(1,(.slice (some ⟨b1,0,none⟩) 2 2))]) (z:=.agg #[.bool false,.slice none 0 0]) rfl rfl rfl (by kernel_rfl) rfl ?_
 refine L.bsW [0#64] rfl rfl rfl rfl rfl rfl (fun b2 T' k' w'=>?_)
 replace hW:=(hW.cons k').add w'
 replace hc:=hc.trans k'
 clear k' w'
 refine L.b2 rfl rfl rfl ?_
 refine L.bsW [1#64] rfl rfl rfl rfl rfl rfl (fun b3 T' k' w'=>?_)
 replace hW:=(hW.cons k').add w'
 replace hc:=hc.trans k'
 clear k' w'
 refine L.bd #[.bool false,(.slice (some ⟨b3,0,none⟩) 1 1)] (pl:=[(1,(.slice (some ⟨b3,0,none⟩) 1 1))]) (z:=.agg #[.bool false,.slice none 0 0]) rfl rfl rfl (by kernel_rfl) rfl ?_
 refine L.bsW [1#64,0#64] rfl rfl rfl rfl rfl rfl (fun b4 T' k' w'=>?_)
 replace hW:=(hW.cons k').add w'
 replace hc:=hc.trans k'
 clear k' w'
 refine L.b2 rfl rfl rfl ?_
 refine L.bsW [2#64] rfl rfl rfl rfl rfl rfl (fun b5 T' k' w'=>?_)
 replace hW:=(hW.cons k').add w'
 replace hc:=hc.trans k'
 clear k' w'
 refine L.bd #[.bool false,(.slice (some ⟨b5,0,none⟩) 1 1)] (pl:=[(1,(.slice (some ⟨b5,0,none⟩) 1 1))]) (z:=.agg #[.bool false,.slice none 0 0]) rfl rfl rfl (by kernel_rfl) rfl ?_
 refine L.bsW [2#64] rfl rfl rfl rfl rfl rfl (fun b6 T' k' w'=>?_)
 replace hW:=(hW.cons k').add w'
 replace hc:=hc.trans k'
 clear k' w'
 refine L.b2 rfl rfl rfl ?_
 refine L.bsW [7#64] rfl rfl rfl rfl rfl rfl (fun b7 T' k' w'=>?_)
 replace hW:=(hW.cons k').add w'
 replace hc:=hc.trans k'
 clear k' w'
 refine L.bd #[.bool false,(.slice (some ⟨b7,0,none⟩) 1 1)] (pl:=[(1,(.slice (some ⟨b7,0,none⟩) 1 1))]) (z:=.agg #[.bool false,.slice none 0 0]) rfl rfl rfl (by kernel_rfl) rfl ?_
 refine L.bsW [7#64] rfl rfl rfl rfl rfl rfl (fun b8 T' k' w'=>?_)
 replace hW:=(hW.cons k').add w'
 replace hc:=hc.trans k'
 clear k' w'
 refine L.b2 rfl rfl rfl ?_
 refine L.bsW [9223372036854775808#64] rfl rfl rfl rfl rfl rfl (fun b9 T' k' w'=>?_)
 replace hW:=(hW.cons k').add w'
 replace hc:=hc.trans k'
 clear k' w'
 refine L.bd #[.bool false,(.slice (some ⟨b9,0,none⟩) 1 1)] (pl:=[(1,(.slice (some ⟨b9,0,none⟩) 1 1))]) (z:=.agg #[.bool false,.slice none 0 0]) rfl rfl rfl (by kernel_rfl) rfl ?_
 refine L.bsW [9223372036854775808#64] rfl rfl rfl rfl rfl rfl (fun b10 T' k' w'=>?_)
 replace hW:=(hW.cons k').add w'
 replace hc:=hc.trans k'
 clear k' w'
 refine L.b2 rfl rfl rfl ?_
 refine L.bsW [9223372036854775807#64] rfl rfl rfl rfl rfl rfl (fun b11 T' k' w'=>?_)
 replace hW:=(hW.cons k').add w'
 replace hc:=hc.trans k'
 clear k' w'
 refine L.bd #[.bool false,(.slice (some ⟨b11,0,none⟩) 1 1)] (pl:=[(1,(.slice (some ⟨b11,0,none⟩) 1 1))]) (z:=.agg #[.bool false,.slice none 0 0]) rfl rfl rfl (by kernel_rfl) rfl ?_
 refine L.bsW [9223372036854775809#64] rfl rfl rfl rfl rfl rfl (fun b12 T' k' w'=>?_)
 replace hW:=(hW.cons k').add w'
 replace hc:=hc.trans k'
 clear k' w'
 refine L.b2 rfl rfl rfl ?_
 refine L.bsW [0#64,1#64] rfl rfl rfl rfl rfl rfl (fun b13 T' k' w'=>?_)
 replace hW:=(hW.cons k').add w'
 replace hc:=hc.trans k'
 clear k' w'
 refine L.bd #[.bool false,(.slice (some ⟨b13,0,none⟩) 2 2)] (pl:=[(1,(.slice (some ⟨b13,0,none⟩) 2 2))]) (z:=.agg #[.bool false,.slice none 0 0]) rfl rfl rfl (by kernel_rfl) rfl ?_
 refine L.bsW [18446744073709551615#64] rfl rfl rfl rfl rfl rfl (fun b14 T' k' w'=>?_)
 replace hW:=(hW.cons k').add w'
 replace hc:=hc.trans k'
 clear k' w'
 refine L.b2 rfl rfl rfl ?_
 obtain⟨zs,hzs⟩:∃ zs:List ZW,zs=[(false,⟨none,0,[]⟩),(true,⟨none,0,[]⟩),(false,⟨some ⟨b1,0,none⟩,2,[0#64,0#64]⟩),(true,⟨some ⟨b2,0,none⟩,1,[0#64]⟩),(false,⟨some ⟨b3,0,none⟩,1,[1#64]⟩),(true,⟨some ⟨b4,0,none⟩,2,[1#64,0#64]⟩),(false,⟨some ⟨b5,0,none⟩,1,[2#64]⟩),(true,⟨some ⟨b6,0,none⟩,1,[2#64]⟩),(false,⟨some ⟨b7,0,none⟩,1,[7#64]⟩),(true,⟨some ⟨b8,0,none⟩,1,[7#64]⟩),(false,⟨some ⟨b9,0,none⟩,1,[9223372036854775808#64]⟩),(true,⟨some ⟨b10,0,none⟩,1,[9223372036854775808#64]⟩),(false,⟨some ⟨b11,0,none⟩,1,[9223372036854775807#64]⟩),(true,⟨some ⟨b12,0,none⟩,1,[9223372036854775809#64]⟩),(false,⟨some ⟨b13,0,none⟩,2,[0#64,1#64]⟩),(true,⟨some ⟨b14,0,none⟩,1,[18446744073709551615#64]⟩)]:=⟨_,rfl⟩
 have hww:∀ z∈zs,ZPre T' z:=fun z hz=>by
  rw[hzs] at hz
  simp only [List.mem_cons,List.not_mem_nil,or_false] at hz
  rcases hz with rfl | rfl | rfl | rfl | rfl | rfl | rfl | rfl | rfl | rfl | rfl | rfl | rfl | rfl | rfl | rfl
  ·exact nilZ _
  ·exact nilZ _
  ·exact hW.at 0 rfl
  ·exact hW.at 1 rfl
  ·exact hW.at 2 rfl
  ·exact hW.at 3 rfl
  ·exact hW.at 4 rfl
  ·exact hW.at 5 rfl
  ·exact hW.at 6 rfl
  ·exact hW.at 7 rfl
  ·exact hW.at 8 rfl
  ·exact hW.at 9 rfl
  ·exact hW.at 10 rfl
  ·exact hW.at 11 rfl
  ·exact hW.at 12 rfl
  ·exact hW.at 13 rfl
 refine L.bz zs rfl (by rw[hzs];rfl) rfl (by rw[hzs];rfl) rfl (fun rb M0 gs k' hrb=>?_)
 have hwn:zs.length=16:=by rw[hzs];rfl
 replace hc:=hc.trans k'
 have get:∀ i,i<16→∃ z,zs[i]?=some z∧ZPre M0 z:=fun i hi=>by
  obtain⟨z,hz⟩:∃ z,zs[i]?=some z:=⟨_,List.getElem?_eq_getElem (by omega)⟩
  exact⟨z,hz,(hww z (List.mem_of_getElem? hz)).cons k'⟩
 clear hW hzs hww k' hwn
 have kS:=hc
 replace hS:=hS.cons kS
 replace hP:=hP.cons kS
 replace hG:=Nat.le_trans hG kS.len
 clear hc
 refine go ?_
 refine W.mono (R:=fun q e T=>q=.exit 0∧Cons M0 T) ?_ ?_
 ·refine W.loop (fun j e T=>∃ i:Nat,j=16 - i∧i≤16∧Cons M0 T∧e 1=.slice (some ⟨rb,0,none⟩) 16 16∧e 2=vi i) 16
   ⟨0,rfl,by decide,Cons.refl _,rfl,rfl⟩ ?_
  rintro j e T ⟨i,rfl,hi,hc,e1,e2⟩
  refine W.env2 e1 e2 ?_
  clear e1 e2
  refine go ?_
  refine W.ite rfl (fun h=>?_) (fun h=>?_)
  ·have hin:i<16:=by have:=of_decide_eq_true h;omega
   clear h
   obtain⟨wi,hwi,qi⟩:=get i hin
   refine go ?_
   refine W.mono (R:=fun q e T=>q=.exit 2∧Cons M0 T∧e 1=.slice (some ⟨rb,0,none⟩) 16 16∧e 2=vi i) ?_ ?_
   ·refine W.loop (fun j e T=>∃ k:Nat,j=16 - k∧k≤16∧Cons M0 T∧e 1=.slice (some ⟨rb,0,none⟩) 16 16∧e 2=vi i∧e 3=vi k) 16
     ⟨0,rfl,by omega,hc,rfl,rfl,rfl⟩ ?_
    clear hc e T
    rintro j e T ⟨k,rfl,hk,hc,e1,e2,e3⟩
    refine W.env3 e1 e2 e3 ?_
    clear e1 e2 e3
    refine go ?_
    refine W.ite rfl (fun h=>?_) (fun h=>?_)
    ·have hkn:k<16:=by have:=of_decide_eq_true h;omega
     clear h
     obtain⟨wk,hwk,qk⟩:=get k hkn
     refine go ?_
     refine L.ix (b:=rb) (o:=0) (n:=16) (c:=16) (k:=i) (sz:=2) rfl (by omega) rfl rfl rfl rfl ?_
     refine L.ldA (a:=⟨rb,0+i*2,none⟩) (n:=2) (get_zs hrb hwi hc) rfl rfl rfl (go ?_)
     refine L.ix (b:=rb) (o:=0) (n:=16) (c:=16) (k:=k) (sz:=2) rfl (by omega) rfl rfl rfl rfl ?_
     refine L.ldA (a:=⟨rb,0+k*2,none⟩) (n:=2) (get_zs hrb hwk hc) rfl rfl rfl ?_
     refine L.cv (wholeReckons_C _ _ _ _ _ _ wi.2.l wk.2.l _ (qi.cons hc).pre (qk.cons hc).pre (hS.cons hc) (hP.cons hc) (Nat.le_trans hG hc.len)) rfl rfl fun T' k'=>?_
     replace hc:=hc.trans k'
     clear k'
     refine go ?_
     refine L.ix (b:=rb) (o:=0) (n:=16) (c:=16) (k:=i) (sz:=2) rfl (by omega) rfl rfl rfl rfl ?_
     refine L.ldA (a:=⟨rb,0+i*2,none⟩) (n:=2) (get_zs hrb hwi hc) rfl rfl rfl (go ?_)
     refine L.ix (b:=rb) (o:=0) (n:=16) (c:=16) (k:=k) (sz:=2) rfl (by omega) rfl rfl rfl rfl ?_
     refine L.ldA (a:=⟨rb,0+k*2,none⟩) (n:=2) (get_zs hrb hwk hc) rfl rfl rfl ?_
     refine L.cv (wholeParts_C _ _ _ _ _ _ wi.2.l wk.2.l _ (qi.cons hc).1 (qk.cons hc).1 (win_unk qi) (win_unk qk) (hS.cons hc) (hP.cons hc) (Nat.le_trans hG hc.len)) rfl rfl fun T' k'=>?_
     replace hc:=hc.trans k'
     clear k'
     refine go ?_
     refine L.ix (b:=rb) (o:=0) (n:=16) (c:=16) (k:=i) (sz:=2) rfl (by omega) rfl rfl rfl rfl ?_
     refine L.ldA (a:=⟨rb,0+i*2,none⟩) (n:=2) (get_zs hrb hwi hc) rfl rfl rfl (go ?_)
     refine L.ix (b:=rb) (o:=0) (n:=16) (c:=16) (k:=k) (sz:=2) rfl (by omega) rfl rfl rfl rfl ?_
     refine L.ldA (a:=⟨rb,0+k*2,none⟩) (n:=2) (get_zs hrb hwk hc) rfl rfl rfl ?_
     refine L.cv (wholePowers_C _ _ _ _ _ _ wi.2.l wk.2.l _ (qi.cons hc).pre (qk.cons hc).pre (hS.cons hc) (hP.cons hc) (Nat.le_trans hG hc.len)) rfl rfl fun T' k'=>?_
     replace hc:=hc.trans k'
     clear k'
     refine go ?_
     refine W.condF rfl (go ?_)
     refine⟨16 - (k+1),by omega,k+1,rfl,by omega,hc,rfl,rfl,?_⟩
     refine(force_eq rfl).trans ?_
     rw[wrap64 (by omega) (by omega)];rfl
    ·refine go ?_
     exact⟨rfl,hc,rfl,rfl⟩
   clear hc
   rintro _ e T ⟨rfl,hc,e1,e2⟩
   refine W.env2 e1 e2 ?_
   clear e1 e2
   refine go ?_
   refine L.ix (b:=rb) (o:=0) (n:=16) (c:=16) (k:=i) (sz:=2) rfl (by omega) rfl rfl rfl rfl ?_
   refine L.ldA (a:=⟨rb,0+i*2,none⟩) (n:=2) (get_zs hrb hwi hc) rfl rfl rfl ?_
   refine L.cv (wholeBack_C _ _ _ wi.2.l _ (qi.cons hc).1 (win_unk qi) (hS.cons hc) (hP.cons hc) (Nat.le_trans hG hc.len)) rfl rfl fun T' k'=>?_
   replace hc:=hc.trans k'
   clear k'
   refine go ?_
   refine W.condF rfl (go ?_)
   refine⟨16 - (i+1),by omega,i+1,rfl,by omega,hc,rfl,?_⟩
   refine(force_eq rfl).trans ?_
   rw[wrap64 (by omega) (by omega)];rfl
  ·refine go ?_
   exact⟨rfl,hc⟩
 clear get hrb
 rintro _ e T ⟨rfl,hc⟩
 obtain⟨ns,hns⟩:∃ ns:List Int,ns=[-9223372036854775808,-9223372036854775807,-1,0,1,9223372036854775807]:=⟨_,rfl⟩
 have hrg:∀ n∈ns,-9223372036854775808≤n∧n≤9223372036854775807:=by rw[hns];decide
 have hl6:ns.length=6:=by rw[hns];rfl
 refine go ?_
 refine L.bs (ns.map (Value.int .i64)) rfl (by rw[List.length_map,hl6]) rfl (by rw[hns];rfl) (by rw[hns];rfl) rfl ?_
 have c1:Cons T (T++[newR (ns.map (Value.int .i64)) 2]):=Cons.push _ _
 have hsl:Slv (T++[newR (ns.map (Value.int .i64)) 2]) 1 (.slice (some ⟨T.length,0,none⟩) 6 6) 6 (ns.map (Value.int .i64)):=Slv.all (row_push_new rfl) rfl (by simp [hl6])
 generalize T++[newR (ns.map (Value.int .i64)) 2]=S1 at *
 generalize T.length=b1 at *
 replace hc:=hc.trans c1
 clear hns c1
 refine go ?_
 refine W.mono (R:=fun q e T=>q=.exit 4∧Cons M0 T) ?_ ?_
 ·refine W.loop (fun j e T=>∃ i:Nat,j=6 - i∧i≤6∧e 89=.slice (some ⟨b1,0,none⟩) 6 6∧e 90=vi 6∧e 91=vi i∧Cons S1 T) 6
   ⟨0,by omega,by omega,rfl,rfl,rfl,Cons.refl _⟩ ?_
  have hc1:=hc
  clear hc
  rintro j e T ⟨i,rfl,hi,e1,e2,e3,c2⟩
  refine W.env3 e1 e2 e3 ?_
  clear e1 e2 e3
  refine go ?_
  refine W.ite rfl (fun h=>?_) (fun h=>?_)
  ·have hin:i<6:=by have:=of_decide_eq_true h;omega
   clear h
   obtain⟨n,hn⟩:∃ n,ns[i]?=some n:=⟨_,List.getElem?_eq_getElem (by omega)⟩
   have hnr:=hrg n (List.mem_of_getElem? hn)
   refine go ?_
   refine L.el (hsl.cons c2) rfl (by rw[List.getElem?_map,hn];rfl:(ns.map (Value.int .i64))[i]?=some (.int .i64 n)) rfl rfl rfl rfl (fun _=>rfl) rfl (fun p=>?_)
   refine go ?_
   refine L.cl (nInt_C n hnr) rfl rfl ?_
   rintro _ T' ⟨⟨a9,c9,rfl,w9⟩,k',_⟩
   refine⟨fun _=>k',?_⟩
   replace c2:=c2.trans k'
   have hc:=hc1.trans c2
   refine go ?_
   refine L.cv (wholeReads_C (strB [45#8,48#8]) _ _ _ _ n _ w9.pre hnr (hS.cons hc) (hP.cons hc) (Nat.le_trans hG hc.len)) rfl rfl fun T' k'=>?_
   replace c2:=c2.trans k'
   refine go ?_
   refine W.condF rfl (go ?_)
   refine⟨6 - (i+1),by omega,i+1,rfl,by omega,rfl,rfl,?_,c2⟩
   refine(force_eq rfl).trans ?_
   rw[wrap64 (by omega) (by omega)];rfl
  ·refine go ?_
   exact⟨rfl,hc1.trans c2⟩
 clear hc hsl hrg
 rintro _ e T ⟨rfl,hc⟩
 refine go ?_
 refine L.cv (works_C _ (hS.cons hc) (hP.cons hc) (Nat.le_trans hG hc.len)) rfl rfl fun M4 k4=>go ?_
 exact⟨.inr rfl,_,rfl,rfl,(kS.trans hc).trans k4⟩
end
section
open Go Ie
variable {Ext:FuncId→List Value→Mem→Outc→Mem→Prop}
theorem knLimits_C (S:Mem) (hS:SinOk S) (hP:PowOk S) (hG:gN≤S.length):C Tryz.prog gN Ext 52 [] S fun v S'=>v=.bool true∧Cons S S':=by
 refine C.fn Tryz.func52 rfl (by kernel_rfl) rfl ?_
 have hW:=Ws.nil S
 have hc:=Cons.refl S
 refine go ?_
 refine L.cl (power_C 4096 (by decide) true _) rfl rfl ?_
 rintro _ T' ⟨l1,⟨k',a1,c1,rfl,w'⟩,hl1,_⟩
 refine⟨fun _=>k',?_⟩
 replace hW:=(hW.cons k').add w'
 replace hc:=hc.trans k'
 clear k' w'
 refine L.bd #[.bool false,(.slice a1 l1.length c1)] (pl:=[(1,(.slice a1 l1.length c1))]) (z:=.agg #[.bool false,.slice none 0 0]) rfl rfl rfl (by kernel_rfl) rfl ?_
 refine L.cl (power_C 4096 (by decide) true _) rfl rfl ?_
 rintro _ T' ⟨l2,⟨k',a2,c2,rfl,w'⟩,hl2,_⟩
 refine⟨fun _=>k',?_⟩
 replace hW:=(hW.cons k').add w'
 replace hc:=hc.trans k'
 clear k' w'
 refine L.b2 rfl rfl rfl ?_
 refine L.cl (power_C 4096 (by decide) false _) rfl rfl ?_
 rintro _ T' ⟨l3,⟨k',a3,c3,rfl,w'⟩,hl3,_⟩
 refine⟨fun _=>k',?_⟩
 replace hW:=(hW.cons k').add w'
 replace hc:=hc.trans k'
 clear k' w'
 refine L.bd #[.bool false,(.slice a3 l3.length c3)] (pl:=[(1,(.slice a3 l3.length c3))]) (z:=.agg #[.bool false,.slice none 0 0]) rfl rfl rfl (by kernel_rfl) rfl ?_
 refine L.cl (power_C 4096 (by decide) false _) rfl rfl ?_
 rintro _ T' ⟨l4,⟨k',a4,c4,rfl,w'⟩,hl4,_⟩
 refine⟨fun _=>k',?_⟩
 replace hW:=(hW.cons k').add w'
 replace hc:=hc.trans k'
 clear k' w'
 refine L.b2 rfl rfl rfl ?_
 refine L.cl (power_C 4095 (by decide) false _) rfl rfl ?_
 rintro _ T' ⟨l5,⟨k',a5,c5,rfl,w'⟩,hl5,_⟩
 refine⟨fun _=>k',?_⟩
 replace hW:=(hW.cons k').add w'
 replace hc:=hc.trans k'
 clear k' w'
 refine L.bd #[.bool false,(.slice a5 l5.length c5)] (pl:=[(1,(.slice a5 l5.length c5))]) (z:=.agg #[.bool false,.slice none 0 0]) rfl rfl rfl (by kernel_rfl) rfl ?_
 refine L.cl (power_C 2048 (by decide) false _) rfl rfl ?_
 rintro _ T' ⟨l6,⟨k',a6,c6,rfl,w'⟩,hl6,_⟩
 refine⟨fun _=>k',?_⟩
 replace hW:=(hW.cons k').add w'
 replace hc:=hc.trans k'
 clear k' w'
 refine L.b2 rfl rfl rfl ?_
 refine L.cl (power_C 2048 (by decide) true _) rfl rfl ?_
 rintro _ T' ⟨l7,⟨k',a7,c7,rfl,w'⟩,hl7,_⟩
 refine⟨fun _=>k',?_⟩
 replace hW:=(hW.cons k').add w'
 replace hc:=hc.trans k'
 clear k' w'
 refine L.bd #[.bool false,(.slice a7 l7.length c7)] (pl:=[(1,(.slice a7 l7.length c7))]) (z:=.agg #[.bool false,.slice none 0 0]) rfl rfl rfl (by kernel_rfl) rfl ?_
 refine L.cl (power_C 9000 (by decide) false _) rfl rfl ?_
 rintro _ T' ⟨l8,⟨k',a8,c8,rfl,w'⟩,hl8,_⟩
 refine⟨fun _=>k',?_⟩
 replace hW:=(hW.cons k').add w'
 replace hc:=hc.trans k'
 clear k' w'
 refine L.bd #[.bool false,(.slice a8 l8.length c8)] (pl:=[(1,(.slice a8 l8.length c8))]) (z:=.agg #[.bool false,.slice none 0 0]) rfl rfl rfl (by kernel_rfl) rfl ?_
 refine L.cl (power_C 9000 (by decide) false _) rfl rfl ?_
 rintro _ T' ⟨l9,⟨k',a9,c9,rfl,w'⟩,hl9,_⟩
 refine⟨fun _=>k',?_⟩
 replace hW:=(hW.cons k').add w'
 replace hc:=hc.trans k'
 clear k' w'
 refine L.b2 rfl rfl rfl ?_
 refine L.bsW [1#64] rfl rfl rfl rfl rfl rfl (fun b10 T' k' w'=>?_)
 replace hW:=(hW.cons k').add w'
 replace hc:=hc.trans k'
 clear k' w'
 refine L.b2 rfl rfl rfl ?_
 refine L.b0 rfl ?_
 obtain⟨zs,hzs⟩:∃ zs:List ZW,zs=[(false,⟨a1,c1,l1⟩),(true,⟨a2,c2,l2⟩),(false,⟨a3,c3,l3⟩),(true,⟨a4,c4,l4⟩),(false,⟨a5,c5,l5⟩),(true,⟨a6,c6,l6⟩),(false,⟨a7,c7,l7⟩),(false,⟨a8,c8,l8⟩),(true,⟨a9,c9,l9⟩),(true,⟨some ⟨b10,0,none⟩,1,[1#64]⟩),(false,⟨none,0,[]⟩)]:=⟨_,rfl⟩
 have hww:∀ z∈zs,ZPre T' z:=fun z hz=>by
  rw[hzs] at hz
  simp only [List.mem_cons,List.not_mem_nil,or_false] at hz
  rcases hz with rfl | rfl | rfl | rfl | rfl | rfl | rfl | rfl | rfl | rfl | rfl
  ·exact hW.at 0 rfl
  ·exact hW.at 1 rfl
  ·exact hW.at 2 rfl
  ·exact hW.at 3 rfl
  ·exact hW.at 4 rfl
  ·exact hW.at 5 rfl
  ·exact hW.at 6 rfl
  ·exact hW.at 7 rfl
  ·exact hW.at 8 rfl
  ·exact hW.at 9 rfl
  ·exact nilZ _
 refine L.bz zs rfl (by rw[hzs];rfl) rfl (by rw[hzs];rfl) rfl (fun rb M0 gs k' hrb=>?_)
 have hwn:zs.length=11:=by rw[hzs];rfl
 replace hc:=hc.trans k'
 have get:∀ i,i<11→∃ z,zs[i]?=some z∧ZPre M0 z:=fun i hi=>by
  obtain⟨z,hz⟩:∃ z,zs[i]?=some z:=⟨_,List.getElem?_eq_getElem (by omega)⟩
  exact⟨z,hz,(hww z (List.mem_of_getElem? hz)).cons k'⟩
 clear hW hzs hww k' hwn hl1 hl2 hl3 hl4 hl5 hl6 hl7 hl8 hl9
 have kS:=hc
 replace hS:=hS.cons kS
 replace hP:=hP.cons kS
 replace hG:=Nat.le_trans hG kS.len
 clear hc
 refine go ?_
 refine W.loop (fun j e T=>∃ i:Nat,j=11 - i∧i≤11∧Cons M0 T∧e 1=.slice (some ⟨rb,0,none⟩) 11 11∧e 2=vi i) 11
  ⟨0,rfl,by decide,Cons.refl _,rfl,rfl⟩ ?_
 rintro j e T ⟨i,rfl,hi,hc,e1,e2⟩
 refine W.env2 e1 e2 ?_
 clear e1 e2
 refine go ?_
 refine W.ite rfl (fun h=>?_) (fun h=>?_)
 ·have hin:i<11:=by have:=of_decide_eq_true h;omega
  clear h
  obtain⟨wi,hwi,qi⟩:=get i hin
  refine go ?_
  refine W.mono (R:=fun q e T=>q=.exit 2∧Cons M0 T∧e 1=.slice (some ⟨rb,0,none⟩) 11 11∧e 2=vi i) ?_ ?_
  ·refine W.loop (fun j e T=>∃ k:Nat,j=11 - k∧k≤11∧Cons M0 T∧e 1=.slice (some ⟨rb,0,none⟩) 11 11∧e 2=vi i∧e 3=vi k) 11
    ⟨0,rfl,by omega,hc,rfl,rfl,rfl⟩ ?_
   clear hc e T
   rintro j e T ⟨k,rfl,hk,hc,e1,e2,e3⟩
   refine W.env3 e1 e2 e3 ?_
   clear e1 e2 e3
   refine go ?_
   refine W.ite rfl (fun h=>?_) (fun h=>?_)
   ·have hkn:k<11:=by have:=of_decide_eq_true h;omega
    clear h
    obtain⟨wk,hwk,qk⟩:=get k hkn
    have next:∀ T,Cons M0 T→vi (k+1)=.int .i64 (IntKind.i64.wrap ((k:Int)+1)):=fun _ _=>by
     rw[wrap64 (by omega) (by omega)];rfl
    refine go ?_
    refine L.ix (b:=rb) (o:=0) (n:=11) (c:=11) (k:=i) (sz:=2) rfl (by omega) rfl rfl rfl rfl ?_
    refine L.ldA (a:=⟨rb,0+i*2,none⟩) (n:=2) (get_zs hrb hwi hc) rfl rfl rfl (go ?_)
    refine L.ix (b:=rb) (o:=0) (n:=11) (c:=11) (k:=k) (sz:=2) rfl (by omega) rfl rfl rfl rfl ?_
    refine L.ldA (a:=⟨rb,0+k*2,none⟩) (n:=2) (get_zs hrb hwk hc) rfl rfl rfl ?_
    refine L.cv (wholeReckons_C _ _ _ _ _ _ wi.2.l wk.2.l _ (qi.cons hc).pre (qk.cons hc).pre (hS.cons hc) (hP.cons hc) (Nat.le_trans hG hc.len)) rfl rfl fun T' k'=>?_
    replace hc:=hc.trans k'
    clear k'
    refine go ?_
    have em:(Int.tmod (IntKind.i64.wrap ((i:Int)+(k:Int))) 3==0)=decide ((i+k) % 3=0):=by
     rw[wrap64 (by omega) (by omega),show Int.tmod ((i:Int)+(k:Int)) 3=(((i+k) % 3:Nat):Int) from (Int.ofNat_tmod (i+k) 3).symm]
     exact decide_eq_decide.2 (by omega)
    rw[em]
    cases hm:decide ((i+k) % 3=0)
    ·refine go ?_
     refine W.condF rfl (go ?_)
     exact⟨11 - (k+1),by omega,k+1,rfl,by omega,hc,rfl,rfl,(force_eq rfl).trans (next _ hc).symm⟩
    ·refine go ?_
     refine L.ix (b:=rb) (o:=0) (n:=11) (c:=11) (k:=i) (sz:=2) rfl (by omega) rfl rfl rfl rfl ?_
     refine L.ldA (a:=⟨rb,0+i*2,none⟩) (n:=2) (get_zs hrb hwi hc) rfl rfl rfl (go ?_)
     refine L.ix (b:=rb) (o:=0) (n:=11) (c:=11) (k:=k) (sz:=2) rfl (by omega) rfl rfl rfl rfl ?_
     refine L.ldA (a:=⟨rb,0+k*2,none⟩) (n:=2) (get_zs hrb hwk hc) rfl rfl rfl ?_
     refine L.cv (wholePowers_C _ _ _ _ _ _ wi.2.l wk.2.l _ (qi.cons hc).pre (qk.cons hc).pre (hS.cons hc) (hP.cons hc) (Nat.le_trans hG hc.len)) rfl rfl fun T' k'=>?_
     replace hc:=hc.trans k'
     clear k'
     refine go ?_
     refine W.condF rfl (go ?_)
     exact⟨11 - (k+1),by omega,k+1,rfl,by omega,hc,rfl,rfl,(force_eq rfl).trans (next _ hc).symm⟩
   ·refine go ?_
    exact⟨rfl,hc,rfl,rfl⟩
  clear hc
  rintro _ e T ⟨rfl,hc,e1,e2⟩
  refine W.env2 e1 e2 ?_
  clear e1 e2
  refine go ?_
  refine L.ix (b:=rb) (o:=0) (n:=11) (c:=11) (k:=i) (sz:=2) rfl (by omega) rfl rfl rfl rfl ?_
  refine L.ldA (a:=⟨rb,0+i*2,none⟩) (n:=2) (get_zs hrb hwi hc) rfl rfl rfl ?_
  refine L.cv (wholeReads_C (strB [49#8]) _ _ _ wi.2.l 1 _ (qi.cons hc).pre (by decide) (hS.cons hc) (hP.cons hc) (Nat.le_trans hG hc.len)) rfl rfl fun T' k'=>?_
  replace hc:=hc.trans k'
  clear k'
  refine go ?_
  refine W.condF rfl (go ?_)
  refine⟨11 - (i+1),by omega,i+1,rfl,by omega,hc,rfl,?_⟩
  refine(force_eq rfl).trans ?_
  rw[wrap64 (by omega) (by omega)];rfl
 ·refine go ?_
  exact⟨.inr rfl,_,rfl,rfl,kS.trans hc⟩
theorem knPowers_C (S:Mem) (hS:SinOk S) (hP:PowOk S) (hG:gN≤S.length):C Tryz.prog gN Ext 53 [] S fun v S'=>v=.bool true∧Cons S S':=by
 refine C.fn Tryz.func53 rfl (by kernel_rfl) rfl ?_
 have hc:=Cons.refl S
 refine go ?_
 obtain⟨aq,haq⟩:∃ ns:List Int,ns=[-3,-2,-1,0,1,2,3,10]:=⟨_,rfl⟩
 have hraq:∀ n∈aq,-9223372036854775808≤n∧n≤9223372036854775807:=by rw[haq];decide
 have hlaq:(aq).length=8:=by rw[haq];rfl
 refine L.bs ((aq).map (Value.int .i64)) rfl (by rw[List.length_map,hlaq]) rfl (by rw[haq];rfl) (by rw[haq];rfl) rfl ?_
 have k':Cons S (S++[newR ((aq).map (Value.int .i64)) 2]):=Cons.push _ _
 have hsaq:Slv (S++[newR ((aq).map (Value.int .i64)) 2]) 1 (.slice (some ⟨(S).length,0,none⟩) 8 8) 8 ((aq).map (Value.int .i64)):=Slv.all (row_push_new rfl) rfl (by simp [hlaq])
 generalize S++[newR ((aq).map (Value.int .i64)) 2]=Maq at *
 obtain⟨baq,hbaq⟩:∃ b,b=(S).length:=⟨_,rfl⟩
 rw[← hbaq] at hsaq ⊢
 replace hc:=hc.trans k'
 clear haq k' hbaq
 refine go ?_
 have hcA:=hc
 clear hc
 refine W.mono (R:=fun q e T=>q=.exit 0∧Cons S T) ?_ ?_
 ·refine W.loop (fun j e T=>∃ i:Nat,j=8 - i∧i≤8∧Cons Maq T∧e 10=.slice (some ⟨baq,0,none⟩) 8 8∧e 11=vi 8∧e 12=vi i) 8
   ⟨0,rfl,by decide,Cons.refl _,rfl,rfl,rfl⟩ ?_
  rintro j e T ⟨i,rfl,hi,hc,e1,e2,e3⟩
  refine W.env3 e1 e2 e3 ?_
  clear e1 e2 e3
  refine go ?_
  refine W.ite rfl (fun h=>?_) (fun h=>?_)
  ·have hin:i<8:=by have:=of_decide_eq_true h;omega
   clear h
   obtain⟨za,hqza⟩:∃ n,(aq)[i]?=some n:=⟨_,List.getElem?_eq_getElem (by omega)⟩
   have hgza:=hraq za (List.mem_of_getElem? hqza)
   refine go ?_
   refine L.el (hsaq.cons hc) rfl (by rw[List.getElem?_map,hqza];rfl:((aq).map (Value.int .i64))[i]?=some (.int .i64 za)) rfl rfl rfl rfl (fun _=>rfl) rfl (fun p=>?_)
   refine go ?_
   obtain⟨ns,hns⟩:∃ ns:List Int,ns=[-9223372036854775808,-2,0,1,2,3,1232,1233,1234,2584,2585,4095,4096,4097,9223372036854775807]:=⟨_,rfl⟩
   have hrns:∀ n∈ns,-9223372036854775808≤n∧n≤9223372036854775807:=by rw[hns];decide
   have hlns:(ns).length=15:=by rw[hns];rfl
   refine L.bs ((ns).map (Value.int .i64)) rfl (by rw[List.length_map,hlns]) rfl (by rw[hns];rfl) (by rw[hns];rfl) rfl ?_
   have k':Cons T (T++[newR ((ns).map (Value.int .i64)) 2]):=Cons.push _ _
   have hsns:Slv (T++[newR ((ns).map (Value.int .i64)) 2]) 1 (.slice (some ⟨(T).length,0,none⟩) 15 15) 15 ((ns).map (Value.int .i64)):=Slv.all (row_push_new rfl) rfl (by simp [hlns])
   generalize T++[newR ((ns).map (Value.int .i64)) 2]=Mns at *
   obtain⟨bns,hbns⟩:∃ b,b=(T).length:=⟨_,rfl⟩
   rw[← hbns] at hsns ⊢
   replace hc:=hc.trans k'
   clear hns k' hbns
   refine go ?_
   have hcN:=hc
   clear hc
   refine W.mono (R:=fun q e T=>q=.exit 2∧Cons Maq T∧e 2=.int .i64 za∧e 10=.slice (some ⟨baq,0,none⟩) 8 8∧e 11=vi 8∧e 12=vi i) ?_ ?_
   ·refine W.loop (fun j e T=>∃ k:Nat,j=15 - k∧k≤15∧Cons Mns T∧e 2=.int .i64 za∧e 10=.slice (some ⟨baq,0,none⟩) 8 8∧e 11=vi 8∧e 12=vi i∧e 16=.slice (some ⟨bns,0,none⟩) 15 15∧e 17=vi 15∧e 18=vi k) 15
     ⟨0,rfl,by decide,Cons.refl _,rfl,rfl,rfl,rfl,rfl,rfl,rfl⟩ ?_
    rintro j e T ⟨k,rfl,hk,hc,e1,e2,e3,e4,e5,e6,e7⟩
    refine W.env7 e1 e2 e3 e4 e5 e6 e7 ?_
    clear e1 e2 e3 e4 e5 e6 e7
    refine go ?_
    refine W.ite rfl (fun h=>?_) (fun h=>?_)
    ·have hkn:k<15:=by have:=of_decide_eq_true h;omega
     clear h
     obtain⟨zn,hqzn⟩:∃ n,(ns)[k]?=some n:=⟨_,List.getElem?_eq_getElem (by omega)⟩
     have hgzn:=hrns zn (List.mem_of_getElem? hqzn)
     refine go ?_
     refine L.el (hsns.cons hc) rfl (by rw[List.getElem?_map,hqzn];rfl:((ns).map (Value.int .i64))[k]?=some (.int .i64 zn)) rfl rfl rfl rfl (fun _=>rfl) rfl (fun p=>?_)
     refine go ?_
     have hW:=Ws.nil T
     refine L.cl (nInt_C za hgza) rfl rfl ?_
     rintro _ T' ⟨⟨a1,c1,rfl,w'⟩,k',_⟩
     refine⟨fun _=>k',?_⟩
     replace hW:=(hW.cons k').add w'
     replace hc:=hc.trans k'
     clear k' w'
     refine go ?_
     refine L.cl (nInt_C zn hgzn) rfl rfl ?_
     rintro _ T' ⟨⟨a2,c2,rfl,w'⟩,k',_⟩
     refine⟨fun _=>k',?_⟩
     replace hW:=(hW.cons k').add w'
     replace hc:=hc.trans k'
     clear k' w'
     have hcc:=(hcA.trans hcN).trans hc
     refine L.cv (wholePowers_C _ _ _ _ _ _ (toW za.natAbs) (toW zn.natAbs) _ (hW.at 0 rfl).pre (hW.at 1 rfl).pre (hS.cons hcc) (hP.cons hcc) (Nat.le_trans hG hcc.len)) rfl rfl fun T' k'=>?_
     replace hW:=hW.cons k'
     replace hc:=hc.trans k'
     clear k'
     refine go ?_
     refine W.condF rfl (go ?_)
     refine⟨15 - (k+1),by omega,k+1,rfl,by omega,hc,rfl,rfl,rfl,rfl,rfl,rfl,?_⟩
     refine(force_eq rfl).trans ?_
     rw[wrap64 (by omega) (by omega)];rfl
    ·refine go ?_
     exact⟨rfl,hcN.trans hc,rfl,rfl,rfl,rfl⟩
   clear hsns hrns hlns hcN
   rintro _ e T ⟨rfl,hc,e1,e2,e3,e4⟩
   refine W.env4 e1 e2 e3 e4 ?_
   clear e1 e2 e3 e4
   have hW:=Ws.nil T
   refine go ?_
   refine L.cl (nInt_C za hgza) rfl rfl ?_
   rintro _ T' ⟨⟨a1,c1,rfl,w'⟩,k',_⟩
   refine⟨fun _=>k',?_⟩
   replace hW:=(hW.cons k').add w'
   replace hc:=hc.trans k'
   clear k' w'
   refine L.cl (power_C 300 (by decide) true _) rfl rfl ?_
   rintro _ T' ⟨l2,⟨k',a2,c2,rfl,w'⟩,hl2,_⟩
   refine⟨fun _=>k',?_⟩
   replace hW:=(hW.cons k').add w'
   replace hc:=hc.trans k'
   clear k' w'
   refine L.bd #[.bool false,(.slice a2 l2.length c2)] (pl:=[(1,(.slice a2 l2.length c2))]) (z:=.agg #[.bool false,.slice none 0 0]) rfl rfl rfl (by kernel_rfl) rfl ?_
   have hcc:=hcA.trans hc
   refine L.cv (wholePowers_C _ _ _ _ _ _ (toW za.natAbs) l2 _ (hW.at 0 rfl).pre (hW.at 1 rfl).pre (hS.cons hcc) (hP.cons hcc) (Nat.le_trans hG hcc.len)) rfl rfl fun T' k'=>?_
   replace hW:=hW.cons k'
   replace hc:=hc.trans k'
   clear k'
   refine go ?_
   clear hcc
   refine L.cl (nInt_C za hgza) rfl rfl ?_
   rintro _ T' ⟨⟨a3,c3,rfl,w'⟩,k',_⟩
   refine⟨fun _=>k',?_⟩
   replace hW:=(hW.cons k').add w'
   replace hc:=hc.trans k'
   clear k' w'
   refine L.cl (power_C 64 (by decide) false _) rfl rfl ?_
   rintro _ T' ⟨l4,⟨k',a4,c4,rfl,w'⟩,hl4,_⟩
   refine⟨fun _=>k',?_⟩
   replace hW:=(hW.cons k').add w'
   replace hc:=hc.trans k'
   clear k' w'
   refine L.bd #[.bool false,(.slice a4 l4.length c4)] (pl:=[(1,(.slice a4 l4.length c4))]) (z:=.agg #[.bool false,.slice none 0 0]) rfl rfl rfl (by kernel_rfl) rfl ?_
   have hcc:=hcA.trans hc
   refine L.cv (wholePowers_C _ _ _ _ _ _ (toW za.natAbs) l4 _ (hW.at 2 rfl).pre (hW.at 3 rfl).pre (hS.cons hcc) (hP.cons hcc) (Nat.le_trans hG hcc.len)) rfl rfl fun T' k'=>?_
   replace hW:=hW.cons k'
   replace hc:=hc.trans k'
   clear k'
   refine go ?_
   refine W.condF rfl (go ?_)
   refine⟨8 - (i+1),by omega,i+1,rfl,by omega,hc,rfl,rfl,?_⟩
   refine(force_eq rfl).trans ?_
   rw[wrap64 (by omega) (by omega)];rfl
  ·refine go ?_
   exact⟨rfl,hcA.trans hc⟩
 clear hsaq hraq hlaq hcA
 rintro _ e T ⟨rfl,hc⟩
 refine go ?_
 obtain⟨ms,hms⟩:∃ ms:List Nat,ms=[63,64,65,2047,2048,2049,4095]:=⟨_,rfl⟩
 have hrm:∀ n∈ms,n≤4095:=by rw[hms];decide
 have hlm:ms.length=7:=by rw[hms];rfl
 refine L.bs (ms.map vi) rfl (by rw[List.length_map,hlm]) rfl (by rw[hms];rfl) (by rw[hms];rfl) rfl ?_
 have k':Cons T (T++[newR (ms.map vi) 3]):=Cons.push _ _
 have hsm:Slv (T++[newR (ms.map vi) 3]) 1 (.slice (some ⟨T.length,0,none⟩) 7 7) 7 (ms.map vi):=Slv.all (row_push_new rfl) rfl (by simp [hlm])
 generalize T++[newR (ms.map vi) 3]=M1 at *
 obtain⟨bm,hbm⟩:∃ b,b=T.length:=⟨_,rfl⟩
 rw[← hbm] at hsm ⊢
 have hcM:=hc.trans k'
 clear hms k' hbm hc
 refine go ?_
 refine W.loop (fun j e T=>∃ i:Nat,j=7 - i∧i≤7∧Cons M1 T∧e 44=.slice (some ⟨bm,0,none⟩) 7 7∧e 45=vi 7∧e 46=vi i) 7
  ⟨0,rfl,by decide,Cons.refl _,rfl,rfl,rfl⟩ ?_
 rintro j e T ⟨i,rfl,hi,hc,e1,e2,e3⟩
 refine W.env3 e1 e2 e3 ?_
 clear e1 e2 e3
 refine go ?_
 refine W.ite rfl (fun h=>?_) (fun h=>?_)
 ·have hin:i<7:=by have:=of_decide_eq_true h;omega
  clear h
  obtain⟨m,hm⟩:∃ n,ms[i]?=some n:=⟨_,List.getElem?_eq_getElem (by omega)⟩
  have hgm:=hrm m (List.mem_of_getElem? hm)
  refine go ?_
  refine L.el (hsm.cons hc) rfl (by rw[List.getElem?_map,hm];rfl:(ms.map vi)[i]?=some (vi m)) rfl rfl rfl rfl (fun _=>rfl) rfl (fun p=>?_)
  refine go ?_
  obtain⟨n2,hn2⟩:∃ b:Bool,b=(Int.tmod (m:Int) 2==0):=⟨_,rfl⟩
  obtain⟨n3,hn3⟩:∃ b:Bool,b=(Int.tmod (m:Int) 3==0):=⟨_,rfl⟩
  rw[← hn2,← hn3]
  refine L.cl (power_C m (by omega) n3 _) rfl rfl ?_
  rintro _ T' ⟨lx,⟨k',ax,cx,rfl,wx⟩,hlx,_⟩
  refine⟨fun _=>k',?_⟩
  replace hc:=hc.trans k'
  clear k'
  refine L.b2 rfl rfl rfl ?_
  refine L.nr [.bool false,.slice none 0 0] wT rfl rfl (fun b7 Tb7 gb7 kb7 rb7=>?_)
  refine L.st2 rb7 rfl rfl rfl rfl rfl rfl (fun TX kk r7=>?_)
  have kx:=kk.mono kb7 gb7
  replace hc:=hc.trans kx
  replace wx:=wx.cons kx
  clear kk kx rb7 kb7 gb7
  have hcX:=hcM.trans hc
  refine go ?_
  have hcI:=hc
  clear hc
  have hc:=Cons.refl TX
  obtain⟨ks,hks⟩:∃ ns:List Int,ns=[1,2,3,63,64,65]:=⟨_,rfl⟩
  have hrks:∀ n∈ks,-9223372036854775808≤n∧n≤9223372036854775807:=by rw[hks];decide
  have hlks:(ks).length=6:=by rw[hks];rfl
  refine L.bs ((ks).map (Value.int .i64)) rfl (by rw[List.length_map,hlks]) rfl (by rw[hks];rfl) (by rw[hks];rfl) rfl ?_
  have k':Cons TX (TX++[newR ((ks).map (Value.int .i64)) 2]):=Cons.push _ _
  have hsks:Slv (TX++[newR ((ks).map (Value.int .i64)) 2]) 1 (.slice (some ⟨(TX).length,0,none⟩) 6 6) 6 ((ks).map (Value.int .i64)):=Slv.all (row_push_new rfl) rfl (by simp [hlks])
  generalize TX++[newR ((ks).map (Value.int .i64)) 2]=Mks at *
  obtain⟨bks,hbks⟩:∃ b,b=(TX).length:=⟨_,rfl⟩
  rw[← hbks] at hsks ⊢
  replace hc:=hc.trans k'
  clear hks k' hbks
  refine go ?_
  have hcK:=hc
  clear hc
  refine W.mono (R:=fun q e T=>q=.exit 6∧Cons M1 T∧e 44=.slice (some ⟨bm,0,none⟩) 7 7∧e 45=vi 7∧e 46=vi i) ?_ ?_
  ·refine W.loop (fun j e T=>∃ k:Nat,j=6 - k∧k≤6∧Cons Mks T∧e 7=.pointer (some ⟨b7,0,none⟩)∧e 44=.slice (some ⟨bm,0,none⟩) 7 7∧e 45=vi 7∧e 46=vi i∧e 59=.slice (some ⟨bks,0,none⟩) 6 6∧e 60=vi 6∧e 61=vi k) 6
    ⟨0,rfl,by decide,Cons.refl _,rfl,rfl,rfl,rfl,rfl,rfl,rfl⟩ ?_
   rintro j e T ⟨k,rfl,hk,hc,e1,e2,e3,e4,e5,e6,e7⟩
   refine W.env7 e1 e2 e3 e4 e5 e6 e7 ?_
   clear e1 e2 e3 e4 e5 e6 e7
   refine go ?_
   refine W.ite rfl (fun h=>?_) (fun h=>?_)
   ·have hkn:k<6:=by have:=of_decide_eq_true h;omega
    clear h
    obtain⟨zn,hqzn⟩:∃ n,(ks)[k]?=some n:=⟨_,List.getElem?_eq_getElem (by omega)⟩
    have hgzn:=hrks zn (List.mem_of_getElem? hqzn)
    refine go ?_
    refine L.el (hsks.cons hc) rfl (by rw[List.getElem?_map,hqzn];rfl:((ks).map (Value.int .i64))[k]?=some (.int .i64 zn)) rfl rfl rfl rfl (fun _=>rfl) rfl (fun p=>?_)
    refine go ?_
    refine L.z2 (Cons.row (h:=hcK.trans hc) r7) rfl rfl rfl ?_
    have hW:=(Ws.nil T).add (wx.cons (hcK.trans hc))
    refine go ?_
    refine L.cl (nInt_C zn hgzn) rfl rfl ?_
    rintro _ T' ⟨⟨a2,c2,rfl,w'⟩,k',_⟩
    refine⟨fun _=>k',?_⟩
    replace hW:=(hW.cons k').add w'
    replace hc:=hc.trans k'
    clear k' w'
    have hcc:=(hcX.trans hcK).trans hc
    refine L.cv (wholePowers_C _ _ _ _ _ _ lx (toW zn.natAbs) _ (hW.at 0 rfl).pre (hW.at 1 rfl).pre (hS.cons hcc) (hP.cons hcc) (Nat.le_trans hG hcc.len)) rfl rfl fun T' k'=>?_
    replace hW:=hW.cons k'
    replace hc:=hc.trans k'
    clear k'
    refine go ?_
    refine W.condF rfl (go ?_)
    refine⟨6 - (k+1),by omega,k+1,rfl,by omega,hc,rfl,rfl,rfl,rfl,rfl,rfl,?_⟩
    refine(force_eq rfl).trans ?_
    rw[wrap64 (by omega) (by omega)];rfl
   ·refine go ?_
    exact⟨rfl,(hcI.trans hcK).trans hc,rfl,rfl,rfl⟩
  rintro _ e T ⟨rfl,hc,e1,e2,e3⟩
  refine W.env3 e1 e2 e3 ?_
  clear e1 e2 e3
  refine go ?_
  refine⟨7 - (i+1),by omega,i+1,rfl,by omega,hc,rfl,rfl,?_⟩
  refine(force_eq rfl).trans ?_
  rw[wrap64 (by omega) (by omega)];rfl
 ·refine go ?_
  exact⟨.inr rfl,_,rfl,rfl,hcM.trans hc⟩
end
section
open Go Ie
variable {Ext:FuncId→List Value→Mem→Outc→Mem→Prop}
theorem zeros5 {n:Nat} (hn:n≤65534):zprsE ([45#8]++zeros n++[53#8])=0∧zprsZ ([45#8]++zeros n++[53#8])=-5:=by
 have hr:zRest ([45#8]++zeros n++[53#8])=zeros n++[53#8]:=rfl
 have hd:decN 0 (zeros n++[53#8])=5:=by rw[decN_zeros];rfl
 have h5:5<2^8192:=by
  have:(2:Nat)^3≤2^8192:=Nat.pow_le_pow_right (by decide) (by decide)
  omega
 have h0:prsE (zeros n++[53#8])=0:=by
  unfold prsE
  rw[if_neg (by rw[List.length_append];unfold zeros;rw[List.length_replicate];simp;omega),if_neg,if_pos (by rw[hd];exact h5)]
  rintro (h | h)
  ·have h1:(zeros n).length+1=0:=by rw[← List.length_singleton (a:=53#8),← List.length_append,h];rfl
   omega
  ·exact h fun x hx=>by
    rcases List.mem_append.1 hx with hx | hx
    ·exact zeros_dig n x hx
    ·rw[List.mem_singleton] at hx;rw[hx];unfold isDig;decide
 have hZ:zprsZ ([45#8]++zeros n++[53#8])=-5:=by
  unfold zprsZ
  rw[hr,show zNeg ([45#8]++zeros n++[53#8])=true from rfl]
  unfold prsL
  rw[if_pos h0,hd,zv_toW]
  rfl
 refine⟨?_,hZ⟩
 unfold zprsE
 rw[if_neg,hr,if_pos h0,hZ]
 ·exact zok_E (zok_small (by decide))
 ·rw[List.length_append,List.length_append];unfold zeros;rw[List.length_replicate];simp;omega
theorem long5 {n:Nat} (hn:65535≤n):zprsE ([45#8]++zeros n++[53#8])=3:=by
 unfold zprsE
 rw[if_pos]
 rw[List.length_append,List.length_append];unfold zeros;rw[List.length_replicate];simp;omega
theorem zeros_len (n:Nat):(zeros n).length=n:=List.length_replicate
theorem zeros_take {n k:Nat} (h:k≤n):(zeros n).take k=zeros k:=by unfold zeros;rw[List.take_replicate,Nat.min_eq_left h]
theorem some_nat (m:Nat):∃ k:Nat,k=m:=⟨m,rfl⟩
theorem zeros_two (n:Nat):zeros n++zeros n=zeros (2*n):=by unfold zeros;rw[List.replicate_append_replicate,Nat.two_mul]
theorem knTexts_C (S:Mem) (hS:SinOk S) (hP:PowOk S) (hG:gN≤S.length):C Tryz.prog gN Ext 54 [] S fun v S'=>v=.bool true∧Cons S S':=by
 refine C.fn Tryz.func54 rfl (by kernel_rfl) rfl ?_
 have hc:=Cons.refl S
 obtain⟨sx,hsx⟩:∃ sx:List ByteArray,sx=[⟨#[]⟩,⟨#[45]⟩,⟨#[43,53]⟩,⟨#[45,45,53]⟩,⟨#[45,48]⟩,⟨#[45,48,48]⟩,⟨#[48]⟩,⟨#[45,48,48,55]⟩,⟨#[53,45]⟩,⟨#[45,32,53]⟩,⟨#[49,46,48]⟩,⟨#[45,57,50,50,51,51,55,50,48,51,54,56,53,52,55,55,53,56,48,56]⟩,⟨#[57,50,50,51,51,55,50,48,51,54,56,53,52,55,55,53,56,48,56]⟩,⟨#[255]⟩,⟨#[0]⟩]:=⟨_,rfl⟩
 have hlsx:sx.length=15:=by rw[hsx];rfl
 refine go ?_
 refine L.bs (sx.map Value.string) rfl (by rw[List.length_map,hlsx]) rfl (by rw[hsx];rfl) (by rw[hsx];rfl) rfl ?_
 clear hsx
 have k':Cons S (S++[newR ((sx).map Value.string) 9]):=Cons.push _ _
 have hssx:Slv (S++[newR ((sx).map Value.string) 9]) 1 (.slice (some ⟨(S).length,0,none⟩) 15 15) 15 ((sx).map Value.string):=Slv.all (row_push_new rfl) rfl (by simp [hlsx])
 generalize S++[newR ((sx).map Value.string) 9]=Msx at *
 obtain⟨bsx,hbsx⟩:∃ b,b=(S).length:=⟨_,rfl⟩
 rw[← hbsx] at hssx ⊢
 replace hc:=hc.trans k'
 clear k' hbsx
 refine go ?_
 have hcA:=hc
 clear hc
 refine W.mono (R:=fun q e T=>q=.exit 0∧Cons S T) ?_ ?_
 ·refine W.loop (fun j e T=>∃ i:Nat,j=15 - i∧i≤15∧Cons Msx T∧e 14=.slice (some ⟨bsx,0,none⟩) 15 15∧e 15=vi 15∧e 16=vi i) 15
   ⟨0,rfl,by decide,Cons.refl _,rfl,rfl,rfl⟩ ?_
  rintro j e T ⟨i,rfl,hi,hc,e1,e2,e3⟩
  refine W.env3 e1 e2 e3 ?_
  clear e1 e2 e3
  refine go ?_
  refine W.ite rfl (fun h=>?_) (fun h=>?_)
  ·have hin:i<15:=by have:=of_decide_eq_true h;omega
   clear h
   obtain⟨x,hx⟩:∃ x,(sx)[i]?=some x:=⟨_,List.getElem?_eq_getElem (by omega)⟩
   refine go ?_
   refine L.el (hssx.cons hc) rfl (by rw[List.getElem?_map,hx];rfl:((sx).map Value.string)[i]?=some (.string x)) rfl rfl rfl rfl (fun _=>rfl) rfl (fun p=>?_)
   refine go ?_
   refine L.b0 rfl ?_
   have hcc:=hcA.trans hc
   refine L.cv (wholeReads_C x false none 0 [] 0 _ (nilZ _).pre (by decide) (hS.cons hcc) (hP.cons hcc) (Nat.le_trans hG hcc.len)) rfl rfl fun T' k'=>?_
   replace hc:=hc.trans k'
   refine go ?_
   refine W.condF rfl (go ?_)
   refine⟨15 - (i+1),by omega,i+1,rfl,by omega,hc,rfl,rfl,?_⟩
   refine(force_eq rfl).trans ?_
   rw[wrap64 (by omega) (by omega)];rfl
  ·refine go ?_
   exact⟨rfl,hcA.trans hc⟩
 clear hcA hssx hlsx
 rintro _ e T ⟨rfl,hc⟩
 refine go ?_
 refine L.cl (power_C 4096 (by decide) true _) rfl rfl ?_
 rintro _ T' ⟨l1,⟨k',a1,c1,rfl,w1⟩,hl1,hw1⟩
 refine⟨fun _=>k',?_⟩
 replace hc:=hc.trans k'
 clear k'
 refine L.b2 rfl rfl rfl ?_
 obtain⟨x,hx⟩:∃ x,x=zv true l1:=⟨_,rfl⟩
 have hxn:x.natAbs<2^4096:=by rw[hx,zv_abs,hw1,if_pos rfl];have:=Nat.two_pow_pos 4096;omega
 have hxz:zfz x=true:=decide_eq_true hxn
 refine L.cv (iText_C (x:=x) (i:=65) ⟨true,a1,c1,l1,rfl,w1,by omega,hx.symm⟩ (hP.cons hc)) rfl rfl fun T' k'=>?_
 replace hc:=hc.trans k'
 obtain⟨tp,htp⟩:∃ tp,tp=txtL x:=⟨_,rfl⟩
 have htl:1≤tp.length∧tp.length≤3000:=by
  rw[htp]
  unfold txtL
  rw[if_pos hxz,zText_K]
  exact txtK_len hxn (by decide)
 rw[← htp]
 clear htp hxz hxn hx k' w1 hw1 hl1
 refine go ?_
 refine L.from (l:=tp) (i:=1) rfl rfl htl.1 rfl rfl (go ?_)
 refine L.tlen rfl rfl rfl rfl (go ?_)
 rw[show IntKind.i64.wrap ((tp.length:Int) - 1)=((tp.length - 1:Nat):Int) by rw[wrap64 (by omega) (by omega)];omega]
 refine L.upto (l:=tp) (i:=tp.length - 1) rfl rfl (by omega) rfl rfl ?_
 refine L.tadd (a:=tp.take (tp.length - 1)) (b:=[57#8]) rfl rfl (by rw[List.length_take];simp;omega) rfl (go ?_)
 refine L.tadd (a:=[45#8]) (b:=tp) rfl rfl (by simp;omega) rfl (go ?_)
 refine L.tadd (a:=tp) (b:=[48#8]) rfl rfl (by simp;omega) rfl (go ?_)
 refine L.from (l:=tp) (i:=1) rfl rfl htl.1 rfl rfl ?_
 refine L.tadd (a:=[45#8,48#8]) (b:=tp.drop 1) rfl rfl (by rw[List.length_drop];simp;omega) rfl ?_
 obtain⟨ts,hts⟩:∃ ts:List ByteArray,ts=[strB tp,strB (tp.drop 1),strB (tp.take (tp.length - 1)++[57#8]),strB ([45#8]++tp),strB (tp++[48#8]),strB ([45#8,48#8]++tp.drop 1)]:=⟨_,rfl⟩
 have hlts:ts.length=6:=by rw[hts];rfl
 refine L.bs (ts.map Value.string) rfl (by rw[List.length_map,hlts]) rfl (by rw[hts];rfl) (by rw[hts];rfl) rfl ?_
 clear hts
 have k':Cons T' (T'++[newR ((ts).map Value.string) 9]):=Cons.push _ _
 have hsts:Slv (T'++[newR ((ts).map Value.string) 9]) 1 (.slice (some ⟨(T').length,0,none⟩) 6 6) 6 ((ts).map Value.string):=Slv.all (row_push_new rfl) rfl (by simp [hlts])
 generalize T'++[newR ((ts).map Value.string) 9]=Mts at *
 obtain⟨bts,hbts⟩:∃ b,b=(T').length:=⟨_,rfl⟩
 rw[← hbts] at hsts ⊢
 replace hc:=hc.trans k'
 clear k' hbts
 refine go ?_
 have hcA:=hc
 clear hc
 refine W.mono (R:=fun q e T=>q=.exit 2∧Cons S T) ?_ ?_
 ·refine W.loop (fun j e T=>∃ i:Nat,j=6 - i∧i≤6∧Cons Mts T∧e 47=.slice (some ⟨bts,0,none⟩) 6 6∧e 48=vi 6∧e 49=vi i) 6
   ⟨0,rfl,by decide,Cons.refl _,rfl,rfl,rfl⟩ ?_
  rintro j e T ⟨i,rfl,hi,hc,e1,e2,e3⟩
  refine W.env3 e1 e2 e3 ?_
  clear e1 e2 e3
  refine go ?_
  refine W.ite rfl (fun h=>?_) (fun h=>?_)
  ·have hin:i<6:=by have:=of_decide_eq_true h;omega
   clear h
   obtain⟨x,hx⟩:∃ x,(ts)[i]?=some x:=⟨_,List.getElem?_eq_getElem (by omega)⟩
   refine go ?_
   refine L.el (hsts.cons hc) rfl (by rw[List.getElem?_map,hx];rfl:((ts).map Value.string)[i]?=some (.string x)) rfl rfl rfl rfl (fun _=>rfl) rfl (fun p=>?_)
   refine go ?_
   refine L.b0 rfl ?_
   have hcc:=hcA.trans hc
   refine L.cv (wholeReads_C x false none 0 [] 0 _ (nilZ _).pre (by decide) (hS.cons hcc) (hP.cons hcc) (Nat.le_trans hG hcc.len)) rfl rfl fun T' k'=>?_
   replace hc:=hc.trans k'
   refine go ?_
   refine W.condF rfl (go ?_)
   refine⟨6 - (i+1),by omega,i+1,rfl,by omega,hc,rfl,rfl,?_⟩
   refine(force_eq rfl).trans ?_
   rw[wrap64 (by omega) (by omega)];rfl
  ·refine go ?_
   exact⟨rfl,hcA.trans hc⟩
 clear hcA hsts hlts
 rintro _ e T ⟨rfl,hc⟩
 refine go ?_
 refine W.mono (R:=fun q e T'=>q=.exit 4∧T'=T∧∃ n,n=65536∧e 7=.string (strB (zeros n))) ?_ ?_
 ·refine W.loop (fun j e T'=>∃ p:Nat,j=16 - p∧p≤16∧T'=T∧e 7=.string (strB (zeros (2^p)))) 16
   ⟨0,rfl,by decide,rfl,rfl⟩ ?_
  rintro j e T' ⟨p,rfl,hp,hT,e7⟩
  have hT:=hT.symm
  subst hT
  refine W.env e7 ?_
  clear e7
  have hzl:=zeros_len (2^p)
  have h2:2^p≤2^16:=Nat.pow_le_pow_right (by decide) hp
  refine go ?_
  refine L.tlen rfl rfl rfl rfl ?_
  rw[hzl]
  refine go ?_
  refine W.ite rfl (fun h=>?_) (fun h=>?_)
  ·have hlt:2^p<65536:=by have:=of_decide_eq_true h;omega
   have hp16:p<16:=by
    rcases Nat.lt_or_ge p 16 with h | h
    ·exact h
    ·have:2^16≤2^p:=Nat.pow_le_pow_right (by decide) h
     omega
   clear h
   refine go ?_
   refine L.tadd (a:=zeros (2^p)) (b:=zeros (2^p)) rfl rfl (by omega) rfl ?_
   rw[zeros_two,show 2*2^p=2^(p+1) by rw[Nat.pow_succ,Nat.mul_comm]]
   refine go ?_
   exact⟨16 - (p+1),by omega,p+1,rfl,by omega,rfl,rfl⟩
  ·have hge:65536≤2^p:=by have:=of_decide_eq_false h;omega
   clear h
   refine go ?_
   exact⟨rfl,rfl,2^p,by omega,rfl⟩
 rintro _ e T' ⟨rfl,hT,n,hn,e7⟩
 have hT:=hT.symm
 subst hT
 refine W.env e7 ?_
 clear e7
 have hZ:=Zs.nil T
 have hzl:=zeros_len n
 refine go ?_
 refine L.upto (l:=zeros n) (i:=65534) rfl rfl (by omega) rfl rfl ?_
 rw[zeros_take (show 65534≤n by omega)]
 obtain⟨n1,hn1⟩:=some_nat 65534
 rw[← hn1]
 have hz1:=zeros_len n1
 refine L.tadd (a:=[45#8]) (b:=zeros n1) rfl rfl (by simp;omega) rfl ?_
 refine L.tadd (a:=[45#8]++zeros n1) (b:=[53#8]) rfl rfl (by simp;omega) rfl ?_
 have hp1:=yParse_C (Ext:=Ext) ([45#8]++zeros n1++[53#8]) T (by simp;omega)
 rw[(zeros5 (n:=n1) (by omega)).1,(zeros5 (n:=n1) (by omega)).2] at hp1
 refine L.cl (hp1) rfl rfl ?_
 rintro _ T' hr
 refine⟨fun _=>let ⟨_,_,k,_⟩:=hr;k,?_⟩
 obtain⟨_,rfl,k',⟨a1,c1,rfl,w1⟩,hf1⟩:=hr.ok (rfl)
 clear hr
 replace hZ:=hZ.cons k'
 replace hc:=hc.trans k'
 refine go ?_
 refine L.nr [.bool false,.slice none 0 0] wT rfl rfl (fun b1 T' g' k' r'=>?_)
 refine L.st2 r' rfl rfl rfl rfl rfl rfl (fun T' kk' r''=>?_)
 have kx:=kk'.mono k' g'
 replace hZ:=(hZ.cons kx).add ⟨a1,c1,r'',w1.cons kx⟩
 replace hc:=hc.trans kx
 clear kx kk' r'' r' k' g' w1
 refine go ?_
 refine L.upto (l:=zeros n) (i:=65535) rfl rfl (by omega) rfl rfl ?_
 rw[zeros_take (show 65535≤n by omega)]
 obtain⟨n2,hn2⟩:=some_nat 65535
 rw[← hn2]
 have hz2:=zeros_len n2
 refine L.tadd (a:=[45#8]) (b:=zeros n2) rfl rfl (by simp;omega) rfl ?_
 refine L.tadd (a:=[45#8]++zeros n2) (b:=[53#8]) rfl rfl (by simp;omega) rfl ?_
 have hp2:=yParse_C (Ext:=Ext) ([45#8]++zeros n2++[53#8]) T' (by simp;omega)
 rw[long5 (n:=n2) (by omega)] at hp2
 refine L.cl hp2 rfl rfl ?_
 rintro _ T' ⟨_,rfl,k',⟨a2,c2,rfl,w2⟩,_⟩
 refine⟨fun _=>k',?_⟩
 replace hZ:=hZ.cons k'
 replace hc:=hc.trans k'
 refine go ?_
 refine L.nr [.bool false,.slice none 0 0] wT rfl rfl (fun b2 T' g' k' r'=>?_)
 refine L.st2 r' rfl rfl rfl rfl rfl rfl (fun T' kk' r''=>?_)
 have kx:=kk'.mono k' g'
 replace hZ:=(hZ.cons kx).add ⟨a2,c2,r'',w2.cons kx⟩
 replace hc:=hc.trans kx
 clear kx kk' r'' r' k' g' w2
 refine go ?_
 refine L.zl (hZ.at 0 rfl) rfl rfl rfl (fun u3 hu3=>?_)
 refine L.cv (nInt64_C hu3) rfl rfl fun T' k'=>?_
 replace hZ:=hZ.cons k'
 replace hc:=hc.trans k'
 refine go ?_
 refine L.cv (works_C _ (hS.cons hc) (hP.cons hc) (Nat.le_trans hG hc.len)) rfl rfl fun M4 k4=>go ?_
 exact⟨.inr rfl,_,rfl,rfl,hc.trans k4⟩
theorem wholeKnown_C (S:Mem) (hS:SinOk S) (hP:PowOk S) (hG:gN≤S.length):C Tryz.prog gN Ext 10 [] S fun v S'=>v=.bool true∧Cons S S':=by
 refine C.fn Tryz.func10 rfl (by kernel_rfl) rfl (go ?_)
 refine L.cv (knShown_C S hS hP hG) rfl rfl fun T1 k1=>go ?_
 refine L.cv (knLimits_C T1 (hS.cons k1) (hP.cons k1) (Nat.le_trans hG k1.len)) rfl rfl fun T2 k'=>?_
 have k2:=k1.trans k'
 refine go ?_
 refine L.cv (knPowers_C T2 (hS.cons k2) (hP.cons k2) (Nat.le_trans hG k2.len)) rfl rfl fun T3 k'=>?_
 have k3:=k2.trans k'
 refine go ?_
 refine L.cv (knTexts_C T3 (hS.cons k3) (hP.cons k3) (Nat.le_trans hG k3.len)) rfl rfl fun T4 k'=>go ?_
 exact⟨.inr rfl,_,rfl,rfl,k3.trans k'⟩
end
end Go.Proofs.YtbiigbicgfchiaaGreatDoor
namespace Go.Proofs.YtbiigbicgfchiaaGreatDoor.wholeKnown
open Go.ChangeShapes Go.WideShapes Go.ChangeAt Go.RowKit
open Go.ChangeMaps (open_string shut_string)
theorem own:ownKnob Tryz.prog.godebug=none:=by kernel_rfl
theorem walk  (w:World) (hG:gN≤w.heap.size) (hR:∀ N,SinOk (mem0 w N)∧PowOk (mem0 w N)) :
  Calls Tryz.prog 10 #[] w fun e w'=>e=.returned (.bool true)∧Below w.heap.size w w':=by
 obtain⟨v,S',hE,rfl,hcons⟩:=(wholeKnown_C (Ext:=NoX) (mem0 w) (hR 0).1 (hR 0).2 (by rw[mem0_len];omega))
 exact top_true (Checked.mixed Tryz.checked) (fun _ _ _ _ _ h=>h.elim) hG (fun a ha=>by simp at ha) hE hcons
set_option maxRecDepth 100000 in
theorem lifted (os:Os) (started:os.Started) (H:Type) (enc:TypeId × Value→H) :
  ReturnsInHanded {} Tryz.checked os 10 .any (fun w args=>(Rows.wholeKnownSpec.pre enc Tryz.prog Tryz.f10 [] false w args∧laidMetH Tryz.prog laidL w)∧sizedMet enc Tryz.prog Tryz.f10 (OpenSpec.ofChange Rows.wholeKnownSpec) false w args)
   (Rows.wholeKnownSpec.post enc Tryz.prog Tryz.f10 false true false false):=by
 refine returnsInHanded_of_change_and (C:=Tryz.checked) (X:=fun w _=>laidMetH Tryz.prog laidL w) (fun _ _ _ hh h=>h.of_heap hh) own started (by kernel_rfl) Tryz.func10
  (ChangeSpec.witness_shaped (enc:=enc) (C:=Tryz.checked) (os:=os) (X:=fun w _=>laidMetH Tryz.prog laidL w) false (World.laidAll Tryz.prog os laidL) #[] 8 rfl (World.shaped_of_ZipB (by kernel_rfl) (by kernel_rfl)) (by kernel_rfl) (by kernel_rfl) (by kernel_rfl) (door_met os _)) ?_
 intro W base args ds gs before hval0 hW _ _ hL _
 obtain⟨hG,hR⟩:=of_laid hL
 have hval:∀ (j:Nat) t v,Tryz.f10.params[j]?=some t→args[j]?=some v→Value.okWide Tryz.prog W .any base t v:=hval0
 have hW':=hW
 obtain⟨p,q,hA0,hV,rfl,hfz,hnd⟩:=hW
 have hA:DataW.TrodAll enc Tryz.prog W 0 (fun _=>true) true Tryz.f10.params.toList args.toList ds p:=hA0
 rw[Tryz.params10] at hA hval
 obtain⟨rfl,rfl,rfl⟩:=trodAll_none hA
 obtain⟨rfl,rfl⟩:=trodVars_none hV
 clear hA0 hval0
 simp only [List.append_nil] at hW'
 refine(walk  W hG hR).mono fun e W' ⟨he,bel⟩=>?_
 subst he
 exact⟨_,rfl,_,_,_,[],_,[],hW',trodAll_mk1 (shut_bool Tryz.underlying4 _),rfl,rfl,bel.frame _,fun h=>by cases h⟩
theorem over:Rows.wholeKnownRow.holds Tryz.pinned (OpenSpec.ofChange Rows.wholeKnownSpec):=
 OpenClaim.holds_of_wide 10 Tryz.f10 rfl rfl rfl rfl rfl rfl rfl ⟨rfl,rfl,rfl,rfl,rfl⟩ rfl rfl rfl rfl rfl (by kernel_rfl) Tryz.func10 (by kernel_rfl)
  (of_decide_eq_true (by kernel_rfl)) (by unfold Func.isWrapper;first | (rw[if_pos (by decide +kernel)];kernel_rfl) | (rw[if_neg (by decide +kernel)];exact⟨rfl,rfl⟩))
  (fun os started H enc _=>lifted os started H enc)
theorem proved:Rows.WholeKnownCardSaid:=
 Claim7.holds_tied_plain_at .later [] [.data, .data, .data, .data, .data, .data, .data, .sentinel, .sentinel, .pinned] true (true, "fec42c2c2770d3608b3b87db2f8cdd2caa924e50f3b388b6462229a161397f08") true
  over (fun _ h=>by cases h) (by kernel_rfl) (fun _ h=>by cases h) wholeKnown_row_tie rfl ⟨rfl,rfl⟩ (by kernel_rfl) rfl
  (fun f fn hf hfn=>by
   obtain rfl : f = 10 := Option.some.inj ((show Tryz.prog.funcNamed "vouch/vouchlaw02.WholeKnown" = some 10 by kernel_rfl).symm.trans hf) |>.symm
   obtain rfl:fn=Tryz.f10:=(Option.some.inj (Tryz.func10.symm.trans hfn)).symm
   exact⟨by kernel_rfl,fun j t ht=>by
    rw[Tryz.params10] at ht
    simp at ht⟩)
  (by kernel_rfl)
end Go.Proofs.YtbiigbicgfchiaaGreatDoor.wholeKnown
