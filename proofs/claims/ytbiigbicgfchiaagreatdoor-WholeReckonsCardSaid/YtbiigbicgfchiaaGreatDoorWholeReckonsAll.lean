/- The proof of the statement WholeReckons. Conditions: none. -/
import Derived.Test.YtbiigbicgfchiaaGreatDoorLibA
import Derived.Test.YtbiigbicgfchiaaGreatDoorLibB
import Derived.Test.YtbiigbicgfchiaaGreatDoorLibC
import Derived.Test.YtbiigbicgfchiaaGreatDoorLibD
import Derived.Test.YtbiigbicgfchiaaGreatDoorLibE
import Derived.Test.YtbiigbicgfchiaaGreatDoorLibF
import Derived.Test.YtbiigbicgfchiaaGreatDoorLibG
import Derived.Test.YtbiigbicgfchiaaGreatDoorRows
import Derived.Test.YtbiigbicgfchiaaGreatDoorTie
import Derived.Test.YtbiigbicgfchiaaGreatDoorCards
import Derived.SevenTiedAt
import Derived.WalkKit
import Derived.ProofKit
import Derived.OpenShut
import Derived.ShutString
import Derived.ChangeOld
import Derived.Below

/- The law of reckoning with whole numbers, walked. Conditions: the tables lie in memory. -/
set_option linter.unusedSimpArgs false
set_option linter.unusedVariables false
set_option maxRecDepth 100000
set_option maxHeartbeats 4000000
set_option exponentiation.threshold 20000
namespace Go.Proofs.YtbiigbicgfchiaaGreatDoor
open Go Ie
variable {Ext : FuncId → List Value → Mem → Outc → Mem → Prop}
theorem wholeReckons_C (b0 b1 : Bool) (a0 a1 : Option Addr) (c0 c1 : Nat) (l0 l1 : WL) (S : Mem) (h0 : WPre S a0 c0 l0) (h1 : WPre S a1 c1 l1) (hS : SinOk S) (hP : PowOk S) (hG : gN ≤ S.length) :
  C Tryz.prog gN Ext 6 [wZ b0 (.slice a0 l0.length c0), wZ b1 (.slice a1 l1.length c1)] S fun v S' => v = .bool true ∧ Cons S S' := by
 refine C.fn Tryz.func6 rfl (by kernel_rfl) rfl ?_
 repeat first|apply wg|refine ss rfl ?_|apply nl
 refine L.nr [.bool b0, .slice a0 l0.length c0] wT rfl rfl (fun b2 Tb2 gb2 kb2 rb2 => ?_)
 refine L.nr [.bool b1, .slice a1 l1.length c1] wT rfl rfl (fun b3 Tb3 gb3 kb3 rb3 => ?_)
 have kM := kb2.trans kb3
 replace rb2 := Cons.row (h := kb3) rb2
 have hc := Cons.refl Tb3
 clear kb2 kb3 gb2 gb3
 repeat first|apply wg|refine ss rfl ?_|apply nl
 refine L.zf (Cons.row (h := hc) rb2) rfl rfl rfl rfl rfl ?_
 repeat first|apply wg|refine ss rfl ?_|apply nl
 cases hg0 : decide ((l0.length : Int) > 200)
 case true =>
  repeat first|apply wg|refine ss rfl ?_|apply nl
  refine W.ite rfl (fun h => ?_) (fun h => ?_)
  ·repeat first|apply wg|refine ss rfl ?_|apply nl
   exact ⟨.inr rfl, _, rfl, rfl, kM.trans hc⟩
  ·cases h
 repeat first|apply wg|refine ss rfl ?_|apply nl
 refine L.zf (Cons.row (h := hc) rb3) rfl rfl rfl rfl rfl ?_
 repeat first|apply wg|refine ss rfl ?_|apply nl
 cases hg1 : decide ((l1.length : Int) > 200)
 case true =>
  repeat first|apply wg|refine ss rfl ?_|apply nl
  refine W.ite rfl (fun h => ?_) (fun h => ?_)
  ·repeat first|apply wg|refine ss rfl ?_|apply nl
   exact ⟨.inr rfl, _, rfl, rfl, kM.trans hc⟩
  ·cases h
 repeat first|apply wg|refine ss rfl ?_|apply nl
 refine W.ite rfl (fun h => ?_) (fun h => ?_)
 ·cases h
 clear h
 have hn0 : l0.length ≤ 200 := by have := of_decide_eq_false hg0; omega
 have hn1 : l1.length ≤ 200 := by have := of_decide_eq_false hg1; omega
 clear hg0 hg1
 replace h0 := (h0.win (by omega)).cons kM
 replace h1 := (h1.win (by omega)).cons kM
 repeat first|apply wg|refine ss rfl ?_|apply nl
 refine L.z2 (Cons.row (h := hc) rb2) rfl rfl rfl ?_
 repeat first|apply wg|refine ss rfl ?_|apply nl
 refine L.cl (lentZ_C b0 a0 c0 l0 _ (h0.cons hc) (by omega)) rfl rfl ?_
 rintro _ S1 ⟨k1, x, hx, rfl, hr0⟩
 refine ⟨fun _ => k1, ?_⟩
 replace hc := hc.trans k1
 repeat first|apply wg|refine ss rfl ?_|apply nl
 refine L.z2 (Cons.row (h := hc) rb3) rfl rfl rfl ?_
 repeat first|apply wg|refine ss rfl ?_|apply nl
 refine L.cl (lentZ_C b1 a1 c1 l1 _ (h1.cons hc) (by omega)) rfl rfl ?_
 rintro _ S2 ⟨k2, y, hy, rfl, hr1⟩
 refine ⟨fun _ => k2, ?_⟩
 replace hc := hc.trans k2
 replace hr0 := Cons.row (h := k2) hr0
 clear hx hy k1 k2
 repeat first|apply wg|refine ss rfl ?_|apply nl
 refine L.nr [.bool false, .slice none 0 0] wT rfl rfl (fun b5 T1' g1' k1' r1' => ?_)
 refine L.nr [.bool false, .slice none 0 0] wT rfl rfl (fun b6 T2' g2' k2' r2' => ?_)
 have n12 : b6 ≠ b5 := by have := row_lt r1'; omega
 replace r1' := Cons.row (h := k2') r1'
 refine L.st2 r1' rfl rfl rfl rfl rfl rfl (fun T3' kk1 s1' => ?_)
 refine L.st2 (kk1.row r2' n12) rfl rfl rfl rfl rfl rfl (fun M0 kk2 rb6 => ?_)
 have rb5 := kk2.row s1' (Ne.symm n12)
 have kx := kk2.mono (kk1.mono (k1'.trans k2') g1') (Nat.le_trans k1'.len g2')
 replace hc := hc.trans kx
 replace hr0 := Cons.row (h := kx) hr0
 replace hr1 := Cons.row (h := kx) hr1
 replace rb2 := Cons.row (h := hc) rb2
 replace rb3 := Cons.row (h := hc) rb3
 replace h0 := h0.cons hc
 replace h1 := h1.cons hc
 have kS := kM.trans hc
 replace hS := hS.cons kS
 replace hP := hP.cons kS
 replace hG := Nat.le_trans hG kS.len
 have hx := lent_win hr0 (by omega)
 have hy := lent_win hr1 (by omega)
 clear kx kk1 kk2 s1' r1' r2' k1' k2' g1' g2' n12 hc kM
 have hc := Cons.refl M0
 have hZ := Zs.nil M0
 have hQ := Qs.nil M0
 have hK := PK.nil M0
 obtain ⟨X, hX⟩ : ∃ X, zv b0 l0 = X := ⟨_, rfl⟩
 obtain ⟨Y, hY⟩ : ∃ Y, zv b1 l1 = Y := ⟨_, rfl⟩
 have X5 : ZIn M0 (.agg #[.bool b0, .slice (some ⟨x, 0, none⟩) l0.length (UNK + (l0.length + 16))]) X 200 := ⟨_, _, _, _, rfl, hx, hn0, hX⟩
 have Y6 : ZIn M0 (.agg #[.bool b1, .slice (some ⟨y, 0, none⟩) l1.length (UNK + (l1.length + 16))]) Y 200 := ⟨_, _, _, _, rfl, hy, hn1, hY⟩
 have X2 : ZIn M0 (.agg #[.bool b0, .slice a0 l0.length c0]) X 200 := ⟨_, _, _, _, rfl, h0, hn0, hX⟩
 have Y3 : ZIn M0 (.agg #[.bool b1, .slice a1 l1.length c1]) Y 200 := ⟨_, _, _, _, rfl, h1, hn1, hY⟩
 repeat first|apply wg|refine ss rfl ?_|apply nl
 refine L.z2 (Cons.row (h := hc) rb5) rfl rfl rfl ?_
 repeat first|apply wg|refine ss rfl ?_|apply nl
 refine L.z2 (Cons.row (h := hc) rb6) rfl rfl rfl ?_
 repeat first|apply wg|refine ss rfl ?_|apply nl
 refine L.cl (iAdd_C (X5.cons hc) (Y6.cons hc)) rfl rfl ?_
 rintro _ T' hr
 obtain ⟨d11, rfl, r11⟩ := hr.both
 refine ⟨fun _ => r11.1, ?_⟩
 clear hr
 have w11 := r11.win
 have v11 := r11.val
 replace hZ := hZ.cons r11.1
 replace hQ := hQ.cons r11.1
 replace hK := hK.add r11 (zcE_len (zz2_ok))
 replace hc := hc.trans r11.1
 clear r11
 repeat first|apply wg|refine ss rfl ?_|apply nl
 refine L.nr [.bool false, .slice none 0 0] wT rfl rfl (fun b11 T' g' k' r' => ?_)
 refine L.st2 r' rfl rfl rfl rfl rfl rfl (fun T' kk' r'' => ?_)
 have kx := kk'.mono k' g'
 replace hZ := hZ.cons kx
 replace hQ := (hQ.cons kx).add ⟨r'', w11.cons kx⟩
 replace hK := hK.cons kx
 replace hc := hc.trans kx
 clear kx kk' r'' r' k' g' w11
 repeat first|apply wg|refine ss rfl ?_|apply nl
 refine L.z2 (Cons.row (h := hc) rb5) rfl rfl rfl ?_
 repeat first|apply wg|refine ss rfl ?_|apply nl
 refine L.z2 (Cons.row (h := hc) rb6) rfl rfl rfl ?_
 repeat first|apply wg|refine ss rfl ?_|apply nl
 refine L.cl (iSub_C (X5.cons hc) (Y6.cons hc)) rfl rfl ?_
 rintro _ T' hr
 obtain ⟨d12, rfl, r12⟩ := hr.both
 refine ⟨fun _ => r12.1, ?_⟩
 clear hr
 have w12 := r12.win
 have v12 := r12.val
 replace hZ := hZ.cons r12.1
 replace hQ := hQ.cons r12.1
 replace hK := hK.add r12 (zcE_len (zz2_ok))
 replace hc := hc.trans r12.1
 clear r12
 repeat first|apply wg|refine ss rfl ?_|apply nl
 refine L.nr [.bool false, .slice none 0 0] wT rfl rfl (fun b12 T' g' k' r' => ?_)
 refine L.st2 r' rfl rfl rfl rfl rfl rfl (fun T' kk' r'' => ?_)
 have kx := kk'.mono k' g'
 replace hZ := hZ.cons kx
 replace hQ := (hQ.cons kx).add ⟨r'', w12.cons kx⟩
 replace hK := hK.cons kx
 replace hc := hc.trans kx
 clear kx kk' r'' r' k' g' w12
 repeat first|apply wg|refine ss rfl ?_|apply nl
 refine L.z2 (Cons.row (h := hc) rb5) rfl rfl rfl ?_
 repeat first|apply wg|refine ss rfl ?_|apply nl
 refine L.z2 (Cons.row (h := hc) rb6) rfl rfl rfl ?_
 repeat first|apply wg|refine ss rfl ?_|apply nl
 refine L.cl (iMul_C (X5.cons hc) (Y6.cons hc) (hS.cons hc) (Nat.le_trans hG hc.len)) rfl rfl ?_
 rintro _ T' hr
 obtain ⟨d13, rfl, r13⟩ := hr.both
 refine ⟨fun _ => r13.1, ?_⟩
 clear hr
 have w13 := r13.win
 have v13 := r13.val
 replace hZ := hZ.cons r13.1
 replace hQ := hQ.cons r13.1
 replace hK := hK.add r13 (zcE_len (zz2_ok))
 replace hc := hc.trans r13.1
 clear r13
 repeat first|apply wg|refine ss rfl ?_|apply nl
 refine L.nr [.bool false, .slice none 0 0] wT rfl rfl (fun b13 T' g' k' r' => ?_)
 refine L.st2 r' rfl rfl rfl rfl rfl rfl (fun T' kk' r'' => ?_)
 have kx := kk'.mono k' g'
 replace hZ := hZ.cons kx
 replace hQ := (hQ.cons kx).add ⟨r'', w13.cons kx⟩
 replace hK := hK.cons kx
 replace hc := hc.trans kx
 clear kx kk' r'' r' k' g' w13
 repeat first|apply wg|refine ss rfl ?_|apply nl
 refine L.z2 (Cons.row (h := hc) rb5) rfl rfl rfl ?_
 repeat first|apply wg|refine ss rfl ?_|apply nl
 refine L.z2 (Cons.row (h := hc) rb6) rfl rfl rfl ?_
 repeat first|apply wg|refine ss rfl ?_|apply nl
 refine L.cl (iQuo_C (X5.cons hc) (Y6.cons hc)) rfl rfl ?_
 rintro _ T' hr
 obtain ⟨d14, rfl, r14⟩ := hr.both
 refine ⟨fun _ => r14.1, ?_⟩
 clear hr
 have w14 := r14.win
 have v14 := r14.val
 replace hZ := hZ.cons r14.1
 replace hQ := hQ.cons r14.1
 replace hK := hK.add r14 (zcE_len (zzQ_ok))
 replace hc := hc.trans r14.1
 clear r14
 repeat first|apply wg|refine ss rfl ?_|apply nl
 refine L.nr [.bool false, .slice none 0 0] wT rfl rfl (fun b14 T' g' k' r' => ?_)
 refine L.st2 r' rfl rfl rfl rfl rfl rfl (fun T' kk' r'' => ?_)
 have kx := kk'.mono k' g'
 replace hZ := hZ.cons kx
 replace hQ := (hQ.cons kx).add ⟨r'', w14.cons kx⟩
 replace hK := hK.cons kx
 replace hc := hc.trans kx
 clear kx kk' r'' r' k' g' w14
 repeat first|apply wg|refine ss rfl ?_|apply nl
 refine L.z2 (Cons.row (h := hc) rb5) rfl rfl rfl ?_
 repeat first|apply wg|refine ss rfl ?_|apply nl
 refine L.z2 (Cons.row (h := hc) rb6) rfl rfl rfl ?_
 repeat first|apply wg|refine ss rfl ?_|apply nl
 refine L.cl (iRem_C (X5.cons hc) (Y6.cons hc)) rfl rfl ?_
 rintro _ T' hr
 obtain ⟨d15, rfl, r15⟩ := hr.both
 refine ⟨fun _ => r15.1, ?_⟩
 clear hr
 have w15 := r15.win
 have v15 := r15.val
 replace hZ := hZ.cons r15.1
 replace hQ := hQ.cons r15.1
 replace hK := hK.add r15 (zcE_len (zzR_ok))
 replace hc := hc.trans r15.1
 clear r15
 repeat first|apply wg|refine ss rfl ?_|apply nl
 refine L.nr [.bool false, .slice none 0 0] wT rfl rfl (fun b15 T' g' k' r' => ?_)
 refine L.st2 r' rfl rfl rfl rfl rfl rfl (fun T' kk' r'' => ?_)
 have kx := kk'.mono k' g'
 replace hZ := hZ.cons kx
 replace hQ := (hQ.cons kx).add ⟨r'', w15.cons kx⟩
 replace hK := hK.cons kx
 replace hc := hc.trans kx
 clear kx kk' r'' r' k' g' w15
 repeat first|apply wg|refine ss rfl ?_|apply nl
 refine L.z2 (Cons.row (h := hc) rb5) rfl rfl rfl ?_
 repeat first|apply wg|refine ss rfl ?_|apply nl
 refine L.cl (iNeg_C (X5.cons hc)) rfl rfl ?_
 rintro _ T' hr
 obtain ⟨d16, rfl, r16⟩ := hr.both
 refine ⟨fun _ => r16.1, ?_⟩
 clear hr
 have w16 := r16.win
 have v16 := r16.val
 replace hZ := hZ.cons r16.1
 replace hQ := hQ.cons r16.1
 replace hK := hK.add r16 (zcE_len (zE_ok))
 replace hc := hc.trans r16.1
 clear r16
 repeat first|apply wg|refine ss rfl ?_|apply nl
 refine L.nr [.bool false, .slice none 0 0] wT rfl rfl (fun b16 T' g' k' r' => ?_)
 refine L.st2 r' rfl rfl rfl rfl rfl rfl (fun T' kk' r'' => ?_)
 have kx := kk'.mono k' g'
 replace hZ := hZ.cons kx
 replace hQ := (hQ.cons kx).add ⟨r'', w16.cons kx⟩
 replace hK := hK.cons kx
 replace hc := hc.trans kx
 clear kx kk' r'' r' k' g' w16
 repeat first|apply wg|refine ss rfl ?_|apply nl
 refine L.zf (Cons.row (h := hc) rb5) rfl rfl rfl rfl rfl ?_
 repeat first|apply wg|refine ss rfl ?_|apply nl
 refine L.zf (Cons.row (h := hc) rb5) rfl rfl rfl rfl rfl ?_
 repeat first|apply wg|refine ss rfl ?_|apply nl
 have hmk := zMake_C (Ext := Ext) b0 _ _ l0 T' (hx.cons hc)
 have hmr := fun T (h : Cons M0 T) => rzMake_C (Ext := Ext) b0 _ _ l0 (h0.cons h) (by omega)
 rw [hX] at hmk hmr
 refine L.cl (hmk) rfl rfl ?_
 rintro _ T' hr
 obtain ⟨d17, rfl, r17⟩ := hr.both
 refine ⟨fun _ => r17.1, ?_⟩
 clear hr
 have w17 := r17.win
 have v17 := r17.val
 replace hZ := hZ.cons r17.1
 replace hQ := hQ.cons r17.1
 replace hK := hK.add r17 (zcE_len (zE_ok))
 replace hc := hc.trans r17.1
 clear r17
 repeat first|apply wg|refine ss rfl ?_|apply nl
 refine L.nr [.bool false, .slice none 0 0] wT rfl rfl (fun b17 T' g' k' r' => ?_)
 refine L.st2 r' rfl rfl rfl rfl rfl rfl (fun T' kk' r'' => ?_)
 have kx := kk'.mono k' g'
 replace hZ := hZ.cons kx
 replace hQ := (hQ.cons kx).add ⟨r'', w17.cons kx⟩
 replace hK := hK.cons kx
 replace hc := hc.trans kx
 clear kx kk' r'' r' k' g' w17
 repeat first|apply wg|refine ss rfl ?_|apply nl
 refine L.z2 (Cons.row (h := hc) rb5) rfl rfl rfl ?_
 repeat first|apply wg|refine ss rfl ?_|apply nl
 refine L.cv (iInt64_C (X5.cons hc)) rfl rfl fun T' k' => ?_
 replace hZ := hZ.cons k'
 replace hQ := hQ.cons k'
 replace hK := hK.cons k'
 replace hc := hc.trans k'
 clear k'
 repeat first|apply wg|refine ss rfl ?_|apply nl
 refine L.z2 (Cons.row (h := hc) rb2) rfl rfl rfl ?_
 repeat first|apply wg|refine ss rfl ?_|apply nl
 refine L.z2 (Cons.row (h := hc) rb3) rfl rfl rfl ?_
 repeat first|apply wg|refine ss rfl ?_|apply nl
 refine L.cl (rzAdd_C (X2.cons hc) (Y3.cons hc) (by decide) (by decide)) rfl rfl ?_
 rintro _ T' ⟨_, rfl, k0', a21, c21, rfl, w21⟩
 refine ⟨fun _ => k0', ?_⟩
 replace hZ := hZ.cons k0'
 replace hQ := hQ.cons k0'
 replace hK := hK.cons k0'
 replace hc := hc.trans k0'
 clear k0'
 repeat first|apply wg|refine ss rfl ?_|apply nl
 refine L.nr [.bool false, .slice none 0 0] wT rfl rfl (fun b21 T' g' k' r' => ?_)
 refine L.st2 r' rfl rfl rfl rfl rfl rfl (fun T' kk' r'' => ?_)
 have kx := kk'.mono k' g'
 replace hZ := (hZ.cons kx).add ⟨_, _, r'', w21.cons kx⟩
 replace hK := hK.cons kx
 replace hQ := hQ.cons kx
 replace hc := hc.trans kx
 clear kx kk' r'' r' k' g' w21
 repeat first|apply wg|refine ss rfl ?_|apply nl
 refine L.z2 (Cons.row (h := hc) rb2) rfl rfl rfl ?_
 repeat first|apply wg|refine ss rfl ?_|apply nl
 refine L.z2 (Cons.row (h := hc) rb3) rfl rfl rfl ?_
 repeat first|apply wg|refine ss rfl ?_|apply nl
 refine L.cl (rzSub_C (X2.cons hc) (Y3.cons hc) (by decide) (by decide)) rfl rfl ?_
 rintro _ T' ⟨_, rfl, k0', a22, c22, rfl, w22⟩
 refine ⟨fun _ => k0', ?_⟩
 replace hZ := hZ.cons k0'
 replace hQ := hQ.cons k0'
 replace hK := hK.cons k0'
 replace hc := hc.trans k0'
 clear k0'
 repeat first|apply wg|refine ss rfl ?_|apply nl
 refine L.nr [.bool false, .slice none 0 0] wT rfl rfl (fun b22 T' g' k' r' => ?_)
 refine L.st2 r' rfl rfl rfl rfl rfl rfl (fun T' kk' r'' => ?_)
 have kx := kk'.mono k' g'
 replace hZ := (hZ.cons kx).add ⟨_, _, r'', w22.cons kx⟩
 replace hK := hK.cons kx
 replace hQ := hQ.cons kx
 replace hc := hc.trans kx
 clear kx kk' r'' r' k' g' w22
 repeat first|apply wg|refine ss rfl ?_|apply nl
 refine L.z2 (Cons.row (h := hc) rb2) rfl rfl rfl ?_
 repeat first|apply wg|refine ss rfl ?_|apply nl
 refine L.z2 (Cons.row (h := hc) rb3) rfl rfl rfl ?_
 repeat first|apply wg|refine ss rfl ?_|apply nl
 refine L.cl (rzMul_C (X2.cons hc) (Y3.cons hc) (by decide) (by decide)) rfl rfl ?_
 rintro _ T' ⟨_, rfl, k0', a23, c23, rfl, w23⟩
 refine ⟨fun _ => k0', ?_⟩
 replace hZ := hZ.cons k0'
 replace hQ := hQ.cons k0'
 replace hK := hK.cons k0'
 replace hc := hc.trans k0'
 clear k0'
 repeat first|apply wg|refine ss rfl ?_|apply nl
 refine L.nr [.bool false, .slice none 0 0] wT rfl rfl (fun b23 T' g' k' r' => ?_)
 refine L.st2 r' rfl rfl rfl rfl rfl rfl (fun T' kk' r'' => ?_)
 have kx := kk'.mono k' g'
 replace hZ := (hZ.cons kx).add ⟨_, _, r'', w23.cons kx⟩
 replace hK := hK.cons kx
 replace hQ := hQ.cons kx
 replace hc := hc.trans kx
 clear kx kk' r'' r' k' g' w23
 repeat first|apply wg|refine ss rfl ?_|apply nl
 refine L.z2 (Cons.row (h := hc) rb2) rfl rfl rfl ?_
 repeat first|apply wg|refine ss rfl ?_|apply nl
 refine L.z2 (Cons.row (h := hc) rb3) rfl rfl rfl ?_
 repeat first|apply wg|refine ss rfl ?_|apply nl
 refine L.cl (rzQuo_C (X2.cons hc) (Y3.cons hc) (by decide) (by decide)) rfl rfl ?_
 rintro _ T' ⟨_, rfl, k0', a24, c24, rfl, w24⟩
 refine ⟨fun _ => k0', ?_⟩
 replace hZ := hZ.cons k0'
 replace hQ := hQ.cons k0'
 replace hK := hK.cons k0'
 replace hc := hc.trans k0'
 clear k0'
 repeat first|apply wg|refine ss rfl ?_|apply nl
 refine L.nr [.bool false, .slice none 0 0] wT rfl rfl (fun b24 T' g' k' r' => ?_)
 refine L.st2 r' rfl rfl rfl rfl rfl rfl (fun T' kk' r'' => ?_)
 have kx := kk'.mono k' g'
 replace hZ := (hZ.cons kx).add ⟨_, _, r'', w24.cons kx⟩
 replace hK := hK.cons kx
 replace hQ := hQ.cons kx
 replace hc := hc.trans kx
 clear kx kk' r'' r' k' g' w24
 repeat first|apply wg|refine ss rfl ?_|apply nl
 refine L.z2 (Cons.row (h := hc) rb2) rfl rfl rfl ?_
 repeat first|apply wg|refine ss rfl ?_|apply nl
 refine L.z2 (Cons.row (h := hc) rb3) rfl rfl rfl ?_
 repeat first|apply wg|refine ss rfl ?_|apply nl
 refine L.cl (rzRem_C (X2.cons hc) (Y3.cons hc) (by decide) (by decide)) rfl rfl ?_
 rintro _ T' ⟨_, rfl, k0', a25, c25, rfl, w25⟩
 refine ⟨fun _ => k0', ?_⟩
 replace hZ := hZ.cons k0'
 replace hQ := hQ.cons k0'
 replace hK := hK.cons k0'
 replace hc := hc.trans k0'
 clear k0'
 repeat first|apply wg|refine ss rfl ?_|apply nl
 refine L.nr [.bool false, .slice none 0 0] wT rfl rfl (fun b25 T' g' k' r' => ?_)
 refine L.st2 r' rfl rfl rfl rfl rfl rfl (fun T' kk' r'' => ?_)
 have kx := kk'.mono k' g'
 replace hZ := (hZ.cons kx).add ⟨_, _, r'', w25.cons kx⟩
 replace hK := hK.cons kx
 replace hQ := hQ.cons kx
 replace hc := hc.trans kx
 clear kx kk' r'' r' k' g' w25
 repeat first|apply wg|refine ss rfl ?_|apply nl
 refine L.z2 (Cons.row (h := hc) rb2) rfl rfl rfl ?_
 repeat first|apply wg|refine ss rfl ?_|apply nl
 refine L.cl (rzNeg_C (X2.cons hc) (by decide)) rfl rfl ?_
 rintro _ T' ⟨_, rfl, k0', a26, c26, rfl, w26⟩
 refine ⟨fun _ => k0', ?_⟩
 replace hZ := hZ.cons k0'
 replace hQ := hQ.cons k0'
 replace hK := hK.cons k0'
 replace hc := hc.trans k0'
 clear k0'
 repeat first|apply wg|refine ss rfl ?_|apply nl
 refine L.nr [.bool false, .slice none 0 0] wT rfl rfl (fun b26 T' g' k' r' => ?_)
 refine L.st2 r' rfl rfl rfl rfl rfl rfl (fun T' kk' r'' => ?_)
 have kx := kk'.mono k' g'
 replace hZ := (hZ.cons kx).add ⟨_, _, r'', w26.cons kx⟩
 replace hK := hK.cons kx
 replace hQ := hQ.cons kx
 replace hc := hc.trans kx
 clear kx kk' r'' r' k' g' w26
 repeat first|apply wg|refine ss rfl ?_|apply nl
 refine L.zf (Cons.row (h := hc) rb2) rfl rfl rfl rfl rfl ?_
 repeat first|apply wg|refine ss rfl ?_|apply nl
 refine L.zf (Cons.row (h := hc) rb2) rfl rfl rfl rfl rfl ?_
 repeat first|apply wg|refine ss rfl ?_|apply nl
 refine L.cl (hmr _ hc) rfl rfl ?_
 rintro _ T' ⟨_, rfl, k0', a27, c27, rfl, w27⟩
 refine ⟨fun _ => k0', ?_⟩
 replace hZ := hZ.cons k0'
 replace hQ := hQ.cons k0'
 replace hK := hK.cons k0'
 replace hc := hc.trans k0'
 clear k0'
 repeat first|apply wg|refine ss rfl ?_|apply nl
 refine L.nr [.bool false, .slice none 0 0] wT rfl rfl (fun b27 T' g' k' r' => ?_)
 refine L.st2 r' rfl rfl rfl rfl rfl rfl (fun T' kk' r'' => ?_)
 have kx := kk'.mono k' g'
 replace hZ := (hZ.cons kx).add ⟨_, _, r'', w27.cons kx⟩
 replace hK := hK.cons kx
 replace hQ := hQ.cons kx
 replace hc := hc.trans kx
 clear kx kk' r'' r' k' g' w27
 repeat first|apply wg|refine ss rfl ?_|apply nl
 refine L.z2 (Cons.row (h := hc) rb2) rfl rfl rfl ?_
 repeat first|apply wg|refine ss rfl ?_|apply nl
 refine L.cv (rzInt64_C (X2.cons hc) (by decide)) rfl rfl fun T' k' => ?_
 replace hZ := hZ.cons k'
 replace hQ := hQ.cons k'
 replace hK := hK.cons k'
 replace hc := hc.trans k'
 clear k'
 repeat first|apply wg|refine ss rfl ?_|apply nl
 generalize (if i64ok X = true then X else 0) = V
 generalize i64ok X = B
 refine L.ql (hQ.at 0 rfl) rfl rfl rfl ?_
 repeat first|apply wg|refine ss rfl ?_|apply nl
 refine L.zl (hZ.at 0 rfl) rfl rfl rfl (fun u hu => ?_)
 repeat first|apply wg|refine ss rfl ?_|apply nl
 refine L.cv (zsame_C _ (hQ.at 0 rfl).zis hu) rfl rfl fun T' k' => ?_
 clear hu
 replace hZ := hZ.cons k'
 replace hQ := hQ.cons k'
 replace hK := hK.cons k'
 replace hc := hc.trans k'
 clear k'
 repeat first|apply wg|refine ss rfl ?_|apply nl
 refine L.ql (hQ.at 1 rfl) rfl rfl rfl ?_
 repeat first|apply wg|refine ss rfl ?_|apply nl
 refine L.zl (hZ.at 1 rfl) rfl rfl rfl (fun u hu => ?_)
 repeat first|apply wg|refine ss rfl ?_|apply nl
 refine L.cv (zsame_C _ (hQ.at 1 rfl).zis hu) rfl rfl fun T' k' => ?_
 clear hu
 replace hZ := hZ.cons k'
 replace hQ := hQ.cons k'
 replace hK := hK.cons k'
 replace hc := hc.trans k'
 clear k'
 repeat first|apply wg|refine ss rfl ?_|apply nl
 refine L.ql (hQ.at 2 rfl) rfl rfl rfl ?_
 repeat first|apply wg|refine ss rfl ?_|apply nl
 refine L.zl (hZ.at 2 rfl) rfl rfl rfl (fun u hu => ?_)
 repeat first|apply wg|refine ss rfl ?_|apply nl
 refine L.cv (zsame_C _ (hQ.at 2 rfl).zis hu) rfl rfl fun T' k' => ?_
 clear hu
 replace hZ := hZ.cons k'
 replace hQ := hQ.cons k'
 replace hK := hK.cons k'
 replace hc := hc.trans k'
 clear k'
 repeat first|apply wg|refine ss rfl ?_|apply nl
 refine L.ql (hQ.at 3 rfl) rfl rfl rfl ?_
 repeat first|apply wg|refine ss rfl ?_|apply nl
 refine L.zl (hZ.at 3 rfl) rfl rfl rfl (fun u hu => ?_)
 repeat first|apply wg|refine ss rfl ?_|apply nl
 refine L.cv (zsame_C _ (hQ.at 3 rfl).zis hu) rfl rfl fun T' k' => ?_
 clear hu
 replace hZ := hZ.cons k'
 replace hQ := hQ.cons k'
 replace hK := hK.cons k'
 replace hc := hc.trans k'
 clear k'
 repeat first|apply wg|refine ss rfl ?_|apply nl
 refine L.ql (hQ.at 4 rfl) rfl rfl rfl ?_
 repeat first|apply wg|refine ss rfl ?_|apply nl
 refine L.zl (hZ.at 4 rfl) rfl rfl rfl (fun u hu => ?_)
 repeat first|apply wg|refine ss rfl ?_|apply nl
 refine L.cv (zsame_C _ (hQ.at 4 rfl).zis hu) rfl rfl fun T' k' => ?_
 clear hu
 replace hZ := hZ.cons k'
 replace hQ := hQ.cons k'
 replace hK := hK.cons k'
 replace hc := hc.trans k'
 clear k'
 repeat first|apply wg|refine ss rfl ?_|apply nl
 refine L.ql (hQ.at 5 rfl) rfl rfl rfl ?_
 repeat first|apply wg|refine ss rfl ?_|apply nl
 refine L.zl (hZ.at 5 rfl) rfl rfl rfl (fun u hu => ?_)
 repeat first|apply wg|refine ss rfl ?_|apply nl
 refine L.cv (zsame_C _ (hQ.at 5 rfl).zis hu) rfl rfl fun T' k' => ?_
 clear hu
 replace hZ := hZ.cons k'
 replace hQ := hQ.cons k'
 replace hK := hK.cons k'
 replace hc := hc.trans k'
 clear k'
 repeat first|apply wg|refine ss rfl ?_|apply nl
 refine L.ql (hQ.at 6 rfl) rfl rfl rfl ?_
 repeat first|apply wg|refine ss rfl ?_|apply nl
 refine L.zl (hZ.at 6 rfl) rfl rfl rfl (fun u hu => ?_)
 repeat first|apply wg|refine ss rfl ?_|apply nl
 refine L.cv (zsame_C _ (hQ.at 6 rfl).zis hu) rfl rfl fun T' k' => ?_
 clear hu
 replace hZ := hZ.cons k'
 replace hQ := hQ.cons k'
 replace hK := hK.cons k'
 replace hc := hc.trans k'
 clear k'
 repeat first|apply wg|refine ss rfl ?_|apply nl
 rw [show (V != V) = false from bne_self_eq_false V]
 repeat first|apply wg|refine ss rfl ?_|apply nl
 refine W.ite rfl (fun h => ?_) (fun h => ?_)
 ·exfalso
  have h' : (B != B) = true := h
  rw [bne_self_eq_false] at h'
  cases h'
 clear h
 repeat first|apply wg|refine ss rfl ?_|apply nl
 refine L.z2 (Cons.row (h := hc) rb5) rfl rfl rfl ?_
 repeat first|apply wg|refine ss rfl ?_|apply nl
 refine L.z2 (Cons.row (h := hc) rb6) rfl rfl rfl ?_
 repeat first|apply wg|refine ss rfl ?_|apply nl
 refine L.cv (iCmp_C (X5.cons hc) (Y6.cons hc)) rfl rfl fun T' k' => ?_
 replace hZ := hZ.cons k'
 replace hQ := hQ.cons k'
 replace hK := hK.cons k'
 replace hc := hc.trans k'
 clear k'
 repeat first|apply wg|refine ss rfl ?_|apply nl
 refine L.z2 (Cons.row (h := hc) rb2) rfl rfl rfl ?_
 repeat first|apply wg|refine ss rfl ?_|apply nl
 refine L.z2 (Cons.row (h := hc) rb3) rfl rfl rfl ?_
 repeat first|apply wg|refine ss rfl ?_|apply nl
 refine L.cv (rzCmp_C (X2.cons hc) (Y3.cons hc) (by decide) (by decide)) rfl rfl fun T' k' => ?_
 replace hZ := hZ.cons k'
 replace hQ := hQ.cons k'
 replace hK := hK.cons k'
 replace hc := hc.trans k'
 clear k'
 repeat first|apply wg|refine ss rfl ?_|apply nl
 rw [show (cmpI X Y != cmpI X Y) = false from bne_self_eq_false _]
 repeat first|apply wg|refine ss rfl ?_|apply nl
 refine L.z2 (Cons.row (h := hc) rb5) rfl rfl rfl ?_
 repeat first|apply wg|refine ss rfl ?_|apply nl
 refine L.cv (iSign_C (X5.cons hc)) rfl rfl fun T' k' => ?_
 replace hZ := hZ.cons k'
 replace hQ := hQ.cons k'
 replace hK := hK.cons k'
 replace hc := hc.trans k'
 clear k'
 repeat first|apply wg|refine ss rfl ?_|apply nl
 refine L.z2 (Cons.row (h := hc) rb2) rfl rfl rfl ?_
 repeat first|apply wg|refine ss rfl ?_|apply nl
 refine L.cv (rzSign_C (X2.cons hc) (by decide)) rfl rfl fun T' k' => ?_
 replace hZ := hZ.cons k'
 replace hQ := hQ.cons k'
 replace hK := hK.cons k'
 replace hc := hc.trans k'
 clear k'
 repeat first|apply wg|refine ss rfl ?_|apply nl
 rw [show (cmpI X 0 != cmpI X 0) = false from bne_self_eq_false _]
 repeat first|apply wg|refine ss rfl ?_|apply nl
 refine L.z2 (Cons.row (h := hc) rb5) rfl rfl rfl ?_
 repeat first|apply wg|refine ss rfl ?_|apply nl
 refine L.z2 (Cons.row (h := hc) rb5) rfl rfl rfl ?_
 repeat first|apply wg|refine ss rfl ?_|apply nl
 refine L.cv (iCmp_C (X5.cons hc) (X5.cons hc)) rfl rfl fun T' k' => ?_
 replace hZ := hZ.cons k'
 replace hQ := hQ.cons k'
 replace hK := hK.cons k'
 replace hc := hc.trans k'
 clear k'
 repeat first|apply wg|refine ss rfl ?_|apply nl
 rw [show cmpI X X = 0 from (cmp_eq X X).2 rfl]
 repeat first|apply wg|refine ss rfl ?_|apply nl
 refine L.z2 (Cons.row (h := hc) rb5) rfl rfl rfl ?_
 repeat first|apply wg|refine ss rfl ?_|apply nl
 refine L.z2 (Cons.row (h := hc) rb2) rfl rfl rfl ?_
 repeat first|apply wg|refine ss rfl ?_|apply nl
 refine L.cv (keptZ_C b0 a0 x c0 l0 _ (Cons.row (h := hc) hr0) (h0.cons hc) (by omega)) rfl rfl fun T' k' => ?_
 replace hZ := hZ.cons k'
 replace hQ := hQ.cons k'
 replace hK := hK.cons k'
 replace hc := hc.trans k'
 clear k'
 repeat first|apply wg|refine ss rfl ?_|apply nl
 refine L.z2 (Cons.row (h := hc) rb6) rfl rfl rfl ?_
 repeat first|apply wg|refine ss rfl ?_|apply nl
 refine L.z2 (Cons.row (h := hc) rb3) rfl rfl rfl ?_
 repeat first|apply wg|refine ss rfl ?_|apply nl
 refine L.cv (keptZ_C b1 a1 y c1 l1 _ (Cons.row (h := hc) hr1) (h1.cons hc) (by omega)) rfl rfl fun T' k' => ?_
 replace hZ := hZ.cons k'
 replace hQ := hQ.cons k'
 replace hK := hK.cons k'
 replace hc := hc.trans k'
 clear k'
 repeat first|apply wg|refine ss rfl ?_|apply nl
 refine W.ite rfl (fun h => ?_) (fun h => ?_)
 ·cases h
 clear h
 repeat first|apply wg|refine ss rfl ?_|apply nl
 refine L.eff (v := .pointer (some ⟨List.length T', 0, none⟩)) (S1 := T' ++ [newR [.slice none 0 0, .slice none 0 0] 33]) rfl rfl ?_
 have hB := hK.bookT
 have hL := hK.2.2.2
 generalize T' ++ [newR [.slice none 0 0, .slice none 0 0] 33] = TB at *
 clear hZ
 repeat first|apply wg|refine ss rfl ?_|apply nl
 refine L.ql ((hQ.cons hB.1).at 0 rfl) rfl rfl rfl ?_
 repeat first|apply wg|refine ss rfl ?_|apply nl
 refine L.cl (zBook_C _ _ v11 hB (by first | omega | (simp <;> omega))) rfl rfl ?_
 rintro _ TB' hB'
 refine ⟨nofun, ?_⟩
 replace hB := hB'
 clear hB'
 repeat first|apply wg|refine ss rfl ?_|apply nl
 refine L.ql ((hQ.cons hB.1).at 1 rfl) rfl rfl rfl ?_
 repeat first|apply wg|refine ss rfl ?_|apply nl
 refine L.cl (zBook_C _ _ v12 hB (by first | omega | (simp <;> omega))) rfl rfl ?_
 rintro _ TB' hB'
 refine ⟨nofun, ?_⟩
 replace hB := hB'
 clear hB'
 repeat first|apply wg|refine ss rfl ?_|apply nl
 refine L.ql ((hQ.cons hB.1).at 2 rfl) rfl rfl rfl ?_
 repeat first|apply wg|refine ss rfl ?_|apply nl
 refine L.cl (zBook_C _ _ v13 hB (by first | omega | (simp <;> omega))) rfl rfl ?_
 rintro _ TB' hB'
 refine ⟨nofun, ?_⟩
 replace hB := hB'
 clear hB'
 repeat first|apply wg|refine ss rfl ?_|apply nl
 refine L.ql ((hQ.cons hB.1).at 3 rfl) rfl rfl rfl ?_
 repeat first|apply wg|refine ss rfl ?_|apply nl
 refine L.cl (zBook_C _ _ v14 hB (by first | omega | (simp <;> omega))) rfl rfl ?_
 rintro _ TB' hB'
 refine ⟨nofun, ?_⟩
 replace hB := hB'
 clear hB'
 repeat first|apply wg|refine ss rfl ?_|apply nl
 refine L.ql ((hQ.cons hB.1).at 4 rfl) rfl rfl rfl ?_
 repeat first|apply wg|refine ss rfl ?_|apply nl
 refine L.cl (zBook_C _ _ v15 hB (by first | omega | (simp <;> omega))) rfl rfl ?_
 rintro _ TB' hB'
 refine ⟨nofun, ?_⟩
 replace hB := hB'
 clear hB'
 repeat first|apply wg|refine ss rfl ?_|apply nl
 refine L.ql ((hQ.cons hB.1).at 5 rfl) rfl rfl rfl ?_
 repeat first|apply wg|refine ss rfl ?_|apply nl
 refine L.cl (zBook_C _ _ v16 hB (by first | omega | (simp <;> omega))) rfl rfl ?_
 rintro _ TB' hB'
 refine ⟨nofun, ?_⟩
 replace hB := hB'
 clear hB'
 repeat first|apply wg|refine ss rfl ?_|apply nl
 refine L.ql ((hQ.cons hB.1).at 6 rfl) rfl rfl rfl ?_
 repeat first|apply wg|refine ss rfl ?_|apply nl
 refine L.cl (zBook_C _ _ v17 hB (by first | omega | (simp <;> omega))) rfl rfl ?_
 rintro _ TB' hB'
 refine ⟨nofun, ?_⟩
 replace hB := hB'
 clear hB'
 repeat first|apply wg|refine ss rfl ?_|apply nl
 refine L.cl (apart_BkT hB hc hL (by first | omega | (simp <;> omega))) rfl rfl ?_
 rintro _ TA ⟨rfl, hc'⟩
 refine ⟨nofun, ?_⟩
 replace hc := hc'
 clear hc' hB hL hQ hK
 repeat first|apply wg|refine ss rfl ?_|apply nl
 refine L.z2 (Cons.row (h := hc) rb5) rfl rfl rfl ?_
 repeat first|apply wg|refine ss rfl ?_|apply nl
 refine L.z2 (Cons.row (h := hc) rb2) rfl rfl rfl ?_
 repeat first|apply wg|refine ss rfl ?_|apply nl
 refine L.cv (keptZ_C b0 a0 x c0 l0 _ (Cons.row (h := hc) hr0) (h0.cons hc) (by omega)) rfl rfl fun T' k' => ?_
 replace hc := hc.trans k'
 clear k'
 repeat first|apply wg|refine ss rfl ?_|apply nl
 refine L.z2 (Cons.row (h := hc) rb6) rfl rfl rfl ?_
 repeat first|apply wg|refine ss rfl ?_|apply nl
 refine L.z2 (Cons.row (h := hc) rb3) rfl rfl rfl ?_
 repeat first|apply wg|refine ss rfl ?_|apply nl
 refine L.cv (keptZ_C b1 a1 y c1 l1 _ (Cons.row (h := hc) hr1) (h1.cons hc) (by omega)) rfl rfl fun T' k' => ?_
 replace hc := hc.trans k'
 clear k'
 repeat first|apply wg|refine ss rfl ?_|apply nl
 refine L.cv (works_C _ (hS.cons hc) (hP.cons hc) (Nat.le_trans hG hc.len)) rfl rfl fun M4 k4 => ?_
 repeat first|apply wg|refine ss rfl ?_|apply nl
 exact ⟨.inr rfl, _, rfl, rfl, (kS.trans hc).trans k4⟩
end Go.Proofs.YtbiigbicgfchiaaGreatDoor

/- The proof of the statement WholeReckons. Conditions: none. -/
namespace Go.Proofs.YtbiigbicgfchiaaGreatDoor.wholeReckons
open Go.ChangeShapes Go.WideShapes Go.ChangeAt Go.RowKit
open Go.ChangeMaps (open_string shut_string)
theorem own : ownKnob Tryz.prog.godebug = none := by kernel_rfl
theorem laidOut : laidOutB Tryz.prog = true := by kernel_rfl
theorem walk (v0 : Value) (v1 : Value) (w : World) (hG : gN ≤ w.heap.size) (hR : ∀ N, SinOk (mem0 w N) ∧ PowOk (mem0 w N)) (w0 : ∃ N b l, WholeAt w N v0 b l) (w1 : ∃ N b l, WholeAt w N v1 b l) :
  Calls Tryz.prog 6 #[v0, v1] w fun e w' => e = .returned (.bool true) ∧ Below w.heap.size w w' := by
 obtain ⟨N0, b0, l0, _, rfl, ⟨a0, c0, rfl, hk0, hn0, hu0, hw0⟩⟩ := w0
 obtain ⟨N1, b1, l1, _, rfl, ⟨a1, c1, rfl, hk1, hn1, hu1, hw1⟩⟩ := w1
 obtain ⟨N, hN⟩ : ∃ N, N = N0 + N1 := ⟨_, rfl⟩
 obtain ⟨hs0, hv0, hf0⟩ := hw0 N (by omega)
 obtain ⟨hs1, hv1, hf1⟩ := hw1 N (by omega)
 obtain ⟨v, S', hE, rfl, hcons⟩ := (wholeReckons_C (Ext := NoX) b0 b1 a0 a1 c0 c1 l0 l1 (mem0 w N) ⟨hs0, hk0, hn0⟩ ⟨hs1, hk1, hn1⟩ (hR N).1 (hR N).2 (by rw [mem0_len]; omega))
 refine top_true (Checked.mixed Tryz.checked) (fun _ _ _ _ _ h => h.elim) hG (fun a ha => ?_) hE hcons
 simp only [List.mem_cons, List.not_mem_nil, or_false] at ha
 rcases ha with rfl | rfl
 ·exact VR.agg2 (scalar_VR _ rfl) hv0
 ·exact VR.agg2 (scalar_VR _ rfl) hv1
set_option maxRecDepth 100000 in
theorem lifted (os : Os) (started : os.Started) (H : Type) (enc : TypeId × Value → H) :
  ReturnsInHanded {} Tryz.checked os 6 .any (fun w args => (Rows.wholeReckonsSpec.pre enc Tryz.prog Tryz.f6 [] false w args ∧ laidMetH Tryz.prog laidL w) ∧ sizedMet enc Tryz.prog Tryz.f6 (OpenSpec.ofChange Rows.wholeReckonsSpec) false w args)
   (Rows.wholeReckonsSpec.post enc Tryz.prog Tryz.f6 false true false false) := by
 refine returnsInHanded_of_change_and (C := Tryz.checked) (X := fun w _ => laidMetH Tryz.prog laidL w) (fun _ _ _ hh h => h.of_heap hh) own started (by kernel_rfl) Tryz.func6
  (ChangeSpec.witness_shaped (enc := enc) (C := Tryz.checked) (os := os) (X := fun w _ => laidMetH Tryz.prog laidL w) false (World.doorLaid Tryz.prog 400 os) #[.agg #[.bool false, .slice none 0 0], .agg #[.bool false, .slice none 0 0]] 8 rfl (World.shaped_of_RefB (by kernel_rfl) (by kernel_rfl)) (by kernel_rfl) (by kernel_rfl) (by kernel_rfl) (door_met os _)) ?_
 intro W base args ds gs before hval0 hW _ _ hL _
 obtain ⟨hG, hR⟩ := of_laid hL
 have hval : ∀ (j : Nat) t v, Tryz.f6.params[j]? = some t → args[j]? = some v → Value.okWide Tryz.prog W .any base t v := hval0
 have hW' := hW
 obtain ⟨p, q, hA0, hV, rfl, hfz, hnd⟩ := hW
 have hA : DataW.TrodAll enc Tryz.prog W 0 (fun _ => true) true Tryz.f6.params.toList args.toList ds p := hA0
 rw [Tryz.params6] at hA hval
 obtain ⟨v0, vs0, d0, ds0, p0, q0, hargs, rfl, rfl, h0, r0⟩ := trodAll_cons hA
 obtain ⟨v1, vs1, d1, ds1, p1, q1, rfl, rfl, rfl, h1, r1⟩ := trodAll_cons r0
 obtain ⟨rfl, rfl, rfl⟩ := trodAll_nil r1
 obtain rfl : args = #[v0, v1] := by cases args; simp_all
 obtain ⟨rfl, rfl⟩ := trodVars_none hV
 have lt0 : ∀ x ∈ p0, x.block < W.heap.size := by obtain ⟨m, hm⟩ := h0; exact DataW.trod_lt m _ _ _ hm
 have lt1 : ∀ x ∈ p1, x.block < W.heap.size := by obtain ⟨m, hm⟩ := h1; exact DataW.trod_lt m _ _ _ hm
 clear hA0 hval0
 refine (walk v0 v1 W hG hR (whole_world (okWide_struct Tryz.underlying24 (hval 0 24 v0 rfl rfl)) h0) (whole_world (okWide_struct Tryz.underlying24 (hval 1 24 v1 rfl rfl)) h1)).mono fun e W' ⟨he, bel⟩ => ?_
 subst he
 exact ⟨_, rfl, _, _, _, [], _, [], hW', trodAll_mk1 (shut_bool Tryz.underlying4 _), (trodAll_cons_mk (Below.trod laidOut (by kernel_rfl) (of_decide_eq_true (by kernel_rfl)) h0 bel lt0) (trodAll_cons_mk (Below.trod laidOut (by kernel_rfl) (of_decide_eq_true (by kernel_rfl)) h1 bel lt1) trodAll_mk0)), rfl, bel.frame _, fun h => by cases h⟩
theorem over : Rows.wholeReckonsRow.holds Tryz.pinned (OpenSpec.ofChange Rows.wholeReckonsSpec) :=
 OpenClaim.holds_of_wide 6 Tryz.f6 rfl rfl rfl rfl rfl rfl rfl ⟨rfl, rfl, rfl, rfl, rfl⟩ rfl rfl rfl rfl rfl (by kernel_rfl) Tryz.func6 (by kernel_rfl)
  (of_decide_eq_true (by kernel_rfl)) (by unfold Func.isWrapper; first | (rw [if_pos (by decide +kernel)]; kernel_rfl) | (rw [if_neg (by decide +kernel)]; exact ⟨rfl, rfl⟩))
  (fun os started H enc _ => lifted os started H enc)
theorem proved : Rows.WholeReckonsCardSaid :=
 Claim7.holds_tied_plain_at .later [] [.data, .data, .data, .data, .data, .data] true (true, "fec42c2c2770d3608b3b87db2f8cdd2caa924e50f3b388b6462229a161397f08") true
  over (fun _ h => by cases h) (by kernel_rfl) (fun _ h => by cases h) wholeReckons_row_tie rfl ⟨rfl, rfl⟩ (by kernel_rfl) rfl
  (fun f fn hf hfn => by
   obtain rfl : f = 6 := Option.some.inj ((show Tryz.prog.funcNamed "vouch/vouchlaw02.WholeReckons" = some 6 by kernel_rfl).symm.trans hf) |>.symm
   obtain rfl : fn = Tryz.f6 := (Option.some.inj (Tryz.func6.symm.trans hfn)).symm
   exact ⟨by kernel_rfl, fun j t ht => by
    rw [Tryz.params6] at ht
    match j, ht with
    | 0, ht =>
     obtain rfl : t = 24 := by simpa using ht.symm
     exact (show Tryz.prog.wantsStandIn 24 = false by kernel_rfl)
    | 1, ht =>
     obtain rfl : t = 24 := by simpa using ht.symm
     exact (show Tryz.prog.wantsStandIn 24 = false by kernel_rfl)
    | j + 2, ht => simp at ht⟩)
  (by kernel_rfl)
end Go.Proofs.YtbiigbicgfchiaaGreatDoor.wholeReckons
