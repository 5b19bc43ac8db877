/- The proof of the statement WholeSteps. Conditions: none. -/
import Derived.Test.YtbiigbicgfchiaaGreatDoorLicA
import Derived.Test.YtbiigbicgfchiaaGreatDoorLicB
import Derived.Test.YtbiigbicgfchiaaGreatDoorLicC
import Derived.Test.YtbiigbicgfchiaaGreatDoorLicD
import Derived.Test.YtbiigbicgfchiaaGreatDoorLicE
import Derived.Test.YtbiigbicgfchiaaGreatDoorLicF
import Derived.Test.YtbiigbicgfchiaaGreatDoorRows
import Derived.Test.YtbiigbicgfchiaaGreatDoorTie
import Derived.Test.YtbiigbicgfchiaaGreatDoorCards
import Derived.SevenTiedAt
import Derived.WalkKit
import Derived.ProofKit
import Derived.OpenShut
import Derived.ShutString
import Derived.ChangeOld
import Derived.Below

/- The law of powers of sums, walked. Conditions: the tables lie in memory. -/
set_option linter.unusedSimpArgs false
set_option linter.unusedVariables false
set_option maxRecDepth 100000
set_option maxHeartbeats 4000000
set_option exponentiation.threshold 20000
namespace Go.Proofs.YtbiigbicgfchiaaGreatDoor
open Go Ie
variable {Ext : FuncId → List Value → Mem → Outc → Mem → Prop}
theorem Bd.pow {k : Nat} {x : Int} (h : Bd k x) (hk : 1 ≤ k) {n N : Nat} (hn : n ≤ N) (hN : 1 ≤ N) : Bd (k * N) (x ^ n) := by
 unfold Bd at *
 rw [Int.natAbs_pow]
 cases n with
 | zero => exact Nat.one_lt_two_pow (Nat.mul_ne_zero (by omega) (by omega))
 | succ n =>
  refine Nat.lt_of_lt_of_le (Nat.pow_lt_pow_left h (by omega)) ?_
  rw [← Nat.pow_mul]
  exact Nat.pow_le_pow_right (by decide) (Nat.mul_le_mul_left k hn)
theorem pick_range (i n : Int) (hn : 1 ≤ n) : 0 ≤ pick i n ∧ pick i n < n := by
 unfold pick
 rw [if_neg (by omega)]
 have h1 := Int.tmod_lt_of_pos i (b := n) (by omega)
 have h2 : (i.tmod n).natAbs < n.natAbs := by rw [Int.natAbs_tmod]; exact Nat.mod_lt _ (by omega)
 split <;> omega
theorem wholeSteps_C (b0 : Bool) (a0 : Option Addr) (c0 : Nat) (l0 : WL) (m k : Int) (S : Mem) (h0 : Slv S 1 (.slice a0 l0.length c0) l0.length (wv l0)) (n0 : l0.length < UNK) (hS : SinOk S) (hP : PowOk S) (hG : gN ≤ S.length) :
  C Tryz.prog gN Ext 4 [wZ b0 (.slice a0 l0.length c0), .int .i64 m, .int .i64 k] S fun v S' => v = .bool true ∧ Cons S S' := by
 refine C.fn Tryz.func4 rfl (by kernel_rfl) rfl ?_
 repeat first|apply wg|refine ss rfl ?_|apply nl
 refine L.nr [.bool b0, .slice a0 l0.length c0] wT rfl rfl (fun b3 Tb3 gb3 kb3 rb3 => ?_)
 have kM := kb3
 replace h0 := h0.cons kM
 replace hS := hS.cons kM
 replace hP := hP.cons kM
 replace hG := Nat.le_trans hG kM.len
 have hZ := Zs.nil Tb3
 have hc := Cons.refl Tb3
 clear kb3 gb3
 repeat first|apply wg|refine ss rfl ?_|apply nl
 refine L.z2 (Cons.row (h := hc) rb3) rfl rfl rfl ?_
 repeat first|apply wg|refine ss rfl ?_|apply nl
 refine L.cl (zSome_C b0 a0 c0 2 l0 _ (h0.cons hc) n0 (by decide)) rfl rfl ?_
 rintro _ T' ⟨⟨a0, c0, rfl, w0⟩, k', hf0⟩
 refine ⟨fun _ => k', ?_⟩
 replace hZ := hZ.cons k'
 replace hc := hc.trans k'
 repeat first|apply wg|refine ss rfl ?_|apply nl
 have fA : Bd 128 (zv b0 (l0.take 2)) := Bd.take
 generalize zv b0 (l0.take 2) = A at *
 refine L.nr [.bool false, .slice none 0 0] wT rfl rfl (fun b0 T' g' k' r' => ?_)
 refine L.st2 r' rfl rfl rfl rfl rfl rfl (fun T' kk' r'' => ?_)
 have kx := kk'.mono k' g'
 replace hZ := (hZ.cons kx).add ⟨a0, c0, r'', w0.cons kx⟩
 replace hc := hc.trans kx
 clear kx kk' r'' r' k' g' w0
 repeat first|apply wg|refine ss rfl ?_|apply nl
 refine L.cl (pick_C _ 21 (by decide) _) rfl rfl ?_
 rintro _ T9 ⟨rfl, e9⟩
 have e9 := e9.symm
 subst e9
 refine ⟨fun _ => Cons.refl _, ?_⟩
 repeat first|apply wg|refine ss rfl ?_|apply nl
 refine L.cl (pick_C _ 21 (by decide) _) rfl rfl ?_
 rintro _ T9 ⟨rfl, e9⟩
 have e9 := e9.symm
 subst e9
 refine ⟨fun _ => Cons.refl _, ?_⟩
 repeat first|apply wg|refine ss rfl ?_|apply nl
 obtain ⟨M, hM⟩ : ∃ M : Nat, pick m 21 = (M : Int) := ⟨(pick m 21).toNat, by have := pick_range m 21 (by decide); omega⟩
 obtain ⟨K, hK⟩ : ∃ K : Nat, pick k 21 = (K : Int) := ⟨(pick k 21).toNat, by have := pick_range k 21 (by decide); omega⟩
 have hM20 : M ≤ 20 := by have := pick_range m 21 (by decide); omega
 have hK20 : K ≤ 20 := by have := pick_range k 21 (by decide); omega
 rw [hM, hK]
 clear hM hK
 have fM : Bd 64 (M : Int) := by unfold Bd; omega
 have fK : Bd 64 (K : Int) := by unfold Bd; omega
 have fAM : Bd 2560 (A ^ M) := fA.pow (by decide) hM20 (by decide)
 have fAK : Bd 2560 (A ^ K) := fA.pow (by decide) hK20 (by decide)
 obtain ⟨R1, hR1⟩ : ∃ R, R = (if zE (A ^ (M + K)) = 0 then A ^ (M + K) else 0) := ⟨_, rfl⟩
 obtain ⟨E1, hE1⟩ : ∃ E, E = zE (A ^ (M + K)) := ⟨_, rfl⟩
 obtain ⟨R2, hR2⟩ : ∃ R, R = (if zE (A ^ (M * K)) = 0 then A ^ (M * K) else 0) := ⟨_, rfl⟩
 obtain ⟨E2, hE2⟩ : ∃ E, E = zE (A ^ (M * K)) := ⟨_, rfl⟩
 refine L.cl (nInt_C (M : Int) (by omega)) rfl rfl ?_
 rintro _ T' ⟨⟨a1, c1, rfl, w1⟩, k', hf1⟩
 refine ⟨fun _ => k', ?_⟩
 replace hZ := hZ.cons k'
 replace hc := hc.trans k'
 repeat first|apply wg|refine ss rfl ?_|apply nl
 refine L.cl (nInt_C (K : Int) (by omega)) rfl rfl ?_
 rintro _ T' ⟨⟨a2, c2, rfl, w2⟩, k', hf2⟩
 refine ⟨fun _ => k', ?_⟩
 replace hZ := hZ.cons k'
 replace hc := hc.trans k'
 repeat first|apply wg|refine ss rfl ?_|apply nl
 replace w1 := w1.cons k'
 refine L.nr [.bool false, .slice none 0 0] wT rfl rfl (fun b1 T1' g1' k1' r1' => ?_)
 refine L.nr [.bool false, .slice none 0 0] wT rfl rfl (fun b2 T2' g2' k2' r2' => ?_)
 have n12 : b2 ≠ b1 := by have := row_lt r1'; omega
 replace r1' := Cons.row (h := k2') r1'
 refine L.st2 r1' rfl rfl rfl rfl rfl rfl (fun T3' kk1 s1' => ?_)
 refine L.st2 (kk1.row r2' n12) rfl rfl rfl rfl rfl rfl (fun T' kk2 s2' => ?_)
 replace s1' := kk2.row s1' (Ne.symm n12)
 have kx := kk2.mono (kk1.mono (k1'.trans k2') g1') (Nat.le_trans k1'.len g2')
 replace hZ := ((hZ.cons kx).add ⟨a1, c1, s1', w1.cons kx⟩).add ⟨a2, c2, s2', w2.cons kx⟩
 replace hc := hc.trans kx
 clear kx kk1 kk2 s1' s2' r1' r2' k1' k2' g1' g2' n12
 repeat first|apply wg|refine ss rfl ?_|apply nl
 have hU := Us.nil T'
 refine L.zl (hZ.at 0 rfl) rfl rfl rfl (fun u hu => ?_)
 replace hU := hU.add hu
 clear hu
 repeat first|apply wg|refine ss rfl ?_|apply nl
 refine L.zl (hZ.at 1 rfl) rfl rfl rfl (fun u hu => ?_)
 replace hU := hU.add hu
 clear hu
 repeat first|apply wg|refine ss rfl ?_|apply nl
 refine L.cl (nPow_C (hU.at 1 rfl) (hU.at 0 rfl) (fA.ok (by decide)) (fM.ok (by decide)) (hS.cons hc) (Nat.le_trans hG hc.len)) rfl rfl ?_
 rintro _ T' hr
 refine ⟨fun _ => let ⟨_, _, k, _⟩ := hr; k, ?_⟩
 rw [if_neg (by omega), Int.toNat_natCast, show zE (A ^ M) = 0 from zok_E (fAM.ok (by decide))] at hr
 obtain ⟨_, rfl, k', ⟨a4, c4, rfl, w4⟩, _⟩ := hr.ok rfl
 try clear hr
 replace hZ := hZ.cons k'
 replace hc := hc.trans k'
 repeat first|apply wg|refine ss rfl ?_|apply nl
 refine L.nr [.bool false, .slice none 0 0] wT rfl rfl (fun b4 T' g' k' r' => ?_)
 refine L.st2 r' rfl rfl rfl rfl rfl rfl (fun T' kk' r'' => ?_)
 have kx := kk'.mono k' g'
 replace hZ := (hZ.cons kx).add ⟨a4, c4, r'', w4.cons kx⟩
 replace hc := hc.trans kx
 clear kx kk' r'' r' k' g' w4
 repeat first|apply wg|refine ss rfl ?_|apply nl
 replace hU := Us.nil T'
 repeat first|apply wg|refine ss rfl ?_|apply nl
 refine L.zl (hZ.at 0 rfl) rfl rfl rfl (fun u hu => ?_)
 replace hU := hU.add hu
 clear hu
 repeat first|apply wg|refine ss rfl ?_|apply nl
 refine L.zl (hZ.at 2 rfl) rfl rfl rfl (fun u hu => ?_)
 replace hU := hU.add hu
 clear hu
 repeat first|apply wg|refine ss rfl ?_|apply nl
 refine L.cl (nPow_C (hU.at 1 rfl) (hU.at 0 rfl) (fA.ok (by decide)) (fK.ok (by decide)) (hS.cons hc) (Nat.le_trans hG hc.len)) rfl rfl ?_
 rintro _ T' hr
 refine ⟨fun _ => let ⟨_, _, k, _⟩ := hr; k, ?_⟩
 rw [if_neg (by omega), Int.toNat_natCast, show zE (A ^ K) = 0 from zok_E (fAK.ok (by decide))] at hr
 obtain ⟨_, rfl, k', ⟨a5, c5, rfl, w5⟩, _⟩ := hr.ok rfl
 try clear hr
 replace hZ := hZ.cons k'
 replace hc := hc.trans k'
 repeat first|apply wg|refine ss rfl ?_|apply nl
 refine L.nr [.bool false, .slice none 0 0] wT rfl rfl (fun b5 T' g' k' r' => ?_)
 refine L.st2 r' rfl rfl rfl rfl rfl rfl (fun T' kk' r'' => ?_)
 have kx := kk'.mono k' g'
 replace hZ := (hZ.cons kx).add ⟨a5, c5, r'', w5.cons kx⟩
 replace hc := hc.trans kx
 clear kx kk' r'' r' k' g' w5
 repeat first|apply wg|refine ss rfl ?_|apply nl
 replace hU := Us.nil T'
 repeat first|apply wg|refine ss rfl ?_|apply nl
 refine L.zl (hZ.at 0 rfl) rfl rfl rfl (fun u hu => ?_)
 replace hU := hU.add hu
 clear hu
 repeat first|apply wg|refine ss rfl ?_|apply nl
 refine L.zl (hZ.at 1 rfl) rfl rfl rfl (fun u hu => ?_)
 replace hU := hU.add hu
 clear hu
 repeat first|apply wg|refine ss rfl ?_|apply nl
 refine L.zl (hZ.at 2 rfl) rfl rfl rfl (fun u hu => ?_)
 replace hU := hU.add hu
 clear hu
 repeat first|apply wg|refine ss rfl ?_|apply nl
 have g1 : Bd 65 (((M : Int)) + ((K : Int))) := Bd.add (k := 64) (fM) (fK)
 refine L.cl (zSum_C (hU.at 1 rfl) (hU.at 0 rfl) (fM.ok (by decide)) (fK.ok (by decide)) (g1.ok (by decide))) rfl rfl ?_
 rintro u T' ⟨wu, k', _⟩
 refine ⟨fun _ => k', ?_⟩
 replace hZ := hZ.cons k'
 replace hc := hc.trans k'
 replace hU := (hU.cons k').add wu
 clear wu k'
 repeat first|apply wg|refine ss rfl ?_|apply nl
 refine L.cl (nPow_C (hU.at 3 rfl) (hU.at 0 rfl) (fA.ok (by decide)) (g1.ok (by decide)) (hS.cons hc) (Nat.le_trans hG hc.len)) rfl rfl ?_
 rintro _ T' hr
 refine ⟨fun _ => let ⟨_, _, k, _⟩ := hr; k, ?_⟩
 unfold ZR at hr
 rw [show ((M : Int) + (K : Int)) = ((M + K : Nat) : Int) by omega, if_neg (by omega), Int.toNat_natCast, ← hR1, ← hE1] at hr
 obtain ⟨_, rfl, k', ⟨a6, c6, rfl, w6⟩, _⟩ := hr
 try clear hr
 replace hZ := hZ.cons k'
 replace hc := hc.trans k'
 repeat first|apply wg|refine ss rfl ?_|apply nl
 refine L.nr [.bool false, .slice none 0 0] wT rfl rfl (fun b6 T' g' k' r' => ?_)
 refine L.st2 r' rfl rfl rfl rfl rfl rfl (fun T' kk' r'' => ?_)
 have kx := kk'.mono k' g'
 replace hZ := (hZ.cons kx).add ⟨a6, c6, r'', w6.cons kx⟩
 replace hc := hc.trans kx
 clear kx kk' r'' r' k' g' w6
 repeat first|apply wg|refine ss rfl ?_|apply nl
 replace hU := Us.nil T'
 repeat first|apply wg|refine ss rfl ?_|apply nl
 refine L.zl (hZ.at 3 rfl) rfl rfl rfl (fun u hu => ?_)
 replace hU := hU.add hu
 clear hu
 repeat first|apply wg|refine ss rfl ?_|apply nl
 refine L.zl (hZ.at 2 rfl) rfl rfl rfl (fun u hu => ?_)
 replace hU := hU.add hu
 clear hu
 repeat first|apply wg|refine ss rfl ?_|apply nl
 refine L.cl (nPow_C (hU.at 1 rfl) (hU.at 0 rfl) (fAM.ok (by decide)) (fK.ok (by decide)) (hS.cons hc) (Nat.le_trans hG hc.len)) rfl rfl ?_
 rintro _ T' hr
 refine ⟨fun _ => let ⟨_, _, k, _⟩ := hr; k, ?_⟩
 unfold ZR at hr
 rw [if_neg (by omega), Int.toNat_natCast, ← Int.pow_mul, ← hR2, ← hE2] at hr
 obtain ⟨_, rfl, k', ⟨a7, c7, rfl, w7⟩, _⟩ := hr
 try clear hr
 replace hZ := hZ.cons k'
 replace hc := hc.trans k'
 repeat first|apply wg|refine ss rfl ?_|apply nl
 refine L.nr [.bool false, .slice none 0 0] wT rfl rfl (fun b7 T' g' k' r' => ?_)
 refine L.st2 r' rfl rfl rfl rfl rfl rfl (fun T' kk' r'' => ?_)
 have kx := kk'.mono k' g'
 replace hZ := (hZ.cons kx).add ⟨a7, c7, r'', w7.cons kx⟩
 replace hc := hc.trans kx
 clear kx kk' r'' r' k' g' w7
 repeat first|apply wg|refine ss rfl ?_|apply nl
 replace hU := Us.nil T'
 repeat first|apply wg|refine ss rfl ?_|apply nl
 refine L.zl (hZ.at 0 rfl) rfl rfl rfl (fun u hu => ?_)
 replace hU := hU.add hu
 clear hu
 repeat first|apply wg|refine ss rfl ?_|apply nl
 refine L.zl (hZ.at 1 rfl) rfl rfl rfl (fun u hu => ?_)
 replace hU := hU.add hu
 clear hu
 repeat first|apply wg|refine ss rfl ?_|apply nl
 refine L.zl (hZ.at 2 rfl) rfl rfl rfl (fun u hu => ?_)
 replace hU := hU.add hu
 clear hu
 repeat first|apply wg|refine ss rfl ?_|apply nl
 have g2 : Bd 128 (((M : Int)) * ((K : Int))) := Bd.mul fM fK
 refine L.cl (zProd_C (hU.at 1 rfl) (hU.at 0 rfl) (fM.ok (by decide)) (fK.ok (by decide)) (g2.ok (by decide)) (hS.cons hc) (Nat.le_trans hG hc.len)) rfl rfl ?_
 rintro u T' ⟨wu, k', _⟩
 refine ⟨fun _ => k', ?_⟩
 replace hZ := hZ.cons k'
 replace hc := hc.trans k'
 replace hU := (hU.cons k').add wu
 clear wu k'
 repeat first|apply wg|refine ss rfl ?_|apply nl
 refine L.cl (nPow_C (hU.at 3 rfl) (hU.at 0 rfl) (fA.ok (by decide)) (g2.ok (by decide)) (hS.cons hc) (Nat.le_trans hG hc.len)) rfl rfl ?_
 rintro _ T' hr
 refine ⟨fun _ => let ⟨_, _, k, _⟩ := hr; k, ?_⟩
 unfold ZR at hr
 rw [show ((M : Int) * (K : Int)) = ((M * K : Nat) : Int) from (Int.natCast_mul M K).symm, if_neg (by omega), Int.toNat_natCast, ← hR2, ← hE2] at hr
 obtain ⟨_, rfl, k', ⟨a8, c8, rfl, w8⟩, _⟩ := hr
 try clear hr
 replace hZ := hZ.cons k'
 replace hc := hc.trans k'
 repeat first|apply wg|refine ss rfl ?_|apply nl
 refine L.nr [.bool false, .slice none 0 0] wT rfl rfl (fun b8 T' g' k' r' => ?_)
 refine L.st2 r' rfl rfl rfl rfl rfl rfl (fun T' kk' r'' => ?_)
 have kx := kk'.mono k' g'
 replace hZ := (hZ.cons kx).add ⟨a8, c8, r'', w8.cons kx⟩
 replace hc := hc.trans kx
 clear kx kk' r'' r' k' g' w8
 repeat first|apply wg|refine ss rfl ?_|apply nl
 replace hU := Us.nil T'
 repeat first|apply wg|refine ss rfl ?_|apply nl
 refine L.zl (hZ.at 3 rfl) rfl rfl rfl (fun u hu => ?_)
 replace hU := hU.add hu
 clear hu
 repeat first|apply wg|refine ss rfl ?_|apply nl
 refine L.zl (hZ.at 4 rfl) rfl rfl rfl (fun u hu => ?_)
 replace hU := hU.add hu
 clear hu
 repeat first|apply wg|refine ss rfl ?_|apply nl
 refine L.cl (nMul_C (hU.at 1 rfl) (hU.at 0 rfl) (fAM.ok (by decide)) (fAK.ok (by decide)) (hS.cons hc) (Nat.le_trans hG hc.len)) rfl rfl ?_
 rintro _ T' hr
 refine ⟨fun _ => let ⟨_, _, k, _⟩ := hr; k, ?_⟩
 unfold ZR at hr
 rw [← Int.pow_add, ← hR1, ← hE1] at hr
 obtain ⟨_, rfl, k', ⟨a9, c9, rfl, w9⟩, _⟩ := hr
 try clear hr
 replace hZ := hZ.cons k'
 replace hc := hc.trans k'
 repeat first|apply wg|refine ss rfl ?_|apply nl
 refine L.nr [.bool false, .slice none 0 0] wT rfl rfl (fun b9 T' g' k' r' => ?_)
 refine L.st2 r' rfl rfl rfl rfl rfl rfl (fun T' kk' r'' => ?_)
 have kx := kk'.mono k' g'
 replace hZ := (hZ.cons kx).add ⟨a9, c9, r'', w9.cons kx⟩
 replace hc := hc.trans kx
 clear kx kk' r'' r' k' g' w9
 repeat first|apply wg|refine ss rfl ?_|apply nl
 replace hU := Us.nil T'
 repeat first|apply wg|refine ss rfl ?_|apply nl
 rw [show (E1 != E1) = false from bne_self_eq_false _]
 repeat first|apply wg|refine ss rfl ?_|apply nl
 refine L.zl (hZ.at 5 rfl) rfl rfl rfl (fun u hu => ?_)
 replace hU := hU.add hu
 clear hu
 repeat first|apply wg|refine ss rfl ?_|apply nl
 refine L.zl (hZ.at 8 rfl) rfl rfl rfl (fun u hu => ?_)
 replace hU := hU.add hu
 clear hu
 repeat first|apply wg|refine ss rfl ?_|apply nl
 refine L.cv (zSame2_C (hU.at 1 rfl) (hU.at 0 rfl)) rfl rfl fun T' k' => ?_
 replace hZ := hZ.cons k'
 replace hc := hc.trans k'
 replace hU := hU.cons k'
 clear k'
 repeat first|apply wg|refine ss rfl ?_|apply nl
 rw [decide_eq_true rfl]
 repeat first|apply wg|refine ss rfl ?_|apply nl
 rw [show (E2 != E2) = false from bne_self_eq_false _]
 repeat first|apply wg|refine ss rfl ?_|apply nl
 replace hU := Us.nil T'
 refine L.zl (hZ.at 6 rfl) rfl rfl rfl (fun u hu => ?_)
 replace hU := hU.add hu
 clear hu
 repeat first|apply wg|refine ss rfl ?_|apply nl
 refine L.zl (hZ.at 7 rfl) rfl rfl rfl (fun u hu => ?_)
 replace hU := hU.add hu
 clear hu
 repeat first|apply wg|refine ss rfl ?_|apply nl
 refine L.cv (zSame2_C (hU.at 1 rfl) (hU.at 0 rfl)) rfl rfl fun T' k' => ?_
 replace hZ := hZ.cons k'
 replace hc := hc.trans k'
 replace hU := hU.cons k'
 clear k'
 repeat first|apply wg|refine ss rfl ?_|apply nl
 rw [decide_eq_true rfl]
 repeat first|apply wg|refine ss rfl ?_|apply nl
 replace hU := Us.nil T'
 refine W.condF rfl ?_
 repeat first|apply wg|refine ss rfl ?_|apply nl
 replace hU := Us.nil T'
 repeat first|apply wg|refine ss rfl ?_|apply nl
 refine L.zl (hZ.at 0 rfl) rfl rfl rfl (fun u hu => ?_)
 replace hU := hU.add hu
 clear hu
 repeat first|apply wg|refine ss rfl ?_|apply nl
 rw [show IntKind.i64.wrap (-1 - (M : Int)) = -1 - (M : Int) from wrap64 (by omega) (by omega)]
 refine L.cl (nInt_C (-1 - (M : Int)) (by omega)) rfl rfl ?_
 rintro u T' ⟨wu, k', _⟩
 refine ⟨fun _ => k', ?_⟩
 replace hZ := hZ.cons k'
 replace hc := hc.trans k'
 replace hU := (hU.cons k').add wu
 clear wu k'
 repeat first|apply wg|refine ss rfl ?_|apply nl
 have fm : Bd 64 (-1 - (M : Int)) := by unfold Bd; omega
 refine L.cl (nPow_C (hU.at 1 rfl) (hU.at 0 rfl) (fA.ok (by decide)) (fm.ok (by decide)) (hS.cons hc) (Nat.le_trans hG hc.len)) rfl rfl ?_
 rintro _ T' hr
 refine ⟨fun _ => let ⟨_, _, k, _⟩ := hr; k, ?_⟩
 rw [if_pos (by omega)] at hr
 unfold ZR at hr
 rw [if_neg (by decide)] at hr
 obtain ⟨_, rfl, k', ⟨a10, c10, rfl, w10⟩, _⟩ := hr
 try clear hr
 replace hZ := hZ.cons k'
 replace hc := hc.trans k'
 repeat first|apply wg|refine ss rfl ?_|apply nl
 refine L.nr [.bool false, .slice none 0 0] wT rfl rfl (fun b10 T' g' k' r' => ?_)
 refine L.st2 r' rfl rfl rfl rfl rfl rfl (fun T' kk' r'' => ?_)
 have kx := kk'.mono k' g'
 replace hZ := (hZ.cons kx).add ⟨a10, c10, r'', w10.cons kx⟩
 replace hc := hc.trans kx
 clear kx kk' r'' r' k' g' w10
 repeat first|apply wg|refine ss rfl ?_|apply nl
 replace hU := Us.nil T'
 repeat first|apply wg|refine ss rfl ?_|apply nl
 refine L.zl (hZ.at 9 rfl) rfl rfl rfl (fun u hu => ?_)
 replace hU := hU.add hu
 clear hu
 repeat first|apply wg|refine ss rfl ?_|apply nl
 refine L.b0 rfl ?_
 repeat first|apply wg|refine ss rfl ?_|apply nl
 refine L.cv (zSame2_C (hU.at 0 rfl) (ZIs.zero _)) rfl rfl fun T' k' => ?_
 replace hZ := hZ.cons k'
 replace hc := hc.trans k'
 replace hU := hU.cons k'
 clear k'
 repeat first|apply wg|refine ss rfl ?_|apply nl
 rw [decide_eq_true rfl]
 repeat first|apply wg|refine ss rfl ?_|apply nl
 refine L.cv (works_C _ (hS.cons hc) (hP.cons hc) (Nat.le_trans hG hc.len)) rfl rfl fun T' k' => ?_
 replace hc := hc.trans k'
 clear k'
 repeat first|apply wg|refine ss rfl ?_|apply nl
 exact ⟨.inr rfl, _, rfl, rfl, kM.trans hc⟩
end Go.Proofs.YtbiigbicgfchiaaGreatDoor

/- The proof of the statement WholeSteps. Conditions: none. -/
namespace Go.Proofs.YtbiigbicgfchiaaGreatDoor.wholeSteps
open Go.ChangeShapes Go.WideShapes Go.ChangeAt Go.RowKit
open Go.ChangeMaps (open_string shut_string)
theorem own : ownKnob Tryz.prog.godebug = none := by kernel_rfl
theorem laidOut : laidOutB Tryz.prog = true := by kernel_rfl
theorem walk (v0 : Value) (a1 : Int) (a2 : Int) (w : World) (hG : gN ≤ w.heap.size) (hR : ∀ N, SinOk (mem0 w N) ∧ PowOk (mem0 w N)) (w0 : ∃ N b l, WholeAt w N v0 b l) (w1 : (Lit.int .i64 a1).wf = true) (w2 : (Lit.int .i64 a2).wf = true) :
  Calls Tryz.prog 4 #[v0, .int .i64 a1, .int .i64 a2] w fun e w' => e = .returned (.bool true) ∧ Below w.heap.size w w' := by
 obtain ⟨N0, b0, l0, _, rfl, ⟨a0, c0, rfl, hk0, hn0, hu0, hw0⟩⟩ := w0
 obtain ⟨N, hN⟩ : ∃ N, N = N0 := ⟨_, rfl⟩
 obtain ⟨hs0, hv0, hf0⟩ := hw0 N (by omega)
 have hx1 : -9223372036854775808 ≤ a1 ∧ a1 ≤ 9223372036854775807 := by simpa [Lit.wf, IntKind.min, IntKind.max, IntKind.signed, IntKind.bits] using w1
 have hx2 : -9223372036854775808 ≤ a2 ∧ a2 ≤ 9223372036854775807 := by simpa [Lit.wf, IntKind.min, IntKind.max, IntKind.signed, IntKind.bits] using w2
 obtain ⟨v, S', hE, rfl, hcons⟩ := (wholeSteps_C (Ext := NoX) b0 a0 c0 l0 a1 a2 (mem0 w N) hs0 (known_lt hk0 hu0) (hR N).1 (hR N).2 (by rw [mem0_len]; omega))
 refine top_true (Checked.mixed Tryz.checked) (fun _ _ _ _ _ h => h.elim) hG (fun a ha => ?_) hE hcons
 simp only [List.mem_cons, List.not_mem_nil, or_false] at ha
 rcases ha with rfl | rfl | rfl
 ·exact VR.agg2 (scalar_VR _ rfl) hv0
 ·exact scalar_VR _ rfl
 ·exact scalar_VR _ rfl
set_option maxRecDepth 100000 in
theorem lifted (os : Os) (started : os.Started) (H : Type) (enc : TypeId × Value → H) :
  ReturnsInHanded {} Tryz.checked os 4 .any (fun w args => (Rows.wholeStepsSpec.pre enc Tryz.prog Tryz.f4 [] false w args ∧ laidMetH Tryz.prog laidL w) ∧ sizedMet enc Tryz.prog Tryz.f4 (OpenSpec.ofChange Rows.wholeStepsSpec) false w args)
   (Rows.wholeStepsSpec.post enc Tryz.prog Tryz.f4 false true false false) := by
 refine returnsInHanded_of_change_and (C := Tryz.checked) (X := fun w _ => laidMetH Tryz.prog laidL w) (fun _ _ _ hh h => h.of_heap hh) own started (by kernel_rfl) Tryz.func4
  (ChangeSpec.witness_shaped (enc := enc) (C := Tryz.checked) (os := os) (X := fun w _ => laidMetH Tryz.prog laidL w) false (World.doorLaid Tryz.prog 400 os) #[.agg #[.bool false, .slice none 0 0], .int .i64 0, .int .i64 0] 8 rfl (World.shaped_of_RefB (by kernel_rfl) (by kernel_rfl)) (by kernel_rfl) (by kernel_rfl) (by kernel_rfl) (door_met os _)) ?_
 intro W base args ds gs before hval0 hW _ _ hL _
 obtain ⟨hG, hR⟩ := of_laid hL
 have hval : ∀ (j : Nat) t v, Tryz.f4.params[j]? = some t → args[j]? = some v → Value.okWide Tryz.prog W .any base t v := hval0
 have hW' := hW
 obtain ⟨p, q, hA0, hV, rfl, hfz, hnd⟩ := hW
 have hA : DataW.TrodAll enc Tryz.prog W 0 (fun _ => true) true Tryz.f4.params.toList args.toList ds p := hA0
 rw [Tryz.params4] at hA hval
 obtain ⟨v0, vs0, d0, ds0, p0, q0, hargs, rfl, rfl, h0, r0⟩ := trodAll_cons hA
 obtain ⟨v1, vs1, d1, ds1, p1, q1, rfl, rfl, rfl, h1, r1⟩ := trodAll_cons r0
 obtain ⟨v2, vs2, d2, ds2, p2, q2, rfl, rfl, rfl, h2, r2⟩ := trodAll_cons r1
 obtain ⟨rfl, rfl, rfl⟩ := trodAll_nil r2
 obtain rfl : args = #[v0, v1, v2] := by cases args; simp_all
 obtain ⟨rfl, rfl⟩ := trodVars_none hV
 have lt0 : ∀ x ∈ p0, x.block < W.heap.size := by obtain ⟨m, hm⟩ := h0; exact DataW.trod_lt m _ _ _ hm
 obtain ⟨a1, rfl, rfl, rfl, w1⟩ := open_int Tryz.underlying3 (hval 1 3 v1 rfl rfl) h1
 obtain ⟨a2, rfl, rfl, rfl, w2⟩ := open_int Tryz.underlying3 (hval 2 3 v2 rfl rfl) h2
 clear hA0 hval0
 refine (walk v0 a1 a2 W hG hR (whole_world (okWide_struct Tryz.underlying24 (hval 0 24 v0 rfl rfl)) h0) w1 w2).mono fun e W' ⟨he, bel⟩ => ?_
 subst he
 exact ⟨_, rfl, _, _, _, [], _, [], hW', trodAll_mk1 (shut_bool Tryz.underlying4 _), (trodAll_cons_mk (Below.trod laidOut (by kernel_rfl) (of_decide_eq_true (by kernel_rfl)) h0 bel lt0) (trodAll_cons_mk (shut_int Tryz.underlying3 w1) (trodAll_cons_mk (shut_int Tryz.underlying3 w2) trodAll_mk0))), rfl, bel.frame _, fun h => by cases h⟩
theorem over : Rows.wholeStepsRow.holds Tryz.pinned (OpenSpec.ofChange Rows.wholeStepsSpec) :=
 OpenClaim.holds_of_wide 4 Tryz.f4 rfl rfl rfl rfl rfl rfl rfl ⟨rfl, rfl, rfl, rfl, rfl⟩ rfl rfl rfl rfl rfl (by kernel_rfl) Tryz.func4 (by kernel_rfl)
  (of_decide_eq_true (by kernel_rfl)) (by unfold Func.isWrapper; first | (rw [if_pos (by decide +kernel)]; kernel_rfl) | (rw [if_neg (by decide +kernel)]; exact ⟨rfl, rfl⟩))
  (fun os started H enc _ => lifted os started H enc)
theorem proved : Rows.WholeStepsCardSaid :=
 Claim7.holds_tied_plain_at .later [] [.data, .data, .data, .data, .data, .data] true (true, "fec42c2c2770d3608b3b87db2f8cdd2caa924e50f3b388b6462229a161397f08") true
  over (fun _ h => by cases h) (by kernel_rfl) (fun _ h => by cases h) wholeSteps_row_tie rfl ⟨rfl, rfl⟩ (by kernel_rfl) rfl
  (fun f fn hf hfn => by
   obtain rfl : f = 4 := Option.some.inj ((show Tryz.prog.funcNamed "vouch/vouchlaw02.WholeSteps" = some 4 by kernel_rfl).symm.trans hf) |>.symm
   obtain rfl : fn = Tryz.f4 := (Option.some.inj (Tryz.func4.symm.trans hfn)).symm
   exact ⟨by kernel_rfl, fun j t ht => by
    rw [Tryz.params4] at ht
    match j, ht with
    | 0, ht =>
     obtain rfl : t = 24 := by simpa using ht.symm
     exact (show Tryz.prog.wantsStandIn 24 = false by kernel_rfl)
    | 1, ht =>
     obtain rfl : t = 3 := by simpa using ht.symm
     exact (show Tryz.prog.wantsStandIn 3 = false by kernel_rfl)
    | 2, ht =>
     obtain rfl : t = 3 := by simpa using ht.symm
     exact (show Tryz.prog.wantsStandIn 3 = false by kernel_rfl)
    | j + 3, ht => simp at ht⟩)
  (by kernel_rfl)
end Go.Proofs.YtbiigbicgfchiaaGreatDoor.wholeSteps
