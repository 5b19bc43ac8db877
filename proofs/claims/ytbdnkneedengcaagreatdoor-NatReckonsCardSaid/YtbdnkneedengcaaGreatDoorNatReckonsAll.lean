/- The proof of the statement NatReckons. Conditions: none. -/
import Derived.Test.YtbdnkneedengcaaGreatDoorLibG
import Derived.Test.YtbdnkneedengcaaGreatDoorRows
import Derived.Test.YtbdnkneedengcaaGreatDoorTie
import Derived.Test.YtbdnkneedengcaaGreatDoorCards
import Derived.SevenTiedAt
import Derived.WalkKit
import Derived.ProofKit
import Derived.OpenShut
import Derived.ShutString
import Derived.ChangeOld
import Derived.Below

/- The law of reckoning, walked. Conditions: the tables lie in memory. -/
set_option linter.unusedSimpArgs false
set_option linter.unusedVariables false
set_option maxRecDepth 100000
set_option maxHeartbeats 4000000
set_option exponentiation.threshold 20000
namespace Go.Proofs.YtbdnkneedengcaaGreatDoor
open Go Ie
variable {Ext : FuncId → List Value → Mem → Outc → Mem → Prop}
/-! ### lengths -/
theorem toldL_len (l : WL) : (toldL l).length ≤ 128 := by
  unfold toldL
  split
  · rename_i h; exact of_decide_eq_true h
  · exact Nat.zero_le _
theorem addL_len (l m : WL) : (addL l m).length ≤ 128 := by
  unfold addL
  split
  · exact toldL_len _
  · exact Nat.zero_le _
theorem mulL_len (l m : WL) : (mulL l m).length ≤ 128 := by
  unfold mulL
  split
  · exact toldL_len _
  · exact Nat.zero_le _
theorem subL_len (l m : WL) : (subL l m).length ≤ 128 := by
  unfold subL
  split
  · split
    · exact Nat.zero_le _
    · exact toldL_len _
  · exact Nat.zero_le _
theorem toW_le {N : Nat} (h : N < 2 ^ 8192) : (toW N).length ≤ 128 := (toW_len N 128).2 h
theorem divQ_len (l m : WL) : (divQ l m).length ≤ 128 := by
  unfold divQ
  split
  · rename_i h
    rw [Bool.and_eq_true, small_num, small_num] at h
    have h1 := of_decide_eq_true h.1
    split
    · exact Nat.zero_le _
    · exact toW_le (Nat.lt_of_le_of_lt (Nat.div_le_self _ _) h1)
  · exact Nat.zero_le _
theorem divM_len (l m : WL) : (divM l m).length ≤ 128 := by
  unfold divM
  split
  · rename_i h
    rw [Bool.and_eq_true, small_num, small_num] at h
    have h1 := of_decide_eq_true h.1
    split
    · exact Nat.zero_le _
    · exact toW_le (Nat.lt_of_le_of_lt (Nat.mod_le _ _) h1)
  · exact Nat.zero_le _
theorem gcdL_len (l m : WL) : (gcdL l m).length ≤ 128 := by
  unfold gcdL
  split
  · rename_i h
    rw [Bool.and_eq_true] at h
    have h1 := gcd_small h.1 h.2
    rw [small_num, wnum_toW] at h1
    exact toW_le (of_decide_eq_true h1)
  · exact Nat.zero_le _
/-! ### the same answer twice -/
theorem sameE_C (a1 a2 : Option Addr) (c1 c2 : Nat) (l : WL) (E : Int) (S : Mem) (h1 : WIn S a1 c1 l) (h2 : WIn S a2 c2 l) :
    C Tryz.prog gN Ext 22 [.slice a1 l.length c1, .int .i64 E, .slice a2 l.length c2, .int .i64 E] S fun v S' => v = .bool true ∧ S' = S := by
  refine C.fn Tryz.func22 rfl (by kernel_rfl) rfl ?_
  have hE : (E == E) = true := beq_self_eq_true E
  repeat first|refine W.g ?_|refine L.p rfl rfl ?_|refine L.nil ?_|refine L.skip rfl ?_
  rw [hE]
  repeat first|refine W.g ?_|refine L.p rfl rfl ?_|refine L.nil ?_|refine L.skip rfl ?_
  refine L.cl (sameW_C _ _ l l l.length l.length S h1.1 h2.1 h1.2.2.2 h1.2.2.2) rfl rfl ?_
  rintro _ M ⟨rfl, hM⟩
  have hM := hM.symm
  subst hM
  refine ⟨fun _ => Cons.refl _, ?_⟩
  rw [beq_self_eq_true (l : WL)]
  repeat first|refine W.g ?_|refine L.p rfl rfl ?_|refine L.nil ?_|refine L.skip rfl ?_
  exact ⟨.inr rfl, _, rfl, rfl, rfl⟩
theorem lent_win {S : Mem} {b : Nat} {l : WL} (h : S.row? b = some (grownR (wv (l ++ marksW 16)) 55 1)) (hl : l.length < 4294967296) : WIn S (some ⟨b, 0, none⟩) (UNK + (l.length + 16)) l := by
  refine ⟨?_, by rw [knownCap_unk]; omega, nofun, by omega⟩
  have := Slv.of (sz := 1) (n := l.length) (o := 0) (c := UNK + (l.length + 16)) h (by simp [grownR, wv]) (.inl rfl)
  rwa [List.drop_zero, show ((grownR (wv (l ++ marksW 16)) 55 1).cells.take (l.length * 1)) = wv l by simp [grownR, wv]] at this
theorem natReckons_C (a0 a1 : Option Addr) (c0 c1 : Nat) (l0 l1 : WL) (S : Mem) (h0 : WPre S a0 c0 l0) (h1 : WPre S a1 c1 l1) (hS : SinOk S) (hP : PowOk S) (hG : gN ≤ S.length) :
    C Tryz.prog gN Ext 3 [.slice a0 l0.length c0, .slice a1 l1.length c1] S fun v S' => v = .bool true ∧ Cons S S' := by
  refine C.fn Tryz.func3 rfl (by kernel_rfl) rfl ?_
  repeat first|refine W.g ?_|refine L.p rfl rfl ?_|refine L.nil ?_|refine L.skip rfl ?_
  cases hg0 : decide ((l0.length : Int) > 300)
  case true =>
    repeat first|refine W.g ?_|refine L.p rfl rfl ?_|refine L.nil ?_|refine L.skip rfl ?_
    refine W.ite rfl (fun h => ?_) (fun h => ?_)
    · repeat first|refine W.g ?_|refine L.p rfl rfl ?_|refine L.nil ?_|refine L.skip rfl ?_
      exact ⟨.inr rfl, _, rfl, rfl, Cons.refl _⟩
    · cases h
  repeat first|refine W.g ?_|refine L.p rfl rfl ?_|refine L.nil ?_|refine L.skip rfl ?_
  cases hg1 : decide ((l1.length : Int) > 300)
  case true =>
    repeat first|refine W.g ?_|refine L.p rfl rfl ?_|refine L.nil ?_|refine L.skip rfl ?_
    refine W.ite rfl (fun h => ?_) (fun h => ?_)
    · repeat first|refine W.g ?_|refine L.p rfl rfl ?_|refine L.nil ?_|refine L.skip rfl ?_
      exact ⟨.inr rfl, _, rfl, rfl, Cons.refl _⟩
    · cases h
  repeat first|refine W.g ?_|refine L.p rfl rfl ?_|refine L.nil ?_|refine L.skip rfl ?_
  refine W.ite rfl (fun h => ?_) (fun h => ?_)
  · cases h
  clear h
  have hn0 : l0.length ≤ 300 := by have := of_decide_eq_false hg0; omega
  have hn1 : l1.length ≤ 300 := by have := of_decide_eq_false hg1; omega
  clear hg0 hg1
  replace h0 := h0.win (by omega)
  replace h1 := h1.win (by omega)
  repeat first|refine W.g ?_|refine L.p rfl rfl ?_|refine L.nil ?_|refine L.skip rfl ?_
  refine L.cl (lentW_C _ l0 S h0.1 (by omega)) rfl rfl ?_
  rintro _ S1 ⟨k1, x, hx, rfl, hr0⟩
  refine ⟨fun _ => k1, ?_⟩
  repeat first|refine W.g ?_|refine L.p rfl rfl ?_|refine L.nil ?_|refine L.skip rfl ?_
  refine L.cl (lentW_C _ l1 S1 (h1.cons k1).1 (by omega)) rfl rfl ?_
  rintro _ M0 ⟨k2, y, hy, rfl, hr1⟩
  refine ⟨fun _ => k2, ?_⟩
  replace hr0 := Cons.row (h := k2) hr0
  have kS := k1.trans k2
  clear k1 k2 hx hy
  replace h0 := h0.cons kS
  replace h1 := h1.cons kS
  replace hS := hS.cons kS
  replace hP := hP.cons kS
  replace hG := Nat.le_trans hG kS.len
  have hx := lent_win hr0 (by omega)
  have hy := lent_win hr1 (by omega)
  repeat first|refine W.g ?_|refine L.p rfl rfl ?_|refine L.nil ?_|refine L.skip rfl ?_
  refine L.eff (v := .pointer (some ⟨M0.length, 0, none⟩)) (S1 := M0 ++ [newR [.slice none 0 0, .slice none 0 0] 27]) rfl rfl ?_
  have hB := BkP.new M0
  obtain ⟨T0, hT0⟩ : ∃ T0, T0 = M0 ++ [newR [.slice none 0 0, .slice none 0 0] 27] := ⟨_, rfl⟩
  rw [← hT0] at hB ⊢
  clear hT0
  repeat first|refine W.g ?_|refine L.p rfl rfl ?_|refine L.nil ?_|refine L.skip rfl ?_
  refine W.loop (fun j e T => ∃ (i : Nat) (ws : List Hd), j = 2 - i ∧ i ≤ 2 ∧ ws.length = 7 * i ∧ BkP M0 T M0.length ws [] ∧ e 0 = .slice a0 l0.length c0 ∧ e 1 = .slice a1 l1.length c1 ∧ e 5 = .slice (some ⟨x, 0, none⟩) l0.length (UNK + (l0.length + 16)) ∧ e 6 = .slice (some ⟨y, 0, none⟩) l1.length (UNK + (l1.length + 16)) ∧ e 7 = .pointer (some ⟨M0.length, 0, none⟩) ∧ e 8 = vi i) 2
    ⟨0, [], by omega, by omega, rfl, hB, rfl, rfl, rfl, rfl, rfl, rfl⟩ ?_
  clear hB T0
  rintro j e T ⟨i, ws, rfl, hi, hws, hB, e0, e1, e5, e6, e7, e8⟩
  refine W.env6 e0 e1 e5 e6 e7 e8 ?_
  repeat first|refine W.g ?_|refine L.p rfl rfl ?_|refine L.nil ?_|refine L.skip rfl ?_
  refine W.ite rfl (fun h => ?_) (fun h => ?_)
  · have hil : i < 2 := by simp at h; omega
    clear h
    repeat first|refine W.g ?_|refine L.p rfl rfl ?_|refine L.nil ?_|refine L.skip rfl ?_
    refine L.cl (norm_C _ _ l0 T (hx.cons hB.1)) rfl rfl ?_
    rintro _ T1 ⟨d1, rfl, r1⟩
    refine ⟨fun _ => r1.1, ?_⟩
    rw [r1.val]
    replace hB := hB.add r1 (Nat.le_trans (toldL_len _) (by decide))
    have w1 := r1.win
    have hk1 := r1.1
    repeat first|refine W.g ?_|refine L.p rfl rfl ?_|refine L.nil ?_|refine L.skip rfl ?_
    refine L.cl (natAdd_C _ _ _ _ l0 l1 T1 (hx.cons hB.1) (hy.cons hB.1)) rfl rfl ?_
    rintro _ T2 ⟨d2, rfl, r2⟩
    refine ⟨fun _ => r2.1, ?_⟩
    rw [r2.val]
    replace hB := hB.add r2 (Nat.le_trans (addL_len _ _) (by decide))
    have w2 := r2.win
    have hk2 := r2.1
    repeat first|refine W.g ?_|refine L.p rfl rfl ?_|refine L.nil ?_|refine L.skip rfl ?_
    refine L.cl (natSub_C _ _ _ _ l0 l1 T2 (hx.cons hB.1) (hy.cons hB.1)) rfl rfl ?_
    rintro _ T3 ⟨d3, rfl, r3⟩
    refine ⟨fun _ => r3.1, ?_⟩
    rw [r3.val]
    replace hB := hB.add r3 (Nat.le_trans (subL_len _ _) (by decide))
    have w3 := r3.win
    have hk3 := r3.1
    repeat first|refine W.g ?_|refine L.p rfl rfl ?_|refine L.nil ?_|refine L.skip rfl ?_
    refine L.cl (mul_C _ _ _ _ l0 l1 T3 (hx.cons hB.1) (hy.cons hB.1) (hS.cons hB.1) (Nat.le_trans hG hB.1.len)) rfl rfl ?_
    rintro _ T4 ⟨d4, rfl, r4⟩
    refine ⟨fun _ => r4.1, ?_⟩
    rw [r4.val]
    replace hB := hB.add r4 (Nat.le_trans (mulL_len _ _) (by decide))
    have w4 := r4.win
    have hk4 := r4.1
    repeat first|refine W.g ?_|refine L.p rfl rfl ?_|refine L.nil ?_|refine L.skip rfl ?_
    refine L.cl (natDiv_C _ _ _ _ l0 l1 T4 (hx.cons hB.1) (hy.cons hB.1)) rfl rfl ?_
    rintro _ T5 ⟨d5, d55, rfl, r5, r55, hap⟩
    refine ⟨fun _ => r5.1, ?_⟩
    rw [r5.val, r55.val]
    replace hB := hB.add2 r5 r55 hap (Nat.le_trans (divQ_len _ _) (by decide)) (Nat.le_trans (divM_len _ _) (by decide))
    have w5 := r5.win
    have w55 := r55.win
    have hk5 := r5.1
    repeat first|refine W.g ?_|refine L.p rfl rfl ?_|refine L.nil ?_|refine L.skip rfl ?_
    refine L.cl (natGcd_C _ _ _ _ l0 l1 T5 (hx.cons hB.1) (hy.cons hB.1)) rfl rfl ?_
    rintro _ T6 ⟨d6, rfl, r6⟩
    refine ⟨fun _ => r6.1, ?_⟩
    rw [r6.val]
    replace hB := hB.add r6 (Nat.le_trans (gcdL_len _ _) (by decide))
    have w6 := r6.win
    have hk6 := r6.1
    repeat first|refine W.g ?_|refine L.p rfl rfl ?_|refine L.nil ?_|refine L.skip rfl ?_
    refine L.cl (keptW_C _ l0 x _ _ (Cons.row (h := hB.1) hr0) rfl rfl (h0.cons hB.1).1 (by omega)) rfl rfl ?_
    rintro _ M ⟨rfl, hM⟩
    have hM := hM.symm
    subst hM
    refine ⟨fun _ => Cons.refl _, ?_⟩
    repeat first|refine W.g ?_|refine L.p rfl rfl ?_|refine L.nil ?_|refine L.skip rfl ?_
    refine L.cl (keptW_C _ l1 y _ _ (Cons.row (h := hB.1) hr1) rfl rfl (h1.cons hB.1).1 (by omega)) rfl rfl ?_
    rintro _ M ⟨rfl, hM⟩
    have hM := hM.symm
    subst hM
    refine ⟨fun _ => Cons.refl _, ?_⟩
    repeat first|refine W.g ?_|refine L.p rfl rfl ?_|refine L.nil ?_|refine L.skip rfl ?_
    refine W.ite rfl (fun h => ?_) (fun h => ?_)
    · cases h
    clear h
    repeat first|refine W.g ?_|refine L.p rfl rfl ?_|refine L.nil ?_|refine L.skip rfl ?_
    refine L.cl (refNorm_C _ _ l0 T6 (h0.cons hB.1) (by omega)) rfl rfl ?_
    rintro _ T7 ⟨a7, c7, rfl, hk7, w7⟩
    refine ⟨fun _ => hk7, ?_⟩
    replace hB := hB.cons hk7
    repeat first|refine W.g ?_|refine L.p rfl rfl ?_|refine L.nil ?_|refine L.skip rfl ?_
    refine L.cl (refAdd_C _ _ _ _ l0 l1 T7 (h0.cons hB.1) (h1.cons hB.1) (by omega) (by omega)) rfl rfl ?_
    rintro _ T8 ⟨a8, c8, rfl, hk8, w8⟩
    refine ⟨fun _ => hk8, ?_⟩
    replace hB := hB.cons hk8
    repeat first|refine W.g ?_|refine L.p rfl rfl ?_|refine L.nil ?_|refine L.skip rfl ?_
    refine L.cl (refSub_C _ _ _ _ l0 l1 T8 (h0.cons hB.1) (h1.cons hB.1) (by omega) (by omega)) rfl rfl ?_
    rintro _ T9 ⟨a9, c9, rfl, hk9, w9⟩
    refine ⟨fun _ => hk9, ?_⟩
    replace hB := hB.cons hk9
    repeat first|refine W.g ?_|refine L.p rfl rfl ?_|refine L.nil ?_|refine L.skip rfl ?_
    refine L.cl (refMul_C _ _ _ _ l0 l1 T9 (h0.cons hB.1) (h1.cons hB.1) (by omega) (by omega)) rfl rfl ?_
    rintro _ T10 ⟨a10, c10, rfl, hk10, w10⟩
    refine ⟨fun _ => hk10, ?_⟩
    replace hB := hB.cons hk10
    repeat first|refine W.g ?_|refine L.p rfl rfl ?_|refine L.nil ?_|refine L.skip rfl ?_
    refine L.cl (refDiv_C _ _ _ _ l0 l1 T10 (h0.cons hB.1) (h1.cons hB.1) (by omega) (by omega)) rfl rfl ?_
    rintro _ T11 ⟨a11, a111, c11, c111, rfl, hk11, w11, w111⟩
    refine ⟨fun _ => hk11, ?_⟩
    replace hB := hB.cons hk11
    repeat first|refine W.g ?_|refine L.p rfl rfl ?_|refine L.nil ?_|refine L.skip rfl ?_
    refine L.cl (refGcd_C _ _ _ _ l0 l1 T11 (h0.cons hB.1) (h1.cons hB.1) (by omega) (by omega)) rfl rfl ?_
    rintro _ T12 ⟨a12, c12, rfl, hk12, w12⟩
    refine ⟨fun _ => hk12, ?_⟩
    replace hB := hB.cons hk12
    repeat first|refine W.g ?_|refine L.p rfl rfl ?_|refine L.nil ?_|refine L.skip rfl ?_
    have K11 := hk12
    have K10 := hk11.trans K11
    have K9 := hk10.trans K10
    have K8 := hk9.trans K9
    have K7 := hk8.trans K8
    have K6 := hk7.trans K7
    have K5 := hk6.trans K6
    have K4 := hk5.trans K5
    have K3 := hk4.trans K4
    have K2 := hk3.trans K3
    have K1 := hk2.trans K2
    clear hk1 hk2 hk3 hk4 hk5 hk6 hk7 hk8 hk9 hk10 hk11 hk12
    refine L.cl (sameE_C _ _ _ _ _ _ T12 (w1.cons K1) (w7.cons K7)) rfl rfl ?_
    rintro _ M ⟨rfl, hM⟩
    have hM := hM.symm
    subst hM
    refine ⟨fun _ => Cons.refl _, ?_⟩
    repeat first|refine W.g ?_|refine L.p rfl rfl ?_|refine L.nil ?_|refine L.skip rfl ?_
    refine L.cl (sameE_C _ _ _ _ _ _ T12 (w2.cons K2) (w8.cons K8)) rfl rfl ?_
    rintro _ M ⟨rfl, hM⟩
    have hM := hM.symm
    subst hM
    refine ⟨fun _ => Cons.refl _, ?_⟩
    repeat first|refine W.g ?_|refine L.p rfl rfl ?_|refine L.nil ?_|refine L.skip rfl ?_
    refine L.cl (sameE_C _ _ _ _ _ _ T12 (w3.cons K3) (w9.cons K9)) rfl rfl ?_
    rintro _ M ⟨rfl, hM⟩
    have hM := hM.symm
    subst hM
    refine ⟨fun _ => Cons.refl _, ?_⟩
    repeat first|refine W.g ?_|refine L.p rfl rfl ?_|refine L.nil ?_|refine L.skip rfl ?_
    refine L.cl (sameE_C _ _ _ _ _ _ T12 (w4.cons K4) (w10.cons K10)) rfl rfl ?_
    rintro _ M ⟨rfl, hM⟩
    have hM := hM.symm
    subst hM
    refine ⟨fun _ => Cons.refl _, ?_⟩
    repeat first|refine W.g ?_|refine L.p rfl rfl ?_|refine L.nil ?_|refine L.skip rfl ?_
    refine L.cl (sameE_C _ _ _ _ _ _ T12 (w5.cons K5) (w11.cons K11)) rfl rfl ?_
    rintro _ M ⟨rfl, hM⟩
    have hM := hM.symm
    subst hM
    refine ⟨fun _ => Cons.refl _, ?_⟩
    repeat first|refine W.g ?_|refine L.p rfl rfl ?_|refine L.nil ?_|refine L.skip rfl ?_
    refine L.cl (sameE_C _ _ _ _ _ _ T12 (w55.cons K5) (w111.cons K11)) rfl rfl ?_
    rintro _ M ⟨rfl, hM⟩
    have hM := hM.symm
    subst hM
    refine ⟨fun _ => Cons.refl _, ?_⟩
    repeat first|refine W.g ?_|refine L.p rfl rfl ?_|refine L.nil ?_|refine L.skip rfl ?_
    refine L.cl (sameE_C _ _ _ _ _ _ T12 (w6.cons K6) w12) rfl rfl ?_
    rintro _ M ⟨rfl, hM⟩
    have hM := hM.symm
    subst hM
    refine ⟨fun _ => Cons.refl _, ?_⟩
    repeat first|refine W.g ?_|refine L.p rfl rfl ?_|refine L.nil ?_|refine L.skip rfl ?_
    refine W.ite rfl (fun h => ?_) (fun h => ?_)
    · cases h
    clear h w1 w2 w3 w4 w5 w6 w7 w8 w9 w10 w11 w12 w55 w111 K1 K2 K3 K4 K5 K6 K7 K8 K9 K10 K11
    repeat first|refine W.g ?_|refine L.p rfl rfl ?_|refine L.nil ?_|refine L.skip rfl ?_
    replace hB : BkP M0 T12 M0.length ws [d1, d2, d3, d4, d5, d55, d6] := hB
    rw [← RetW.val r1]
    refine L.cl (words_BkP hB (by first | omega | (simp; omega))) rfl rfl ?_
    rintro _ T hB'
    refine ⟨nofun, ?_⟩
    replace hB := hB'
    clear hB'
    repeat first|refine W.g ?_|refine L.p rfl rfl ?_|refine L.nil ?_|refine L.skip rfl ?_
    rw [← RetW.val r2]
    refine L.cl (words_BkP hB (by first | omega | (simp; omega))) rfl rfl ?_
    rintro _ T hB'
    refine ⟨nofun, ?_⟩
    replace hB := hB'
    clear hB'
    repeat first|refine W.g ?_|refine L.p rfl rfl ?_|refine L.nil ?_|refine L.skip rfl ?_
    rw [← RetW.val r3]
    refine L.cl (words_BkP hB (by first | omega | (simp; omega))) rfl rfl ?_
    rintro _ T hB'
    refine ⟨nofun, ?_⟩
    replace hB := hB'
    clear hB'
    repeat first|refine W.g ?_|refine L.p rfl rfl ?_|refine L.nil ?_|refine L.skip rfl ?_
    rw [← RetW.val r4]
    refine L.cl (words_BkP hB (by first | omega | (simp; omega))) rfl rfl ?_
    rintro _ T hB'
    refine ⟨nofun, ?_⟩
    replace hB := hB'
    clear hB'
    repeat first|refine W.g ?_|refine L.p rfl rfl ?_|refine L.nil ?_|refine L.skip rfl ?_
    rw [← RetW.val r5]
    refine L.cl (words_BkP hB (by first | omega | (simp; omega))) rfl rfl ?_
    rintro _ T hB'
    refine ⟨nofun, ?_⟩
    replace hB := hB'
    clear hB'
    repeat first|refine W.g ?_|refine L.p rfl rfl ?_|refine L.nil ?_|refine L.skip rfl ?_
    rw [← RetW.val r55]
    refine L.cl (words_BkP hB (by first | omega | (simp; omega))) rfl rfl ?_
    rintro _ T hB'
    refine ⟨nofun, ?_⟩
    replace hB := hB'
    clear hB'
    repeat first|refine W.g ?_|refine L.p rfl rfl ?_|refine L.nil ?_|refine L.skip rfl ?_
    rw [← RetW.val r6]
    refine L.cl (words_BkP hB (by first | omega | (simp; omega))) rfl rfl ?_
    rintro _ T hB'
    refine ⟨nofun, ?_⟩
    replace hB := hB'
    clear hB'
    repeat first|refine W.g ?_|refine L.p rfl rfl ?_|refine L.nil ?_|refine L.skip rfl ?_
    refine ⟨2 - (i + 1), by omega, i + 1, _, rfl, by omega, ?_, hB, rfl, rfl, rfl, rfl, rfl, ?_⟩
    · simp; omega
    · refine (force_eq rfl).trans ?_
      rw [wrap64 (by omega) (by omega)]; rfl
  · have hil : i = 2 := by simp at h; omega
    subst hil
    clear h
    repeat first|refine W.g ?_|refine L.p rfl rfl ?_|refine L.nil ?_|refine L.skip rfl ?_
    have kM := hB.1
    refine L.cl (natCmp_C _ _ _ _ l0 l1 T (hx.cons kM) (hy.cons kM)) rfl rfl ?_
    rintro _ M ⟨rfl, hM⟩
    have hM := hM.symm
    subst hM
    refine ⟨fun _ => Cons.refl _, ?_⟩
    repeat first|refine W.g ?_|refine L.p rfl rfl ?_|refine L.nil ?_|refine L.skip rfl ?_
    refine L.cl (compareR_C _ _ _ _ l0 l1 T (h0.cons kM) (h1.cons kM) (by omega) (by omega)) rfl rfl ?_
    rintro _ T1 ⟨rfl, k1⟩
    refine ⟨fun _ => k1, ?_⟩
    replace hB := hB.cons k1
    have kM1 := kM.trans k1
    repeat first|refine W.g ?_|refine L.p rfl rfl ?_|refine L.nil ?_|refine L.skip rfl ?_
    rw [show (cmpI ((wnum l0 : Nat) : Int) ((wnum l1 : Nat) : Int) != cmpI ((wnum l0 : Nat) : Int) ((wnum l1 : Nat) : Int)) = false from bne_self_eq_false _]
    repeat first|refine W.g ?_|refine L.p rfl rfl ?_|refine L.nil ?_|refine L.skip rfl ?_
    refine L.cl (bits_C _ _ l0 T1 (hx.cons kM1)) rfl rfl ?_
    rintro _ M ⟨rfl, hM⟩
    have hM := hM.symm
    subst hM
    refine ⟨fun _ => Cons.refl _, ?_⟩
    repeat first|refine W.g ?_|refine L.p rfl rfl ?_|refine L.nil ?_|refine L.skip rfl ?_
    refine L.cl (length_C _ _ l0 T1 (h0.cons kM1) (by omega)) rfl rfl ?_
    rintro _ T2 ⟨rfl, k2⟩
    refine ⟨fun _ => k2, ?_⟩
    replace hB := hB.cons k2
    have kM2 := kM1.trans k2
    repeat first|refine W.g ?_|refine L.p rfl rfl ?_|refine L.nil ?_|refine L.skip rfl ?_
    rw [show (((blen (wnum l0) : Nat) : Int) != ((blen (wnum l0) : Nat) : Int)) = false from bne_self_eq_false _]
    repeat first|refine W.g ?_|refine L.p rfl rfl ?_|refine L.nil ?_|refine L.skip rfl ?_
    refine L.cl (natCmp_C _ _ _ _ l0 l0 T2 (hx.cons kM2) (hx.cons kM2)) rfl rfl ?_
    rintro _ M ⟨rfl, hM⟩
    have hM := hM.symm
    subst hM
    refine ⟨fun _ => Cons.refl _, ?_⟩
    repeat first|refine W.g ?_|refine L.p rfl rfl ?_|refine L.nil ?_|refine L.skip rfl ?_
    rw [show cmpI ((wnum l0 : Nat) : Int) ((wnum l0 : Nat) : Int) = 0 by unfold cmpI; rw [if_neg (by omega), if_neg (by omega)]]
    repeat first|refine W.g ?_|refine L.p rfl rfl ?_|refine L.nil ?_|refine L.skip rfl ?_
    refine W.ite rfl (fun h => ?_) (fun h => ?_)
    · cases h
    clear h
    repeat first|refine W.g ?_|refine L.p rfl rfl ?_|refine L.nil ?_|refine L.skip rfl ?_
    refine L.cl (apart_BkP hB (by omega)) rfl rfl ?_
    rintro _ T3 ⟨rfl, k3⟩
    refine ⟨nofun, ?_⟩
    repeat first|refine W.g ?_|refine L.p rfl rfl ?_|refine L.nil ?_|refine L.skip rfl ?_
    refine L.cl (keptW_C _ l0 x _ _ (Cons.row (h := k3) hr0) rfl rfl (h0.cons k3).1 (by omega)) rfl rfl ?_
    rintro _ M ⟨rfl, hM⟩
    have hM := hM.symm
    subst hM
    refine ⟨fun _ => Cons.refl _, ?_⟩
    repeat first|refine W.g ?_|refine L.p rfl rfl ?_|refine L.nil ?_|refine L.skip rfl ?_
    refine L.cl (keptW_C _ l1 y _ _ (Cons.row (h := k3) hr1) rfl rfl (h1.cons k3).1 (by omega)) rfl rfl ?_
    rintro _ M ⟨rfl, hM⟩
    have hM := hM.symm
    subst hM
    refine ⟨fun _ => Cons.refl _, ?_⟩
    repeat first|refine W.g ?_|refine L.p rfl rfl ?_|refine L.nil ?_|refine L.skip rfl ?_
    refine L.cl (works_C T3 (hS.cons k3) (hP.cons k3) (Nat.le_trans hG k3.len)) rfl rfl ?_
    rintro _ T4 ⟨rfl, k4⟩
    refine ⟨fun _ => k4, ?_⟩
    repeat first|refine W.g ?_|refine L.p rfl rfl ?_|refine L.nil ?_|refine L.skip rfl ?_
    exact ⟨.inr rfl, _, rfl, rfl, (kS.trans k3).trans k4⟩
end Go.Proofs.YtbdnkneedengcaaGreatDoor

/- The proof of the statement NatReckons. Conditions: none. -/
namespace Go.Proofs.YtbdnkneedengcaaGreatDoor.natReckons
open Go.ChangeShapes Go.WideShapes Go.ChangeAt Go.RowKit
open Go.ChangeMaps (open_string shut_string)
set_option linter.unusedVariables false

theorem own : ownKnob Tryz.prog.godebug = none := by kernel_rfl
theorem laidOut : laidOutB Tryz.prog = true := by kernel_rfl

theorem walk (a0 : Option Addr) (len0 cap0 : Nat) (z0 : List Int) (a1 : Option Addr) (len1 cap1 : Nat) (z1 : List Int) (w : World) (hG : gN ≤ w.heap.size) (hR : ∀ N, SinOk (mem0 w N) ∧ PowOk (mem0 w N)) (w0 : IsRow .u64 w a0 len0 cap0 z0) (hb0 : ∀ x, a0 = some x → x.block < w.heap.size) (w1 : IsRow .u64 w a1 len1 cap1 z1) (hb1 : ∀ x, a1 = some x → x.block < w.heap.size) :
    Calls Tryz.prog 3 #[.slice a0 len0 cap0, .slice a1 len1 cap1] w fun e w' => e = .returned (.bool true) ∧ Below w.heap.size w w' := by
  obtain ⟨hs0, hv0, hl0, hc0, hwf0⟩ := world_ints (N := 0) w0 (by simpa using hb0)
  have hcc0 := row_cap w0
  have hf0 : ∀ x, a0 = some x → x.block < (mem0 w).length := fun x hx => by rw [mem0_len]; have := hb0 x hx; omega
  obtain ⟨l0, hll0, hbl0⟩ := words_of z0 len0 hwf0 hl0
  rw [← hbl0] at hs0
  subst hll0
  obtain ⟨hs1, hv1, hl1, hc1, hwf1⟩ := world_ints (N := 0) w1 (by simpa using hb1)
  have hcc1 := row_cap w1
  have hf1 : ∀ x, a1 = some x → x.block < (mem0 w).length := fun x hx => by rw [mem0_len]; have := hb1 x hx; omega
  obtain ⟨l1, hll1, hbl1⟩ := words_of z1 len1 hwf1 hl1
  rw [← hbl1] at hs1
  subst hll1
  obtain ⟨v, S', hE, rfl, hcons⟩ := (natReckons_C (Ext := NoX) a0 a1 cap0 cap1 l0 l1 (mem0 w) (row_pre w0 hs0) (row_pre w1 hs1) (hR 0).1 (hR 0).2 (by rw [mem0_len]; omega))
  refine top_true (Checked.mixed Tryz.checked) (fun _ _ _ _ _ h => h.elim) hG (fun a ha => ?_) hE hcons
  simp only [List.mem_cons, List.not_mem_nil, or_false] at ha
  rcases ha with rfl | rfl
  · exact hv0
  · exact hv1

set_option maxRecDepth 100000 in
theorem lifted (os : Os) (started : os.Started) (H : Type) (enc : TypeId × Value → H) :
    ReturnsInHanded {} Tryz.checked os 3 .any (fun w args => (Rows.natReckonsSpec.pre enc Tryz.prog Tryz.f3 [] false w args ∧ laidMetH Tryz.prog laidL w) ∧ sizedMet enc Tryz.prog Tryz.f3 (OpenSpec.ofChange Rows.natReckonsSpec) false w args)
      (Rows.natReckonsSpec.post enc Tryz.prog Tryz.f3 false true false false) := by
  refine returnsInHanded_of_change_and (C := Tryz.checked) (X := fun w _ => laidMetH Tryz.prog laidL w) (fun _ _ _ hh h => h.of_heap hh) own started (by kernel_rfl) Tryz.func3
    (ChangeSpec.witness_shaped (enc := enc) (C := Tryz.checked) (os := os) (X := fun w _ => laidMetH Tryz.prog laidL w) false (World.doorLaid Tryz.prog 400 os) #[.slice none 0 0, .slice none 0 0] 8 rfl (World.shaped_of_RefB (by kernel_rfl) (by kernel_rfl)) (by kernel_rfl) (by kernel_rfl) (by kernel_rfl) (door_met os _)) ?_
  intro W base args ds gs before hval0 hW _ _ hL _
  obtain ⟨hG, hR⟩ := of_laid hL
  have hval : ∀ (j : Nat) t v, Tryz.f3.params[j]? = some t → args[j]? = some v → Value.okWide Tryz.prog W .any base t v := hval0
  have hW' := hW
  obtain ⟨p, q, hA0, hV, rfl, hfz, hnd⟩ := hW
  have hA : DataW.TrodAll enc Tryz.prog W 0 (fun _ => true) true Tryz.f3.params.toList args.toList ds p := hA0
  rw [Tryz.params3] at hA hval
  obtain ⟨v0, vs0, d0, ds0, p0, q0, hargs, rfl, rfl, h0, r0⟩ := trodAll_cons hA
  obtain ⟨v1, vs1, d1, ds1, p1, q1, rfl, rfl, rfl, h1, r1⟩ := trodAll_cons r0
  obtain ⟨rfl, rfl, rfl⟩ := trodAll_nil r1
  obtain rfl : args = #[v0, v1] := by cases args; simp_all
  obtain ⟨rfl, rfl⟩ := trodVars_none hV
  obtain ⟨a0, len0, cap0, rfl⟩ := okWide_slice Tryz.underlying22 (hval 0 22 v0 rfl rfl)
  have hb0 : ∀ x, a0 = some x → x.block < W.heap.size := by rintro x rfl; exact okWide_block Tryz.underlying22 (hval 0 22 _ rfl rfl)
  have k0 := h0
  have lt0 : ∀ x ∈ p0, x.block < W.heap.size := by obtain ⟨m, hm⟩ := k0; exact DataW.trod_lt m _ _ _ hm
  obtain ⟨z0, w0⟩ : ∃ zs, IsRow .u64 W a0 len0 cap0 zs := by
    obtain ⟨fuel, hf⟩ := h0
    rcases open_ints Tryz.underlying22 Tryz.underlying55 (by kernel_rfl) hf with ⟨hcs, _⟩ | ⟨x, l, c, zs, hcs, _, hl, hm, hz, _, hcell, hwz⟩
    · simp [Value.cells] at hcs
      obtain ⟨rfl, rfl, rfl⟩ := hcs
      exact ⟨[], .inl ⟨rfl, rfl, rfl, rfl⟩⟩
    · simp [Value.cells] at hcs
      obtain ⟨rfl, rfl, rfl⟩ := hcs
      exact ⟨zs, .inr ⟨_, rfl, hl, hm, by simpa using hz, hcell, hwz⟩⟩
  obtain ⟨a1, len1, cap1, rfl⟩ := okWide_slice Tryz.underlying22 (hval 1 22 v1 rfl rfl)
  have hb1 : ∀ x, a1 = some x → x.block < W.heap.size := by rintro x rfl; exact okWide_block Tryz.underlying22 (hval 1 22 _ rfl rfl)
  have k1 := h1
  have lt1 : ∀ x ∈ p1, x.block < W.heap.size := by obtain ⟨m, hm⟩ := k1; exact DataW.trod_lt m _ _ _ hm
  obtain ⟨z1, w1⟩ : ∃ zs, IsRow .u64 W a1 len1 cap1 zs := by
    obtain ⟨fuel, hf⟩ := h1
    rcases open_ints Tryz.underlying22 Tryz.underlying55 (by kernel_rfl) hf with ⟨hcs, _⟩ | ⟨x, l, c, zs, hcs, _, hl, hm, hz, _, hcell, hwz⟩
    · simp [Value.cells] at hcs
      obtain ⟨rfl, rfl, rfl⟩ := hcs
      exact ⟨[], .inl ⟨rfl, rfl, rfl, rfl⟩⟩
    · simp [Value.cells] at hcs
      obtain ⟨rfl, rfl, rfl⟩ := hcs
      exact ⟨zs, .inr ⟨_, rfl, hl, hm, by simpa using hz, hcell, hwz⟩⟩
  clear hA0 hval0
  refine (walk a0 len0 cap0 z0 a1 len1 cap1 z1 W hG hR w0 hb0 w1 hb1).mono fun e W' ⟨he, bel⟩ => ?_
  subst he
  exact ⟨_, rfl, _, _, _, [], _, [], hW', trodAll_mk1 (shut_bool Tryz.underlying4 _), (trodAll_cons_mk (Below.trod laidOut (by kernel_rfl) (of_decide_eq_true (by kernel_rfl)) k0 bel lt0) (trodAll_cons_mk (Below.trod laidOut (by kernel_rfl) (of_decide_eq_true (by kernel_rfl)) k1 bel lt1) trodAll_mk0)), rfl, bel.frame _, fun h => by cases h⟩

theorem over : Rows.natReckonsRow.holds Tryz.pinned (OpenSpec.ofChange Rows.natReckonsSpec) :=
  OpenClaim.holds_of_wide 3 Tryz.f3 rfl rfl rfl rfl rfl rfl rfl ⟨rfl, rfl, rfl, rfl, rfl⟩ rfl rfl rfl rfl rfl (by kernel_rfl) Tryz.func3 (by kernel_rfl)
    (of_decide_eq_true (by kernel_rfl)) (by unfold Func.isWrapper; first | (rw [if_pos (by decide +kernel)]; kernel_rfl) | (rw [if_neg (by decide +kernel)]; exact ⟨rfl, rfl⟩))
    (fun os started H enc _ => lifted os started H enc)

/-- the card: the row, its variable tied to the program's text -/
theorem proved : Rows.NatReckonsCardSaid :=
  Claim7.holds_tied_plain_at .later [] [.data, .data, .data, .data, .data, .data] true (true, "f359f1ec3b8a34669a412f1fb12c4f4546e2aa5dd4fb8b79c44fe11e8264e144") true
    over (fun _ h => by cases h) (by kernel_rfl) (fun _ h => by cases h) natReckons_row_tie rfl ⟨rfl, rfl⟩ (by kernel_rfl) rfl
    (fun f fn hf hfn => by
      obtain rfl : f = 3 := Option.some.inj ((show Tryz.prog.funcNamed "vouch/vouchlaw01.NatReckons" = some 3 by kernel_rfl).symm.trans hf) |>.symm
      obtain rfl : fn = Tryz.f3 := (Option.some.inj (Tryz.func3.symm.trans hfn)).symm
      exact ⟨by kernel_rfl, fun j t ht => by
        rw [Tryz.params3] at ht
        match j, ht with
        | 0, ht =>
          obtain rfl : t = 22 := by simpa using ht.symm
          exact (show Tryz.prog.wantsStandIn 22 = false by kernel_rfl)
        | 1, ht =>
          obtain rfl : t = 22 := by simpa using ht.symm
          exact (show Tryz.prog.wantsStandIn 22 = false by kernel_rfl)
        | j + 2, ht => simp at ht⟩)
    (by kernel_rfl)
end Go.Proofs.YtbdnkneedengcaaGreatDoor.natReckons
