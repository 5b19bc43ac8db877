/- What several proofs share, part 7: a model of memory, contracts of functions. Conditions: none. -/
import Derived.Test.YtlnlcddbllcehaaDoorLibF

/- The law of what is left, walked. Conditions: the tables lie in memory. -/
set_option linter.unusedSimpArgs false
set_option linter.unusedVariables false
set_option maxRecDepth 100000
set_option maxHeartbeats 4000000
set_option exponentiation.threshold 30000
namespace Go.Proofs.YtlnlcddbllcehaaDoor
open Go Ie
variable {Ext : FuncId → List Value → Mem → Outc → Mem → Prop}
theorem mod_small {ls : List WL} {m : WL} {A : Nat} (h : wrE ls m = 0) : A % wnum m < 2 ^ 8192 := by
  obtain ⟨_, h1, h0⟩ := wrE_ok h
  exact Nat.lt_trans (Nat.mod_lt _ (Nat.pos_of_ne_zero h0)) (wr_le h1)
theorem inv_small {l m : WL} {A : Nat} (h : invE l m = 0) : A % wnum m < 2 ^ 8192 := by
  unfold invE at h
  split at h
  · rename_i h1; exact mod_small h1
  · exact mod_small h
theorem modReckons_C (a0 a1 a2 : Option Addr) (c0 c1 c2 : Nat) (l0 l1 l2 : WL) (S : Mem) (h0 : WPre S a0 c0 l0) (h1 : WPre S a1 c1 l1) (h2 : WPre S a2 c2 l2) (hS : SinOk S) (hG : gN ≤ S.length) :
    C Tryd.prog gN Ext 6 [.slice a0 l0.length c0, .slice a1 l1.length c1, .slice a2 l2.length c2] S fun v S' => v = .bool true ∧ Cons S S' := by
  refine C.fn Tryd.func6 rfl (by kernel_rfl) rfl ?_
  repeat first|refine W.g ?_|refine L.p rfl rfl ?_|refine L.nil ?_|refine L.skip rfl ?_
  cases hg0 : decide ((l0.length : Int) > 200)
  case true =>
    repeat first|refine W.g ?_|refine L.p rfl rfl ?_|refine L.nil ?_|refine L.skip rfl ?_
    refine W.ite rfl (fun h => ?_) (fun h => ?_)
    · repeat first|refine W.g ?_|refine L.p rfl rfl ?_|refine L.nil ?_|refine L.skip rfl ?_
      exact ⟨.inr rfl, _, rfl, rfl, Cons.refl _⟩
    · cases h
  repeat first|refine W.g ?_|refine L.p rfl rfl ?_|refine L.nil ?_|refine L.skip rfl ?_
  cases hg1 : decide ((l1.length : Int) > 200)
  case true =>
    repeat first|refine W.g ?_|refine L.p rfl rfl ?_|refine L.nil ?_|refine L.skip rfl ?_
    refine W.ite rfl (fun h => ?_) (fun h => ?_)
    · repeat first|refine W.g ?_|refine L.p rfl rfl ?_|refine L.nil ?_|refine L.skip rfl ?_
      exact ⟨.inr rfl, _, rfl, rfl, Cons.refl _⟩
    · cases h
  repeat first|refine W.g ?_|refine L.p rfl rfl ?_|refine L.nil ?_|refine L.skip rfl ?_
  cases hg2 : decide ((l2.length : Int) > 200)
  case true =>
    repeat first|refine W.g ?_|refine L.p rfl rfl ?_|refine L.nil ?_|refine L.skip rfl ?_
    refine W.ite rfl (fun h => ?_) (fun h => ?_)
    · repeat first|refine W.g ?_|refine L.p rfl rfl ?_|refine L.nil ?_|refine L.skip rfl ?_
      exact ⟨.inr rfl, _, rfl, rfl, Cons.refl _⟩
    · cases h
  repeat first|refine W.g ?_|refine L.p rfl rfl ?_|refine L.nil ?_|refine L.skip rfl ?_
  refine W.ite rfl (fun h => ?_) (fun h => ?_)
  · cases h
  clear h
  have hn0 : l0.length ≤ 200 := by have := of_decide_eq_false hg0; omega
  have hn1 : l1.length ≤ 200 := by have := of_decide_eq_false hg1; omega
  have hn2 : l2.length ≤ 200 := by have := of_decide_eq_false hg2; omega
  clear hg0 hg1 hg2
  replace h0 := h0.win (by omega)
  replace h1 := h1.win (by omega)
  replace h2 := h2.win (by omega)
  repeat first|refine W.g ?_|refine L.p rfl rfl ?_|refine L.nil ?_|refine L.skip rfl ?_
  refine L.cl (lentW_C _ l0 S h0.1 (by omega)) rfl rfl ?_
  rintro _ S1 ⟨k1, x, hx, rfl, hr0⟩
  refine ⟨fun _ => k1, ?_⟩
  repeat first|refine W.g ?_|refine L.p rfl rfl ?_|refine L.nil ?_|refine L.skip rfl ?_
  refine L.cl (lentW_C _ l1 S1 (h1.cons k1).1 (by omega)) rfl rfl ?_
  rintro _ S2 ⟨k2, y, hy, rfl, hr1⟩
  refine ⟨fun _ => k2, ?_⟩
  repeat first|refine W.g ?_|refine L.p rfl rfl ?_|refine L.nil ?_|refine L.skip rfl ?_
  refine L.cl (lentW_C _ l2 S2 ((h2.cons k1).cons k2).1 (by omega)) rfl rfl ?_
  rintro _ M0 ⟨k3, z, hz, rfl, hr2⟩
  refine ⟨fun _ => k3, ?_⟩
  replace hr0 := Cons.row (h := k2.trans k3) hr0
  replace hr1 := Cons.row (h := k3) hr1
  have kS := (k1.trans k2).trans k3
  clear k1 k2 k3 hx hy hz
  replace h0 := h0.cons kS
  replace h1 := h1.cons kS
  replace h2 := h2.cons kS
  replace hS := hS.cons kS
  replace hG := Nat.le_trans hG kS.len
  have hx := lent_win hr0 (by omega)
  have hy := lent_win hr1 (by omega)
  have hz := lent_win hr2 (by omega)
  have hK := PK.nil M0
  repeat first|refine W.g ?_|refine L.p rfl rfl ?_|refine L.nil ?_|refine L.skip rfl ?_
  refine L.cl (of_C _ _ _ _ l0 l2 M0 (hx.cons hK.1) (hz.cons hK.1)) rfl rfl ?_
  rintro _ T1 ⟨d1, rfl, r1⟩
  refine ⟨fun _ => r1.1, ?_⟩
  rw [r1.val]
  replace hK := hK.add r1 (Nat.le_trans (ansL_len mod_small) (by decide))
  have w1 := r1.win
  have hk1 := r1.1
  repeat first|refine W.g ?_|refine L.p rfl rfl ?_|refine L.nil ?_|refine L.skip rfl ?_
  refine L.cl (modAdd_C _ _ _ _ _ _ l0 l1 l2 T1 (hx.cons hK.1) (hy.cons hK.1) (hz.cons hK.1)) rfl rfl ?_
  rintro _ T2 ⟨d2, rfl, r2⟩
  refine ⟨fun _ => r2.1, ?_⟩
  rw [r2.val]
  replace hK := hK.add r2 (Nat.le_trans (ansL_len mod_small) (by decide))
  have w2 := r2.win
  have hk2 := r2.1
  repeat first|refine W.g ?_|refine L.p rfl rfl ?_|refine L.nil ?_|refine L.skip rfl ?_
  refine L.cl (modSub_C _ _ _ _ _ _ l0 l1 l2 T2 (hx.cons hK.1) (hy.cons hK.1) (hz.cons hK.1)) rfl rfl ?_
  rintro _ T3 ⟨d3, rfl, r3⟩
  refine ⟨fun _ => r3.1, ?_⟩
  rw [r3.val]
  replace hK := hK.add r3 (Nat.le_trans (ansL_len mod_small) (by decide))
  have w3 := r3.win
  have hk3 := r3.1
  repeat first|refine W.g ?_|refine L.p rfl rfl ?_|refine L.nil ?_|refine L.skip rfl ?_
  refine L.cl (modMul_C _ _ _ _ _ _ l0 l1 l2 T3 (hx.cons hK.1) (hy.cons hK.1) (hz.cons hK.1) (hS.cons hK.1) (Nat.le_trans hG hK.1.len)) rfl rfl ?_
  rintro _ T4 ⟨d4, rfl, r4⟩
  refine ⟨fun _ => r4.1, ?_⟩
  rw [r4.val]
  replace hK := hK.add r4 (Nat.le_trans (ansL_len mod_small) (by decide))
  have w4 := r4.win
  have hk4 := r4.1
  repeat first|refine W.g ?_|refine L.p rfl rfl ?_|refine L.nil ?_|refine L.skip rfl ?_
  refine L.cl (modInv_C _ _ _ _ l0 l2 T4 (hx.cons hK.1) (hz.cons hK.1) (hS.cons hK.1) (Nat.le_trans hG hK.1.len)) rfl rfl ?_
  rintro _ T5 ⟨d5, rfl, r5⟩
  refine ⟨fun _ => r5.1, ?_⟩
  rw [r5.val]
  replace hK := hK.add r5 (Nat.le_trans (ansL_len inv_small) (by decide))
  have w5 := r5.win
  have hk5 := r5.1
  repeat first|refine W.g ?_|refine L.p rfl rfl ?_|refine L.nil ?_|refine L.skip rfl ?_
  refine L.cl (refOf_C _ _ _ _ l0 l2 T5 (h0.cons hK.1) (h2.cons hK.1) (by omega) (by omega)) rfl rfl ?_
  rintro _ T6 ⟨a6, c6, rfl, hk6, w6⟩
  refine ⟨fun _ => hk6, ?_⟩
  replace hK := hK.cons hk6
  repeat first|refine W.g ?_|refine L.p rfl rfl ?_|refine L.nil ?_|refine L.skip rfl ?_
  refine L.cl (refAddM_C _ _ _ _ _ _ l0 l1 l2 T6 (h0.cons hK.1) (h1.cons hK.1) (h2.cons hK.1) (by omega) (by omega) (by omega)) rfl rfl ?_
  rintro _ T7 ⟨a7, c7, rfl, hk7, w7⟩
  refine ⟨fun _ => hk7, ?_⟩
  replace hK := hK.cons hk7
  repeat first|refine W.g ?_|refine L.p rfl rfl ?_|refine L.nil ?_|refine L.skip rfl ?_
  refine L.cl (refSubM_C _ _ _ _ _ _ l0 l1 l2 T7 (h0.cons hK.1) (h1.cons hK.1) (h2.cons hK.1) (by omega) (by omega) (by omega)) rfl rfl ?_
  rintro _ T8 ⟨a8, c8, rfl, hk8, w8⟩
  refine ⟨fun _ => hk8, ?_⟩
  replace hK := hK.cons hk8
  repeat first|refine W.g ?_|refine L.p rfl rfl ?_|refine L.nil ?_|refine L.skip rfl ?_
  refine L.cl (refMulM_C _ _ _ _ _ _ l0 l1 l2 T8 (h0.cons hK.1) (h1.cons hK.1) (h2.cons hK.1) (by omega) (by omega) (by omega)) rfl rfl ?_
  rintro _ T9 ⟨a9, c9, rfl, hk9, w9⟩
  refine ⟨fun _ => hk9, ?_⟩
  replace hK := hK.cons hk9
  repeat first|refine W.g ?_|refine L.p rfl rfl ?_|refine L.nil ?_|refine L.skip rfl ?_
  refine L.cl (refInv_C _ _ _ _ l0 l2 T9 (h0.cons hK.1) (h2.cons hK.1) (by omega) (by omega)) rfl rfl ?_
  rintro _ T10 ⟨a10, c10, rfl, hk10, w10⟩
  refine ⟨fun _ => hk10, ?_⟩
  replace hK := hK.cons hk10
  repeat first|refine W.g ?_|refine L.p rfl rfl ?_|refine L.nil ?_|refine L.skip rfl ?_
  have K9 := hk10
  have K8 := hk9.trans K9
  have K7 := hk8.trans K8
  have K6 := hk7.trans K7
  have K5 := hk6.trans K6
  have K4 := hk5.trans K5
  have K3 := hk4.trans K4
  have K2 := hk3.trans K3
  have K1 := hk2.trans K2
  clear hk1 hk2 hk3 hk4 hk5 hk6 hk7 hk8 hk9 hk10
  refine L.cl (sameE_C _ _ _ _ _ _ T10 (w1.cons K1) (w6.cons K6)) rfl rfl ?_
  rintro _ M ⟨rfl, hM⟩
  have hM := hM.symm
  subst hM
  refine ⟨fun _ => Cons.refl _, ?_⟩
  repeat first|refine W.g ?_|refine L.p rfl rfl ?_|refine L.nil ?_|refine L.skip rfl ?_
  refine L.cl (sameE_C _ _ _ _ _ _ T10 (w2.cons K2) (w7.cons K7)) rfl rfl ?_
  rintro _ M ⟨rfl, hM⟩
  have hM := hM.symm
  subst hM
  refine ⟨fun _ => Cons.refl _, ?_⟩
  repeat first|refine W.g ?_|refine L.p rfl rfl ?_|refine L.nil ?_|refine L.skip rfl ?_
  refine L.cl (sameE_C _ _ _ _ _ _ T10 (w3.cons K3) (w8.cons K8)) rfl rfl ?_
  rintro _ M ⟨rfl, hM⟩
  have hM := hM.symm
  subst hM
  refine ⟨fun _ => Cons.refl _, ?_⟩
  repeat first|refine W.g ?_|refine L.p rfl rfl ?_|refine L.nil ?_|refine L.skip rfl ?_
  refine L.cl (sameE_C _ _ _ _ _ _ T10 (w4.cons K4) (w9.cons K9)) rfl rfl ?_
  rintro _ M ⟨rfl, hM⟩
  have hM := hM.symm
  subst hM
  refine ⟨fun _ => Cons.refl _, ?_⟩
  repeat first|refine W.g ?_|refine L.p rfl rfl ?_|refine L.nil ?_|refine L.skip rfl ?_
  refine L.cl (sameE_C _ _ _ _ _ _ T10 (w5.cons K5) w10) rfl rfl ?_
  rintro _ M ⟨rfl, hM⟩
  have hM := hM.symm
  subst hM
  refine ⟨fun _ => Cons.refl _, ?_⟩
  repeat first|refine W.g ?_|refine L.p rfl rfl ?_|refine L.nil ?_|refine L.skip rfl ?_
  refine W.ite rfl (fun h => ?_) (fun h => ?_)
  · cases h
  clear h w1 w2 w3 w4 w5 w6 w7 w8 w9 w10 K1 K2 K3 K4 K5 K6 K7 K8 K9
  repeat first|refine W.g ?_|refine L.p rfl rfl ?_|refine L.nil ?_|refine L.skip rfl ?_
  refine L.eff (v := .pointer (some ⟨T10.length, 0, none⟩)) (S1 := T10 ++ [newR [.slice none 0 0, .slice none 0 0] 31]) rfl rfl ?_
  have hB : BkP M0 (T10 ++ [newR [.slice none 0 0, .slice none 0 0] 31]) T10.length [] [d1, d2, d3, d4, d5] := hK.book
  obtain ⟨T0, hT0⟩ : ∃ T0, T0 = T10 ++ [newR [.slice none 0 0, .slice none 0 0] 31] := ⟨_, rfl⟩
  rw [← hT0] at hB ⊢
  clear hT0
  repeat first|refine W.g ?_|refine L.p rfl rfl ?_|refine L.nil ?_|refine L.skip rfl ?_
  rw [← RetW.val r1]
  refine L.cl (words_BkP hB (by first | omega | (simp <;> omega))) rfl rfl ?_
  rintro _ T hB'
  refine ⟨nofun, ?_⟩
  replace hB := hB'
  clear hB'
  repeat first|refine W.g ?_|refine L.p rfl rfl ?_|refine L.nil ?_|refine L.skip rfl ?_
  rw [← RetW.val r2]
  refine L.cl (words_BkP hB (by first | omega | (simp <;> omega))) rfl rfl ?_
  rintro _ T hB'
  refine ⟨nofun, ?_⟩
  replace hB := hB'
  clear hB'
  repeat first|refine W.g ?_|refine L.p rfl rfl ?_|refine L.nil ?_|refine L.skip rfl ?_
  rw [← RetW.val r3]
  refine L.cl (words_BkP hB (by first | omega | (simp <;> omega))) rfl rfl ?_
  rintro _ T hB'
  refine ⟨nofun, ?_⟩
  replace hB := hB'
  clear hB'
  repeat first|refine W.g ?_|refine L.p rfl rfl ?_|refine L.nil ?_|refine L.skip rfl ?_
  rw [← RetW.val r4]
  refine L.cl (words_BkP hB (by first | omega | (simp <;> omega))) rfl rfl ?_
  rintro _ T hB'
  refine ⟨nofun, ?_⟩
  replace hB := hB'
  clear hB'
  repeat first|refine W.g ?_|refine L.p rfl rfl ?_|refine L.nil ?_|refine L.skip rfl ?_
  rw [← RetW.val r5]
  refine L.cl (words_BkP hB (by first | omega | (simp <;> omega))) rfl rfl ?_
  rintro _ T hB'
  refine ⟨nofun, ?_⟩
  replace hB := hB'
  clear hB'
  repeat first|refine W.g ?_|refine L.p rfl rfl ?_|refine L.nil ?_|refine L.skip rfl ?_
  refine L.cl (apart_BkP hB (by simp)) rfl rfl ?_
  rintro _ M3 ⟨rfl, k3⟩
  refine ⟨nofun, ?_⟩
  repeat first|refine W.g ?_|refine L.p rfl rfl ?_|refine L.nil ?_|refine L.skip rfl ?_
  refine L.cl (keptW_C _ l0 x _ _ (Cons.row (h := k3) hr0) rfl rfl (h0.cons k3).1 (by omega)) rfl rfl ?_
  rintro _ M ⟨rfl, hM⟩
  have hM := hM.symm
  subst hM
  refine ⟨fun _ => Cons.refl _, ?_⟩
  repeat first|refine W.g ?_|refine L.p rfl rfl ?_|refine L.nil ?_|refine L.skip rfl ?_
  refine L.cl (keptW_C _ l1 y _ _ (Cons.row (h := k3) hr1) rfl rfl (h1.cons k3).1 (by omega)) rfl rfl ?_
  rintro _ M ⟨rfl, hM⟩
  have hM := hM.symm
  subst hM
  refine ⟨fun _ => Cons.refl _, ?_⟩
  repeat first|refine W.g ?_|refine L.p rfl rfl ?_|refine L.nil ?_|refine L.skip rfl ?_
  refine L.cl (keptW_C _ l2 z _ _ (Cons.row (h := k3) hr2) rfl rfl (h2.cons k3).1 (by omega)) rfl rfl ?_
  rintro _ M ⟨rfl, hM⟩
  have hM := hM.symm
  subst hM
  refine ⟨fun _ => Cons.refl _, ?_⟩
  repeat first|refine W.g ?_|refine L.p rfl rfl ?_|refine L.nil ?_|refine L.skip rfl ?_
  refine L.cl (works_C M3 (hS.cons k3) (Nat.le_trans hG k3.len)) rfl rfl ?_
  rintro _ M4 ⟨rfl, k4⟩
  refine ⟨fun _ => k4, ?_⟩
  repeat first|refine W.g ?_|refine L.p rfl rfl ?_|refine L.nil ?_|refine L.skip rfl ?_
  exact ⟨.inr rfl, _, rfl, rfl, (kS.trans k3).trans k4⟩
end Go.Proofs.YtlnlcddbllcehaaDoor

/- The law of powers, walked. Conditions: the tables lie in memory. -/
set_option linter.unusedSimpArgs false
set_option linter.unusedVariables false
set_option maxRecDepth 100000
set_option maxHeartbeats 4000000
set_option exponentiation.threshold 30000
namespace Go.Proofs.YtlnlcddbllcehaaDoor
open Go Ie
variable {Ext : FuncId → List Value → Mem → Outc → Mem → Prop}
theorem modPowers_C (a0 a1 a2 : Option Addr) (c0 c1 c2 : Nat) (l0 l1 l2 : WL) (S : Mem) (h0 : WPre S a0 c0 l0) (h1 : WPre S a1 c1 l1) (h2 : WPre S a2 c2 l2) (hS : SinOk S) (hG : gN ≤ S.length) :
    C Tryd.prog gN Ext 3 [.slice a0 l0.length c0, .slice a1 l1.length c1, .slice a2 l2.length c2] S fun v S' => v = .bool true ∧ Cons S S' := by
  refine C.fn Tryd.func3 rfl (by kernel_rfl) rfl ?_
  repeat first|refine W.g ?_|refine L.p rfl rfl ?_|refine L.nil ?_|refine L.skip rfl ?_
  cases hg0 : decide ((l0.length : Int) > 200)
  case true =>
    repeat first|refine W.g ?_|refine L.p rfl rfl ?_|refine L.nil ?_|refine L.skip rfl ?_
    refine W.ite rfl (fun h => ?_) (fun h => ?_)
    · repeat first|refine W.g ?_|refine L.p rfl rfl ?_|refine L.nil ?_|refine L.skip rfl ?_
      exact ⟨.inr rfl, _, rfl, rfl, Cons.refl _⟩
    · cases h
  repeat first|refine W.g ?_|refine L.p rfl rfl ?_|refine L.nil ?_|refine L.skip rfl ?_
  cases hg1 : decide ((l1.length : Int) > 200)
  case true =>
    repeat first|refine W.g ?_|refine L.p rfl rfl ?_|refine L.nil ?_|refine L.skip rfl ?_
    refine W.ite rfl (fun h => ?_) (fun h => ?_)
    · repeat first|refine W.g ?_|refine L.p rfl rfl ?_|refine L.nil ?_|refine L.skip rfl ?_
      exact ⟨.inr rfl, _, rfl, rfl, Cons.refl _⟩
    · cases h
  repeat first|refine W.g ?_|refine L.p rfl rfl ?_|refine L.nil ?_|refine L.skip rfl ?_
  cases hg2 : decide ((l2.length : Int) > 200)
  case true =>
    repeat first|refine W.g ?_|refine L.p rfl rfl ?_|refine L.nil ?_|refine L.skip rfl ?_
    refine W.ite rfl (fun h => ?_) (fun h => ?_)
    · repeat first|refine W.g ?_|refine L.p rfl rfl ?_|refine L.nil ?_|refine L.skip rfl ?_
      exact ⟨.inr rfl, _, rfl, rfl, Cons.refl _⟩
    · cases h
  repeat first|refine W.g ?_|refine L.p rfl rfl ?_|refine L.nil ?_|refine L.skip rfl ?_
  have hn0 : l0.length ≤ 200 := by have := of_decide_eq_false hg0; omega
  have hn1 : l1.length ≤ 200 := by have := of_decide_eq_false hg1; omega
  have hn2 : l2.length ≤ 200 := by have := of_decide_eq_false hg2; omega
  clear hg0 hg1 hg2
  replace h0 := h0.win (by omega)
  replace h1 := h1.win (by omega)
  replace h2 := h2.win (by omega)
  cases hg3 : decide ((l1.length : Int) > 4)
  case true =>
    repeat first|refine W.g ?_|refine L.p rfl rfl ?_|refine L.nil ?_|refine L.skip rfl ?_
    cases hg4 : decide ((l2.length : Int) > 2)
    case true =>
      repeat first|refine W.g ?_|refine L.p rfl rfl ?_|refine L.nil ?_|refine L.skip rfl ?_
      refine W.ite rfl (fun h => ?_) (fun h => ?_)
      · repeat first|refine W.g ?_|refine L.p rfl rfl ?_|refine L.nil ?_|refine L.skip rfl ?_
        exact ⟨.inr rfl, _, rfl, rfl, Cons.refl _⟩
      · cases h
    repeat first|refine W.g ?_|refine L.p rfl rfl ?_|refine L.nil ?_|refine L.skip rfl ?_
    refine W.ite rfl (fun h => ?_) (fun h => ?_)
    · cases h
    clear h hg3 hg4
    repeat first|refine W.g ?_|refine L.p rfl rfl ?_|refine L.nil ?_|refine L.skip rfl ?_
    refine L.cl (lentW_C _ l0 S h0.1 (by omega)) rfl rfl ?_
    rintro _ S1 ⟨k1, x, hx, rfl, hr0⟩
    refine ⟨fun _ => k1, ?_⟩
    repeat first|refine W.g ?_|refine L.p rfl rfl ?_|refine L.nil ?_|refine L.skip rfl ?_
    refine L.cl (lentW_C _ l1 S1 (h1.cons k1).1 (by omega)) rfl rfl ?_
    rintro _ S2 ⟨k2, y, hy, rfl, hr1⟩
    refine ⟨fun _ => k2, ?_⟩
    repeat first|refine W.g ?_|refine L.p rfl rfl ?_|refine L.nil ?_|refine L.skip rfl ?_
    refine L.cl (lentW_C _ l2 S2 ((h2.cons k1).cons k2).1 (by omega)) rfl rfl ?_
    rintro _ M0 ⟨k3, z, hz, rfl, hr2⟩
    refine ⟨fun _ => k3, ?_⟩
    replace hr0 := Cons.row (h := k2.trans k3) hr0
    replace hr1 := Cons.row (h := k3) hr1
    have kS := (k1.trans k2).trans k3
    clear k1 k2 k3 hx hy hz
    replace h0 := h0.cons kS
    replace h1 := h1.cons kS
    replace h2 := h2.cons kS
    replace hS := hS.cons kS
    replace hG := Nat.le_trans hG kS.len
    have hx := lent_win hr0 (by omega)
    have hy := lent_win hr1 (by omega)
    have hz := lent_win hr2 (by omega)
    have hK := PK.nil M0
    repeat first|refine W.g ?_|refine L.p rfl rfl ?_|refine L.nil ?_|refine L.skip rfl ?_
    refine L.cl (modPow_C _ _ _ _ _ _ l0 l1 l2 M0 hx hy hz hS hG) rfl rfl ?_
    rintro _ T1 ⟨d1, rfl, r1⟩
    refine ⟨fun _ => r1.1, ?_⟩
    rw [r1.val]
    replace hK := hK.add r1 (Nat.le_trans (ansL_len mod_small) (by decide))
    have w1 := r1.win
    repeat first|refine W.g ?_|refine L.p rfl rfl ?_|refine L.nil ?_|refine L.skip rfl ?_
    refine L.cl (refPow_C _ _ _ _ _ _ l0 l1 l2 T1 (h0.cons hK.1) (h1.cons hK.1) (h2.cons hK.1) (by omega) (by omega) (by omega)) rfl rfl ?_
    rintro _ T2 ⟨a2, c2, rfl, hk2, w2⟩
    refine ⟨fun _ => hk2, ?_⟩
    replace hK := hK.cons hk2
    repeat first|refine W.g ?_|refine L.p rfl rfl ?_|refine L.nil ?_|refine L.skip rfl ?_
    refine L.cl (sameE_C _ _ _ _ _ _ T2 (w1.cons hk2) w2) rfl rfl ?_
    rintro _ M ⟨rfl, hM⟩
    have hM := hM.symm
    subst hM
    refine ⟨fun _ => Cons.refl _, ?_⟩
    repeat first|refine W.g ?_|refine L.p rfl rfl ?_|refine L.nil ?_|refine L.skip rfl ?_
    refine W.ite rfl (fun h => ?_) (fun h => ?_)
    · cases h
    clear h w1 w2
    repeat first|refine W.g ?_|refine L.p rfl rfl ?_|refine L.nil ?_|refine L.skip rfl ?_
    refine L.eff (v := .pointer (some ⟨T2.length, 0, none⟩)) (S1 := T2 ++ [newR [.slice none 0 0, .slice none 0 0] 31]) rfl rfl ?_
    have hB : BkP M0 (T2 ++ [newR [.slice none 0 0, .slice none 0 0] 31]) T2.length [] [d1] := hK.book
    obtain ⟨T0, hT0⟩ : ∃ T0, T0 = T2 ++ [newR [.slice none 0 0, .slice none 0 0] 31] := ⟨_, rfl⟩
    rw [← hT0] at hB ⊢
    clear hT0
    repeat first|refine W.g ?_|refine L.p rfl rfl ?_|refine L.nil ?_|refine L.skip rfl ?_
    rw [← RetW.val r1]
    refine L.cl (words_BkP hB (by first | omega | (simp <;> omega))) rfl rfl ?_
    rintro _ T hB'
    refine ⟨nofun, ?_⟩
    replace hB := hB'
    clear hB'
    repeat first|refine W.g ?_|refine L.p rfl rfl ?_|refine L.nil ?_|refine L.skip rfl ?_
    refine L.cl (apart_BkP hB (by simp)) rfl rfl ?_
    rintro _ M3 ⟨rfl, k3⟩
    refine ⟨nofun, ?_⟩
    repeat first|refine W.g ?_|refine L.p rfl rfl ?_|refine L.nil ?_|refine L.skip rfl ?_
    refine L.cl (keptW_C _ l0 x _ _ (Cons.row (h := k3) hr0) rfl rfl (h0.cons k3).1 (by omega)) rfl rfl ?_
    rintro _ M ⟨rfl, hM⟩
    have hM := hM.symm
    subst hM
    refine ⟨fun _ => Cons.refl _, ?_⟩
    repeat first|refine W.g ?_|refine L.p rfl rfl ?_|refine L.nil ?_|refine L.skip rfl ?_
    refine L.cl (keptW_C _ l1 y _ _ (Cons.row (h := k3) hr1) rfl rfl (h1.cons k3).1 (by omega)) rfl rfl ?_
    rintro _ M ⟨rfl, hM⟩
    have hM := hM.symm
    subst hM
    refine ⟨fun _ => Cons.refl _, ?_⟩
    repeat first|refine W.g ?_|refine L.p rfl rfl ?_|refine L.nil ?_|refine L.skip rfl ?_
    refine L.cl (keptW_C _ l2 z _ _ (Cons.row (h := k3) hr2) rfl rfl (h2.cons k3).1 (by omega)) rfl rfl ?_
    rintro _ M ⟨rfl, hM⟩
    have hM := hM.symm
    subst hM
    refine ⟨fun _ => Cons.refl _, ?_⟩
    repeat first|refine W.g ?_|refine L.p rfl rfl ?_|refine L.nil ?_|refine L.skip rfl ?_
    refine L.cl (works_C M3 (hS.cons k3) (Nat.le_trans hG k3.len)) rfl rfl ?_
    rintro _ M4 ⟨rfl, k4⟩
    refine ⟨fun _ => k4, ?_⟩
    repeat first|refine W.g ?_|refine L.p rfl rfl ?_|refine L.nil ?_|refine L.skip rfl ?_
    exact ⟨.inr rfl, _, rfl, rfl, (kS.trans k3).trans k4⟩
  repeat first|refine W.g ?_|refine L.p rfl rfl ?_|refine L.nil ?_|refine L.skip rfl ?_
  refine W.ite rfl (fun h => ?_) (fun h => ?_)
  · cases h
  clear h hg3
  repeat first|refine W.g ?_|refine L.p rfl rfl ?_|refine L.nil ?_|refine L.skip rfl ?_
  refine L.cl (lentW_C _ l0 S h0.1 (by omega)) rfl rfl ?_
  rintro _ S1 ⟨k1, x, hx, rfl, hr0⟩
  refine ⟨fun _ => k1, ?_⟩
  repeat first|refine W.g ?_|refine L.p rfl rfl ?_|refine L.nil ?_|refine L.skip rfl ?_
  refine L.cl (lentW_C _ l1 S1 (h1.cons k1).1 (by omega)) rfl rfl ?_
  rintro _ S2 ⟨k2, y, hy, rfl, hr1⟩
  refine ⟨fun _ => k2, ?_⟩
  repeat first|refine W.g ?_|refine L.p rfl rfl ?_|refine L.nil ?_|refine L.skip rfl ?_
  refine L.cl (lentW_C _ l2 S2 ((h2.cons k1).cons k2).1 (by omega)) rfl rfl ?_
  rintro _ M0 ⟨k3, z, hz, rfl, hr2⟩
  refine ⟨fun _ => k3, ?_⟩
  replace hr0 := Cons.row (h := k2.trans k3) hr0
  replace hr1 := Cons.row (h := k3) hr1
  have kS := (k1.trans k2).trans k3
  clear k1 k2 k3 hx hy hz
  replace h0 := h0.cons kS
  replace h1 := h1.cons kS
  replace h2 := h2.cons kS
  replace hS := hS.cons kS
  replace hG := Nat.le_trans hG kS.len
  have hx := lent_win hr0 (by omega)
  have hy := lent_win hr1 (by omega)
  have hz := lent_win hr2 (by omega)
  have hK := PK.nil M0
  repeat first|refine W.g ?_|refine L.p rfl rfl ?_|refine L.nil ?_|refine L.skip rfl ?_
  refine L.cl (modPow_C _ _ _ _ _ _ l0 l1 l2 M0 hx hy hz hS hG) rfl rfl ?_
  rintro _ T1 ⟨d1, rfl, r1⟩
  refine ⟨fun _ => r1.1, ?_⟩
  rw [r1.val]
  replace hK := hK.add r1 (Nat.le_trans (ansL_len mod_small) (by decide))
  have w1 := r1.win
  repeat first|refine W.g ?_|refine L.p rfl rfl ?_|refine L.nil ?_|refine L.skip rfl ?_
  refine L.cl (refPow_C _ _ _ _ _ _ l0 l1 l2 T1 (h0.cons hK.1) (h1.cons hK.1) (h2.cons hK.1) (by omega) (by omega) (by omega)) rfl rfl ?_
  rintro _ T2 ⟨a2, c2, rfl, hk2, w2⟩
  refine ⟨fun _ => hk2, ?_⟩
  replace hK := hK.cons hk2
  repeat first|refine W.g ?_|refine L.p rfl rfl ?_|refine L.nil ?_|refine L.skip rfl ?_
  refine L.cl (sameE_C _ _ _ _ _ _ T2 (w1.cons hk2) w2) rfl rfl ?_
  rintro _ M ⟨rfl, hM⟩
  have hM := hM.symm
  subst hM
  refine ⟨fun _ => Cons.refl _, ?_⟩
  repeat first|refine W.g ?_|refine L.p rfl rfl ?_|refine L.nil ?_|refine L.skip rfl ?_
  refine W.ite rfl (fun h => ?_) (fun h => ?_)
  · cases h
  clear h w1 w2
  repeat first|refine W.g ?_|refine L.p rfl rfl ?_|refine L.nil ?_|refine L.skip rfl ?_
  refine L.eff (v := .pointer (some ⟨T2.length, 0, none⟩)) (S1 := T2 ++ [newR [.slice none 0 0, .slice none 0 0] 31]) rfl rfl ?_
  have hB : BkP M0 (T2 ++ [newR [.slice none 0 0, .slice none 0 0] 31]) T2.length [] [d1] := hK.book
  obtain ⟨T0, hT0⟩ : ∃ T0, T0 = T2 ++ [newR [.slice none 0 0, .slice none 0 0] 31] := ⟨_, rfl⟩
  rw [← hT0] at hB ⊢
  clear hT0
  repeat first|refine W.g ?_|refine L.p rfl rfl ?_|refine L.nil ?_|refine L.skip rfl ?_
  rw [← RetW.val r1]
  refine L.cl (words_BkP hB (by first | omega | (simp <;> omega))) rfl rfl ?_
  rintro _ T hB'
  refine ⟨nofun, ?_⟩
  replace hB := hB'
  clear hB'
  repeat first|refine W.g ?_|refine L.p rfl rfl ?_|refine L.nil ?_|refine L.skip rfl ?_
  refine L.cl (apart_BkP hB (by simp)) rfl rfl ?_
  rintro _ M3 ⟨rfl, k3⟩
  refine ⟨nofun, ?_⟩
  repeat first|refine W.g ?_|refine L.p rfl rfl ?_|refine L.nil ?_|refine L.skip rfl ?_
  refine L.cl (keptW_C _ l0 x _ _ (Cons.row (h := k3) hr0) rfl rfl (h0.cons k3).1 (by omega)) rfl rfl ?_
  rintro _ M ⟨rfl, hM⟩
  have hM := hM.symm
  subst hM
  refine ⟨fun _ => Cons.refl _, ?_⟩
  repeat first|refine W.g ?_|refine L.p rfl rfl ?_|refine L.nil ?_|refine L.skip rfl ?_
  refine L.cl (keptW_C _ l1 y _ _ (Cons.row (h := k3) hr1) rfl rfl (h1.cons k3).1 (by omega)) rfl rfl ?_
  rintro _ M ⟨rfl, hM⟩
  have hM := hM.symm
  subst hM
  refine ⟨fun _ => Cons.refl _, ?_⟩
  repeat first|refine W.g ?_|refine L.p rfl rfl ?_|refine L.nil ?_|refine L.skip rfl ?_
  refine L.cl (keptW_C _ l2 z _ _ (Cons.row (h := k3) hr2) rfl rfl (h2.cons k3).1 (by omega)) rfl rfl ?_
  rintro _ M ⟨rfl, hM⟩
  have hM := hM.symm
  subst hM
  refine ⟨fun _ => Cons.refl _, ?_⟩
  repeat first|refine W.g ?_|refine L.p rfl rfl ?_|refine L.nil ?_|refine L.skip rfl ?_
  refine L.cl (works_C M3 (hS.cons k3) (Nat.le_trans hG k3.len)) rfl rfl ?_
  rintro _ M4 ⟨rfl, k4⟩
  refine ⟨fun _ => k4, ?_⟩
  repeat first|refine W.g ?_|refine L.p rfl rfl ?_|refine L.nil ?_|refine L.skip rfl ?_
  exact ⟨.inr rfl, _, rfl, rfl, (kS.trans k3).trans k4⟩
end Go.Proofs.YtlnlcddbllcehaaDoor
