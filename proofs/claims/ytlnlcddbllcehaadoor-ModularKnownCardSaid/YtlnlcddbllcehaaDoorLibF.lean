/- What several proofs share, part 6: a model of memory, contracts of functions. Conditions: none. -/
import Derived.Test.YtlnlcddbllcehaaDoorLibE

/- Layer 4: inverses. Conditions: the tables lie in memory. -/
set_option linter.unusedSimpArgs false
set_option linter.unusedVariables false
set_option maxRecDepth 100000
set_option maxHeartbeats 4000000
set_option exponentiation.threshold 20000
namespace Go.Proofs.YtlnlcddbllcehaaDoor
open Go Ie
variable {Ext : FuncId → List Value → Mem → Outc → Mem → Prop}
/-- the next multiplier -/
def invD (M k s t : Nat) : Nat := (s % M + M - k * t % M) % M
/-- Euclid's steps, with multipliers modulo M -/
def invN (M r q s t : Nat) : Nat × Nat := if h : q = 0 then (r, s) else invN M q (r % q) t (invD M (r / q) s t)
termination_by q
decreasing_by exact Nat.mod_lt _ (Nat.pos_of_ne_zero h)
theorem invN_zero (M r s t : Nat) : invN M r 0 s t = (r, s) := by rw [invN]; simp
theorem invN_step {M r q s t : Nat} (h : q ≠ 0) : invN M r q s t = invN M q (r % q) t (invD M (r / q) s t) := by rw [invN]; simp [h]
def invP (A M : Nat) : Nat × Nat := invN M M (A % M) 0 1
theorem invP_one (A M : Nat) : invN M M (A % M) 0 (1 % M) = invP A M := by
  unfold invP
  by_cases h : M = 1
  · subst h
    rw [Nat.mod_one, invN_zero, invN_zero]
  · by_cases h0 : M = 0
    · subst h0; rfl
    · rw [Nat.mod_eq_of_lt (by omega : 1 < M)]
/-- what is wrong with an inverse -/
def invE (l m : WL) : Int := if wrE [l] m = 0 then (if (invP (wnum l) (wnum m)).1 = 1 then 0 else 40) else wrE [l] m
theorem wrE_zero {ls : List WL} {m : WL} (h : ∀ l ∈ ls, wnum l < 2 ^ 8192) (h1 : wnum m < 2 ^ 4096) (h0 : wnum m ≠ 0) : wrE ls m = 0 := by
  unfold wrE
  rw [if_pos (List.all_eq_true.2 fun l hl => small_of (h l hl)), if_neg (by have := blen_le.2 h1; omega), if_neg h0]
theorem wrE_zero2 {l n m : WL} (h2 : wnum l < 2 ^ 8192) (h3 : wnum n < 2 ^ 8192) (h1 : wnum m < 2 ^ 4096) (h0 : wnum m ≠ 0) : wrE [l, n] m = 0 := wrE_zero (fun x hx => by
  simp only [List.mem_cons, List.not_mem_nil, or_false] at hx
  rcases hx with rfl | rfl
  · exact h2
  · exact h3) h1 h0
theorem AnsR.got {S S' : Mem} {v : Value} {E : Int} {N : Nat} (h : AnsR S S' v E N) (hE : E = 0) : ∃ d : Hd, v = .tuple #[.slice d.ad (toW N).length d.c, .int .i64 0] ∧ RetW S S' d (toW N) := by
  obtain ⟨d, rfl, hR⟩ := h
  subst hE
  have e : ansL 0 N = toW N := if_pos rfl
  rw [e] at hR
  exact ⟨d, by rw [hR.val], hR⟩
theorem blen_one {n : Nat} : blen n = 1 ↔ n = 1 := by
  have h1 := @blen_le n 1
  have h0 := @blen_le n 0
  rw [Nat.pow_one] at h1
  rw [Nat.pow_zero] at h0
  omega
theorem modInv_C (a1 a2 : Option Addr) (c1 c2 : Nat) (l m : WL) (S : Mem) (h1 : WIn S a1 c1 l) (hm : WIn S a2 c2 m) (hS : SinOk S) (hG : gN ≤ S.length) :
    C Tryd.prog gN Ext 28 [.slice a1 l.length c1, .slice a2 m.length c2] S fun v S' => AnsR S S' v (invE l m) ((invP (wnum l) (wnum m)).2 % wnum m) := by
  refine C.fn Tryd.func28 rfl (by kernel_rfl) rfl ?_
  repeat first|refine W.g ?_|refine L.p rfl rfl ?_|refine L.nil ?_|refine L.skip rfl ?_
  refine L.bs [WS.v ⟨a1, c1, l⟩] rfl rfl rfl rfl rfl rfl ?_
  have hc : Cons S (S ++ [newR [WS.v ⟨a1, c1, l⟩] 22]) := Cons.push _ _
  have hs : Slv (S ++ [newR [WS.v ⟨a1, c1, l⟩] 22]) 1 (.slice (some ⟨S.length, 0, none⟩) 1 1) 1 ([WS.mk a1 c1 l].map WS.v) := Slv.all (row_push_new rfl) rfl rfl
  obtain ⟨S1, hS1⟩ : ∃ S1, S1 = S ++ [newR [WS.v ⟨a1, c1, l⟩] 22] := ⟨_, rfl⟩
  rw [← hS1] at hc hs ⊢
  clear hS1
  refine L.cl (wrong_C a2 c2 m _ [⟨a1, c1, l⟩] S1 (hm.cons hc) hs (fun w hw => by
    simp only [List.mem_cons, List.not_mem_nil, or_false] at hw
    rcases hw with rfl
    exact h1.cons hc) (by simp)) rfl rfl ?_
  rintro _ M ⟨rfl, hM⟩
  have hM := hM.symm
  subst hM
  refine ⟨nofun, ?_⟩
  simp only [List.map_cons, List.map_nil]
  have hinv : invE l m = if wrE [l] m = 0 then (if (invP (wnum l) (wnum m)).1 = 1 then 0 else 40) else wrE [l] m := rfl
  rcases wrE_cases [l] m with hE | hE | hE
  · rw [hE, if_neg (by decide)] at hinv
    rw [hE, hinv]
    repeat first|refine W.g ?_|refine L.p rfl rfl ?_|refine L.nil ?_|refine L.skip rfl ?_
    refine W.ite rfl (fun h => ?_) (fun h => ?_)
    · repeat first|refine W.g ?_|refine L.p rfl rfl ?_|refine L.nil ?_|refine L.skip rfl ?_
      exact ⟨.inr rfl, _, rfl, .no hc (by decide)⟩
    · cases h
  · rw [hE, if_neg (by decide)] at hinv
    rw [hE, hinv]
    repeat first|refine W.g ?_|refine L.p rfl rfl ?_|refine L.nil ?_|refine L.skip rfl ?_
    refine W.ite rfl (fun h => ?_) (fun h => ?_)
    · repeat first|refine W.g ?_|refine L.p rfl rfl ?_|refine L.nil ?_|refine L.skip rfl ?_
      exact ⟨.inr rfl, _, rfl, .no hc (by decide)⟩
    · cases h
  obtain ⟨hls, hm1, hm0⟩ := wrE_ok hE
  rw [hE, if_pos rfl] at hinv
  have hm2 := wr_le hm1
  have hmp : 0 < wnum m := Nat.pos_of_ne_zero hm0
  obtain ⟨IE, hIE⟩ : ∃ IE, invE l m = IE := ⟨_, rfl⟩
  rw [hIE] at hinv ⊢
  rw [hE]
  repeat first|refine W.g ?_|refine L.p rfl rfl ?_|refine L.nil ?_|refine L.skip rfl ?_
  refine W.ite rfl (fun h => ?_) (fun h => ?_)
  · cases h
  clear h
  repeat first|refine W.g ?_|refine L.p rfl rfl ?_|refine L.nil ?_|refine L.skip rfl ?_
  have hsm : small m = true := small_of hm2
  have e1 : toldL m = toW (wnum m) := by unfold toldL; rw [if_pos hsm]
  have e2 : toldE m = 0 := by unfold toldE; rw [if_pos hsm]
  refine L.cl (norm_C a2 c2 m S1 (hm.cons hc)) rfl rfl ?_
  rintro _ S2 ⟨d, rfl, r1⟩
  refine ⟨fun _ => r1.1, ?_⟩
  rw [e2]
  rw [e1] at r1
  rw [r1.val]
  have w1 := r1.win
  have k1 := hc.trans r1.1
  clear e1 e2 hs
  repeat first|refine W.g ?_|refine L.p rfl rfl ?_|refine L.nil ?_|refine L.skip rfl ?_
  refine W.ite rfl (fun h => ?_) (fun h => ?_)
  · cases h
  clear h
  repeat first|refine W.g ?_|refine L.p rfl rfl ?_|refine L.nil ?_|refine L.skip rfl ?_
  refine L.cl (modLeft_C a1 a2 c1 c2 l m S2 (h1.cons k1) (hm.cons k1) (hls l (by simp)) hm2 hm0) rfl rfl ?_
  rintro _ S3 ⟨d2, rfl, r2⟩
  refine ⟨fun _ => r2.1, ?_⟩
  rw [r2.val]
  have w2 := r2.win
  have w1 := w1.cons r2.1
  have k2 := k1.trans r2.1
  repeat first|refine W.g ?_|refine L.p rfl rfl ?_|refine L.nil ?_|refine L.skip rfl ?_
  refine W.ite rfl (fun h => ?_) (fun h => ?_)
  · cases h
  clear h
  repeat first|refine W.g ?_|refine L.p rfl rfl ?_|refine L.nil ?_|refine L.skip rfl ?_
  refine L.bsW [1#64] rfl rfl rfl rfl rfl rfl (fun b S4 k3 i4 => ?_)
  have k4 := k2.trans k3
  have w2 := w2.cons k3
  have w1 := w1.cons k3
  repeat first|refine W.g ?_|refine L.p rfl rfl ?_|refine L.nil ?_|refine L.skip rfl ?_
  have t1 : toW 1 = [1#64] := toW_is (by unfold Canon; decide) rfl
  rw [← t1] at i4 ⊢
  generalize hMM : wnum m = M at *
  generalize hA : wnum l % M = A at *
  have hI : invP (wnum l) M = invN M M A 0 1 := by unfold invP; rw [hA]
  rw [hI] at hinv ⊢
  generalize hI0 : invN M M A 0 1 = R0 at *
  refine W.loop (fun j e T => ∃ (q r s t : Nat) (a7 a9 a10 a11 : Option Addr) (c7 c9 c10 c11 : Nat), j = q ∧ invN M r q s t = R0 ∧ q ≤ M ∧ r ≤ M ∧ s < 2 ^ 8192 ∧ t < 2 ^ 8192 ∧ Cons S T ∧ e 1 = .slice a2 m.length c2 ∧
      e 7 = .slice a7 (toW r).length c7 ∧ WIn T a7 c7 (toW r) ∧ e 9 = .slice a9 (toW q).length c9 ∧ WIn T a9 c9 (toW q) ∧ e 10 = .slice a10 (toW s).length c10 ∧ WIn T a10 c10 (toW s) ∧ e 11 = .slice a11 (toW t).length c11 ∧ WIn T a11 c11 (toW t)) A
    ⟨A, M, 0, 1, _, _, _, _, _, _, _, _, rfl, hI0, by rw [← hA]; exact Nat.le_of_lt (Nat.mod_lt _ hmp), Nat.le_refl _, by omega, by omega, k4, rfl, rfl, w1, rfl, w2, by rw [toW_zero]; rfl, by rw [toW_zero]; exact ⟨Slv.nil _ _ _ _, by decide, fun _ => rfl, by decide⟩, rfl, i4⟩ ?_
  clear w1 w2 i4 k3 k4 r1 r2 k1 k2 hI hI0
  rintro j e T ⟨q, r, s, t, a7, a9, a10, a11, c7, c9, c10, c11, rfl, hR0, hq, hr, hs, ht, kT, e1, e7, w7, e9, w9, e10, w10, e11, w11⟩
  refine W.env5 e1 e7 e9 e10 e11 ?_
  clear e1 e7 e9 e10 e11
  repeat first|refine W.g ?_|refine L.p rfl rfl ?_|refine L.nil ?_|refine L.skip rfl ?_
  by_cases hq0 : j = 0
  · subst hq0
    rw [invN_zero] at hR0
    repeat first|refine W.g ?_|refine L.p rfl rfl ?_|refine L.nil ?_|refine L.skip rfl ?_
    refine W.ite rfl (fun h => ?_) (fun h => ?_)
    · have := of_decide_eq_true h
      rw [toW_zero] at this
      simp at this
    clear h
    repeat first|refine W.g ?_|refine L.p rfl rfl ?_|refine L.nil ?_|refine L.skip rfl ?_
    refine L.cl (bits_C a7 c7 (toW r) T w7) rfl rfl ?_
    rintro _ M ⟨rfl, hM⟩
    have hM := hM.symm
    subst hM
    refine ⟨fun _ => Cons.refl _, ?_⟩
    repeat first|refine W.g ?_|refine L.p rfl rfl ?_|refine L.nil ?_|refine L.skip rfl ?_
    rw [wnum_toW]
    by_cases hr1 : r = 1
    · subst hr1
      rw [show blen 1 = 1 from blen_one.2 rfl]
      repeat first|refine W.g ?_|refine L.p rfl rfl ?_|refine L.nil ?_|refine L.skip rfl ?_
      refine W.ite rfl (fun h => ?_) (fun h => ?_)
      · cases h
      clear h
      repeat first|refine W.g ?_|refine L.p rfl rfl ?_|refine L.nil ?_|refine L.skip rfl ?_
      refine L.cl (modLeft_C a10 a2 c10 c2 (toW s) m T w10 (hm.cons kT) (by rw [wnum_toW]; exact hs) (by rw [hMM]; exact hm2) (by rw [hMM]; exact hm0)) rfl rfl ?_
      rintro _ S5 ⟨d3, rfl, r3⟩
      refine ⟨fun _ => r3.1, ?_⟩
      repeat first|refine W.g ?_|refine L.p rfl rfl ?_|refine L.nil ?_|refine L.skip rfl ?_
      rw [wnum_toW, hMM] at r3
      subst hR0
      rw [if_pos rfl] at hinv
      subst hinv
      exact ⟨.inr rfl, _, rfl, .ok kT r3⟩
    · have hb : blen r ≠ 1 := fun h => hr1 (blen_one.1 h)
      rw [show (((blen r : Nat) : Int) != 1) = true from bne_iff_ne.2 (by omega)]
      repeat first|refine W.g ?_|refine L.p rfl rfl ?_|refine L.nil ?_|refine L.skip rfl ?_
      refine W.ite rfl (fun h => ?_) (fun h => ?_)
      · repeat first|refine W.g ?_|refine L.p rfl rfl ?_|refine L.nil ?_|refine L.skip rfl ?_
        subst hR0
        rw [if_neg hr1] at hinv
        subst hinv
        exact ⟨.inr rfl, _, rfl, .no kT (by decide)⟩
      · cases h
  · rw [invN_step hq0] at hR0
    have hpos : 0 < (toW j).length := Nat.pos_of_ne_zero fun h => hq0 (by have := List.length_eq_zero_iff.1 h; rw [← wnum_toW j, this]; rfl)
    refine W.ite rfl (fun h => ?_) (fun h => ?_)
    · clear h
      have hd := div_num (l1 := toW r) (l2 := toW j) (by rw [wnum_toW]; omega) (by rw [wnum_toW]; omega) (by rw [wnum_toW]; exact hq0)
      rw [wnum_toW, wnum_toW] at hd
      have hk : r / j < 2 ^ 8192 := Nat.lt_of_le_of_lt (Nat.div_le_self _ _) (by omega)
      repeat first|refine W.g ?_|refine L.p rfl rfl ?_|refine L.nil ?_|refine L.skip rfl ?_
      refine L.cl (natDiv_C a7 a9 c7 c9 (toW r) (toW j) T w7 w9) rfl rfl ?_
      rintro _ T1 ⟨d, d2, rfl, r1, r2, hap⟩
      refine ⟨fun _ => r1.1, ?_⟩
      rw [hd.2.2]
      rw [hd.1] at r1
      rw [hd.2.1] at r2
      rw [r1.val, r2.val]
      have v1 := r1.win
      have v2 := r2.win
      have q1 := r1.1
      clear hd
      repeat first|refine W.g ?_|refine L.p rfl rfl ?_|refine L.nil ?_|refine L.skip rfl ?_
      refine W.ite rfl (fun h => ?_) (fun h => ?_)
      · cases h
      clear h
      repeat first|refine W.g ?_|refine L.p rfl rfl ?_|refine L.nil ?_|refine L.skip rfl ?_
      have u1 := kT.trans q1
      refine L.cl (modMul_C _ a11 a2 _ c11 c2 (toW (r / j)) (toW t) m T1 v1 (w11.cons q1) (hm.cons u1) (hS.cons u1) (Nat.le_trans hG u1.len)) rfl rfl ?_
      rintro _ T2 hr
      refine ⟨fun _ => let ⟨d, _, h⟩ := hr; h.1, ?_⟩
      have z1 : wrE [toW (r / j), toW t] m = 0 := wrE_zero2 (by rw [wnum_toW]; exact hk) (by rw [wnum_toW]; exact ht) (by rw [hMM]; exact hm1) (by rw [hMM]; exact hm0)
      obtain ⟨d3, rfl, r3⟩ := hr.got z1
      rw [wnum_toW, wnum_toW, hMM] at r3 ⊢
      have v3 := r3.win
      have q2 := r3.1
      have u2 := u1.trans q2
      have q12 := q1.trans q2
      repeat first|refine W.g ?_|refine L.p rfl rfl ?_|refine L.nil ?_|refine L.skip rfl ?_
      refine W.ite rfl (fun h => ?_) (fun h => ?_)
      · cases h
      clear h
      repeat first|refine W.g ?_|refine L.p rfl rfl ?_|refine L.nil ?_|refine L.skip rfl ?_
      have hkt : r / j * t % M < M := Nat.mod_lt _ hmp
      refine L.cl (modSub_C a10 _ a2 c10 _ c2 (toW s) (toW (r / j * t % M)) m T2 (w10.cons q12) v3 (hm.cons u2)) rfl rfl ?_
      rintro _ T3 hr
      refine ⟨fun _ => let ⟨d, _, h⟩ := hr; h.1, ?_⟩
      have z2 : wrE [toW s, toW (r / j * t % M)] m = 0 := wrE_zero2 (by rw [wnum_toW]; exact hs) (by rw [wnum_toW]; omega) (by rw [hMM]; exact hm1) (by rw [hMM]; exact hm0)
      obtain ⟨d4, rfl, r4⟩ := hr.got z2
      rw [wnum_toW, wnum_toW, hMM, Nat.mod_mod] at r4 ⊢
      have v4 := r4.win
      have q3 := r4.1
      have u3 := u2.trans q3
      repeat first|refine W.g ?_|refine L.p rfl rfl ?_|refine L.nil ?_|refine L.skip rfl ?_
      refine W.ite rfl (fun h => ?_) (fun h => ?_)
      · cases h
      clear h
      repeat first|refine W.g ?_|refine L.p rfl rfl ?_|refine L.nil ?_|refine L.skip rfl ?_
      exact ⟨r % j, Nat.mod_lt _ (Nat.pos_of_ne_zero hq0), r % j, j, t, _, _, _, _, _, _, _, _, _, rfl, hR0, Nat.le_trans (Nat.le_of_lt (Nat.mod_lt _ (Nat.pos_of_ne_zero hq0))) hq, hq, ht, Nat.lt_trans (Nat.mod_lt _ hmp) hm2, u3, rfl, rfl, (w9.cons q12).cons q3, rfl, (v2.cons q2).cons q3, rfl, (w11.cons q12).cons q3, rfl, v4⟩
    · have := of_decide_eq_false h; omega
end Go.Proofs.YtlnlcddbllcehaaDoor

/- Layer 4: the short calls. Conditions: the tables lie in memory. -/
set_option linter.unusedSimpArgs false
set_option linter.unusedVariables false
set_option maxRecDepth 100000
set_option maxHeartbeats 4000000
set_option exponentiation.threshold 30000
namespace Go.Proofs.YtlnlcddbllcehaaDoor
open Go Ie
variable {Ext : FuncId → List Value → Mem → Outc → Mem → Prop}
theorem toW1 (x : BitVec 64) (h : x ≠ 0#64) : toW x.toNat = [x] := toW_is (by unfold Canon; simpa using h) (by show x.toNat + 18446744073709551616 * 0 = _; omega)
theorem one8192 {x : BitVec 64} : wnum [x] < 2 ^ 8192 := by
  have h : wnum [x] < 2 ^ (64 * 1) := wnum_lt [x]
  exact Nat.lt_of_lt_of_le h (Nat.pow_le_pow_right (by decide) (by decide))
theorem one4096 {x : BitVec 64} : wnum [x] < 2 ^ 4096 := by
  have h : wnum [x] < 2 ^ (64 * 1) := wnum_lt [x]
  exact Nat.lt_of_lt_of_le h (Nat.pow_le_pow_right (by decide) (by decide))
theorem inv10 : invP 10 7 = (1, 5) := by
  unfold invP
  rw [invN_step (by decide), invN_step (by decide)]
  show invN 7 1 0 5 _ = _
  rw [invN_zero]
theorem inv2 : (invP 2 4).1 = 2 := by
  unfold invP
  rw [invN_step (by decide)]
  show (invN 4 2 0 1 _).1 = 2
  rw [invN_zero]
theorem works_C (S : Mem) (hS : SinOk S) (hG : gN ≤ S.length) : C Tryd.prog gN Ext 17 [] S fun v S' => v = .bool true ∧ Cons S S' := by
  refine C.fn Tryd.func17 rfl (by kernel_rfl) rfl ?_
  repeat first|refine W.g ?_|refine L.p rfl rfl ?_|refine L.nil ?_|refine L.skip rfl ?_
  refine L.bsW [14#64] rfl rfl rfl rfl rfl rfl (fun b1 T1 k1 i1 => ?_)
  repeat first|refine W.g ?_|refine L.p rfl rfl ?_|refine L.nil ?_|refine L.skip rfl ?_
  refine L.bsW [21#64] rfl rfl rfl rfl rfl rfl (fun b2 T2 k2 i2 => ?_)
  repeat first|refine W.g ?_|refine L.p rfl rfl ?_|refine L.nil ?_|refine L.skip rfl ?_
  refine L.bsW [5#64] rfl rfl rfl rfl rfl rfl (fun b3 T3 k3 i3 => ?_)
  repeat first|refine W.g ?_|refine L.p rfl rfl ?_|refine L.nil ?_|refine L.skip rfl ?_
  have k := (k1.trans k2).trans k3
  refine L.cl (modSub_C _ _ _ _ _ _ [14#64] [21#64] [5#64] T3 ((i1.cons k2).cons k3) (i2.cons k3) i3) rfl rfl ?_
  rintro _ S1 hr
  refine ⟨fun _ => let ⟨d, _, h⟩ := hr; h.1, ?_⟩
  obtain ⟨d1, rfl, r1⟩ := hr.got (wrE_zero2 one8192 one8192 one4096 (by decide))
  rw [show (wnum [14#64] % wnum [5#64] + wnum [5#64] - wnum [21#64] % wnum [5#64]) % wnum [5#64] = (3#64).toNat from rfl, toW1 _ (by decide)] at r1 ⊢
  have w1 := r1.win
  replace k := k.trans r1.1
  clear hr r1 i1 i2 i3 k1 k2 k3
  repeat first|refine W.g ?_|refine L.p rfl rfl ?_|refine L.nil ?_|refine L.skip rfl ?_
  refine L.bsW [2#64] rfl rfl rfl rfl rfl rfl (fun b4 T4 k4 i4 => ?_)
  repeat first|refine W.g ?_|refine L.p rfl rfl ?_|refine L.nil ?_|refine L.skip rfl ?_
  refine L.bsW [10#64] rfl rfl rfl rfl rfl rfl (fun b5 T5 k5 i5 => ?_)
  repeat first|refine W.g ?_|refine L.p rfl rfl ?_|refine L.nil ?_|refine L.skip rfl ?_
  refine L.bsW [1000#64] rfl rfl rfl rfl rfl rfl (fun b6 T6 k6 i6 => ?_)
  repeat first|refine W.g ?_|refine L.p rfl rfl ?_|refine L.nil ?_|refine L.skip rfl ?_
  have k' := (k4.trans k5).trans k6
  replace w1 := w1.cons k'
  replace k := k.trans k'
  refine L.cl (modPow_C _ _ _ _ _ _ [2#64] [10#64] [1000#64] T6 ((i4.cons k5).cons k6) (i5.cons k6) i6 (hS.cons k) (Nat.le_trans hG k.len)) rfl rfl ?_
  rintro _ S2 hr
  refine ⟨fun _ => let ⟨d, _, h⟩ := hr; h.1, ?_⟩
  obtain ⟨d2, rfl, r2⟩ := hr.got (wrE_zero2 one8192 one8192 one4096 (by decide))
  rw [show wnum [2#64] ^ wnum [10#64] % wnum [1000#64] = (24#64).toNat from rfl, toW1 _ (by decide)] at r2 ⊢
  have w2 := r2.win
  replace w1 := w1.cons r2.1
  replace k := k.trans r2.1
  clear hr r2 i4 i5 i6 k4 k5 k6 k'
  repeat first|refine W.g ?_|refine L.p rfl rfl ?_|refine L.nil ?_|refine L.skip rfl ?_
  refine L.bsW [10#64] rfl rfl rfl rfl rfl rfl (fun b7 T7 k7 i7 => ?_)
  repeat first|refine W.g ?_|refine L.p rfl rfl ?_|refine L.nil ?_|refine L.skip rfl ?_
  refine L.bsW [7#64] rfl rfl rfl rfl rfl rfl (fun b8 T8 k8 i8 => ?_)
  repeat first|refine W.g ?_|refine L.p rfl rfl ?_|refine L.nil ?_|refine L.skip rfl ?_
  have k' := k7.trans k8
  replace w1 := w1.cons k'
  replace w2 := w2.cons k'
  replace k := k.trans k'
  refine L.cl (modInv_C _ _ _ _ [10#64] [7#64] T8 (i7.cons k8) i8 (hS.cons k) (Nat.le_trans hG k.len)) rfl rfl ?_
  rintro _ S3 hr
  refine ⟨fun _ => let ⟨d, _, h⟩ := hr; h.1, ?_⟩
  obtain ⟨d3, rfl, r3⟩ := hr.got (by
    unfold invE
    rw [if_pos (wrE_zero (fun l hl => by obtain rfl : l = [10#64] := by simpa using hl
                                         exact one8192) one4096 (by decide))]
    exact if_pos (congrArg Prod.fst inv10))
  rw [show (invP (wnum [10#64]) (wnum [7#64])).2 % wnum [7#64] = (5#64).toNat from congrArg (fun p : Nat × Nat => p.2 % 7) inv10, toW1 _ (by decide)] at r3 ⊢
  have w3 := r3.win
  replace w1 := w1.cons r3.1
  replace w2 := w2.cons r3.1
  replace k := k.trans r3.1
  clear hr r3 i7 i8 k7 k8 k'
  repeat first|refine W.g ?_|refine L.p rfl rfl ?_|refine L.nil ?_|refine L.skip rfl ?_
  refine L.bsW [2#64] rfl rfl rfl rfl rfl rfl (fun b9 T9 k9 i9 => ?_)
  repeat first|refine W.g ?_|refine L.p rfl rfl ?_|refine L.nil ?_|refine L.skip rfl ?_
  refine L.bsW [4#64] rfl rfl rfl rfl rfl rfl (fun b10 T10 k10 i10 => ?_)
  repeat first|refine W.g ?_|refine L.p rfl rfl ?_|refine L.nil ?_|refine L.skip rfl ?_
  have k' := k9.trans k10
  replace w1 := w1.cons k'
  replace w2 := w2.cons k'
  replace w3 := w3.cons k'
  replace k := k.trans k'
  refine L.cl (modInv_C _ _ _ _ [2#64] [4#64] T10 (i9.cons k10) i10 (hS.cons k) (Nat.le_trans hG k.len)) rfl rfl ?_
  rintro _ S4 ⟨d4, rfl, r4⟩
  refine ⟨fun _ => r4.1, ?_⟩
  have e4 : invE [2#64] [4#64] = 40 := by
    unfold invE
    rw [if_pos (wrE_zero (fun l hl => by obtain rfl : l = [2#64] := by simpa using hl
                                         exact one8192) one4096 (by decide))]
    refine if_neg fun h => ?_
    have := inv2.symm.trans h
    cases this
  rw [e4]
  replace w1 := w1.cons r4.1
  replace w2 := w2.cons r4.1
  replace w3 := w3.cons r4.1
  replace k := k.trans r4.1
  clear r4 e4 i9 i10 k9 k10 k'
  repeat first|refine W.g ?_|refine L.p rfl rfl ?_|refine L.nil ?_|refine L.skip rfl ?_
  refine L.bsW [2#64] rfl rfl rfl rfl rfl rfl (fun b11 T11 k11 i11 => ?_)
  repeat first|refine W.g ?_|refine L.p rfl rfl ?_|refine L.nil ?_|refine L.skip rfl ?_
  replace w1 := w1.cons k11
  replace w2 := w2.cons k11
  replace w3 := w3.cons k11
  replace k := k.trans k11
  refine L.cl (of_C _ _ _ _ [2#64] [] T11 i11 ⟨Slv.nil _ _ _ _, by decide, fun _ => rfl, by decide⟩) rfl rfl ?_
  rintro _ S5 ⟨d5, rfl, r5⟩
  refine ⟨fun _ => r5.1, ?_⟩
  have e5 : wrE [[2#64]] [] = 11 := by
    unfold wrE
    rw [if_pos (List.all_eq_true.2 fun l hl => by obtain rfl : l = [2#64] := by simpa using hl
                                                  exact small_of one8192), if_neg (by decide)]
    exact if_pos rfl
  rw [e5]
  replace w1 := w1.cons r5.1
  replace w2 := w2.cons r5.1
  replace w3 := w3.cons r5.1
  replace k := k.trans r5.1
  clear r5 e5 i11 k11
  repeat first|refine W.g ?_|refine L.p rfl rfl ?_|refine L.nil ?_|refine L.skip rfl ?_
  refine L.bsW [3#64] rfl rfl rfl rfl rfl rfl (fun b12 T12 k12 i12 => ?_)
  repeat first|refine W.g ?_|refine L.p rfl rfl ?_|refine L.nil ?_|refine L.skip rfl ?_
  replace k := k.trans k12
  refine L.cl (sameW_C _ _ [3#64] [3#64] 1 1 T12 (w1.cons k12).1 i12.1 (by decide) (by decide)) rfl rfl ?_
  rintro _ M ⟨rfl, hM⟩
  have hM := hM.symm
  subst hM
  refine ⟨fun _ => Cons.refl _, ?_⟩
  repeat first|refine W.g ?_|refine L.p rfl rfl ?_|refine L.nil ?_|refine L.skip rfl ?_
  rw [beq_self_eq_true]
  repeat first|refine W.g ?_|refine L.p rfl rfl ?_|refine L.nil ?_|refine L.skip rfl ?_
  refine L.bsW [24#64] rfl rfl rfl rfl rfl rfl (fun b13 T13 k13 i13 => ?_)
  repeat first|refine W.g ?_|refine L.p rfl rfl ?_|refine L.nil ?_|refine L.skip rfl ?_
  replace k := k.trans k13
  refine L.cl (sameW_C _ _ [24#64] [24#64] 1 1 T13 ((w2.cons k12).cons k13).1 i13.1 (by decide) (by decide)) rfl rfl ?_
  rintro _ M ⟨rfl, hM⟩
  have hM := hM.symm
  subst hM
  refine ⟨fun _ => Cons.refl _, ?_⟩
  repeat first|refine W.g ?_|refine L.p rfl rfl ?_|refine L.nil ?_|refine L.skip rfl ?_
  rw [beq_self_eq_true]
  repeat first|refine W.g ?_|refine L.p rfl rfl ?_|refine L.nil ?_|refine L.skip rfl ?_
  refine L.bsW [5#64] rfl rfl rfl rfl rfl rfl (fun b14 T14 k14 i14 => ?_)
  repeat first|refine W.g ?_|refine L.p rfl rfl ?_|refine L.nil ?_|refine L.skip rfl ?_
  replace k := k.trans k14
  refine L.cl (sameW_C _ _ [5#64] [5#64] 1 1 T14 (((w3.cons k12).cons k13).cons k14).1 i14.1 (by decide) (by decide)) rfl rfl ?_
  rintro _ M ⟨rfl, hM⟩
  have hM := hM.symm
  subst hM
  refine ⟨fun _ => Cons.refl _, ?_⟩
  repeat first|refine W.g ?_|refine L.p rfl rfl ?_|refine L.nil ?_|refine L.skip rfl ?_
  rw [beq_self_eq_true]
  repeat first|refine W.g ?_|refine L.p rfl rfl ?_|refine L.nil ?_|refine L.skip rfl ?_
  exact ⟨.inr rfl, _, rfl, rfl, k⟩
end Go.Proofs.YtlnlcddbllcehaaDoor

/- Layer 1: numbers out of bytes. Conditions: none. -/
set_option linter.unusedSimpArgs false
set_option linter.unusedVariables false
set_option maxRecDepth 100000
namespace Go.Proofs.YtlnlcddbllcehaaDoor
open Go
variable {G : Nat} {Ext : FuncId → List Value → Mem → Outc → Mem → Prop}

/-- a list of bytes that may be read, and cut -/
def BIn (S : Mem) (a : Option Addr) (c : Nat) (l : BL) : Prop := Slv S 1 (.slice a l.length c) l.length (bv l) ∧ Cut l.length c ∧ l.length < 1099511627776
theorem BIn.cons {S S' : Mem} {a : Option Addr} {c : Nat} {l : BL} (h : BIn S a c l) (k : Cons S S') : BIn S' a c l := ⟨h.1.cons k, h.2⟩
end Go.Proofs.YtlnlcddbllcehaaDoor

/- Layer 1's reference: digits to the base 2^32, forms, lengths. Conditions: none. -/
set_option linter.unusedSimpArgs false
set_option linter.unusedVariables false
set_option maxRecDepth 100000
namespace Go.Proofs.YtlnlcddbllcehaaDoor
open Go
variable {G : Nat} {Ext : FuncId → List Value → Mem → Outc → Mem → Prop}

/-- the number of digits to the base 2^32 -/
def hnum : WL → Nat
  | [] => 0
  | x :: l => x.toNat + 4294967296 * hnum l
theorem hnum_append (l m : WL) : hnum (l ++ m) = hnum l + 2 ^ (32 * l.length) * hnum m := by
  induction l with
  | nil => simp [hnum]
  | cons x l ih =>
    rw [List.cons_append, hnum, hnum, ih, List.length_cons, Nat.mul_succ, Nat.pow_add, Nat.mul_add, ← Nat.mul_assoc, Nat.mul_comm (2 ^ (32 * l.length)) (2 ^ 32)]
    have e : (2 : Nat) ^ 32 = 4294967296 := by decide
    rw [e]
    omega
theorem hnum_zeros (k : Nat) : hnum (List.replicate k 0#64) = 0 := by
  induction k with
  | zero => rfl
  | succ k ih => rw [List.replicate_succ, hnum, ih]; rfl
/-- a list is its form, and noughts -/
theorem form_zeros (l : WL) : l = fm l ++ List.replicate (l.length - (fm l).length) 0#64 := by
  have h1 : l.take (fm l).length = fm l := toW_take l
  have hs : fm l ++ l.drop (fm l).length = l := by
    have := List.take_append_drop (fm l).length l
    rwa [h1] at this
  have h0 : wnum (l.drop (fm l).length) = 0 := by
    have h2 := wnum_append (fm l) (l.drop (fm l).length)
    rw [hs, show wnum (fm l) = wnum l from wnum_toW _] at h2
    have hp : 0 < 2 ^ (64 * (fm l).length) := Nat.pow_pos (by decide)
    have h3 : 2 ^ (64 * (fm l).length) * wnum (l.drop (fm l).length) = 0 := by omega
    rcases Nat.mul_eq_zero.1 h3 with h4 | h4
    · omega
    · exact h4
  have hz : ∀ m : WL, wnum m = 0 → m = List.replicate m.length 0#64 := by
    intro m
    induction m with
    | nil => intro _; rfl
    | cons x m ih =>
      intro h
      rw [wnum] at h
      have hx : x = 0#64 := BitVec.eq_of_toNat_eq (by simp; omega)
      rw [List.length_cons, List.replicate_succ, ← ih (by omega), hx]
  have h5 := hz _ h0
  rw [List.length_drop] at h5
  rw [h5] at hs
  exact hs.symm
theorem hnum_form (l : WL) : hnum (fm l) = hnum l := by
  conv => rhs; rw [form_zeros l, hnum_append, hnum_zeros]
  simp
def Small32 (l : WL) : Prop := ∀ x ∈ l, x.toNat < 4294967296
theorem small32_form {l : WL} (h : Small32 l) : Small32 (fm l) := fun x hx => h x (by
  rw [show fm l = l.take (fm l).length from (toW_take l).symm] at hx
  exact List.mem_of_mem_take hx)
/-- each limb in two -/
def hl (l : WL) : WL := l.flatMap fun x => [x &&& 0xffffffff#64, x >>> 32]
theorem and32 (x : BitVec 64) : (x &&& 0xffffffff#64).toNat = x.toNat % 4294967296 := by
  rw [BitVec.toNat_and]
  exact Nat.and_two_pow_sub_one_eq_mod x.toNat 32
theorem shr32 (x : BitVec 64) : (x >>> 32).toNat = x.toNat / 4294967296 := by
  rw [BitVec.toNat_ushiftRight, Nat.shiftRight_eq_div_pow]
theorem hnum_hl (l : WL) : hnum (hl l) = wnum l := by
  induction l with
  | nil => rfl
  | cons x l ih =>
    have hx := x.isLt
    show hnum ((x &&& 0xffffffff#64) :: (x >>> 32) :: hl l) = _
    rw [hnum, hnum, ih, wnum, and32, shr32]
    omega
theorem small_hl (l : WL) : Small32 (hl l) := by
  intro y hy
  obtain ⟨x, _, hx⟩ := List.mem_flatMap.1 hy
  have hlt := x.isLt
  simp at hx
  rcases hx with rfl | rfl
  · rw [and32]; omega
  · rw [shr32]; omega
/-- two digits in one -/
def un : WL → WL
  | [] => []
  | [x] => [x]
  | x :: y :: l => (x ||| y <<< 32) :: un l
theorem wnum_un (l : WL) (h : Small32 l) : wnum (un l) = hnum l := by
  match l, h with
  | [], _ => rfl
  | [x], _ => rfl
  | x :: y :: l, h =>
    have hx := h x (by simp)
    have hy := h y (by simp)
    rw [un, wnum, wnum_un l (fun z hz => h z (by simp [hz])), hnum, hnum]
    have : (x ||| y <<< 32).toNat = x.toNat + 4294967296 * y.toNat := by
      rw [BitVec.toNat_or, BitVec.toNat_shiftLeft, Nat.shiftLeft_eq, Nat.mod_eq_of_lt (by omega)]
      have := Nat.two_pow_add_eq_or_of_lt (i := 32) (show x.toNat < 2 ^ 32 from hx) y.toNat
      rw [Nat.or_comm, Nat.mul_comm y.toNat, ← this]
      omega
    rw [this]
    omega
theorem form_un (l : WL) : fm (un (fm (hl l))) = fm l := by
  show toW (wnum (un (fm (hl l)))) = toW (wnum l)
  rw [wnum_un _ (small32_form (small_hl l)), hnum_form, hnum_hl]

theorem strip_C (a : Option Addr) (c : Nat) (l : WL) (S : Mem) (h : WIn S a c l) : C Tryd.prog G Ext 77 [.slice a l.length c] S fun v S' => v = .slice a (fm l).length c ∧ S' = S := by
  refine C.fn Tryd.func77 rfl (by kernel_rfl) rfl ?_
  obtain ⟨hs, hc, ha, hlen⟩ := h
  repeat first|refine W.g ?_|refine L.p rfl rfl ?_|refine L.nil ?_|refine L.skip rfl ?_
  refine W.loop (fun j e S' => ∃ k : Nat, j = k ∧ k ≤ l.length ∧ S' = S ∧ e 0 = .slice a l.length c ∧ e 3 = vi k ∧ ∀ i, k ≤ i → i < l.length → l[i]? = some 0#64) l.length ⟨l.length, rfl, Nat.le_refl _, rfl, rfl, rfl, fun i h1 h2 => by omega⟩ ?_
  rintro k e S' ⟨_, rfl, hk, rfl, e0, e3, hz⟩
  refine W.env2 e0 e3 ?_
  have fin : (k = 0 ∨ l[k - 1]? ≠ some 0#64) → k = (fm l).length := fun h => by
    have := take_canon hk hz h
    unfold fm
    rw [← this, List.length_take]; omega
  repeat first|refine W.g ?_|refine L.p rfl rfl ?_|refine L.nil ?_|refine L.skip rfl ?_
  cases hb : decide ((k : Int) > 0)
  · have hk0 : k = 0 := by have := of_decide_eq_false hb; omega
    clear hb
    repeat first|refine W.g ?_|refine L.p rfl rfl ?_|refine L.nil ?_|refine L.skip rfl ?_
    refine W.ite rfl (fun h => ?_) (fun h => ?_)
    · cases h
    repeat first|refine W.g ?_|refine L.p rfl rfl ?_|refine L.nil ?_|refine L.skip rfl ?_
    refine L.is (.slice a k c) ((slice_at0 rfl rfl rfl).trans (aslice_to (kd := .i64) rfl (by omega) ha)) rfl ?_
    repeat first|refine W.g ?_|refine L.p rfl rfl ?_|refine L.nil ?_|refine L.skip rfl ?_
    exact ⟨.inr rfl, _, rfl, by rw [← fin (.inl hk0)]; rfl, rfl⟩
  have hk0 : 0 < k := by have := of_decide_eq_true hb; omega
  clear hb
  repeat first|refine W.g ?_|refine L.p rfl rfl ?_|refine L.nil ?_|refine L.skip rfl ?_
  have hkl : k - 1 < l.length := by omega
  have hget : l[k - 1]? = some l[k - 1] := List.getElem?_eq_getElem hkl
  refine L.el hs (k := k - 1) (by rw [wrap64 (by omega) (by omega)]; omega) (wv_get hget) rfl rfl rfl rfl (fun _ => rfl) rfl (fun p => ?_)
  repeat first|refine W.g ?_|refine L.p rfl rfl ?_|refine L.nil ?_|refine L.skip rfl ?_
  cases hz0 : (l[k - 1] == 0#64)
  · have hne : l[k - 1] ≠ 0#64 := by simpa using hz0
    have hv : ((l[k - 1].toNat : Int) == 0) = false := by
      rw [beq_eq_false_iff_ne]
      intro e; exact hne (BitVec.eq_of_toNat_eq (by simpa using e))
    rw [hv]
    repeat first|refine W.g ?_|refine L.p rfl rfl ?_|refine L.nil ?_|refine L.skip rfl ?_
    refine W.ite rfl (fun h => ?_) (fun h => ?_)
    · cases h
    repeat first|refine W.g ?_|refine L.p rfl rfl ?_|refine L.nil ?_|refine L.skip rfl ?_
    refine L.is (.slice a k c) ((slice_at0 rfl rfl rfl).trans (aslice_to (kd := .i64) rfl (by omega) ha)) rfl ?_
    repeat first|refine W.g ?_|refine L.p rfl rfl ?_|refine L.nil ?_|refine L.skip rfl ?_
    exact ⟨.inr rfl, _, rfl, by rw [← fin (.inr (by rw [hget]; simpa using hne))]; rfl, rfl⟩
  · have he : l[k - 1] = 0#64 := by simpa using hz0
    rw [show ((l[k - 1].toNat : Int) == 0) = true by rw [he]; rfl]
    repeat first|refine W.g ?_|refine L.p rfl rfl ?_|refine L.nil ?_|refine L.skip rfl ?_
    refine W.ite rfl (fun h => ?_) (fun h => ?_)
    rotate_left
    · cases h
    repeat first|refine W.g ?_|refine L.p rfl rfl ?_|refine L.nil ?_|refine L.skip rfl ?_
    refine ⟨k - 1, by omega, k - 1, rfl, by omega, rfl, rfl, ?_, fun i h1 h2 => ?_⟩
    · refine (force_eq rfl).trans ?_
      rw [wrap64 (by omega) (by omega)]
      congr 1; omega
    rcases Nat.eq_or_lt_of_le h1 with h3 | h3
    · rw [← h3, hget, he]
    · exact hz i (by omega) h2
theorem and_u64 (x : BitVec 64) : IntKind.u64.wrap ((BitVec.ofInt IntKind.u64.bits (x.toNat : Int) &&& BitVec.ofInt IntKind.u64.bits 4294967295).toNat : Int) = ((x &&& 0xffffffff#64).toNat : Int) := by
  rw [bits_u64, ofInt_toNat, wrap_u64, ofInt_toNat]; rfl
theorem halves_C (a : Option Addr) (c : Nat) (l : WL) (S : Mem) (hI : WIn S a c l) (hlen : l.length < 1000000) : C Tryd.prog G Ext 74 [.slice a l.length c] S fun v S' => RefW S S' v (fm (hl l)) := by
  refine C.fn Tryd.func74 rfl (by kernel_rfl) rfl ?_
  repeat first|refine W.g ?_|refine L.p rfl rfl ?_|refine L.nil ?_|refine L.skip rfl ?_
  refine W.loop (fun j e S' => ∃ (i : Nat) (a3 : Option Addr) (c3 : Nat), j = l.length - i ∧ i ≤ l.length ∧ Cons S S' ∧ e 0 = .slice a l.length c ∧ e 3 = .slice a3 (i + i) c3 ∧ e 4 = vi i ∧ Grow S.length S' 39 1 (.slice a3 (i + i) c3) (i + i) (wv (hl (l.take i)))) l.length
    ⟨0, none, 0, by omega, by omega, Cons.refl _, rfl, rfl, rfl, Grow.nil _ _ _ _⟩ ?_
  rintro j e S' ⟨i, a3, c3, rfl, hi, hc, e0, e3, e4, hg⟩
  refine W.env3 e0 e3 e4 ?_
  repeat first|refine W.g ?_|refine L.p rfl rfl ?_|refine L.nil ?_|refine L.skip rfl ?_
  refine W.ite rfl (fun h => ?_) (fun h => ?_)
  · have hin : i < l.length := by have := of_decide_eq_true h; omega
    clear h
    obtain ⟨x, hx⟩ : ∃ x, l[i]? = some x := ⟨_, List.getElem?_eq_getElem hin⟩
    repeat first|refine W.g ?_|refine L.p rfl rfl ?_|refine L.nil ?_|refine L.skip rfl ?_
    refine L.el (hI.cons hc).1 rfl (wv_get hx) rfl rfl rfl rfl (fun _ => rfl) rfl (fun p => ?_)
    repeat first|refine W.g ?_|refine L.p rfl rfl ?_|refine L.nil ?_|refine L.skip rfl ?_
    refine L.push1 (w := v64 (x &&& 0xffffffff#64)) rfl hc.len (.inl hg) rfl ((force_eq rfl).trans (congrArg (Value.int .u64) (and_u64 x))) rfl rfl rfl (by omega) rfl (fun _ => rfl) (fun p a4 c4 S2 h2 h3 h4 => ?_)
    have hc2 := hc.trans' h4
    repeat first|refine W.g ?_|refine L.p rfl rfl ?_|refine L.nil ?_|refine L.skip rfl ?_
    refine L.el (hI.cons hc2).1 rfl (wv_get hx) rfl rfl rfl rfl (fun _ => rfl) rfl (fun p => ?_)
    repeat first|refine W.g ?_|refine L.p rfl rfl ?_|refine L.nil ?_|refine L.skip rfl ?_
    refine L.push1 (w := v64 (x >>> 32)) rfl hc2.len (.inl h2) rfl ((force_eq rfl).trans (congrArg (Value.int .u64) (fdiv_shr x 32))) rfl rfl rfl (by omega) rfl (fun _ => rfl) (fun p a5 c5 S3 k2 k3 k4 => ?_)
    repeat first|refine W.g ?_|refine L.p rfl rfl ?_|refine L.nil ?_|refine L.skip rfl ?_
    refine ⟨l.length - (i + 1), by omega, i + 1, a5, c5, rfl, by omega, hc2.trans' k4, rfl, ?_, ?_, ?_⟩
    · refine (force_eq rfl).trans ?_
      rw [show i + i + 1 + 1 = i + 1 + (i + 1) by omega]
    · refine (force_eq rfl).trans ?_
      rw [wrap64 (by omega) (by omega)]; rfl
    · rw [show i + i + 1 + 1 = i + 1 + (i + 1) by omega] at k2
      have : wv (hl (l.take (i + 1))) = (wv (hl (l.take i)) ++ [v64 (x &&& 0xffffffff#64)]) ++ [v64 (x >>> 32)] := by
        rw [List.take_add_one, hx, hl, List.flatMap_append, wv, List.map_append]
        show List.map v64 (hl (l.take i)) ++ [_, _] = _
        rw [List.append_assoc]; rfl
      rw [this]
      exact k2
  · have hin : i = l.length := by have := of_decide_eq_false h; omega
    subst hin
    rw [List.take_length] at hg
    have hll : (hl l).length = l.length + l.length := by have := hg.1; rw [wv_len] at this; omega
    rw [← hll] at hg ⊢
    have hW := grow_win hg (by omega)
    repeat first|refine W.g ?_|refine L.p rfl rfl ?_|refine L.nil ?_|refine L.skip rfl ?_
    refine L.cl (strip_C a3 c3 (hl l) _ hW) rfl rfl ?_
    rintro _ _ ⟨rfl, rfl⟩
    refine ⟨nofun, ?_⟩
    repeat first|refine W.g ?_|refine L.p rfl rfl ?_|refine L.nil ?_|refine L.skip rfl ?_
    exact ⟨.inr rfl, _, rfl, hc, a3, c3, rfl, hW.form⟩
end Go.Proofs.YtlnlcddbllcehaaDoor

/- Layer 1's reference: forms, lengths, numbers out of bytes. Conditions: none. -/
set_option linter.unusedSimpArgs false
set_option linter.unusedVariables false
set_option maxRecDepth 100000
namespace Go.Proofs.YtlnlcddbllcehaaDoor
open Go
variable {G : Nat} {Ext : FuncId → List Value → Mem → Outc → Mem → Prop}

theorem un_app : ∀ (q : Nat) (l m : WL), l.length = 2 * q → un (l ++ m) = un l ++ un m
  | 0, l, m, h => by rw [List.length_eq_zero_iff.1 (by omega : l.length = 0)]; rfl
  | q + 1, [], m, h => by simp at h
  | q + 1, [x], m, h => by simp at h; omega
  | q + 1, x :: y :: l, m, h => by
    show un (x :: y :: (l ++ m)) = _
    rw [un, un, un_app q l m (by simp at h; omega)]; rfl
theorem un_len (l : WL) : (un l).length ≤ l.length := by
  match l with
  | [] => exact Nat.le_refl _
  | [x] => exact Nat.le_refl _
  | x :: y :: l => rw [un, List.length_cons, List.length_cons, List.length_cons]; have := un_len l; omega
theorem or_shl64 (x y : BitVec 64) : IntKind.u64.wrap ((BitVec.ofInt IntKind.u64.bits (x.toNat : Int) ||| BitVec.ofInt IntKind.u64.bits (IntKind.u64.wrap ((y.toNat : Int) * 2 ^ 32))).toNat : Int) = ((x ||| y <<< 32).toNat : Int) := by
  rw [wrap_u64 ((y.toNat : Int) * 2 ^ 32), ofInt_shl, bits_u64, ofInt_toNat, ofInt_toNat, wrap_u64, ofInt_toNat]
theorem limbs_C (a : Option Addr) (c : Nat) (h : WL) (S : Mem) (hI : WIn S a c h) (hlen : h.length < 1000000) : C Tryd.prog G Ext 75 [.slice a h.length c] S fun v S' => RefW S S' v (fm (un h)) := by
  refine C.fn Tryd.func75 rfl (by kernel_rfl) rfl ?_
  repeat first|refine W.g ?_|refine L.p rfl rfl ?_|refine L.nil ?_|refine L.skip rfl ?_
  refine W.loop (fun j e S' => ∃ (q : Nat) (a3 : Option Addr) (c3 : Nat), j = h.length + 1 - 2 * q ∧ 2 * q ≤ h.length + 1 ∧ Cons S S' ∧ e 0 = .slice a h.length c ∧ e 3 = .slice a3 q c3 ∧ e 4 = vi (2 * q) ∧ Grow S.length S' 39 1 (.slice a3 q c3) q (wv (un (h.take (2 * q))))) (h.length + 1)
    ⟨0, none, 0, by omega, by omega, Cons.refl _, rfl, rfl, rfl, Grow.nil _ _ _ _⟩ ?_
  rintro j e S' ⟨q, a3, c3, rfl, hi, hc, e0, e3, e4, hg⟩
  refine W.env3 e0 e3 e4 ?_
  repeat first|refine W.g ?_|refine L.p rfl rfl ?_|refine L.nil ?_|refine L.skip rfl ?_
  have hIc := hI.cons hc
  refine W.ite rfl (fun hb => ?_) (fun hb => ?_)
  · have hin : 2 * q < h.length := by have := of_decide_eq_true hb; omega
    clear hb
    obtain ⟨x, hx⟩ : ∃ x, h[2 * q]? = some x := ⟨_, List.getElem?_eq_getElem hin⟩
    have hw1 : IntKind.i64.wrap (((2 * q : Nat) : Int) + 1) = ((2 * q + 1 : Nat) : Int) := by rw [wrap64 (by omega) (by omega)]; omega
    repeat first|refine W.g ?_|refine L.p rfl rfl ?_|refine L.nil ?_|refine L.skip rfl ?_
    refine L.el hIc.1 rfl (wv_get hx) rfl rfl rfl rfl (fun _ => rfl) rfl (fun p => ?_)
    repeat first|refine W.g ?_|refine L.p rfl rfl ?_|refine L.nil ?_|refine L.skip rfl ?_
    rw [hw1]
    refine W.ite rfl (fun hb => ?_) (fun hb => ?_)
    · have hin2 : 2 * q + 1 < h.length := by have := of_decide_eq_true hb; omega
      clear hb
      obtain ⟨y, hy⟩ : ∃ y, h[2 * q + 1]? = some y := ⟨_, List.getElem?_eq_getElem hin2⟩
      repeat first|refine W.g ?_|refine L.p rfl rfl ?_|refine L.nil ?_|refine L.skip rfl ?_
      refine L.el hIc.1 hw1 (wv_get hy) rfl rfl rfl rfl (fun _ => rfl) rfl (fun p => ?_)
      repeat first|refine W.g ?_|refine L.p rfl rfl ?_|refine L.nil ?_|refine L.skip rfl ?_
      repeat first|refine W.g ?_|refine L.p rfl rfl ?_|refine L.nil ?_|refine L.skip rfl ?_
      refine L.push1 (w := v64 (x ||| y <<< 32)) rfl hc.len (.inl hg) rfl ((force_eq rfl).trans (congrArg (Value.int .u64) (or_shl64 x y))) rfl rfl rfl (by omega) rfl (fun _ => rfl) (fun p a5 c5 S3 k2 k3 k4 => ?_)
      repeat first|refine W.g ?_|refine L.p rfl rfl ?_|refine L.nil ?_|refine L.skip rfl ?_
      refine ⟨h.length + 1 - 2 * (q + 1), by omega, q + 1, a5, c5, rfl, by omega, hc.trans' k4, rfl, ?_, ?_, ?_⟩
      · exact force_eq rfl
      · refine (force_eq rfl).trans ?_
        rw [wrap64 (by omega) (by omega)]
        congr 1
      · rw [show 2 * (q + 1) = 2 * q + 2 by omega]
        have : un (h.take (2 * q + 2)) = un (h.take (2 * q)) ++ [(x ||| y <<< 32)] := by
          rw [List.take_add, un_app q _ _ (by rw [List.length_take]; omega), show (h.drop (2 * q)).take 2 = [x, y] by (rw [List.drop_eq_getElem_cons hin, List.drop_eq_getElem_cons hin2]; rw [List.getElem?_eq_getElem hin] at hx; rw [List.getElem?_eq_getElem hin2] at hy; cases hx; cases hy; rfl)]
          rfl
        rw [this, wv, List.map_append]
        exact k2
    · have hin2 : 2 * q + 1 = h.length := by have := of_decide_eq_false hb; omega
      clear hb
      repeat first|refine W.g ?_|refine L.p rfl rfl ?_|refine L.nil ?_|refine L.skip rfl ?_
      refine L.push1 (w := v64 x) rfl hc.len (.inl hg) rfl rfl rfl rfl rfl (by omega) rfl (fun _ => rfl) (fun p a5 c5 S3 k2 k3 k4 => ?_)
      repeat first|refine W.g ?_|refine L.p rfl rfl ?_|refine L.nil ?_|refine L.skip rfl ?_
      refine ⟨h.length + 1 - 2 * (q + 1), by omega, q + 1, a5, c5, rfl, by omega, hc.trans' k4, rfl, ?_, ?_, ?_⟩
      · exact force_eq rfl
      · refine (force_eq rfl).trans ?_
        rw [wrap64 (by omega) (by omega)]
        congr 1
      · rw [show 2 * (q + 1) = 2 * q + 2 by omega]
        have : un (h.take (2 * q + 2)) = un (h.take (2 * q)) ++ [x] := by
          rw [List.take_add, un_app q _ _ (by rw [List.length_take]; omega), show (h.drop (2 * q)).take 2 = [x] by (rw [List.drop_eq_getElem_cons hin, List.drop_eq_nil_of_le (by omega)]; rw [List.getElem?_eq_getElem hin] at hx; cases hx; rfl)]
          rfl
        rw [this, wv, List.map_append]
        exact k2
  · have hin : h.length ≤ 2 * q := by have := of_decide_eq_false hb; omega
    clear hb
    rw [List.take_of_length_le hin] at hg
    have hll : (un h).length = q := by have := hg.1; rw [wv_len] at this; omega
    rw [← hll] at hg ⊢
    have hW := grow_win hg (by have := un_len h; omega)
    repeat first|refine W.g ?_|refine L.p rfl rfl ?_|refine L.nil ?_|refine L.skip rfl ?_
    refine L.cl (strip_C a3 c3 (un h) _ hW) rfl rfl ?_
    rintro _ _ ⟨rfl, rfl⟩
    refine ⟨nofun, ?_⟩
    repeat first|refine W.g ?_|refine L.p rfl rfl ?_|refine L.nil ?_|refine L.skip rfl ?_
    exact ⟨.inr rfl, _, rfl, hc, a3, c3, rfl, hW.form⟩
theorem hl_len (l : WL) : (hl l).length = 2 * l.length := by
  induction l with
  | nil => rfl
  | cons x l ih => show ((x &&& 0xffffffff#64) :: (x >>> 32) :: hl l).length = _; simp [ih]; omega
theorem form_C (a : Option Addr) (c : Nat) (l : WL) (S : Mem) (hI : WIn S a c l) (hlen : l.length < 400000) : C Tryd.prog G Ext 59 [.slice a l.length c] S fun v S' => RefW S S' v (fm l) := by
  refine C.fn Tryd.func59 rfl (by kernel_rfl) rfl ?_
  repeat first|refine W.g ?_|refine L.p rfl rfl ?_|refine L.nil ?_|refine L.skip rfl ?_
  refine L.cl (halves_C a c l S hI (by omega)) rfl rfl ?_
  rintro _ S1 ⟨hc1, a1, c1, rfl, hW1⟩
  refine ⟨nofun, ?_⟩
  have hln : (fm (hl l)).length ≤ 2 * l.length := by have h1 : (fm (hl l)).length ≤ (hl l).length := toW_len_le _; rw [hl_len] at h1; exact h1
  refine L.cl (limbs_C a1 c1 (fm (hl l)) S1 hW1 (by omega)) rfl rfl ?_
  rintro _ S2 ⟨hc2, a2, c2, rfl, hW2⟩
  refine ⟨nofun, ?_⟩
  rw [form_un] at hW2 ⊢
  repeat first|refine W.g ?_|refine L.p rfl rfl ?_|refine L.nil ?_|refine L.skip rfl ?_
  exact ⟨.inr rfl, _, rfl, hc1.trans hc2, a2, c2, rfl, hW2⟩
theorem hnum_lt {l : WL} (h : Small32 l) : hnum l < 2 ^ (32 * l.length) := by
  induction l with
  | nil => simp [hnum]
  | cons x l ih =>
    have hx := h x (by simp)
    have h2 := ih (fun y hy => h y (by simp [hy]))
    rw [hnum, List.length_cons, Nat.mul_succ, Nat.pow_add]
    have := Nat.mul_le_mul_left 4294967296 (Nat.succ_le_of_lt h2)
    rw [Nat.mul_comm (2 ^ (32 * l.length))]
    have e : (2 : Nat) ^ 32 = 4294967296 := by decide
    rw [e]
    omega
theorem blen_top32 {l : WL} {x : BitVec 64} (hs : Small32 l) (h : l.getLast? = some x) (hx : x ≠ 0#64) : blen (hnum l) = 32 * (l.length - 1) + blen x.toNat := by
  have hne : l ≠ [] := by intro e; subst e; simp at h
  have hs2 := List.dropLast_concat_getLast hne
  have he : l.getLast hne = x := by rw [List.getLast?_eq_some_getLast hne] at h; simpa using h
  have hw := hnum_append l.dropLast [l.getLast hne]
  rw [hs2, he] at hw
  have hx0 : x.toNat ≠ 0 := fun e => hx (BitVec.eq_of_toNat_eq (by simpa using e))
  rw [hw]
  simp only [hnum, Nat.mul_zero, Nat.add_zero, List.length_dropLast]
  have hlt := hnum_lt (l := l.dropLast) (fun y hy => hs y (List.dropLast_subset _ hy))
  rw [List.length_dropLast] at hlt
  exact blen_shift hlt hx0
theorem blen_half {m : Nat} (h : 0 < m) : blen m = blen (m / 2) + 1 := by
  by_cases h1 : m < 2
  · have : m = 1 := by omega
    subst this; decide
  · have := blen_div (n := m) (k := 1) (by omega)
    rw [this, Nat.pow_one]; omega
theorem length_C (a : Option Addr) (c : Nat) (l : WL) (S : Mem) (hI : WIn S a c l) (hlen : l.length < 400000) : C Tryd.prog G Ext 62 [.slice a l.length c] S fun v S' => v = vi (blen (wnum l)) ∧ Cons S S' := by
  refine C.fn Tryd.func62 rfl (by kernel_rfl) rfl ?_
  repeat first|refine W.g ?_|refine L.p rfl rfl ?_|refine L.nil ?_|refine L.skip rfl ?_
  refine L.cl (halves_C a c l S hI (by omega)) rfl rfl ?_
  rintro _ S1 ⟨hc1, a1, c1, rfl, hW1⟩
  refine ⟨nofun, ?_⟩
  have hln : (fm (hl l)).length ≤ 2 * l.length := by have h1 : (fm (hl l)).length ≤ (hl l).length := toW_len_le _; rw [hl_len] at h1; exact h1
  have hnum' : hnum (fm (hl l)) = wnum l := by rw [hnum_form, hnum_hl]
  have hcan := canon_toW (wnum (hl l))
  have hsm := small32_form (small_hl l)
  obtain ⟨h, hh⟩ : ∃ h, h = fm (hl l) := ⟨_, rfl⟩
  rw [← hh] at hW1 hln hnum' hsm ⊢
  rw [show toW (wnum (hl l)) = h from hh.symm] at hcan
  clear hh
  repeat first|refine W.g ?_|refine L.p rfl rfl ?_|refine L.nil ?_|refine L.skip rfl ?_
  refine W.ite rfl (fun hb => ?_) (fun hb => ?_)
  · have h0 : h = [] := by simpa using hb
    have : wnum l = 0 := by rw [← hnum', h0]; rfl
    repeat first|refine W.g ?_|refine L.p rfl rfl ?_|refine L.nil ?_|refine L.skip rfl ?_
    exact ⟨.inr rfl, _, rfl, by rw [this]; rfl, hc1⟩
  · have h0 : 0 < h.length := by
      rcases Nat.eq_zero_or_pos h.length with h1 | h1
      · rw [h1] at hb; simp at hb
      · exact h1
    clear hb
    obtain ⟨x, hx⟩ : ∃ x, h.getLast? = some x := ⟨_, List.getLast?_eq_some_getLast (by intro e; rw [e] at h0; simp at h0)⟩
    have hxi : h[h.length - 1]? = some x := by rw [← List.getLast?_eq_getElem?]; exact hx
    have hx0 : x ≠ 0#64 := fun e => hcan (by rw [← e]; exact hx)
    have ht := blen_top32 hsm hx hx0
    rw [hnum'] at ht
    have hb64 := blen_le.2 (show x.toNat < 2 ^ 64 from x.isLt)
    repeat first|refine W.g ?_|refine L.p rfl rfl ?_|refine L.nil ?_|refine L.skip rfl ?_
    refine L.el hW1.1 (k := h.length - 1) (by rw [wrap64 (by omega) (by omega)]; omega) (wv_get hxi) rfl rfl rfl rfl (fun _ => rfl) rfl (fun p => ?_)
    repeat first|refine W.g ?_|refine L.p rfl rfl ?_|refine L.nil ?_|refine L.skip rfl ?_
    refine W.loop (fun j e S' => ∃ m k : Nat, j = m ∧ S' = S1 ∧ e 4 = vi k ∧ e 5 = .int .u64 (m : Int) ∧ k + blen m = blen (wnum l) ∧ m < 18446744073709551616) x.toNat
      ⟨x.toNat, 32 * (h.length - 1), rfl, rfl, ?_, rfl, ht.symm, x.isLt⟩ ?_
    · refine (force_eq rfl).trans ?_
      rw [wrap64 (x := (h.length : Int) - 1) (by omega) (by omega), wrap64 (by omega) (by omega)]
      congr 1; omega
    rintro m e _ ⟨_, k, rfl, rfl, e4, e5, hk, hm⟩
    refine W.env2 e4 e5 ?_
    repeat first|refine W.g ?_|refine L.p rfl rfl ?_|refine L.nil ?_|refine L.skip rfl ?_
    refine W.ite rfl (fun hb => ?_) (fun hb => ?_)
    · have hm0 : 0 < m := by have := of_decide_eq_true hb; omega
      have hb1 := blen_half hm0
      have hb2 := blen_le.2 (show m < 2 ^ 64 from hm)
      repeat first|refine W.g ?_|refine L.p rfl rfl ?_|refine L.nil ?_|refine L.skip rfl ?_
      refine ⟨m / 2, Nat.div_lt_self hm0 (by decide), m / 2, k + 1, rfl, rfl, ?_, ?_, by omega, by omega⟩
      · refine (force_eq rfl).trans ?_
        rw [wrap64 (by omega) (by omega)]; rfl
      · exact (force_eq rfl).trans (congrArg (Value.int .u64) (fdiv_nat m (2 ^ 1)))
    · have hm0 : m = 0 := by have := of_decide_eq_false hb; omega
      subst hm0
      repeat first|refine W.g ?_|refine L.p rfl rfl ?_|refine L.nil ?_|refine L.skip rfl ?_
      refine ⟨.inr rfl, _, rfl, ?_, hc1⟩
      refine (force_eq rfl).trans ?_
      rw [← hk]; rfl
end Go.Proofs.YtlnlcddbllcehaaDoor

/- Digits to the base 2^32: the laws of reckoning with them. Conditions: none. -/
set_option linter.unusedSimpArgs false
set_option linter.unusedVariables false
set_option maxRecDepth 100000
set_option exponentiation.threshold 20000
namespace Go.Proofs.YtlnlcddbllcehaaDoor
open Go
theorem hnum_take_succ {l : WL} {i : Nat} {x : BitVec 64} (h : l[i]? = some x) : hnum (l.take (i + 1)) = hnum (l.take i) + 2 ^ (32 * i) * x.toNat := by
  have hlt := (List.getElem?_eq_some_iff.1 h).1
  rw [List.take_add_one, h]
  show hnum (l.take i ++ [x]) = _
  rw [hnum_append, List.length_take, Nat.min_eq_left (by omega)]
  show _ + _ * (x.toNat + 4294967296 * 0) = _
  rw [Nat.mul_zero, Nat.add_zero]
theorem hnum_snoc (l : WL) (x : BitVec 64) : hnum (l ++ [x]) = hnum l + 2 ^ (32 * l.length) * x.toNat := by
  rw [hnum_append]
  show _ + _ * (x.toNat + 4294967296 * 0) = _
  rw [Nat.mul_zero, Nat.add_zero]
theorem hnum_set {l : WL} {q : Nat} {x y : BitVec 64} (h : l[q]? = some x) : hnum (l.set q y) + x.toNat * 2 ^ (32 * q) = hnum l + y.toNat * 2 ^ (32 * q) := by
  induction l generalizing q with
  | nil => simp at h
  | cons z l ih =>
    cases q with
    | zero =>
      simp at h; subst h
      simp only [List.set_cons_zero, hnum, Nat.mul_zero, Nat.pow_zero, Nat.mul_one]
      omega
    | succ q =>
      have h2 := ih (by simpa using h)
      rw [List.set_cons_succ, hnum, hnum, Nat.mul_succ, Nat.add_comm (32 * q) 32, Nat.pow_add]
      have e : (2 : Nat) ^ 32 = 4294967296 := by decide
      rw [e]
      have h3 : ∀ a : Nat, a * (4294967296 * 2 ^ (32 * q)) = 4294967296 * (a * 2 ^ (32 * q)) := fun a => by
        rw [← Nat.mul_assoc, Nat.mul_comm a, Nat.mul_assoc]
      rw [h3, h3]
      omega
theorem htake_more {l : WL} {i : Nat} (h : l.length ≤ i) : l.take (i + 1) = l.take i := by rw [List.take_of_length_le (by omega), List.take_of_length_le h]
/-- digits, the last of which is not nought -/
def HalfOk (l : WL) : Prop := Small32 l ∧ Canon l
theorem small32_take {l : WL} (h : Small32 l) (k : Nat) : Small32 (l.take k) := fun x hx => h x (List.mem_of_mem_take hx)
theorem small32_get {l : WL} (h : Small32 l) {i : Nat} {x : BitVec 64} (hx : l[i]? = some x) : x.toNat < 4294967296 := h x (List.mem_of_getElem? hx)
theorem small32_set {l : WL} (h : Small32 l) {i : Nat} {x : BitVec 64} (hx : x.toNat < 4294967296) : Small32 (l.set i x) := fun y hy => by
  rcases List.mem_or_eq_of_mem_set hy with h1 | rfl
  · exact h y h1
  · exact hx
theorem small32_snoc {l : WL} (h : Small32 l) {x : BitVec 64} (hx : x.toNat < 4294967296) : Small32 (l ++ [x]) := fun y hy => by
  rcases List.mem_append.1 hy with h1 | h1
  · exact h y h1
  · rw [List.mem_singleton] at h1; subst h1; exact hx
theorem HalfOk.form {l : WL} (h : Small32 l) : HalfOk (fm l) := ⟨small32_form h, canon_toW _⟩
theorem HalfOk.nil : HalfOk [] := ⟨fun x hx => by simp at hx, canon_nil⟩
theorem half_ge {l : WL} (h : HalfOk l) (hp : 0 < l.length) : 2 ^ (32 * (l.length - 1)) ≤ hnum l := by
  have hne : l ≠ [] := by intro e; subst e; simp at hp
  have hs := List.dropLast_concat_getLast hne
  have hw := hnum_snoc l.dropLast (l.getLast hne)
  rw [hs, List.length_dropLast] at hw
  have h0 : (l.getLast hne).toNat ≠ 0 := fun e => h.2 (by rw [List.getLast?_eq_some_getLast hne]; exact congrArg some (BitVec.eq_of_toNat_eq (by simpa using e)))
  have : 2 ^ (32 * (l.length - 1)) * 1 ≤ 2 ^ (32 * (l.length - 1)) * (l.getLast hne).toNat := Nat.mul_le_mul_left _ (by omega)
  omega
theorem half_len {a b : WL} (ha : HalfOk a) (hb : HalfOk b) (h : hnum a ≤ hnum b) : a.length ≤ b.length := by
  refine Classical.byContradiction fun hc => ?_
  have h1 := half_ge ha (by omega)
  have h2 := hnum_lt hb.1
  have h3 : 2 ^ (32 * b.length) ≤ 2 ^ (32 * (a.length - 1)) := Nat.pow_le_pow_right (by decide) (by omega)
  omega
theorem hsplit_at {f : WL} {k : Nat} {x : BitVec 64} (h : f[k]? = some x) : hnum f = hnum (f.take k) + 2 ^ (32 * k) * (x.toNat + 4294967296 * hnum (f.drop (k + 1))) := by
  have hlt := (List.getElem?_eq_some_iff.1 h).1
  have hx := (List.getElem?_eq_some_iff.1 h).2
  have h1 : f = f.take k ++ (x :: f.drop (k + 1)) := by
    conv => lhs; rw [← List.take_append_drop k f, List.drop_eq_getElem_cons hlt, hx]
  conv => lhs; rw [h1]
  rw [hnum_append, List.length_take, Nat.min_eq_left (by omega)]; rfl
theorem hcmp_at {f g : WL} (hf : Small32 f) {k : Nat} {x y : BitVec 64} (hx : f[k]? = some x) (hy : g[k]? = some y) (he : f.drop (k + 1) = g.drop (k + 1)) (h : x.toNat < y.toNat) : hnum f < hnum g := by
  rw [hsplit_at hx, hsplit_at hy, he]
  have h1 := hnum_lt (small32_take hf k)
  have h2 : 2 ^ (32 * (f.take k).length) ≤ 2 ^ (32 * k) := Nat.pow_le_pow_right (by omega) (by rw [List.length_take]; omega)
  have h3 := Nat.mul_le_mul_left (2 ^ (32 * k)) (show x.toNat + 4294967296 * hnum (g.drop (k + 1)) + 1 ≤ y.toNat + 4294967296 * hnum (g.drop (k + 1)) by omega)
  rw [Nat.mul_add (2 ^ (32 * k)) (x.toNat + 4294967296 * hnum (g.drop (k + 1))) 1, Nat.mul_one] at h3
  omega
theorem pow32_succ (i : Nat) : 2 ^ (32 * (i + 1)) = 2 ^ (32 * i) * 4294967296 := by rw [show 32 * (i + 1) = 32 * i + 32 by omega, Nat.pow_add]
/-- one digit of a sum -/
theorem add_step32 {O X Y s x y c P : Nat} (h : O + c * P = X + Y) (hs : s = c + x + y) : O + P * (s % 4294967296) + s / 4294967296 * (P * 4294967296) = (X + P * x) + (Y + P * y) := by
  have e : P * (s % 4294967296) + s / 4294967296 * (P * 4294967296) = P * s := by
    rw [Nat.mul_comm _ (P * 4294967296), Nat.mul_assoc, ← Nat.mul_add, Nat.add_comm, Nat.div_add_mod]
  rw [Nat.add_assoc, e, hs, Nat.mul_add, Nat.mul_add, Nat.mul_comm P c]; omega
/-- one digit of a product with a small number -/
theorem mul_step32 {O X s x n c P : Nat} (h : O + c * P = X * n) (hs : s = x * n + c) : O + P * (s % 4294967296) + s / 4294967296 * (P * 4294967296) = (X + P * x) * n := by
  have e : P * (s % 4294967296) + s / 4294967296 * (P * 4294967296) = P * s := by
    rw [Nat.mul_comm _ (P * 4294967296), Nat.mul_assoc, ← Nat.mul_add, Nat.add_comm, Nat.div_add_mod]
  rw [Nat.add_assoc, e, hs, Nat.add_mul, ← h, Nat.mul_add, Nat.mul_comm P c, Nat.mul_assoc]; omega
/-- one digit of a difference -/
theorem sub_step32 {O X Y s x y l P : Nat} (h : O + Y = X + l * P) (hl : l ≤ 1) (hx : x < 4294967296) (hy : y < 4294967296) (hs : s = x + 4294967296 - l - y) : 
    O + P * (s % 4294967296) + (Y + P * y) = (X + P * x) + (1 - s / 4294967296) * (P * 4294967296) ∧ s / 4294967296 ≤ 1 := by
  have h2 : s / 4294967296 ≤ 1 := by omega
  refine ⟨?_, h2⟩
  have h3 : s % 4294967296 + y + l = x + (1 - s / 4294967296) * 4294967296 := by omega
  have h4 : P * (s % 4294967296) + P * y + l * P = P * x + (1 - s / 4294967296) * (P * 4294967296) := by
    rw [Nat.mul_comm l P, ← Nat.mul_add, ← Nat.mul_add, h3, Nat.mul_add, Nat.mul_left_comm P]
  omega
/-- how often a number surely goes into another -/
theorem sure_le {a b lo t P lb T : Nat} (ha : a = lo + P * t) (hb : b = lb + P * T) (hlb : lb < P) : t / (T + 1) * b ≤ a := by
  have h1 : t / (T + 1) * (T + 1) ≤ t := Nat.div_mul_le_self _ _
  have h2 : b ≤ P * (T + 1) := by rw [Nat.mul_add]; omega
  have h3 : t / (T + 1) * b ≤ t / (T + 1) * (P * (T + 1)) := Nat.mul_le_mul_left _ h2
  have h4 : t / (T + 1) * (P * (T + 1)) = P * (t / (T + 1) * (T + 1)) := by rw [Nat.mul_left_comm]
  have h5 := Nat.mul_le_mul_left P h1
  omega
end Go.Proofs.YtlnlcddbllcehaaDoor

/- The document's digits compared, taken off, multiplied by little ones: walked. Conditions: none. -/
set_option linter.unusedSimpArgs false
set_option linter.unusedVariables false
set_option maxRecDepth 100000
set_option maxHeartbeats 4000000
namespace Go.Proofs.YtlnlcddbllcehaaDoor
open Go
variable {G : Nat} {Ext : FuncId → List Value → Mem → Outc → Mem → Prop}
/-- digits that a reference hands out -/
def HalfR (S S' : Mem) (v : Value) (N : Nat) : Prop := ∃ (l : WL) (a : Option Addr) (c : Nat), Cons S S' ∧ v = .slice a l.length c ∧ WIn S' a c l ∧ (∀ x, a = some x → S.length ≤ x.block) ∧ HalfOk l ∧ hnum l = N
theorem grow_new {N : Nat} {S : Mem} {el : TypeId} {a : Option Addr} {n c : Nat} {l : List Value} (h : Grow N S el 1 (.slice a n c) n l) : ∀ x, a = some x → N ≤ x.block := fun x hx => by
  obtain ⟨_, ⟨hv, _⟩ | ⟨b, hb, hv, _⟩⟩ := h
  · injection hv with e1; rw [e1] at hx; cases hx
  · injection hv with e1; rw [e1] at hx; cases hx; exact hb
theorem compare_C (a1 a2 : Option Addr) (c1 c2 : Nat) (f g : WL) (S : Mem) (h1 : WIn S a1 c1 f) (h2 : WIn S a2 c2 g) (k1 : HalfOk f) (k2 : HalfOk g) :
    C Tryd.prog G Ext 78 [.slice a1 f.length c1, .slice a2 g.length c2] S fun v S' => v = .int .i64 (cmpI (hnum f) (hnum g)) ∧ S' = S := by
  have hl1 := h1.2.2.2
  have hl2 := h2.2.2.2
  refine C.fn Tryd.func78 rfl (by kernel_rfl) rfl ?_
  repeat first|refine W.g ?_|refine L.p rfl rfl ?_|refine L.nil ?_|refine L.skip rfl ?_
  refine W.ite rfl (fun h => ?_) (fun h => ?_)
  · have hne : f.length ≠ g.length := fun he => by rw [he] at h; simp at h
    clear h
    repeat first|refine W.g ?_|refine L.p rfl rfl ?_|refine L.nil ?_|refine L.skip rfl ?_
    refine W.ite rfl (fun h => ?_) (fun h => ?_)
    · have hlt : f.length < g.length := by have := of_decide_eq_true h; omega
      clear h
      repeat first|refine W.g ?_|refine L.p rfl rfl ?_|refine L.nil ?_|refine L.skip rfl ?_
      refine ⟨.inr rfl, _, rfl, ?_, rfl⟩
      have : hnum f < hnum g := by
        refine Classical.byContradiction fun hc => ?_
        have := half_len k2 k1 (by omega)
        omega
      unfold cmpI
      rw [if_pos (by omega)]; rfl
    · have hlt : g.length < f.length := by have := of_decide_eq_false h; omega
      clear h
      repeat first|refine W.g ?_|refine L.p rfl rfl ?_|refine L.nil ?_|refine L.skip rfl ?_
      refine ⟨.inr rfl, _, rfl, ?_, rfl⟩
      have : hnum g < hnum f := by
        refine Classical.byContradiction fun hc => ?_
        have := half_len k1 k2 (by omega)
        omega
      unfold cmpI
      rw [if_neg (by omega), if_pos (by omega)]; rfl
  have heq : f.length = g.length := by
    refine Classical.byContradiction fun hc => ?_
    have : ((f.length : Int) != (g.length : Int)) = true := by rw [bne_iff_ne]; omega
    rw [this] at h; cases h
  clear h
  repeat first|refine W.g ?_|refine L.p rfl rfl ?_|refine L.nil ?_|refine L.skip rfl ?_
  refine W.loop (fun j e T => ∃ k : Nat, j = k ∧ k ≤ f.length ∧ T = S ∧ e 0 = .slice a1 f.length c1 ∧ e 1 = .slice a2 g.length c2 ∧ e 5 = .int .i64 ((k : Int) - 1) ∧ ∀ p, k ≤ p → f[p]? = g[p]?) f.length
    ⟨f.length, rfl, Nat.le_refl _, rfl, rfl, rfl, ?_, fun p hp => ?_⟩ ?_
  · exact congrArg (Value.int .i64) (wrap64 (by omega) (by omega))
  · rw [List.getElem?_eq_none (by omega), List.getElem?_eq_none (by omega)]
  rintro j e T ⟨k, rfl, hk, rfl, e0, e1', e5, hp⟩
  refine W.env3 e0 e1' e5 ?_
  repeat first|refine W.g ?_|refine L.p rfl rfl ?_|refine L.nil ?_|refine L.skip rfl ?_
  refine W.ite rfl (fun h => ?_) (fun h => ?_)
  · have hk1 : 1 ≤ j := by have := of_decide_eq_true h; omega
    clear h
    obtain ⟨m, rfl⟩ : ∃ m, j = m + 1 := ⟨j - 1, by omega⟩
    have hm : (((m + 1 : Nat) : Int) - 1) = (m : Int) := by omega
    rw [hm]
    obtain ⟨x, hx⟩ : ∃ x, f[m]? = some x := ⟨_, List.getElem?_eq_getElem (by omega)⟩
    obtain ⟨y, hy⟩ : ∃ y, g[m]? = some y := ⟨_, List.getElem?_eq_getElem (by omega)⟩
    have hd := drop_same (k := m + 1) (fun p h => hp p h)
    repeat first|refine W.g ?_|refine L.p rfl rfl ?_|refine L.nil ?_|refine L.skip rfl ?_
    refine L.el h1.1 (k := m) rfl (wv_get hx) rfl rfl rfl rfl (fun _ => rfl) rfl (fun p => ?_)
    repeat first|refine W.g ?_|refine L.p rfl rfl ?_|refine L.nil ?_|refine L.skip rfl ?_
    refine L.el h2.1 (k := m) rfl (wv_get hy) rfl rfl rfl rfl (fun _ => rfl) rfl (fun p => ?_)
    repeat first|refine W.g ?_|refine L.p rfl rfl ?_|refine L.nil ?_|refine L.skip rfl ?_
    refine W.ite rfl (fun h => ?_) (fun h => ?_)
    · have hlt : x.toNat < y.toNat := by have := of_decide_eq_true h; omega
      clear h
      have := hcmp_at k1.1 hx hy hd hlt
      repeat first|refine W.g ?_|refine L.p rfl rfl ?_|refine L.nil ?_|refine L.skip rfl ?_
      refine ⟨.inr rfl, _, rfl, ?_, rfl⟩
      unfold cmpI
      rw [if_pos (by omega)]; rfl
    have hge : y.toNat ≤ x.toNat := by have := of_decide_eq_false h; omega
    clear h
    repeat first|refine W.g ?_|refine L.p rfl rfl ?_|refine L.nil ?_|refine L.skip rfl ?_
    refine L.el h1.1 (k := m) rfl (wv_get hx) rfl rfl rfl rfl (fun _ => rfl) rfl (fun p => ?_)
    repeat first|refine W.g ?_|refine L.p rfl rfl ?_|refine L.nil ?_|refine L.skip rfl ?_
    refine L.el h2.1 (k := m) rfl (wv_get hy) rfl rfl rfl rfl (fun _ => rfl) rfl (fun p => ?_)
    repeat first|refine W.g ?_|refine L.p rfl rfl ?_|refine L.nil ?_|refine L.skip rfl ?_
    refine W.ite rfl (fun h => ?_) (fun h => ?_)
    · have hlt : y.toNat < x.toNat := by have := of_decide_eq_true h; omega
      clear h
      have := hcmp_at k2.1 hy hx hd.symm hlt
      repeat first|refine W.g ?_|refine L.p rfl rfl ?_|refine L.nil ?_|refine L.skip rfl ?_
      refine ⟨.inr rfl, _, rfl, ?_, rfl⟩
      unfold cmpI
      rw [if_neg (by omega), if_pos (by omega)]; rfl
    · have hxy : x = y := by
        have := of_decide_eq_false h
        exact BitVec.eq_of_toNat_eq (by omega)
      clear h
      repeat first|refine W.g ?_|refine L.p rfl rfl ?_|refine L.nil ?_|refine L.skip rfl ?_
      refine ⟨m, by omega, m, rfl, by omega, rfl, rfl, rfl, congrArg (Value.int .i64) (wrap64 (by omega) (by omega)), fun p h => ?_⟩
      rcases Nat.eq_or_lt_of_le h with h | h
      · rw [← h, hx, hy, hxy]
      · exact hp p h
  · have hk0 : j = 0 := by have := of_decide_eq_false h; omega
    subst hk0
    clear h
    have hfg : f = g := List.ext_getElem? fun p => hp p (Nat.zero_le _)
    repeat first|refine W.g ?_|refine L.p rfl rfl ?_|refine L.nil ?_|refine L.skip rfl ?_
    refine ⟨.inr rfl, _, rfl, ?_, rfl⟩
    rw [hfg]
    unfold cmpI
    rw [if_neg (by omega), if_neg (by omega)]; rfl
theorem word32 (s : Nat) : ∃ r : BitVec 64, r.toNat = s % 4294967296 := word_of (by omega)
theorem minus_C (a1 a2 : Option Addr) (c1 c2 : Nat) (f g : WL) (S : Mem) (h1 : WIn S a1 c1 f) (h2 : WIn S a2 c2 g) (k1 : HalfOk f) (k2 : HalfOk g) (hge : hnum g ≤ hnum f) (hlen : f.length < 1000000) :
    C Tryd.prog G Ext 76 [.slice a1 f.length c1, .slice a2 g.length c2] S fun v S' => HalfR S S' v (hnum f - hnum g) := by
  have hll := half_len k2 k1 hge
  refine C.fn Tryd.func76 rfl (by kernel_rfl) rfl ?_
  repeat first|refine W.g ?_|refine L.p rfl rfl ?_|refine L.nil ?_|refine L.skip rfl ?_
  refine W.loop (fun j e T => ∃ (i : Nat) (o : WL) (a3 : Option Addr) (c3 l : Nat), j = f.length - i ∧ i ≤ f.length ∧ Cons S T ∧ e 0 = .slice a1 f.length c1 ∧ e 1 = .slice a2 g.length c2 ∧ e 5 = .slice a3 i c3 ∧ e 6 = .int .u64 (l : Int) ∧ e 7 = vi i ∧ Grow S.length T 39 1 (.slice a3 i c3) i (wv o) ∧ o.length = i ∧ Small32 o ∧ l ≤ 1 ∧ hnum o + hnum (g.take i) = hnum (f.take i) + l * 2 ^ (32 * i)) f.length
    ⟨0, [], none, 0, 0, by omega, by omega, Cons.refl _, rfl, rfl, rfl, rfl, rfl, Grow.nil _ _ _ _, rfl, (fun x hx => by simp at hx), by decide, by simp [hnum]⟩ ?_
  rintro j e T ⟨i, o, a3, c3, l, rfl, hi, hc, e0, e1, e5, e6, e7, hg, hol, hso, hl, hsum⟩
  refine W.env5 e0 e1 e5 e6 e7 ?_
  repeat first|refine W.g ?_|refine L.p rfl rfl ?_|refine L.nil ?_|refine L.skip rfl ?_
  refine W.ite rfl (fun h => ?_) (fun h => ?_)
  · have hin : i < f.length := by have := of_decide_eq_true h; omega
    clear h
    obtain ⟨x, hx⟩ : ∃ x, f[i]? = some x := ⟨_, List.getElem?_eq_getElem hin⟩
    have hxl := small32_get k1.1 hx
    have hw1 : IntKind.u64.wrap (IntKind.u64.wrap ((x.toNat : Int) + 4294967296) - (l : Int)) = ((x.toNat + 4294967296 - l : Nat) : Int) := by
      rw [show IntKind.u64.wrap ((x.toNat : Int) + 4294967296) = ((x.toNat + 4294967296 : Nat) : Int) from wrapU64 (by omega) (by omega), wrapU64 (by omega) (by omega)]; omega
    repeat first|refine W.g ?_|refine L.p rfl rfl ?_|refine L.nil ?_|refine L.skip rfl ?_
    refine L.el (h1.cons hc).1 (k := i) rfl (wv_get hx) rfl rfl rfl rfl (fun _ => rfl) rfl (fun p => ?_)
    repeat first|refine W.g ?_|refine L.p rfl rfl ?_|refine L.nil ?_|refine L.skip rfl ?_
    rw [hw1]
    refine W.ite rfl (fun h => ?_) (fun h => ?_)
    · have hi2 : i < g.length := by have := of_decide_eq_true h; omega
      clear h
      obtain ⟨y, hy⟩ : ∃ y, g[i]? = some y := ⟨_, List.getElem?_eq_getElem hi2⟩
      have hyl := small32_get k2.1 hy
      have hty := hnum_take_succ hy
      have hw2 : IntKind.u64.wrap (((x.toNat + 4294967296 - l : Nat) : Int) - (y.toNat : Int)) = ((x.toNat + 4294967296 - l - y.toNat : Nat) : Int) := by
        rw [wrapU64 (by omega) (by omega)]; omega
      repeat first|refine W.g ?_|refine L.p rfl rfl ?_|refine L.nil ?_|refine L.skip rfl ?_
      refine L.el (h2.cons hc).1 (k := i) rfl (wv_get hy) rfl rfl rfl rfl (fun _ => rfl) rfl (fun p => ?_)
      repeat first|refine W.g ?_|refine L.p rfl rfl ?_|refine L.nil ?_|refine L.skip rfl ?_
      rw [hw2]
      obtain ⟨s, hs⟩ : ∃ s, s = x.toNat + 4294967296 - l - y.toNat := ⟨_, rfl⟩
      obtain ⟨hst, hs1⟩ := sub_step32 (P := 2 ^ (32 * i)) hsum hl hxl hyl hs
      obtain ⟨r, hr⟩ := word32 s
      rw [← hr] at hst
      rw [← hs]
      have hw3 : IntKind.u64.wrap (1 - Int.fdiv (s : Int) (2 ^ min (Int.toNat 32) IntKind.u64.bits)) = ((1 - s / 4294967296 : Nat) : Int) := by
        rw [shrHi, wrapU64 (by omega) (by omega)]; omega
      repeat first|refine W.g ?_|refine L.p rfl rfl ?_|refine L.nil ?_|refine L.skip rfl ?_
      rw [andLo (by omega), ← hr]
      refine L.push1 (w := v64 r) rfl hc.len (.inl hg) rfl rfl rfl rfl rfl (by omega) rfl (fun _ => rfl) (fun p a4 c4 S2 h2 h3 h4 => ?_)
      repeat first|refine W.g ?_|refine L.p rfl rfl ?_|refine L.nil ?_|refine L.skip rfl ?_
      refine ⟨f.length - (i + 1), by omega, i + 1, o ++ [r], a4, c4, 1 - s / 4294967296, rfl, by omega, hc.trans' h4, rfl, rfl, rfl, (force_eq rfl).trans (congrArg (Value.int .u64) hw3), congrArg (Value.int .i64) (wrap64 (by omega) (by omega)), by rw [wv, List.map_append]; exact h2, by simp [hol], small32_snoc hso (by omega), by omega, ?_⟩
      rw [hnum_snoc, hol, pow32_succ, hnum_take_succ hx, hty]
      exact hst
    · have hi2 : g.length ≤ i := by have := of_decide_eq_false h; omega
      clear h
      have hyl : 0 < 4294967296 := by decide
      have hty : hnum (g.take (i + 1)) = hnum (g.take i) + 2 ^ (32 * i) * 0 := by rw [htake_more hi2]; omega
      rw [show x.toNat + 4294967296 - l = x.toNat + 4294967296 - l - 0 from rfl]
      obtain ⟨s, hs⟩ : ∃ s, s = x.toNat + 4294967296 - l - 0 := ⟨_, rfl⟩
      obtain ⟨hst, hs1⟩ := sub_step32 (P := 2 ^ (32 * i)) hsum hl hxl hyl hs
      obtain ⟨r, hr⟩ := word32 s
      rw [← hr] at hst
      rw [← hs]
      have hw3 : IntKind.u64.wrap (1 - Int.fdiv (s : Int) (2 ^ min (Int.toNat 32) IntKind.u64.bits)) = ((1 - s / 4294967296 : Nat) : Int) := by
        rw [shrHi, wrapU64 (by omega) (by omega)]; omega
      repeat first|refine W.g ?_|refine L.p rfl rfl ?_|refine L.nil ?_|refine L.skip rfl ?_
      rw [andLo (by omega), ← hr]
      refine L.push1 (w := v64 r) rfl hc.len (.inl hg) rfl rfl rfl rfl rfl (by omega) rfl (fun _ => rfl) (fun p a4 c4 S2 h2 h3 h4 => ?_)
      repeat first|refine W.g ?_|refine L.p rfl rfl ?_|refine L.nil ?_|refine L.skip rfl ?_
      refine ⟨f.length - (i + 1), by omega, i + 1, o ++ [r], a4, c4, 1 - s / 4294967296, rfl, by omega, hc.trans' h4, rfl, rfl, rfl, (force_eq rfl).trans (congrArg (Value.int .u64) hw3), congrArg (Value.int .i64) (wrap64 (by omega) (by omega)), by rw [wv, List.map_append]; exact h2, by simp [hol], small32_snoc hso (by omega), by omega, ?_⟩
      rw [hnum_snoc, hol, pow32_succ, hnum_take_succ hx, hty]
      exact hst
  · have hin : i = f.length := by have := of_decide_eq_false h; omega
    subst hin
    clear h
    rw [List.take_length, List.take_of_length_le hll] at hsum
    have hlt := hnum_lt hso
    rw [hol] at hlt
    have hl0 : l = 0 := by
      rcases Nat.lt_or_ge 0 l with h | h
      · have : l = 1 := by omega
        subst this
        rw [Nat.one_mul] at hsum
        omega
      · omega
    subst hl0
    rw [Nat.zero_mul, Nat.add_zero] at hsum
    have hW : WIn T a3 c3 o := grow_win (by rw [hol]; exact hg) (by omega)
    repeat first|refine W.g ?_|refine L.p rfl rfl ?_|refine L.nil ?_|refine L.skip rfl ?_
    refine L.cl (strip_C a3 c3 o T hW) rfl (by rw [hol]; rfl) ?_
    rintro _ _ ⟨rfl, rfl⟩
    refine ⟨nofun, ?_⟩
    repeat first|refine W.g ?_|refine L.p rfl rfl ?_|refine L.nil ?_|refine L.skip rfl ?_
    exact ⟨.inr rfl, _, rfl, fm o, a3, c3, hc, rfl, hW.form, grow_new hg, HalfOk.form hso, by rw [hnum_form]; omega⟩
theorem little_C (a : Option Addr) (c n : Nat) (f : WL) (S : Mem) (h1 : WIn S a c f) (k1 : Small32 f) (hn : n < 4294967296) (hlen : f.length < 1000000) :
    C Tryd.prog G Ext 80 [.slice a f.length c, .int .u64 (n : Int)] S fun v S' => HalfR S S' v (hnum f * n) := by
  refine C.fn Tryd.func80 rfl (by kernel_rfl) rfl ?_
  repeat first|refine W.g ?_|refine L.p rfl rfl ?_|refine L.nil ?_|refine L.skip rfl ?_
  refine W.loop (fun j e T => ∃ (i : Nat) (o : WL) (a3 : Option Addr) (c3 cr : Nat), j = f.length - i ∧ i ≤ f.length ∧ Cons S T ∧ e 0 = .slice a f.length c ∧ e 1 = .int .u64 (n : Int) ∧ e 5 = .slice a3 i c3 ∧ e 6 = .int .u64 (cr : Int) ∧ e 7 = vi i ∧ Grow S.length T 39 1 (.slice a3 i c3) i (wv o) ∧ o.length = i ∧ Small32 o ∧ cr < 4294967296 ∧ hnum o + cr * 2 ^ (32 * i) = hnum (f.take i) * n) f.length
    ⟨0, [], none, 0, 0, by omega, by omega, Cons.refl _, rfl, rfl, rfl, rfl, rfl, Grow.nil _ _ _ _, rfl, (fun x hx => by simp at hx), by decide, by simp [hnum]⟩ ?_
  rintro j e T ⟨i, o, a3, c3, cr, rfl, hi, hc, e0, e1, e5, e6, e7, hg, hol, hso, hcr, hsum⟩
  refine W.env5 e0 e1 e5 e6 e7 ?_
  repeat first|refine W.g ?_|refine L.p rfl rfl ?_|refine L.nil ?_|refine L.skip rfl ?_
  refine W.ite rfl (fun h => ?_) (fun h => ?_)
  · have hin : i < f.length := by have := of_decide_eq_true h; omega
    clear h
    obtain ⟨x, hx⟩ : ∃ x, f[i]? = some x := ⟨_, List.getElem?_eq_getElem hin⟩
    have hxl := small32_get k1 hx
    have hxn : x.toNat * n ≤ 4294967295 * 4294967295 := Nat.mul_le_mul (by omega) (by omega)
    obtain ⟨s, hs⟩ : ∃ s, s = x.toNat * n + cr := ⟨_, rfl⟩
    have hw1 : IntKind.u64.wrap (IntKind.u64.wrap ((x.toNat : Int) * (n : Int)) + (cr : Int)) = (s : Int) := by
      rw [umul (by omega), uadd (by omega), hs]
    have hsl : s < 18446744073709551616 := by omega
    obtain ⟨r, hr⟩ := word32 s
    have hst := mul_step32 (P := 2 ^ (32 * i)) hsum hs
    rw [← hr] at hst
    repeat first|refine W.g ?_|refine L.p rfl rfl ?_|refine L.nil ?_|refine L.skip rfl ?_
    refine L.el (h1.cons hc).1 (k := i) rfl (wv_get hx) rfl rfl rfl rfl (fun _ => rfl) rfl (fun p => ?_)
    repeat first|refine W.g ?_|refine L.p rfl rfl ?_|refine L.nil ?_|refine L.skip rfl ?_
    rw [hw1, andLo hsl, ← hr]
    refine L.push1 (w := v64 r) rfl hc.len (.inl hg) rfl rfl rfl rfl rfl (by omega) rfl (fun _ => rfl) (fun p a4 c4 S2 h2 h3 h4 => ?_)
    repeat first|refine W.g ?_|refine L.p rfl rfl ?_|refine L.nil ?_|refine L.skip rfl ?_
    refine ⟨f.length - (i + 1), by omega, i + 1, o ++ [r], a4, c4, s / 4294967296, rfl, by omega, hc.trans' h4, rfl, rfl, rfl, (force_eq rfl).trans (congrArg (Value.int .u64) (shrHi s)), congrArg (Value.int .i64) (wrap64 (by omega) (by omega)), by rw [wv, List.map_append]; exact h2, by simp [hol], small32_snoc hso (by omega), by omega, ?_⟩
    rw [hnum_snoc, hol, pow32_succ, hnum_take_succ hx]
    exact hst
  · have hin : i = f.length := by have := of_decide_eq_false h; omega
    subst hin
    clear h
    rw [List.take_length] at hsum
    obtain ⟨r, hr⟩ := word_of (n := cr) (by omega)
    rw [← hr]
    repeat first|refine W.g ?_|refine L.p rfl rfl ?_|refine L.nil ?_|refine L.skip rfl ?_
    refine L.push1 (w := v64 r) rfl hc.len (.inl hg) rfl rfl rfl rfl rfl (by omega) rfl (fun _ => rfl) (fun p a4 c4 S2 h2 h3 h4 => ?_)
    have hW : WIn S2 a4 c4 (o ++ [r]) := grow_win (by rw [List.length_append, hol, wv, List.map_append]; exact h2) (by simp; omega)
    have hlo : (o ++ [r]).length = f.length + 1 := by simp [hol]
    repeat first|refine W.g ?_|refine L.p rfl rfl ?_|refine L.nil ?_|refine L.skip rfl ?_
    refine L.cl (strip_C a4 c4 (o ++ [r]) S2 hW) rfl (by rw [hlo]; rfl) ?_
    rintro _ _ ⟨rfl, rfl⟩
    refine ⟨nofun, ?_⟩
    repeat first|refine W.g ?_|refine L.p rfl rfl ?_|refine L.nil ?_|refine L.skip rfl ?_
    refine ⟨.inr rfl, _, rfl, fm (o ++ [r]), a4, c4, hc.trans' h4, rfl, hW.form, grow_new h2, HalfOk.form (small32_snoc hso (by omega)), ?_⟩
    rw [hnum_form, hnum_snoc, hol, hr, Nat.mul_comm (2 ^ (32 * f.length))]
    exact hsum
end Go.Proofs.YtlnlcddbllcehaaDoor

/- The document's sums, differences, products: walked. Conditions: none. -/
set_option linter.unusedSimpArgs false
set_option linter.unusedVariables false
set_option maxRecDepth 100000
set_option maxHeartbeats 4000000
namespace Go.Proofs.YtlnlcddbllcehaaDoor
open Go
variable {G : Nat} {Ext : FuncId → List Value → Mem → Outc → Mem → Prop}
theorem limbs_num {h : WL} (hs : Small32 h) : fm (un h) = toW (hnum h) := by unfold fm; rw [wnum_un _ hs]
theorem hl_ok (l : WL) : HalfOk (fm (hl l)) := HalfOk.form (small_hl l)
theorem hl_num (l : WL) : hnum (fm (hl l)) = wnum l := by rw [hnum_form, hnum_hl]
theorem hlf_len (l : WL) : (fm (hl l)).length ≤ 2 * l.length := by
  have := toW_len_le (hl l)
  rw [hl_len] at this
  exact this
/-- digits made limbs -/
theorem limbsN_C (a : Option Addr) (c : Nat) (h : WL) (S : Mem) (hI : WIn S a c h) (hs : Small32 h) (hlen : h.length < 1000000) : C Tryd.prog G Ext 75 [.slice a h.length c] S fun v S' => RefW S S' v (toW (hnum h)) := by
  rw [← limbs_num hs]
  exact limbs_C a c h S hI hlen
/-- limbs made digits -/
theorem halvesN_C (a : Option Addr) (c : Nat) (l : WL) (S : Mem) (hI : WIn S a c l) (hlen : l.length < 1000000) : C Tryd.prog G Ext 74 [.slice a l.length c] S fun v S' => ∃ h, RefW S S' v h ∧ HalfOk h ∧ hnum h = wnum l ∧ h.length ≤ 2 * l.length :=
  (halves_C a c l S hI hlen).mono fun v S' h => ⟨_, h, hl_ok l, hl_num l, hlf_len l⟩
theorem minusR_C (a1 a2 : Option Addr) (c1 c2 : Nat) (l1 l2 : WL) (S : Mem) (h1 : WIn S a1 c1 l1) (h2 : WIn S a2 c2 l2) (n1 : l1.length < 400000) (n2 : l2.length < 400000) (hge : wnum l2 ≤ wnum l1) :
    C Tryd.prog G Ext 57 [.slice a1 l1.length c1, .slice a2 l2.length c2] S fun v S' => RefW S S' v (toW (wnum l1 - wnum l2)) := by
  refine C.fn Tryd.func57 rfl (by kernel_rfl) rfl ?_
  repeat first|refine W.g ?_|refine L.p rfl rfl ?_|refine L.nil ?_|refine L.skip rfl ?_
  refine L.cl (halvesN_C a1 c1 l1 S h1 (by omega)) rfl rfl ?_
  rintro _ S1 ⟨f, ⟨k1, b1, d1, rfl, i1⟩, o1, e1, q1⟩
  refine ⟨fun _ => k1, ?_⟩
  repeat first|refine W.g ?_|refine L.p rfl rfl ?_|refine L.nil ?_|refine L.skip rfl ?_
  refine L.cl (halvesN_C a2 c2 l2 S1 (h2.cons k1) (by omega)) rfl rfl ?_
  rintro _ S2 ⟨g, ⟨k2, b2, d2, rfl, i2⟩, o2, e2, q2⟩
  refine ⟨fun _ => k2, ?_⟩
  repeat first|refine W.g ?_|refine L.p rfl rfl ?_|refine L.nil ?_|refine L.skip rfl ?_
  refine L.cl (minus_C b1 b2 d1 d2 f g S2 (i1.cons k2) i2 o1 o2 (by omega) (by omega)) rfl rfl ?_
  rintro _ S3 ⟨h, b3, d3, k3, rfl, i3, _, o3, e3⟩
  refine ⟨fun _ => k3, ?_⟩
  have hh : h.length ≤ f.length := half_len o3 o1 (by omega)
  repeat first|refine W.g ?_|refine L.p rfl rfl ?_|refine L.nil ?_|refine L.skip rfl ?_
  refine L.cl (limbsN_C b3 d3 h S3 i3 o3.1 (by omega)) rfl rfl ?_
  rintro _ S4 ⟨k4, b4, d4, rfl, i4⟩
  refine ⟨fun _ => k4, ?_⟩
  repeat first|refine W.g ?_|refine L.p rfl rfl ?_|refine L.nil ?_|refine L.skip rfl ?_
  rw [e3, e1, e2] at i4 ⊢
  exact ⟨.inr rfl, _, rfl, ((k1.trans k2).trans k3).trans k4, b4, d4, rfl, i4⟩
theorem plusR_C (a1 a2 : Option Addr) (c1 c2 : Nat) (l1 l2 : WL) (S : Mem) (h1 : WIn S a1 c1 l1) (h2 : WIn S a2 c2 l2) (n1 : l1.length < 400000) (n2 : l2.length < 400000) :
    C Tryd.prog G Ext 56 [.slice a1 l1.length c1, .slice a2 l2.length c2] S fun v S' => RefW S S' v (toW (wnum l1 + wnum l2)) := by
  refine C.fn Tryd.func56 rfl (by kernel_rfl) rfl ?_
  repeat first|refine W.g ?_|refine L.p rfl rfl ?_|refine L.nil ?_|refine L.skip rfl ?_
  refine L.cl (halvesN_C a1 c1 l1 S h1 (by omega)) rfl rfl ?_
  rintro _ S1 ⟨f, ⟨k1, b1, d1, rfl, i1⟩, o1, e1, q1⟩
  refine ⟨fun _ => k1, ?_⟩
  repeat first|refine W.g ?_|refine L.p rfl rfl ?_|refine L.nil ?_|refine L.skip rfl ?_
  refine L.cl (halvesN_C a2 c2 l2 S1 (h2.cons k1) (by omega)) rfl rfl ?_
  rintro _ S2 ⟨g, ⟨k2, b2, d2, rfl, i2⟩, o2, e2, q2⟩
  refine ⟨fun _ => k2, ?_⟩
  replace i1 := i1.cons k2
  repeat first|refine W.g ?_|refine L.p rfl rfl ?_|refine L.nil ?_|refine L.skip rfl ?_
  refine W.loop (fun j e T => ∃ (i : Nat) (o : WL) (a3 : Option Addr) (c3 cr : Nat), j = 2 * (max f.length g.length - i) + cr ∧ i ≤ max f.length g.length + 1 ∧ Cons S2 T ∧ e 5 = .slice b1 f.length d1 ∧ e 6 = .slice b2 g.length d2 ∧ e 7 = .slice a3 i c3 ∧ e 8 = .int .u64 (cr : Int) ∧ e 9 = vi i ∧ Grow S2.length T 39 1 (.slice a3 i c3) i (wv o) ∧ o.length = i ∧ Small32 o ∧ cr ≤ 1 ∧ (i = max f.length g.length + 1 → cr = 0) ∧ hnum o + cr * 2 ^ (32 * i) = hnum (f.take i) + hnum (g.take i)) (2 * max f.length g.length)
    ⟨0, [], none, 0, 0, by omega, by omega, Cons.refl _, rfl, rfl, rfl, rfl, rfl, Grow.nil _ _ _ _, rfl, (fun x hx => by simp at hx), by decide, fun _ => rfl, by simp [hnum]⟩ ?_
  rintro j e T ⟨i, o, a3, c3, cr, rfl, hi, hc, e5, e6, e7, e8, e9, hg, hol, hso, hcr, hcl, hsum⟩
  refine W.env5 e5 e6 e7 e8 e9 ?_
  refine W.seq ?_
  refine W.seq ?_
  refine W.mono (R := fun x e' T' => x = .nrm ∧ T' = T ∧ e' 5 = .slice b1 f.length d1 ∧ e' 6 = .slice b2 g.length d2 ∧ e' 7 = .slice a3 i c3 ∧ e' 8 = .int .u64 (cr : Int) ∧ e' 9 = vi i ∧ e' 28 = .bool (decide (i < f.length ∨ i < g.length ∨ 0 < cr))) ?_ ?_
  · repeat first|refine W.g ?_|refine L.p rfl rfl ?_|refine L.nil ?_|refine L.skip rfl ?_
    cases hb : decide ((i : Int) < (f.length : Int))
    · have q1 : ¬ i < f.length := by have := of_decide_eq_false hb; omega
      repeat first|refine W.g ?_|refine L.p rfl rfl ?_|refine L.nil ?_|refine L.skip rfl ?_
      cases hb2 : decide ((i : Int) < (g.length : Int))
      · have q2 : ¬ i < g.length := by have := of_decide_eq_false hb2; omega
        repeat first|refine W.g ?_|refine L.p rfl rfl ?_|refine L.nil ?_|refine L.skip rfl ?_
        exact ⟨rfl, rfl, rfl, rfl, rfl, rfl, rfl, congrArg Value.bool (decide_eq_decide.2 (by omega))⟩
      · have q2 : i < g.length := by have := of_decide_eq_true hb2; omega
        repeat first|refine W.g ?_|refine L.p rfl rfl ?_|refine L.nil ?_|refine L.skip rfl ?_
        exact ⟨rfl, rfl, rfl, rfl, rfl, rfl, rfl, congrArg Value.bool (decide_eq_true (.inr (.inl q2))).symm⟩
    · have q1 : i < f.length := by have := of_decide_eq_true hb; omega
      repeat first|refine W.g ?_|refine L.p rfl rfl ?_|refine L.nil ?_|refine L.skip rfl ?_
      exact ⟨rfl, rfl, rfl, rfl, rfl, rfl, rfl, congrArg Value.bool (decide_eq_true (.inl q1)).symm⟩
  clear e5 e6 e7 e8 e9
  rintro _ e T' ⟨rfl, hT, e5, e6, e7, e8, e9, e28⟩
  subst hT
  refine W.env6 e5 e6 e7 e8 e9 e28 ?_
  repeat first|refine W.g ?_|refine L.p rfl rfl ?_|refine L.nil ?_|refine L.skip rfl ?_
  refine W.ite rfl (fun h => ?_) (fun h => ?_)
  · have hor := of_decide_eq_true h
    clear h
    repeat first|refine W.g ?_|refine L.p rfl rfl ?_|refine L.nil ?_|refine L.skip rfl ?_
    refine W.mono (R := fun x e' T'' => x = .nrm ∧ T'' = T' ∧ ∃ y : Nat, e' 5 = .slice b1 f.length d1 ∧ e' 6 = .slice b2 g.length d2 ∧ e' 7 = .slice a3 i c3 ∧ e' 9 = vi i ∧ e' 10 = .int .u64 ((cr + y : Nat) : Int) ∧ y < 4294967296 ∧ (f.length ≤ i → y = 0) ∧ hnum (f.take (i + 1)) = hnum (f.take i) + 2 ^ (32 * i) * y) ?_ ?_
    · refine W.ite rfl (fun h => ?_) (fun h => ?_)
      · have hin : i < f.length := by have := of_decide_eq_true h; omega
        clear h
        obtain ⟨x, hx⟩ : ∃ x, f[i]? = some x := ⟨_, List.getElem?_eq_getElem hin⟩
        have hxl := small32_get o1.1 hx
        repeat first|refine W.g ?_|refine L.p rfl rfl ?_|refine L.nil ?_|refine L.skip rfl ?_
        refine L.el (i1.cons hc).1 (k := i) rfl (wv_get hx) rfl rfl rfl rfl (fun _ => rfl) rfl (fun p => ?_)
        repeat first|refine W.g ?_|refine L.p rfl rfl ?_|refine L.nil ?_|refine L.skip rfl ?_
        exact ⟨rfl, rfl, x.toNat, rfl, rfl, rfl, rfl, (force_eq rfl).trans (congrArg (Value.int .u64) (uadd (by omega))), hxl, fun _ => by omega, hnum_take_succ hx⟩
      · have hin : f.length ≤ i := by have := of_decide_eq_false h; omega
        clear h
        repeat first|refine W.g ?_|refine L.p rfl rfl ?_|refine L.nil ?_|refine L.skip rfl ?_
        exact ⟨rfl, rfl, 0, rfl, rfl, rfl, rfl, rfl, by decide, fun _ => rfl, by rw [htake_more hin]; omega⟩
    clear e5 e6 e7 e9
    rintro _ e T'' ⟨rfl, hT, y, e5, e6, e7, e9, e10, hyl, hyz, hty⟩
    subst hT
    rename Mem => T'
    refine W.env5 e5 e6 e7 e9 e10 ?_
    repeat first|refine W.g ?_|refine L.p rfl rfl ?_|refine L.nil ?_|refine L.skip rfl ?_
    refine W.mono (R := fun x e' T'' => x = .nrm ∧ T'' = T' ∧ ∃ z : Nat, e' 5 = .slice b1 f.length d1 ∧ e' 6 = .slice b2 g.length d2 ∧ e' 7 = .slice a3 i c3 ∧ e' 9 = vi i ∧ e' 10 = .int .u64 (((cr + y) + z : Nat) : Int) ∧ z < 4294967296 ∧ (g.length ≤ i → z = 0) ∧ hnum (g.take (i + 1)) = hnum (g.take i) + 2 ^ (32 * i) * z) ?_ ?_
    · refine W.ite rfl (fun h => ?_) (fun h => ?_)
      · have hin : i < g.length := by have := of_decide_eq_true h; omega
        clear h
        obtain ⟨x, hx⟩ : ∃ x, g[i]? = some x := ⟨_, List.getElem?_eq_getElem hin⟩
        have hxl := small32_get o2.1 hx
        repeat first|refine W.g ?_|refine L.p rfl rfl ?_|refine L.nil ?_|refine L.skip rfl ?_
        refine L.el (i2.cons hc).1 (k := i) rfl (wv_get hx) rfl rfl rfl rfl (fun _ => rfl) rfl (fun p => ?_)
        repeat first|refine W.g ?_|refine L.p rfl rfl ?_|refine L.nil ?_|refine L.skip rfl ?_
        exact ⟨rfl, rfl, x.toNat, rfl, rfl, rfl, rfl, (force_eq rfl).trans (congrArg (Value.int .u64) (uadd (by omega))), hxl, fun _ => by omega, hnum_take_succ hx⟩
      · have hin : g.length ≤ i := by have := of_decide_eq_false h; omega
        clear h
        repeat first|refine W.g ?_|refine L.p rfl rfl ?_|refine L.nil ?_|refine L.skip rfl ?_
        exact ⟨rfl, rfl, 0, rfl, rfl, rfl, rfl, rfl, by decide, fun _ => rfl, by rw [htake_more hin]; omega⟩
    clear e5 e6 e7 e9
    rintro _ e T'' ⟨rfl, hT, z, e5, e6, e7, e9, e10, hzl, hzz, htz⟩
    subst hT
    rename Mem => T'
    refine W.env5 e5 e6 e7 e9 e10 ?_
    obtain ⟨s, hs⟩ : ∃ s, s = cr + y + z := ⟨_, rfl⟩
    rw [← hs]
    have hst := add_step32 (P := 2 ^ (32 * i)) hsum hs
    rw [← hty, ← htz] at hst
    obtain ⟨r, hr⟩ := word32 s
    rw [← hr] at hst
    repeat first|refine W.g ?_|refine L.p rfl rfl ?_|refine L.nil ?_|refine L.skip rfl ?_
    rw [andLo (by omega), ← hr]
    refine L.push1 (w := v64 r) rfl hc.len (.inl hg) rfl rfl rfl rfl rfl (by omega) rfl (fun _ => rfl) (fun p a4 c4 S2 h2 h3 h4 => ?_)
    repeat first|refine W.g ?_|refine L.p rfl rfl ?_|refine L.nil ?_|refine L.skip rfl ?_
    refine ⟨2 * (max f.length g.length - (i + 1)) + s / 4294967296, by omega, i + 1, o ++ [r], a4, c4, s / 4294967296, rfl, by omega, hc.trans' h4, rfl, rfl, rfl, (force_eq rfl).trans (congrArg (Value.int .u64) (shrHi s)), congrArg (Value.int .i64) (wrap64 (by omega) (by omega)), by rw [wv, List.map_append]; exact h2, by simp [hol], small32_snoc hso (by omega), by omega, fun _ => by omega, ?_⟩
    rw [hnum_snoc, hol, pow32_succ]
    exact hst
  · have hor := of_decide_eq_false h
    clear h
    have hcr0 : cr = 0 := by omega
    subst hcr0
    rw [Nat.zero_mul, Nat.add_zero, List.take_of_length_le (show f.length ≤ i by omega), List.take_of_length_le (show g.length ≤ i by omega)] at hsum
    have hW : WIn T' a3 c3 o := grow_win (by rw [hol]; exact hg) (by omega)
    repeat first|refine W.g ?_|refine L.p rfl rfl ?_|refine L.nil ?_|refine L.skip rfl ?_
    refine L.cl (limbsN_C a3 c3 o T' hW hso (by omega)) rfl (by rw [hol]; rfl) ?_
    rintro _ S4 ⟨k4, b4, d4, rfl, i4⟩
    refine ⟨fun _ => k4, ?_⟩
    rw [hsum, e1, e2] at i4 ⊢
    repeat first|refine W.g ?_|refine L.p rfl rfl ?_|refine L.nil ?_|refine L.skip rfl ?_
    exact ⟨.inr rfl, _, rfl, (((k1.trans k2).trans hc).trans k4), b4, d4, rfl, i4⟩
theorem timesR_C (a1 a2 : Option Addr) (c1 c2 : Nat) (l1 l2 : WL) (S : Mem) (h1 : WIn S a1 c1 l1) (h2 : WIn S a2 c2 l2) (n1 : l1.length < 100000) (n2 : l2.length < 100000) :
    C Tryd.prog G Ext 58 [.slice a1 l1.length c1, .slice a2 l2.length c2] S fun v S' => RefW S S' v (toW (wnum l1 * wnum l2)) := by
  refine C.fn Tryd.func58 rfl (by kernel_rfl) rfl ?_
  repeat first|refine W.g ?_|refine L.p rfl rfl ?_|refine L.nil ?_|refine L.skip rfl ?_
  refine L.cl (halvesN_C a1 c1 l1 S h1 (by omega)) rfl rfl ?_
  rintro _ S1 ⟨f, ⟨k1, b1, d1, rfl, i1⟩, o1, e1, q1⟩
  refine ⟨fun _ => k1, ?_⟩
  repeat first|refine W.g ?_|refine L.p rfl rfl ?_|refine L.nil ?_|refine L.skip rfl ?_
  refine L.cl (halvesN_C a2 c2 l2 S1 (h2.cons k1) (by omega)) rfl rfl ?_
  rintro _ S2 ⟨g, ⟨k2, b2, d2, rfl, i2⟩, o2, e2, q2⟩
  refine ⟨fun _ => k2, ?_⟩
  replace i1 := i1.cons k2
  obtain ⟨sz, hsz⟩ : ∃ sz, sz = f.length + g.length := ⟨_, rfl⟩
  have hw1 : IntKind.i64.wrap ((f.length : Int) + (g.length : Int)) = ((sz : Nat) : Int) := by rw [wrap64 (by omega) (by omega), hsz]; rfl
  repeat first|refine W.g ?_|refine L.p rfl rfl ?_|refine L.nil ?_|refine L.skip rfl ?_
  refine L.mk (n := sz) (m := sz) (bytes := 8) (zv := v64 0#64) rfl rfl hw1 rfl hw1 (Nat.le_refl _) (by omega) rfl rfl ?_
  have hro : Mem.row? (S2 ++ [newR (List.replicate sz (v64 0#64)) 39]) S2.length = some (newR (wv (List.replicate sz 0#64)) 39) := by
    rw [row_push_new rfl]; simp [wv]
  have hk5 := Cons.push S2 (newR (List.replicate sz (v64 0#64)) 39)
  generalize S2 ++ [newR (List.replicate sz (v64 0#64)) 39] = S3 at *
  obtain ⟨ro, hro0⟩ : ∃ ro, ro = S2.length := ⟨_, rfl⟩
  rw [← hro0] at hro ⊢
  have hs0 : Small32 (List.replicate sz 0#64) := fun x hx => by rw [List.eq_of_mem_replicate hx]; decide
  repeat first|refine W.g ?_|refine L.p rfl rfl ?_|refine L.nil ?_|refine L.skip rfl ?_
  refine W.loop (fun j e T => ∃ (i : Nat) (o : WL), j = f.length - i ∧ i ≤ f.length ∧ e 5 = .slice b1 f.length d1 ∧ e 6 = .slice b2 g.length d2 ∧ e 7 = .slice (some ⟨ro, 0, none⟩) sz sz ∧ e 8 = vi i ∧ Cons S2 T ∧ T.row? ro = some (newR (wv o) 39) ∧ o.length = sz ∧ Small32 o ∧ hnum o = hnum (f.take i) * hnum g ∧ ∀ p, i + g.length ≤ p → p < sz → o[p]? = some 0#64) f.length
    ⟨0, List.replicate sz 0#64, by omega, by omega, rfl, rfl, rfl, rfl, hk5, hro, by simp, hs0, by rw [hnum_zeros]; simp [hnum], fun p _ hp => by simp [hp]⟩ ?_
  clear hro hk5 hs0
  rintro j e T ⟨i, o, rfl, hi, e5, e6, e7, e8, hkT, hro, hol, hso, hwo, hz⟩
  refine W.env4 e5 e6 e7 e8 ?_
  repeat first|refine W.g ?_|refine L.p rfl rfl ?_|refine L.nil ?_|refine L.skip rfl ?_
  refine W.ite rfl (fun h => ?_) (fun h => ?_)
  · have hin : i < f.length := by have := of_decide_eq_true h; omega
    clear h
    obtain ⟨x, hx⟩ : ∃ x, f[i]? = some x := ⟨_, List.getElem?_eq_getElem hin⟩
    have hxl := small32_get o1.1 hx
    repeat first|refine W.g ?_|refine L.p rfl rfl ?_|refine L.nil ?_|refine L.skip rfl ?_
    refine W.loop (fun j e T => ∃ (k : Nat) (o : WL) (cr : Nat), j = g.length - k ∧ k ≤ g.length ∧ e 5 = .slice b1 f.length d1 ∧ e 6 = .slice b2 g.length d2 ∧ e 7 = .slice (some ⟨ro, 0, none⟩) sz sz ∧ e 8 = vi i ∧ e 9 = .int .u64 (cr : Int) ∧ e 10 = vi k ∧ Cons S2 T ∧ T.row? ro = some (newR (wv o) 39) ∧ o.length = sz ∧ Small32 o ∧ cr < 4294967296 ∧ hnum o + cr * 2 ^ (32 * (i + k)) = hnum (f.take i) * hnum g + x.toNat * hnum (g.take k) * 2 ^ (32 * i) ∧ ∀ p, i + g.length ≤ p → p < sz → o[p]? = some 0#64) g.length
      ⟨0, o, 0, by omega, by omega, rfl, rfl, rfl, rfl, rfl, rfl, hkT, hro, hol, hso, by decide, by rw [hwo]; simp [hnum], hz⟩ ?_
    clear hro hol hwo hz hkT e5 e6 e7 e8 hso
    clear o e T
    rintro j e T ⟨k, o, cr, rfl, hk, e5, e6, e7, e8, e9, e10, hkT, hro, hol, hso, hcr, hsum, hz⟩
    refine W.env6 e5 e6 e7 e8 e9 e10 ?_
    have hsl : Slv T 1 (.slice (some ⟨ro, 0, none⟩) sz sz) sz (wv o) := Slv.all hro rfl (by rw [wv_len, hol, Nat.mul_one])
    repeat first|refine W.g ?_|refine L.p rfl rfl ?_|refine L.nil ?_|refine L.skip rfl ?_
    refine W.ite rfl (fun h => ?_) (fun h => ?_)
    · have hk2 : k < g.length := by have := of_decide_eq_true h; omega
      clear h
      obtain ⟨y, hy⟩ : ∃ y, g[k]? = some y := ⟨_, List.getElem?_eq_getElem hk2⟩
      obtain ⟨z, hzz⟩ : ∃ z, o[i + k]? = some z := ⟨_, List.getElem?_eq_getElem (by omega)⟩
      have hyl := small32_get o2.1 hy
      have hzl := small32_get hso hzz
      have hw2 : IntKind.i64.wrap ((i : Int) + (k : Int)) = ((i + k : Nat) : Int) := by rw [wrap64 (by omega) (by omega)]; rfl
      have hxy : x.toNat * y.toNat ≤ 4294967295 * 4294967295 := Nat.mul_le_mul (by omega) (by omega)
      obtain ⟨s, hs⟩ : ∃ s, s = z.toNat + x.toNat * y.toNat + cr := ⟨_, rfl⟩
      have hw3 : IntKind.u64.wrap (IntKind.u64.wrap ((z.toNat : Int) + IntKind.u64.wrap ((x.toNat : Int) * (y.toNat : Int))) + (cr : Int)) = (s : Int) := by
        rw [umul (by omega), uadd (by omega), uadd (by omega), hs]
      obtain ⟨r, hr⟩ := word32 s
      repeat first|refine W.g ?_|refine L.p rfl rfl ?_|refine L.nil ?_|refine L.skip rfl ?_
      rw [hw2]
      refine L.el hsl (k := i + k) rfl (wv_get hzz) rfl rfl rfl rfl (fun _ => rfl) rfl (fun p => ?_)
      repeat first|refine W.g ?_|refine L.p rfl rfl ?_|refine L.nil ?_|refine L.skip rfl ?_
      refine L.el (i1.cons hkT).1 (k := i) rfl (wv_get hx) rfl rfl rfl rfl (fun _ => rfl) rfl (fun p => ?_)
      repeat first|refine W.g ?_|refine L.p rfl rfl ?_|refine L.nil ?_|refine L.skip rfl ?_
      refine L.el (i2.cons hkT).1 (k := k) rfl (wv_get hy) rfl rfl rfl rfl (fun _ => rfl) rfl (fun p => ?_)
      repeat first|refine W.g ?_|refine L.p rfl rfl ?_|refine L.nil ?_|refine L.skip rfl ?_
      rw [hw3, hw2, andLo (by omega), ← hr]
      refine L.elst hro rfl (by show 0 + sz ≤ (wv o).length; rw [wv_len, hol]; omega) (k := i + k) rfl (by omega) rfl rfl rfl rfl (fun _ => rfl) (fun _ => rfl) rfl rfl rfl (fun p => ?_)
      have hr2 := row_set_w (k := i + k) (r := r) hro
      have hk6 := hkT.set ro { newR (wv o) 39 with cells := (newR (wv o) 39).cells.set (0 + (i + k)) (v64 r) } (by omega)
      have hws := hnum_set (y := r) hzz
      generalize List.set T ro _ = T6 at *
      repeat first|refine W.g ?_|refine L.p rfl rfl ?_|refine L.nil ?_|refine L.skip rfl ?_
      refine ⟨g.length - (k + 1), by omega, k + 1, o.set (i + k) r, s / 4294967296, rfl, by omega, rfl, rfl, rfl, rfl, (force_eq rfl).trans (congrArg (Value.int .u64) (shrHi s)), congrArg (Value.int .i64) (wrap64 (by omega) (by omega)), hk6, hr2, by simpa using hol, small32_set hso (by omega), by omega, ?_, fun p hp1 hp2 => ?_⟩
      · rw [hnum_take_succ hy, show i + (k + 1) = i + k + 1 by omega, pow32_succ]
        have hP : 2 ^ (32 * i) * 2 ^ (32 * k) = 2 ^ (32 * (i + k)) := by rw [← Nat.pow_add]; congr 1; omega
        have e4 : x.toNat * (hnum (g.take k) + 2 ^ (32 * k) * y.toNat) * 2 ^ (32 * i) = x.toNat * hnum (g.take k) * 2 ^ (32 * i) + x.toNat * y.toNat * 2 ^ (32 * (i + k)) := by
          rw [← hP, Nat.mul_add, Nat.add_mul]; congr 1
          rw [Nat.mul_comm (2 ^ (32 * k)), Nat.mul_assoc, Nat.mul_assoc, Nat.mul_assoc, Nat.mul_comm (2 ^ (32 * k))]
        rw [e4]
        have e5 : r.toNat * 2 ^ (32 * (i + k)) + s / 4294967296 * (2 ^ (32 * (i + k)) * 4294967296) = s * 2 ^ (32 * (i + k)) := by
          rw [hr, Nat.mul_comm (2 ^ (32 * (i + k))) 4294967296, ← Nat.mul_assoc, ← Nat.add_mul]; congr 1; omega
        have e6 : s * 2 ^ (32 * (i + k)) = z.toNat * 2 ^ (32 * (i + k)) + x.toNat * y.toNat * 2 ^ (32 * (i + k)) + cr * 2 ^ (32 * (i + k)) := by rw [hs, Nat.add_mul, Nat.add_mul]
        omega
      · rw [List.getElem?_set, if_neg (by omega)]; exact hz p hp1 hp2
    · have hkk : k = g.length := by have := of_decide_eq_false h; omega
      subst hkk
      clear h
      rw [List.take_length] at hsum
      have hz0 := hz (i + g.length) (Nat.le_refl _) (by omega)
      have hw2 : IntKind.i64.wrap ((i : Int) + (g.length : Int)) = ((i + g.length : Nat) : Int) := by rw [wrap64 (by omega) (by omega)]; rfl
      obtain ⟨r, hr⟩ := word_of (n := cr) (by omega)
      rw [← hr] at hsum hcr ⊢
      repeat first|refine W.g ?_|refine L.p rfl rfl ?_|refine L.nil ?_|refine L.skip rfl ?_
      rw [hw2]
      refine L.elst hro rfl (by show 0 + sz ≤ (wv o).length; rw [wv_len, hol]; omega) (k := i + g.length) rfl (by omega) rfl rfl rfl rfl (fun _ => rfl) (fun _ => rfl) rfl rfl rfl (fun p => ?_)
      have hr2 := row_set_w (k := i + g.length) (r := r) hro
      have hk6 := hkT.set ro { newR (wv o) 39 with cells := (newR (wv o) 39).cells.set (0 + (i + g.length)) (v64 r) } (by omega)
      have hws := hnum_set (y := r) hz0
      generalize List.set T ro _ = T6 at *
      repeat first|refine W.g ?_|refine L.p rfl rfl ?_|refine L.nil ?_|refine L.skip rfl ?_
      refine ⟨f.length - (i + 1), by omega, i + 1, o.set (i + g.length) r, rfl, by omega, rfl, rfl, rfl, congrArg (Value.int .i64) (wrap64 (by omega) (by omega)), hk6, hr2, by simpa using hol, small32_set hso hcr, ?_, fun p hp1 hp2 => ?_⟩
      · rw [hnum_take_succ hx, Nat.add_mul]
        have hz1 : (0#64 : BitVec 64).toNat * 2 ^ (32 * (i + g.length)) = 0 := Nat.zero_mul _
        rw [hz1] at hws
        rw [Nat.mul_comm (2 ^ (32 * i)), Nat.mul_right_comm]
        omega
      · rw [List.getElem?_set, if_neg (by omega)]; exact hz p (by omega) hp2
  · have hin : i = f.length := by have := of_decide_eq_false h; omega
    subst hin
    clear h
    rw [List.take_length] at hwo
    have hW : WIn T (some ⟨ro, 0, none⟩) sz o := (WOwn.row (N := 0) hro hol (Nat.zero_le _) (by omega)).1
    have hfo : HalfOk (fm o) := HalfOk.form hso
    have hfl : (fm o).length ≤ o.length := toW_len_le o
    repeat first|refine W.g ?_|refine L.p rfl rfl ?_|refine L.nil ?_|refine L.skip rfl ?_
    refine L.cl (strip_C (some ⟨ro, 0, none⟩) sz o T hW) rfl (by rw [hol]; rfl) ?_
    rintro _ _ ⟨rfl, rfl⟩
    refine ⟨fun _ => Cons.refl _, ?_⟩
    rename Mem => T
    repeat first|refine W.g ?_|refine L.p rfl rfl ?_|refine L.nil ?_|refine L.skip rfl ?_
    refine L.cl (limbsN_C (some ⟨ro, 0, none⟩) sz (fm o) T hW.form hfo.1 (by omega)) rfl rfl ?_
    rintro _ S4 ⟨k4, b4, d4, rfl, i4⟩
    refine ⟨fun _ => k4, ?_⟩
    rw [hnum_form, hwo, e1, e2] at i4 ⊢
    repeat first|refine W.g ?_|refine L.p rfl rfl ?_|refine L.nil ?_|refine L.skip rfl ?_
    exact ⟨.inr rfl, _, rfl, (((k1.trans k2).trans hkT).trans k4), b4, d4, rfl, i4⟩
end Go.Proofs.YtlnlcddbllcehaaDoor

/- The document's quotient: walked. Conditions: none. -/
set_option linter.unusedSimpArgs false
set_option linter.unusedVariables false
set_option maxRecDepth 100000
set_option maxHeartbeats 4000000
namespace Go.Proofs.YtlnlcddbllcehaaDoor
open Go
variable {G : Nat} {Ext : FuncId → List Value → Mem → Outc → Mem → Prop}
theorem surely_C (a1 a2 : Option Addr) (c1 c2 : Nat) (f g : WL) (S : Mem) (h1 : WIn S a1 c1 f) (h2 : WIn S a2 c2 g) (k1 : HalfOk f) (k2 : HalfOk g) (hg0 : 0 < hnum g) (hge : hnum g ≤ hnum f) (hlt : hnum f < hnum g * 4294967296) (n1 : f.length < 1000000) :
    C Tryd.prog G Ext 79 [.slice a1 f.length c1, .slice a2 g.length c2] S fun v S' => ∃ n : Nat, v = .int .u64 (n : Int) ∧ S' = S ∧ 1 ≤ n ∧ n < 4294967296 ∧ n * hnum g ≤ hnum f := by
  obtain ⟨m, hm⟩ : ∃ m, g.length = m + 1 := by
    cases hg : g with
    | nil => rw [hg] at hg0; exact absurd hg0 (by decide)
    | cons x t => exact ⟨t.length, rfl⟩
  have hlf := half_len k2 k1 hge
  have hlf2 : f.length ≤ m + 2 := by
    refine Classical.byContradiction fun hc => ?_
    have q1 := half_ge k1 (by omega)
    have q2 := hnum_lt k2.1
    have q3 : 2 ^ (32 * (m + 2)) ≤ 2 ^ (32 * (f.length - 1)) := Nat.pow_le_pow_right (by decide) (by omega)
    rw [hm] at q2
    rw [pow32_succ (m + 1)] at q3
    have := Nat.mul_lt_mul_of_pos_right q2 (show 0 < 4294967296 by decide)
    omega
  obtain ⟨x, hx⟩ : ∃ x, f[m]? = some x := ⟨_, List.getElem?_eq_getElem (by omega)⟩
  obtain ⟨t, ht⟩ : ∃ t, g[m]? = some t := ⟨_, List.getElem?_eq_getElem (by omega)⟩
  have hxl := small32_get k1.1 hx
  have htl := small32_get k2.1 ht
  have hgv := hnum_take_succ ht
  rw [List.take_of_length_le (by omega)] at hgv
  have hgl := hnum_lt (small32_take k2.1 m)
  rw [List.length_take, Nat.min_eq_left (by omega)] at hgl
  have hn1 : IntKind.i64.wrap (((m + 1 : Nat) : Int) - 1) = (m : Int) := by rw [wrap64 (by omega) (by omega)]; omega
  have hw1 : IntKind.u64.wrap ((t.toNat : Int) + 1) = ((t.toNat + 1 : Nat) : Int) := wrapU64 (by omega) (by omega)
  have fin : ∀ top : Nat, hnum f = hnum (f.take m) + 2 ^ (32 * m) * top → 1 ≤ max 1 (top / (t.toNat + 1)) ∧ max 1 (top / (t.toNat + 1)) < 4294967296 ∧ max 1 (top / (t.toNat + 1)) * hnum g ≤ hnum f := fun top h => by
    have q1 := sure_le h hgv hgl
    have q2 : max 1 (top / (t.toNat + 1)) * hnum g ≤ hnum f := by
      rcases Nat.le_total (top / (t.toNat + 1)) 1 with q | q
      · rw [Nat.max_eq_left q, Nat.one_mul]; exact hge
      · rw [Nat.max_eq_right q]; exact q1
    refine ⟨Nat.le_max_left _ _, ?_, q2⟩
    refine Nat.lt_of_mul_lt_mul_right (a := hnum g) (Nat.lt_of_le_of_lt q2 ?_)
    rw [Nat.mul_comm 4294967296]; exact hlt
  have hgle : Value.slice a2 g.length c2 = .slice a2 (m + 1) c2 := by rw [hm]
  refine C.fn Tryd.func79 rfl (by kernel_rfl) rfl ?_
  rw [hgle]
  have h2' : Slv S 1 (.slice a2 (m + 1) c2) (m + 1) (wv g) := by have := h2.1; rwa [hm] at this
  repeat first|refine W.g ?_|refine L.p rfl rfl ?_|refine L.nil ?_|refine L.skip rfl ?_
  refine L.el h1.1 (k := m) hn1 (wv_get hx) rfl rfl rfl rfl (fun _ => rfl) rfl (fun p => ?_)
  repeat first|refine W.g ?_|refine L.p rfl rfl ?_|refine L.nil ?_|refine L.skip rfl ?_
  refine W.ite rfl (fun h => ?_) (fun h => ?_)
  · have hlf3 : f.length = m + 2 := by have := of_decide_eq_true h; omega
    clear h
    obtain ⟨z, hz⟩ : ∃ z, f[m + 1]? = some z := ⟨_, List.getElem?_eq_getElem (by omega)⟩
    have hzl := small32_get k1.1 hz
    have hfv := hnum_take_succ hz
    rw [List.take_of_length_le (by omega), hnum_take_succ hx, pow32_succ] at hfv
    have hw2 : IntKind.u64.wrap ((BitVec.ofInt IntKind.u64.bits (x.toNat : Int) ||| BitVec.ofInt IntKind.u64.bits (IntKind.u64.wrap ((z.toNat : Int) * 2 ^ min (Int.toNat 32) IntKind.u64.bits))).toNat : Int) = ((z.toNat * 4294967296 + x.toNat : Nat) : Int) := by
      rw [show IntKind.u64.wrap ((z.toNat : Int) * 2 ^ min (Int.toNat 32) IntKind.u64.bits) = ((z.toNat * 2 ^ 32 % 18446744073709551616 : Nat) : Int) from shl_nat z.toNat 32, or_nat x.isLt (Nat.mod_lt _ (by decide))]
      have e : (2 : Nat) ^ 32 = 4294967296 := by decide
      rw [Nat.mod_eq_of_lt (by rw [e]; omega), Nat.or_comm, Nat.mul_comm z.toNat, ← Nat.two_pow_add_eq_or_of_lt (by rw [e]; exact hxl), e]
    repeat first|refine W.g ?_|refine L.p rfl rfl ?_|refine L.nil ?_|refine L.skip rfl ?_
    refine L.el h1.1 (k := m + 1) rfl (wv_get hz) rfl rfl rfl rfl (fun _ => rfl) rfl (fun p => ?_)
    repeat first|refine W.g ?_|refine L.p rfl rfl ?_|refine L.nil ?_|refine L.skip rfl ?_
    rw [hw2]
    refine L.el h2' (k := m) hn1 (wv_get ht) rfl rfl rfl rfl (fun _ => rfl) rfl (fun p => ?_)
    repeat first|refine W.g ?_|refine L.p rfl rfl ?_|refine L.nil ?_|refine L.skip rfl ?_
    rw [hw1]
    refine L.quo rfl rfl (by omega) rfl ?_
    rw [nquo (by omega)]
    repeat first|refine W.g ?_|refine L.p rfl rfl ?_|refine L.nil ?_|refine L.skip rfl ?_
    refine L.max (c := ((max 1 ((z.toNat * 4294967296 + x.toNat) / (t.toNat + 1)) : Nat) : Int)) rfl rfl rfl ?_ ?_
    · generalize ((z.toNat * 4294967296 + x.toNat)) / (t.toNat + 1) = Q
      split <;> omega
    repeat first|refine W.g ?_|refine L.p rfl rfl ?_|refine L.nil ?_|refine L.skip rfl ?_
    refine ⟨.inr rfl, _, rfl, max 1 ((z.toNat * 4294967296 + x.toNat) / (t.toNat + 1)), rfl, rfl, fin (z.toNat * 4294967296 + x.toNat) ?_⟩
    · rw [hfv, Nat.mul_add, Nat.mul_comm z.toNat, ← Nat.mul_assoc]; omega
  · have hlf3 : f.length = m + 1 := by have := of_decide_eq_false h; omega
    clear h
    have hfv := hnum_take_succ hx
    rw [List.take_of_length_le (by omega)] at hfv
    repeat first|refine W.g ?_|refine L.p rfl rfl ?_|refine L.nil ?_|refine L.skip rfl ?_
    refine L.el h2' (k := m) hn1 (wv_get ht) rfl rfl rfl rfl (fun _ => rfl) rfl (fun p => ?_)
    repeat first|refine W.g ?_|refine L.p rfl rfl ?_|refine L.nil ?_|refine L.skip rfl ?_
    rw [hw1]
    refine L.quo rfl rfl (by omega) rfl ?_
    rw [nquo (by omega)]
    repeat first|refine W.g ?_|refine L.p rfl rfl ?_|refine L.nil ?_|refine L.skip rfl ?_
    refine L.max (c := ((max 1 (x.toNat / (t.toNat + 1)) : Nat) : Int)) rfl rfl rfl ?_ ?_
    · generalize (x.toNat) / (t.toNat + 1) = Q
      split <;> omega
    repeat first|refine W.g ?_|refine L.p rfl rfl ?_|refine L.nil ?_|refine L.skip rfl ?_
    refine ⟨.inr rfl, _, rfl, max 1 (x.toNat / (t.toNat + 1)), rfl, rfl, fin x.toNat ?_⟩
    · exact hfv
/-- what 'Over' hands out -/
def OverR (S S' : Mem) (v : Value) (A B : Nat) : Prop := ∃ (a1 a2 : Option Addr) (c1 c2 : Nat), v = .tuple #[.slice a1 (toW (A / B)).length c1, .slice a2 (toW (A % B)).length c2] ∧ Cons S S' ∧ WIn S' a1 c1 (toW (A / B)) ∧ WIn S' a2 c2 (toW (A % B))
theorem over_C (a1 a2 : Option Addr) (c1 c2 : Nat) (l1 l2 : WL) (S : Mem) (h1 : WIn S a1 c1 l1) (h2 : WIn S a2 c2 l2) (n1 : l1.length < 100000) (n2 : l2.length < 100000) (hpos : 0 < wnum l2) :
    C Tryd.prog G Ext 61 [.slice a1 l1.length c1, .slice a2 l2.length c2] S fun v S' => OverR S S' v (wnum l1) (wnum l2) := by
  refine C.fn Tryd.func61 rfl (by kernel_rfl) rfl ?_
  repeat first|refine W.g ?_|refine L.p rfl rfl ?_|refine L.nil ?_|refine L.skip rfl ?_
  refine L.cl (halvesN_C a1 c1 l1 S h1 (by omega)) rfl rfl ?_
  rintro _ S1 ⟨f, ⟨k1, b1, d1, rfl, i1⟩, o1, e1, q1⟩
  refine ⟨fun _ => k1, ?_⟩
  repeat first|refine W.g ?_|refine L.p rfl rfl ?_|refine L.nil ?_|refine L.skip rfl ?_
  refine L.cl (halvesN_C a2 c2 l2 S1 (h2.cons k1) (by omega)) rfl rfl ?_
  rintro _ S2 ⟨g, ⟨k2, b2, d2, rfl, i2⟩, o2, e2, q2⟩
  refine ⟨fun _ => k2, ?_⟩
  replace i1 := i1.cons k2
  have kA := k1.trans k2
  rw [← e2] at hpos
  rw [← e1, ← e2]
  clear e1 e2 h1 h2 k1 k2
  have hgl : 0 < g.length := by
    cases hg : g with
    | nil => rw [hg] at hpos; exact absurd hpos (by decide)
    | cons x t => exact Nat.succ_pos _
  obtain ⟨tp, htp⟩ : ∃ tp, tp = f.length + 1 - g.length := ⟨_, rfl⟩
  have htl : tp ≤ f.length := by omega
  repeat first|refine W.g ?_|refine L.p rfl rfl ?_|refine L.nil ?_|refine L.skip rfl ?_
  refine L.mk (n := f.length) (m := f.length) (bytes := 8) (zv := v64 0#64) rfl rfl rfl rfl rfl (Nat.le_refl _) (by omega) rfl rfl ?_
  have hrq : Mem.row? (S2 ++ [newR (List.replicate f.length (v64 0#64)) 39]) S2.length = some (newR (wv (List.replicate f.length 0#64)) 39) := by
    rw [row_push_new rfl]; simp [wv]
  have hk5 := Cons.push S2 (newR (List.replicate f.length (v64 0#64)) 39)
  generalize S2 ++ [newR (List.replicate f.length (v64 0#64)) 39] = S3 at *
  obtain ⟨rq, hrq0⟩ : ∃ rq, rq = S2.length := ⟨_, rfl⟩
  rw [← hrq0] at hrq ⊢
  have hrqS := row_lt hrq
  have hs0 : Small32 (List.replicate f.length 0#64) := fun x hx => by rw [List.eq_of_mem_replicate hx]; decide
  repeat first|refine W.g ?_|refine L.p rfl rfl ?_|refine L.nil ?_|refine L.skip rfl ?_
  refine L.max (c := (tp : Int)) rfl rfl rfl ?_ ?_
  · rw [wrap64 (x := (f.length : Int) - (g.length : Int)) (by omega) (by omega), wrap64 (by omega) (by omega)]
    split <;> omega
  repeat first|refine W.g ?_|refine L.p rfl rfl ?_|refine L.nil ?_|refine L.skip rfl ?_
  obtain ⟨a3, c3, p1, p2, p3, _⟩ := slv_part (lo := some (vi tp)) (hi := none) (k := tp) (h := f.length) (i1.cons hk5).1 (.inr ⟨.i64, rfl⟩) (.inl ⟨rfl, rfl⟩) htl (Nat.le_refl _) (Cut.of i1.2.1)
  rw [List.take_of_length_le (by rw [List.length_drop, wv_len]; omega)] at p2
  refine L.is (.slice a3 (f.length - tp) c3) ((slice_at0 rfl rfl rfl).trans p1) rfl ?_
  repeat first|refine W.g ?_|refine L.p rfl rfl ?_|refine L.nil ?_|refine L.skip rfl ?_
  refine L.app (N := S3.length) (n := 0) (bytes := 8) (l := []) rfl (Nat.le_refl _) (Grow.nil _ _ _ _) rfl rfl p2 (by rw [show (wv f).drop tp = wv (f.drop tp) by rw [wv, ← List.map_drop]; rfl]; exact wv_one _) (by omega) rfl rfl (fun a4 c4 S4 g1 g2 g3 => ?_)
  rw [Nat.zero_add, List.nil_append, show (wv f).drop tp = wv (f.drop tp) by rw [wv, ← List.map_drop]; rfl] at g1
  have hdl : (f.drop tp).length = f.length - tp := by rw [List.length_drop]
  have hW4 : WIn S4 a4 c4 (f.drop tp) := grow_win (by rw [hdl]; exact g1) (by omega)
  have hk6 : Cons S3 S4 := g3.cons
  have hnw := grow_new g1
  repeat first|refine W.g ?_|refine L.p rfl rfl ?_|refine L.nil ?_|refine L.skip rfl ?_
  refine L.cl (strip_C a4 c4 (f.drop tp) S4 hW4) rfl (by rw [hdl, Nat.zero_add]; rfl) ?_
  rintro _ _ ⟨rfl, rfl⟩
  refine ⟨fun _ => Cons.refl _, ?_⟩
  rename Mem => S4
  have hsd : Small32 (f.drop tp) := fun x hx => o1.1 x (List.mem_of_mem_drop hx)
  have hR0 : HalfOk (fm (f.drop tp)) := HalfOk.form hsd
  have hRn : hnum (fm (f.drop tp)) = hnum (f.drop tp) := hnum_form _
  have hRl : hnum (f.drop tp) < hnum g := by
    have q3 := hnum_lt hsd
    have q4 := half_ge o2 hgl
    have q5 : 2 ^ (32 * (f.drop tp).length) ≤ 2 ^ (32 * (g.length - 1)) := Nat.pow_le_pow_right (by decide) (by omega)
    omega
  have hsplit : hnum f = hnum (f.take tp) + 2 ^ (32 * tp) * hnum (f.drop tp) := by
    have := hnum_append (f.take tp) (f.drop tp)
    rw [List.take_append_drop, List.length_take, Nat.min_eq_left htl] at this
    exact this
  repeat first|refine W.g ?_|refine L.p rfl rfl ?_|refine L.nil ?_|refine L.skip rfl ?_
  refine W.loop (fun k e T => ∃ (q rest : WL) (ar : Option Addr) (cr : Nat), k ≤ tp ∧ Cons S2 T ∧ S3.length ≤ T.length ∧ e 6 = .slice b1 f.length d1 ∧ e 7 = .slice b2 g.length d2 ∧ e 8 = .slice (some ⟨rq, 0, none⟩) f.length f.length ∧ e 10 = .slice ar rest.length cr ∧ e 11 = .int .i64 ((k : Int) - 1) ∧ T.row? rq = some (newR (wv q) 39) ∧ q.length = f.length ∧ Small32 q ∧ WIn T ar cr rest ∧ (∀ x, ar = some x → S3.length ≤ x.block) ∧ HalfOk rest ∧ hnum rest < hnum g ∧
      hnum f = hnum q * hnum g + hnum rest * 2 ^ (32 * k) + hnum (f.take k) ∧ ∀ p, p < k → q[p]? = some 0#64) tp
    ⟨List.replicate f.length 0#64, fm (f.drop tp), a4, c4, Nat.le_refl _, hk5.trans hk6, hk6.len, rfl, rfl, rfl, rfl, congrArg (Value.int .i64) (wrap64 (by omega) (by omega)), hk6.row' hrq, by simp, hs0, hW4.form, hnw, hR0, by omega, by rw [hnum_zeros, hRn, Nat.mul_comm (hnum (f.drop tp))]; omega, fun p hp => by rw [List.getElem?_replicate, if_pos (by omega)]⟩ ?_
  clear hsplit hRl hRn hR0 hsd hnw hk6 hW4 g1 g2 g3 p1 p2 p3 hs0 hrq hk5 hdl
  rintro k e T ⟨q, rest, ar, cr, hk, kT, hTl, e6, e7, e8, e10, e11, hrq, hql, hsq, hrW, hnw, hrok, hrlt, hsum, hz⟩
  refine W.env5 e6 e7 e8 e10 e11 ?_
  repeat first|refine W.g ?_|refine L.p rfl rfl ?_|refine L.nil ?_|refine L.skip rfl ?_
  refine W.ite rfl (fun h => ?_) (fun h => ?_)
  · have hk1 : 1 ≤ k := by have := of_decide_eq_true h; omega
    clear h
    obtain ⟨j, rfl⟩ : ∃ j, k = j + 1 := ⟨k - 1, by omega⟩
    have hm : (((j + 1 : Nat) : Int) - 1) = (j : Int) := by omega
    rw [hm]
    obtain ⟨x, hx⟩ : ∃ x, f[j]? = some x := ⟨_, List.getElem?_eq_getElem (by omega)⟩
    have hxl := small32_get o1.1 hx
    have hrll := half_len hrok o2 (by omega)
    repeat first|refine W.g ?_|refine L.p rfl rfl ?_|refine L.nil ?_|refine L.skip rfl ?_
    refine L.el (i1.cons kT).1 (k := j) rfl (wv_get hx) rfl rfl rfl rfl (fun _ => rfl) rfl (fun p => ?_)
    repeat first|refine W.g ?_|refine L.p rfl rfl ?_|refine L.nil ?_|refine L.skip rfl ?_
    refine L.push1 (w := v64 x) (N := T.length) (n := 0) (l := []) rfl (Nat.le_refl _) (.inl (Grow.nil _ _ _ _)) rfl rfl rfl rfl rfl (by omega) rfl (fun _ => rfl) (fun p a5 c5 T1 g1 g2 g3 => ?_)
    have hkT1 : Cons T T1 := g3.cons
    repeat first|refine W.g ?_|refine L.p rfl rfl ?_|refine L.nil ?_|refine L.skip rfl ?_
    refine L.app (N := T.length) (n := 1) (bytes := 8) (l := [v64 x]) rfl g2 g1 rfl rfl (hrW.cons hkT1).1 (wv_one _) (by omega) rfl rfl (fun a6 c6 T2 g4 g5 g6 => ?_)
    have hkT2 : Cons T T2 := hkT1.trans' g6
    have hnl : (x :: rest).length = 1 + rest.length := by rw [List.length_cons]; omega
    have hW6 : WIn T2 a6 c6 (x :: rest) := grow_win (by rw [hnl]; exact g4) (by omega)
    have hnw6 := grow_new g4
    have hs6 : Small32 (x :: rest) := fun y hy => by
      rcases List.mem_cons.1 hy with rfl | hy
      · exact hxl
      · exact hrok.1 y hy
    repeat first|refine W.g ?_|refine L.p rfl rfl ?_|refine L.nil ?_|refine L.skip rfl ?_
    refine L.cl (strip_C a6 c6 (x :: rest) T2 hW6) rfl (by rw [hnl]; rfl) ?_
    rintro _ _ ⟨rfl, rfl⟩
    refine ⟨fun _ => Cons.refl _, ?_⟩
    rename Mem => T2
    have hcur : hnum (fm (x :: rest)) = x.toNat + 4294967296 * hnum rest := by rw [hnum_form]; rfl
    have hz0 := hz j (by omega)
    rw [hnum_take_succ hx, pow32_succ] at hsum
    repeat first|refine W.g ?_|refine L.p rfl rfl ?_|refine L.nil ?_|refine L.skip rfl ?_
    refine W.mono (R := fun x' e' T' => x' = .exit 2 ∧ ∃ (q rest : WL) (ar : Option Addr) (cr : Nat), Cons S2 T' ∧ S3.length ≤ T'.length ∧ e' 6 = .slice b1 f.length d1 ∧ e' 7 = .slice b2 g.length d2 ∧ e' 8 = .slice (some ⟨rq, 0, none⟩) f.length f.length ∧ e' 10 = .slice ar rest.length cr ∧ e' 11 = vi j ∧ T'.row? rq = some (newR (wv q) 39) ∧ q.length = f.length ∧ Small32 q ∧ WIn T' ar cr rest ∧ (∀ x, ar = some x → S3.length ≤ x.block) ∧ HalfOk rest ∧ hnum rest < hnum g ∧
        hnum f = hnum q * hnum g + hnum rest * 2 ^ (32 * j) + hnum (f.take j) ∧ ∀ p, p < j → q[p]? = some 0#64) ?_ ?_
    · refine W.loop (fun n e' T' => ∃ (q rest : WL) (w : BitVec 64) (ar : Option Addr) (cr : Nat), n = hnum rest ∧ Cons S2 T' ∧ S3.length ≤ T'.length ∧ e' 6 = .slice b1 f.length d1 ∧ e' 7 = .slice b2 g.length d2 ∧ e' 8 = .slice (some ⟨rq, 0, none⟩) f.length f.length ∧ e' 10 = .slice ar rest.length cr ∧ e' 11 = vi j ∧ T'.row? rq = some (newR (wv q) 39) ∧ q.length = f.length ∧ Small32 q ∧ q[j]? = some w ∧ w.toNat * hnum g + hnum rest < hnum g * 4294967296 ∧ WIn T' ar cr rest ∧ (∀ x, ar = some x → S3.length ≤ x.block) ∧ HalfOk rest ∧
          hnum f = hnum q * hnum g + hnum rest * 2 ^ (32 * j) + hnum (f.take j) ∧ ∀ p, p < j → q[p]? = some 0#64) (hnum (fm (x :: rest)))
        ⟨q, fm (x :: rest), 0#64, a6, c6, rfl, kT.trans hkT2, Nat.le_trans hTl hkT2.len, rfl, rfl, rfl, rfl, rfl, hkT2.row' hrq, hql, hsq, hz0, ?_, hW6.form, fun y hy => Nat.le_trans hTl (hnw6 y hy), HalfOk.form hs6, ?_, fun p hp => hz p (by omega)⟩ ?_
      · rw [hcur, show (0#64 : BitVec 64).toNat * hnum g = 0 from Nat.zero_mul _]
        omega
      · rw [hcur, hsum, Nat.add_mul, Nat.mul_comm 4294967296 (hnum rest), Nat.mul_assoc (hnum rest), Nat.mul_comm 4294967296 (2 ^ (32 * j)), Nat.mul_comm x.toNat]; omega
      clear hcur hsum hz0 hs6 hnw6 hW6 g1 g2 g3 g4 g5 g6 hkT1 hkT2 hz hrW hnw hrok hrlt hrll hsq hql hrq
      rintro n e' T' ⟨q, rest, w, ar, cr, rfl, kT, hTl, e6, e7, e8, e10, e11, hrq, hql, hsq, hw, hwb, hrW, hnw, hrok, hsum, hz⟩
      refine W.env5 e6 e7 e8 e10 e11 ?_
      have hwl := small32_get hsq hw
      repeat first|refine W.g ?_|refine L.p rfl rfl ?_|refine L.nil ?_|refine L.skip rfl ?_
      refine L.cl (compare_C ar b2 cr d2 rest g T' hrW (i2.cons kT) hrok o2) rfl rfl ?_
      rintro _ M ⟨rfl, hM⟩
      have hM := hM.symm
      subst hM
      refine ⟨fun _ => Cons.refl _, ?_⟩
      repeat first|refine W.g ?_|refine L.p rfl rfl ?_|refine L.nil ?_|refine L.skip rfl ?_
      refine W.ite rfl (fun h => ?_) (fun h => ?_)
      · have hge : hnum g ≤ hnum rest := by
          have h0 := of_decide_eq_true h
          unfold cmpI at h0
          split at h0 <;> omega
        clear h
        have hrl : hnum rest < hnum g * 4294967296 := by omega
        have hrlen : rest.length ≤ g.length + 1 := by
          refine Classical.byContradiction fun hc => ?_
          have q1 := half_ge hrok (by omega)
          have q2 := hnum_lt o2.1
          have q3 : 2 ^ (32 * (g.length + 1)) ≤ 2 ^ (32 * (rest.length - 1)) := Nat.pow_le_pow_right (by decide) (by omega)
          rw [pow32_succ] at q3
          have := Nat.mul_lt_mul_of_pos_right q2 (show 0 < 4294967296 by decide)
          omega
        repeat first|refine W.g ?_|refine L.p rfl rfl ?_|refine L.nil ?_|refine L.skip rfl ?_
        refine L.cl (surely_C ar b2 cr d2 rest g T' hrW (i2.cons kT) hrok o2 hpos hge hrl (by omega)) rfl rfl ?_
        rintro _ M2 ⟨n, rfl, hM2, hn1, hn2, hn3⟩
        have hM2 := hM2.symm
        subst hM2
        refine ⟨fun _ => Cons.refl _, ?_⟩
        repeat first|refine W.g ?_|refine L.p rfl rfl ?_|refine L.nil ?_|refine L.skip rfl ?_
        refine L.cl (little_C b2 d2 n g T' (i2.cons kT) o2.1 hn2 (by omega)) rfl rfl ?_
        rintro _ T3 ⟨y, ay, cy, kT3, rfl, iy, _, oy, ey⟩
        refine ⟨fun _ => kT3, ?_⟩
        repeat first|refine W.g ?_|refine L.p rfl rfl ?_|refine L.nil ?_|refine L.skip rfl ?_
        refine L.cl (minus_C ar ay cr cy rest y T3 (hrW.cons kT3) iy hrok oy (by rw [ey, Nat.mul_comm]; exact hn3) (by omega)) rfl rfl ?_
        rintro _ T4 ⟨r2, a7, c7, kT4, rfl, i7, n7, o7, e7'⟩
        refine ⟨fun _ => kT4, ?_⟩
        have kT34 := kT3.trans kT4
        have hrq4 := kT34.row' hrq
        have hsl : Slv T4 1 (.slice (some ⟨rq, 0, none⟩) f.length f.length) f.length (wv q) := Slv.all hrq4 rfl (by rw [wv_len, hql, Nat.mul_one])
        have hwn : w.toNat + n < 4294967296 := by
          have q1 : (w.toNat + n) * hnum g < 4294967296 * hnum g := by rw [Nat.add_mul, Nat.mul_comm 4294967296]; omega
          exact Nat.lt_of_mul_lt_mul_right q1
        obtain ⟨w2, hw2⟩ := word_of (n := w.toNat + n) (by omega)
        repeat first|refine W.g ?_|refine L.p rfl rfl ?_|refine L.nil ?_|refine L.skip rfl ?_
        refine L.el hsl (k := j) rfl (wv_get hw) rfl rfl rfl rfl (fun _ => rfl) rfl (fun p => ?_)
        repeat first|refine W.g ?_|refine L.p rfl rfl ?_|refine L.nil ?_|refine L.skip rfl ?_
        rw [uadd (a := w.toNat) (b := n) (by omega), ← hw2]
        refine L.elst hrq4 rfl (by show 0 + f.length ≤ (wv q).length; rw [wv_len, hql]; omega) (k := j) rfl (by omega) rfl rfl rfl rfl (fun _ => rfl) (fun _ => rfl) rfl rfl rfl (fun p => ?_)
        have hrq5 := row_set_w (k := j) (r := w2) hrq4
        have hk8 : Cons S2 (List.set T4 rq { newR (wv q) 39 with cells := (newR (wv q) 39).cells.set (0 + j) (v64 w2) }) := (kT.trans kT34).set rq _ (by omega)
        have i8 := i7.keepb (Keep.set rq T4 { newR (wv q) 39 with cells := (newR (wv q) 39).cells.set (0 + j) (v64 w2) }) (fun x hx => by have := n7 x hx; have := kT3.len; omega)
        have hl8 : S3.length ≤ (List.set T4 rq { newR (wv q) 39 with cells := (newR (wv q) 39).cells.set (0 + j) (v64 w2) }).length := by rw [List.length_set]; have := kT34.len; omega
        have hws := hnum_set (y := w2) hw
        generalize List.set T4 rq _ = T5 at *
        repeat first|refine W.g ?_|refine L.p rfl rfl ?_|refine L.nil ?_|refine L.skip rfl ?_
        have hcl : hnum r2 = hnum rest - n * hnum g := by rw [e7', ey, Nat.mul_comm n]
        have hpn : 0 < n * hnum g := Nat.mul_pos (by omega) hpos
        refine ⟨hnum r2, by omega, q.set j w2, r2, w2, a7, c7, rfl, hk8, hl8, rfl, rfl, rfl, rfl, rfl, hrq5, by simpa using hql, small32_set hsq (by omega), by rw [List.getElem?_set, if_pos rfl, if_pos (by omega)], ?_, i8, fun x hx => by have := n7 x hx; have := kT3.len; omega, o7, ?_, fun p hp => ?_⟩
        · rw [hw2, hcl, Nat.add_mul]; omega
        · rw [hw2] at hws
          have q1 : hnum (q.set j w2) = hnum q + n * 2 ^ (32 * j) := by rw [Nat.add_mul] at hws; omega
          have q2 : hnum rest * 2 ^ (32 * j) = hnum r2 * 2 ^ (32 * j) + n * hnum g * 2 ^ (32 * j) := by rw [← Nat.add_mul]; congr 1; omega
          rw [q1, Nat.add_mul, hsum, q2, Nat.mul_right_comm n]; omega
        · rw [List.getElem?_set, if_neg (by omega)]; exact hz p hp
      · have hlt : hnum rest < hnum g := by
          have h0 := of_decide_eq_false h
          refine Classical.byContradiction fun hc => h0 ?_
          unfold cmpI
          rw [if_neg (by omega)]
          split <;> omega
        clear h
        repeat first|refine W.g ?_|refine L.p rfl rfl ?_|refine L.nil ?_|refine L.skip rfl ?_
        exact ⟨rfl, q, rest, ar, cr, kT, hTl, rfl, rfl, rfl, rfl, rfl, hrq, hql, hsq, hrW, hnw, hrok, hlt, hsum, hz⟩
    clear hcur hsum hz0 hs6 hnw6 hW6 g1 g2 g3 g4 g5 g6 hkT1 hkT2 hz hrW hnw hrok hrlt hrll hsq hql hrq e6 e7 e8 e10 e11 hTl kT
    rintro _ e' T' ⟨rfl, q, rest, ar, cr, kT, hTl, e6, e7, e8, e10, e11, hrq, hql, hsq, hrW, hnw, hrok, hlt, hsum, hz⟩
    refine W.env5 e6 e7 e8 e10 e11 ?_
    repeat first|refine W.g ?_|refine L.p rfl rfl ?_|refine L.nil ?_|refine L.skip rfl ?_
    exact ⟨j, by omega, q, rest, ar, cr, by omega, kT, hTl, rfl, rfl, rfl, rfl, (force_eq rfl).trans (congrArg (Value.int .i64) (wrap64 (by omega) (by omega))), hrq, hql, hsq, hrW, hnw, hrok, hlt, hsum, hz⟩
  · have hk0 : k = 0 := by have := of_decide_eq_false h; omega
    subst hk0
    clear h
    rw [Nat.mul_zero, Nat.pow_zero, Nat.mul_one, List.take_zero, show hnum [] = 0 from rfl, Nat.add_zero] at hsum
    have hdv : hnum q = hnum f / hnum g ∧ hnum rest = hnum f % hnum g := by
      rw [hsum, Nat.mul_comm]
      refine ⟨?_, ?_⟩
      · rw [Nat.mul_add_div hpos, Nat.div_eq_of_lt hrlt, Nat.add_zero]
      · rw [Nat.mul_add_mod, Nat.mod_eq_of_lt hrlt]
    have hWq : WIn T (some ⟨rq, 0, none⟩) f.length q := (WOwn.row (N := 0) hrq hql (Nat.zero_le _) (by omega)).1
    have hfq : (fm q).length ≤ q.length := toW_len_le q
    have hrll := half_len hrok o2 (by omega)
    repeat first|refine W.g ?_|refine L.p rfl rfl ?_|refine L.nil ?_|refine L.skip rfl ?_
    refine L.cl (strip_C (some ⟨rq, 0, none⟩) f.length q T hWq) rfl (by rw [hql]; rfl) ?_
    rintro _ _ ⟨rfl, rfl⟩
    refine ⟨fun _ => Cons.refl _, ?_⟩
    rename Mem => T
    repeat first|refine W.g ?_|refine L.p rfl rfl ?_|refine L.nil ?_|refine L.skip rfl ?_
    refine L.cl (limbsN_C (some ⟨rq, 0, none⟩) f.length (fm q) T hWq.form (small32_form hsq) (by omega)) rfl rfl ?_
    rintro _ T1 ⟨k4, b4, d4, rfl, i4⟩
    refine ⟨fun _ => k4, ?_⟩
    repeat first|refine W.g ?_|refine L.p rfl rfl ?_|refine L.nil ?_|refine L.skip rfl ?_
    refine L.cl (limbsN_C ar cr rest T1 (hrW.cons k4) hrok.1 (by omega)) rfl rfl ?_
    rintro _ T2 ⟨k5, b5, d5, rfl, i5⟩
    refine ⟨fun _ => k5, ?_⟩
    rw [hnum_form, hdv.1] at i4 ⊢
    rw [hdv.2] at i5 ⊢
    repeat first|refine W.g ?_|refine L.p rfl rfl ?_|refine L.nil ?_|refine L.skip rfl ?_
    exact ⟨.inr rfl, _, rfl, b4, b5, d4, d5, rfl, ((kA.trans kT).trans k4).trans k5, i4.cons k5, i5⟩
end Go.Proofs.YtlnlcddbllcehaaDoor

/- Layer 4, the document's answers. Conditions: none. -/
set_option linter.unusedSimpArgs false
set_option linter.unusedVariables false
set_option maxRecDepth 100000
set_option maxHeartbeats 4000000
set_option exponentiation.threshold 30000
namespace Go.Proofs.YtlnlcddbllcehaaDoor
open Go Ie
variable {Ext : FuncId → List Value → Mem → Outc → Mem → Prop}
theorem toW_short {N : Nat} (h : N < 2 ^ 25600) : (toW N).length < 100000 := by
  have := (toW_len N 400).2 h
  omega
theorem up_pow {a b N : Nat} (h : N < 2 ^ a) (hab : a ≤ b) : N < 2 ^ b := Nat.lt_of_lt_of_le h (Nat.pow_le_pow_right (by decide) hab)
theorem refWrong_C (a : Option Addr) (c : Nat) (m : WL) (v : Value) (ws : List WS) (S : Mem) (hm : WIn S a c m) (hml : m.length < 400000) (hv : Slv S 1 v ws.length (ws.map WS.v)) (hw : ∀ w ∈ ws, WIn S w.a w.c w.l ∧ w.l.length < 400000) (hn : ws.length < 1000000) :
    C Tryd.prog gN Ext 42 [v, .slice a m.length c] S fun r S' => r = .int .i64 (wrE (ws.map WS.l) m) ∧ Cons S S' := by
  obtain ⟨_, av, cv, rfl, _⟩ := id hv
  refine C.fn Tryd.func42 rfl (by kernel_rfl) rfl ?_
  repeat first|refine W.g ?_|refine L.p rfl rfl ?_|refine L.nil ?_|refine L.skip rfl ?_
  refine W.loop (fun j e T => ∃ i : Nat, j = ws.length - i ∧ i ≤ ws.length ∧ Cons S T ∧ e 0 = .slice av ws.length cv ∧ e 1 = .slice a m.length c ∧ e 5 = vi i ∧ ∀ k w, k < i → ws[k]? = some w → small w.l = true) ws.length
    ⟨0, by omega, by omega, Cons.refl _, rfl, rfl, rfl, fun k w hk => by omega⟩ ?_
  rintro j e T ⟨i, rfl, hi, hc, e0, e1, e5, hs⟩
  refine W.env3 e0 e1 e5 ?_
  clear e0 e1 e5
  repeat first|refine W.g ?_|refine L.p rfl rfl ?_|refine L.nil ?_|refine L.skip rfl ?_
  refine W.ite rfl (fun h => ?_) (fun h => ?_)
  · have hin : i < ws.length := by have := of_decide_eq_true h; omega
    obtain ⟨w, hwi⟩ : ∃ w, ws[i]? = some w := ⟨_, List.getElem?_eq_getElem hin⟩
    clear h
    obtain ⟨hw1, hw2⟩ := hw w (List.mem_of_getElem? hwi)
    repeat first|refine W.g ?_|refine L.p rfl rfl ?_|refine L.nil ?_|refine L.skip rfl ?_
    refine L.el (hv.cons hc) (k := i) rfl (show (ws.map WS.v)[i]? = some (.slice w.a w.l.length w.c) by rw [List.getElem?_map, hwi]; rfl) rfl rfl rfl rfl (fun _ => rfl) rfl (fun p => ?_)
    repeat first|refine W.g ?_|refine L.p rfl rfl ?_|refine L.nil ?_|refine L.skip rfl ?_
    refine L.cl (form_C w.a w.c w.l T (hw1.cons hc) hw2) rfl rfl ?_
    rintro _ T2 ⟨k2, a2, c2, rfl, w2⟩
    refine ⟨fun _ => k2, ?_⟩
    repeat first|refine W.g ?_|refine L.p rfl rfl ?_|refine L.nil ?_|refine L.skip rfl ?_
    rw [small_len]
    refine W.ite rfl (fun h => ?_) (fun h => ?_)
    · have hb : small w.l = false := by simpa using h
      repeat first|refine W.g ?_|refine L.p rfl rfl ?_|refine L.nil ?_|refine L.skip rfl ?_
      refine ⟨.inr rfl, _, rfl, (force_eq rfl).trans (congrArg (Value.int .i64) ?_), hc.trans k2⟩
      have : ¬ (ws.map WS.l).all small = true := fun ha => by
        have := List.all_eq_true.1 ha w.l (List.mem_map.2 ⟨w, List.mem_of_getElem? hwi, rfl⟩)
        rw [hb] at this; cases this
      unfold wrE
      rw [if_neg this]
    · have hb : small w.l = true := by simpa using h
      repeat first|refine W.g ?_|refine L.p rfl rfl ?_|refine L.nil ?_|refine L.skip rfl ?_
      refine ⟨ws.length - (i + 1), by omega, i + 1, rfl, by omega, hc.trans k2, rfl, rfl, ?_, fun k w' hk hk' => ?_⟩
      · refine (force_eq rfl).trans ?_
        rw [wrap64 (by omega) (by omega)]; rfl
      · rcases Nat.lt_or_eq_of_le (Nat.le_of_lt_succ hk) with h1 | rfl
        · exact hs k w' h1 hk'
        · rw [hwi] at hk'; cases hk'; exact hb
  · have hin : i = ws.length := by have := of_decide_eq_false h; omega
    subst hin
    clear h
    have ha : (ws.map WS.l).all small = true := by
      rw [List.all_eq_true]
      intro l hl
      obtain ⟨w, hw', rfl⟩ := List.mem_map.1 hl
      obtain ⟨k, hk⟩ := List.getElem?_of_mem hw'
      exact hs k w (List.getElem?_eq_some_iff.1 hk).1 hk
    unfold wrE
    rw [if_pos ha]
    repeat first|refine W.g ?_|refine L.p rfl rfl ?_|refine L.nil ?_|refine L.skip rfl ?_
    refine L.cl (length_C a c m T (hm.cons hc) hml) rfl rfl ?_
    rintro _ T2 ⟨rfl, k2⟩
    refine ⟨fun _ => k2, ?_⟩
    have kc := hc.trans k2
    repeat first|refine W.g ?_|refine L.p rfl rfl ?_|refine L.nil ?_|refine L.skip rfl ?_
    refine W.ite rfl (fun h => ?_) (fun h => ?_)
    · have := of_decide_eq_true h
      rw [if_pos (by omega)]
      repeat first|refine W.g ?_|refine L.p rfl rfl ?_|refine L.nil ?_|refine L.skip rfl ?_
      exact ⟨.inr rfl, _, rfl, rfl, kc⟩
    have h1 := of_decide_eq_false h
    rw [if_neg (by omega)]
    clear h
    repeat first|refine W.g ?_|refine L.p rfl rfl ?_|refine L.nil ?_|refine L.skip rfl ?_
    refine L.cl (length_C a c m T2 (hm.cons kc) hml) rfl rfl ?_
    rintro _ T3 ⟨rfl, k3⟩
    refine ⟨fun _ => k3, ?_⟩
    repeat first|refine W.g ?_|refine L.p rfl rfl ?_|refine L.nil ?_|refine L.skip rfl ?_
    refine W.ite rfl (fun h => ?_) (fun h => ?_)
    · have h2 : wnum m = 0 := blen0.1 (by have := eq_of_beq h; omega)
      rw [if_pos h2]
      repeat first|refine W.g ?_|refine L.p rfl rfl ?_|refine L.nil ?_|refine L.skip rfl ?_
      exact ⟨.inr rfl, _, rfl, rfl, kc.trans k3⟩
    have h2 : wnum m ≠ 0 := fun h0 => by
      rw [blen0.2 h0] at h; cases h
    rw [if_neg h2]
    repeat first|refine W.g ?_|refine L.p rfl rfl ?_|refine L.nil ?_|refine L.skip rfl ?_
    exact ⟨.inr rfl, _, rfl, rfl, kc.trans k3⟩
theorem refLeft_C (a1 a2 : Option Addr) (c1 c2 : Nat) (l m : WL) (S : Mem) (h1 : WIn S a1 c1 l) (h2 : WIn S a2 c2 m) (n1 : l.length < 100000) (n2 : m.length < 100000) (hm0 : wnum m ≠ 0) :
    C Tryd.prog gN Ext 55 [.slice a1 l.length c1, .slice a2 m.length c2] S fun v S' => RefW S S' v (toW (wnum l % wnum m)) := by
  refine C.fn Tryd.func55 rfl (by kernel_rfl) rfl ?_
  repeat first|refine W.g ?_|refine L.p rfl rfl ?_|refine L.nil ?_|refine L.skip rfl ?_
  refine L.cl (over_C a1 a2 c1 c2 l m S h1 h2 n1 n2 (Nat.pos_of_ne_zero hm0)) rfl rfl ?_
  rintro _ T ⟨a3, a4, c3, c4, rfl, k, w3, w4⟩
  refine ⟨fun _ => k, ?_⟩
  repeat first|refine W.g ?_|refine L.p rfl rfl ?_|refine L.nil ?_|refine L.skip rfl ?_
  exact ⟨.inr rfl, _, rfl, k, _, _, rfl, w4⟩
theorem smallR_C (S : Mem) : C Tryd.prog gN Ext 60 [.int .u64 1] S fun v S' => RefW S S' v (toW 1) := by
  refine C.fn Tryd.func60 rfl (by kernel_rfl) rfl ?_
  repeat first|refine W.g ?_|refine L.p rfl rfl ?_|refine L.nil ?_|refine L.skip rfl ?_
  refine W.ite rfl (fun h => ?_) (fun h => ?_)
  · cases h
  clear h
  repeat first|refine W.g ?_|refine L.p rfl rfl ?_|refine L.nil ?_|refine L.skip rfl ?_
  refine L.bsW [1#64] rfl rfl rfl rfl rfl rfl (fun b S4 k3 i4 => ?_)
  repeat first|refine W.g ?_|refine L.p rfl rfl ?_|refine L.nil ?_|refine L.skip rfl ?_
  rw [show toW 1 = [1#64] from toW_is (by unfold Canon; decide) rfl]
  exact ⟨.inr rfl, _, rfl, k3, _, _, rfl, i4⟩
def RAns (S S' : Mem) (v : Value) (E : Int) (N : Nat) : Prop := ∃ a c, v = .tuple #[.slice a (ansL E N).length c, .int .i64 E] ∧ Cons S S' ∧ WIn S' a c (ansL E N)
theorem RAns.ok {S S' : Mem} {a : Option Addr} {c : Nat} {N : Nat} (k : Cons S S') (h : WIn S' a c (toW N)) : RAns S S' (.tuple #[.slice a (toW N).length c, .int .i64 0]) 0 N := ⟨a, c, rfl, k, h⟩
theorem nilW (S : Mem) : WIn S none 0 [] := ⟨Slv.nil _ _ _ _, by decide, fun _ => rfl, by decide⟩
theorem RAns.no {S S' : Mem} {E : Int} {N : Nat} (k : Cons S S') (h : E ≠ 0) : RAns S S' (.tuple #[.slice none 0 0, .int .i64 E]) E N := by
  have e : ansL E N = [] := if_neg h
  exact ⟨none, 0, by rw [e]; rfl, k, by rw [e]; exact nilW _⟩
theorem refOf_C (a1 a2 : Option Addr) (c1 c2 : Nat) (l m : WL) (S : Mem) (h1 : WIn S a1 c1 l) (hm : WIn S a2 c2 m) (n1 : l.length < 1000) (n2 : m.length < 1000) :
    C Tryd.prog gN Ext 29 [.slice a1 l.length c1, .slice a2 m.length c2] S fun v S' => RAns S S' v (wrE [l] m) (wnum l % wnum m) := by
  refine C.fn Tryd.func29 rfl (by kernel_rfl) rfl ?_
  repeat first|refine W.g ?_|refine L.p rfl rfl ?_|refine L.nil ?_|refine L.skip rfl ?_
  refine L.bs [WS.v ⟨a1, c1, l⟩] rfl rfl rfl rfl rfl rfl ?_
  have hc : Cons S (S ++ [newR [WS.v ⟨a1, c1, l⟩] 22]) := Cons.push _ _
  have hs : Slv (S ++ [newR [WS.v ⟨a1, c1, l⟩] 22]) 1 (.slice (some ⟨S.length, 0, none⟩) 1 1) 1 ([WS.mk a1 c1 l].map WS.v) := Slv.all (row_push_new rfl) rfl rfl
  obtain ⟨S1, hS1⟩ : ∃ S1, S1 = S ++ [newR [WS.v ⟨a1, c1, l⟩] 22] := ⟨_, rfl⟩
  rw [← hS1] at hc hs ⊢
  clear hS1
  repeat first|refine W.g ?_|refine L.p rfl rfl ?_|refine L.nil ?_|refine L.skip rfl ?_
  refine L.cl (refWrong_C a2 c2 m _ [⟨a1, c1, l⟩] S1 (hm.cons hc) (by omega) hs (fun w hw => by
    simp only [List.mem_cons, List.not_mem_nil, or_false] at hw
    rcases hw with rfl
    exact ⟨h1.cons hc, by dsimp only; omega⟩) (by simp)) rfl rfl ?_
  rintro _ S2 ⟨rfl, kw⟩
  refine ⟨fun _ => kw, ?_⟩
  replace hc := hc.trans kw
  simp only [List.map_cons, List.map_nil]
  obtain ⟨E0, hE0⟩ : ∃ E0, wrE [l] m = E0 := ⟨_, rfl⟩
  rw [hE0]
  rcases wrE_cases [l] m with hE | hE | hE
  · obtain rfl := hE0.symm.trans hE
    repeat first|refine W.g ?_|refine L.p rfl rfl ?_|refine L.nil ?_|refine L.skip rfl ?_
    refine W.ite rfl (fun h => ?_) (fun h => ?_)
    · repeat first|refine W.g ?_|refine L.p rfl rfl ?_|refine L.nil ?_|refine L.skip rfl ?_
      exact ⟨.inr rfl, _, rfl, .no hc (by decide)⟩
    · cases h
  · obtain rfl := hE0.symm.trans hE
    repeat first|refine W.g ?_|refine L.p rfl rfl ?_|refine L.nil ?_|refine L.skip rfl ?_
    refine W.ite rfl (fun h => ?_) (fun h => ?_)
    · repeat first|refine W.g ?_|refine L.p rfl rfl ?_|refine L.nil ?_|refine L.skip rfl ?_
      exact ⟨.inr rfl, _, rfl, .no hc (by decide)⟩
    · cases h
  obtain ⟨hls, hm1, hm0⟩ := wrE_ok hE
  obtain rfl := hE0.symm.trans hE
  have hm2 := wr_le hm1
  have hmp : 0 < wnum m := Nat.pos_of_ne_zero hm0
  clear hs
  repeat first|refine W.g ?_|refine L.p rfl rfl ?_|refine L.nil ?_|refine L.skip rfl ?_
  refine W.ite rfl (fun h => ?_) (fun h => ?_)
  · cases h
  clear h
  repeat first|refine W.g ?_|refine L.p rfl rfl ?_|refine L.nil ?_|refine L.skip rfl ?_
  refine L.cl (refLeft_C a1 a2 c1 c2 l m S2 (h1.cons hc) (hm.cons hc) (by omega) (by omega) hm0) rfl rfl ?_
  rintro _ S3 ⟨k3, a3, c3, rfl, w3⟩
  refine ⟨fun _ => k3, ?_⟩
  repeat first|refine W.g ?_|refine L.p rfl rfl ?_|refine L.nil ?_|refine L.skip rfl ?_
  exact ⟨.inr rfl, _, rfl, .ok (hc.trans k3) w3⟩
theorem refAddM_C (a0 a1 a2 : Option Addr) (c0 c1 c2 : Nat) (l n m : WL) (S : Mem) (h0 : WIn S a0 c0 l) (h1 : WIn S a1 c1 n) (hm : WIn S a2 c2 m) (n0 : l.length < 1000) (n1 : n.length < 1000) (n2 : m.length < 1000) :
    C Tryd.prog gN Ext 30 [.slice a0 l.length c0, .slice a1 n.length c1, .slice a2 m.length c2] S fun v S' => RAns S S' v (wrE [l, n] m) ((wnum l + wnum n) % wnum m) := by
  refine C.fn Tryd.func30 rfl (by kernel_rfl) rfl ?_
  repeat first|refine W.g ?_|refine L.p rfl rfl ?_|refine L.nil ?_|refine L.skip rfl ?_
  refine L.bs [WS.v ⟨a0, c0, l⟩, WS.v ⟨a1, c1, n⟩] rfl rfl rfl rfl rfl rfl ?_
  have hc : Cons S (S ++ [newR [WS.v ⟨a0, c0, l⟩, WS.v ⟨a1, c1, n⟩] 22]) := Cons.push _ _
  have hs : Slv (S ++ [newR [WS.v ⟨a0, c0, l⟩, WS.v ⟨a1, c1, n⟩] 22]) 1 (.slice (some ⟨S.length, 0, none⟩) 2 2) 2 ([WS.mk a0 c0 l, WS.mk a1 c1 n].map WS.v) := Slv.all (row_push_new rfl) rfl rfl
  obtain ⟨S1, hS1⟩ : ∃ S1, S1 = S ++ [newR [WS.v ⟨a0, c0, l⟩, WS.v ⟨a1, c1, n⟩] 22] := ⟨_, rfl⟩
  rw [← hS1] at hc hs ⊢
  clear hS1
  repeat first|refine W.g ?_|refine L.p rfl rfl ?_|refine L.nil ?_|refine L.skip rfl ?_
  refine L.cl (refWrong_C a2 c2 m _ [⟨a0, c0, l⟩, ⟨a1, c1, n⟩] S1 (hm.cons hc) (by omega) hs (fun w hw => by
    simp only [List.mem_cons, List.not_mem_nil, or_false] at hw
    rcases hw with rfl | rfl
    · exact ⟨h0.cons hc, by dsimp only; omega⟩
    · exact ⟨h1.cons hc, by dsimp only; omega⟩) (by simp)) rfl rfl ?_
  rintro _ S2 ⟨rfl, kw⟩
  refine ⟨fun _ => kw, ?_⟩
  replace hc := hc.trans kw
  simp only [List.map_cons, List.map_nil]
  obtain ⟨E0, hE0⟩ : ∃ E0, wrE [l, n] m = E0 := ⟨_, rfl⟩
  rw [hE0]
  rcases wrE_cases [l, n] m with hE | hE | hE
  · obtain rfl := hE0.symm.trans hE
    repeat first|refine W.g ?_|refine L.p rfl rfl ?_|refine L.nil ?_|refine L.skip rfl ?_
    refine W.ite rfl (fun h => ?_) (fun h => ?_)
    · repeat first|refine W.g ?_|refine L.p rfl rfl ?_|refine L.nil ?_|refine L.skip rfl ?_
      exact ⟨.inr rfl, _, rfl, .no hc (by decide)⟩
    · cases h
  · obtain rfl := hE0.symm.trans hE
    repeat first|refine W.g ?_|refine L.p rfl rfl ?_|refine L.nil ?_|refine L.skip rfl ?_
    refine W.ite rfl (fun h => ?_) (fun h => ?_)
    · repeat first|refine W.g ?_|refine L.p rfl rfl ?_|refine L.nil ?_|refine L.skip rfl ?_
      exact ⟨.inr rfl, _, rfl, .no hc (by decide)⟩
    · cases h
  obtain ⟨hls, hm1, hm0⟩ := wrE_ok hE
  obtain rfl := hE0.symm.trans hE
  have hm2 := wr_le hm1
  have hmp : 0 < wnum m := Nat.pos_of_ne_zero hm0
  clear hs
  repeat first|refine W.g ?_|refine L.p rfl rfl ?_|refine L.nil ?_|refine L.skip rfl ?_
  refine W.ite rfl (fun h => ?_) (fun h => ?_)
  · cases h
  clear h
  repeat first|refine W.g ?_|refine L.p rfl rfl ?_|refine L.nil ?_|refine L.skip rfl ?_
  refine L.cl (plusR_C a0 a1 c0 c1 l n S2 (h0.cons hc) (h1.cons hc) (by omega) (by omega)) rfl rfl ?_
  rintro _ S3 ⟨k3, a3, c3, rfl, w3⟩
  refine ⟨fun _ => k3, ?_⟩
  repeat first|refine W.g ?_|refine L.p rfl rfl ?_|refine L.nil ?_|refine L.skip rfl ?_
  have hsum : wnum l + wnum n < 2 ^ 25600 := by
    have q1 := hls l (by simp)
    have q2 := hls n (by simp)
    have : (2 : Nat) ^ 8193 ≤ 2 ^ 25600 := Nat.pow_le_pow_right (by decide) (by decide)
    have e : (2 : Nat) ^ 8193 = 2 ^ 8192 * 2 := Nat.pow_succ ..
    omega
  refine L.cl (refLeft_C a3 a2 c3 c2 _ m S3 w3 (hm.cons (hc.trans k3)) (toW_short hsum) (by omega) hm0) rfl rfl ?_
  rintro _ S4 ⟨k4, a4, c4, rfl, w4⟩
  refine ⟨fun _ => k4, ?_⟩
  rw [wnum_toW] at w4 ⊢
  repeat first|refine W.g ?_|refine L.p rfl rfl ?_|refine L.nil ?_|refine L.skip rfl ?_
  exact ⟨.inr rfl, _, rfl, .ok ((hc.trans k3).trans k4) w4⟩
theorem refSubM_C (a0 a1 a2 : Option Addr) (c0 c1 c2 : Nat) (l n m : WL) (S : Mem) (h0 : WIn S a0 c0 l) (h1 : WIn S a1 c1 n) (hm : WIn S a2 c2 m) (n0 : l.length < 1000) (n1 : n.length < 1000) (n2 : m.length < 1000) :
    C Tryd.prog gN Ext 31 [.slice a0 l.length c0, .slice a1 n.length c1, .slice a2 m.length c2] S fun v S' => RAns S S' v (wrE [l, n] m) ((wnum l % wnum m + wnum m - wnum n % wnum m) % wnum m) := by
  refine C.fn Tryd.func31 rfl (by kernel_rfl) rfl ?_
  repeat first|refine W.g ?_|refine L.p rfl rfl ?_|refine L.nil ?_|refine L.skip rfl ?_
  refine L.bs [WS.v ⟨a0, c0, l⟩, WS.v ⟨a1, c1, n⟩] rfl rfl rfl rfl rfl rfl ?_
  have hc : Cons S (S ++ [newR [WS.v ⟨a0, c0, l⟩, WS.v ⟨a1, c1, n⟩] 22]) := Cons.push _ _
  have hs : Slv (S ++ [newR [WS.v ⟨a0, c0, l⟩, WS.v ⟨a1, c1, n⟩] 22]) 1 (.slice (some ⟨S.length, 0, none⟩) 2 2) 2 ([WS.mk a0 c0 l, WS.mk a1 c1 n].map WS.v) := Slv.all (row_push_new rfl) rfl rfl
  obtain ⟨S1, hS1⟩ : ∃ S1, S1 = S ++ [newR [WS.v ⟨a0, c0, l⟩, WS.v ⟨a1, c1, n⟩] 22] := ⟨_, rfl⟩
  rw [← hS1] at hc hs ⊢
  clear hS1
  repeat first|refine W.g ?_|refine L.p rfl rfl ?_|refine L.nil ?_|refine L.skip rfl ?_
  refine L.cl (refWrong_C a2 c2 m _ [⟨a0, c0, l⟩, ⟨a1, c1, n⟩] S1 (hm.cons hc) (by omega) hs (fun w hw => by
    simp only [List.mem_cons, List.not_mem_nil, or_false] at hw
    rcases hw with rfl | rfl
    · exact ⟨h0.cons hc, by dsimp only; omega⟩
    · exact ⟨h1.cons hc, by dsimp only; omega⟩) (by simp)) rfl rfl ?_
  rintro _ S2 ⟨rfl, kw⟩
  refine ⟨fun _ => kw, ?_⟩
  replace hc := hc.trans kw
  simp only [List.map_cons, List.map_nil]
  obtain ⟨E0, hE0⟩ : ∃ E0, wrE [l, n] m = E0 := ⟨_, rfl⟩
  rw [hE0]
  rcases wrE_cases [l, n] m with hE | hE | hE
  · obtain rfl := hE0.symm.trans hE
    repeat first|refine W.g ?_|refine L.p rfl rfl ?_|refine L.nil ?_|refine L.skip rfl ?_
    refine W.ite rfl (fun h => ?_) (fun h => ?_)
    · repeat first|refine W.g ?_|refine L.p rfl rfl ?_|refine L.nil ?_|refine L.skip rfl ?_
      exact ⟨.inr rfl, _, rfl, .no hc (by decide)⟩
    · cases h
  · obtain rfl := hE0.symm.trans hE
    repeat first|refine W.g ?_|refine L.p rfl rfl ?_|refine L.nil ?_|refine L.skip rfl ?_
    refine W.ite rfl (fun h => ?_) (fun h => ?_)
    · repeat first|refine W.g ?_|refine L.p rfl rfl ?_|refine L.nil ?_|refine L.skip rfl ?_
      exact ⟨.inr rfl, _, rfl, .no hc (by decide)⟩
    · cases h
  obtain ⟨hls, hm1, hm0⟩ := wrE_ok hE
  obtain rfl := hE0.symm.trans hE
  have hm2 := wr_le hm1
  have hmp : 0 < wnum m := Nat.pos_of_ne_zero hm0
  clear hs
  repeat first|refine W.g ?_|refine L.p rfl rfl ?_|refine L.nil ?_|refine L.skip rfl ?_
  refine W.ite rfl (fun h => ?_) (fun h => ?_)
  · cases h
  clear h
  repeat first|refine W.g ?_|refine L.p rfl rfl ?_|refine L.nil ?_|refine L.skip rfl ?_
  have hx1 : wnum l % wnum m < wnum m := Nat.mod_lt _ hmp
  have hy1 : wnum n % wnum m < wnum m := Nat.mod_lt _ hmp
  have hm3 := up_pow hm1 (show 4096 ≤ 25600 by decide)
  refine L.cl (refLeft_C a0 a2 c0 c2 l m S2 (h0.cons hc) (hm.cons hc) (by omega) (by omega) hm0) rfl rfl ?_
  rintro _ S3 ⟨k3, a3, c3, rfl, w3⟩
  refine ⟨fun _ => k3, ?_⟩
  have kc := hc.trans k3
  repeat first|refine W.g ?_|refine L.p rfl rfl ?_|refine L.nil ?_|refine L.skip rfl ?_
  refine L.cl (plusR_C a3 a2 c3 c2 _ m S3 w3 (hm.cons kc) (Nat.lt_trans (toW_short (by omega)) (by decide)) (by omega)) rfl rfl ?_
  rintro _ S4 ⟨k4, a4, c4, rfl, w4⟩
  refine ⟨fun _ => k4, ?_⟩
  rw [wnum_toW] at w4 ⊢
  replace kc := kc.trans k4
  repeat first|refine W.g ?_|refine L.p rfl rfl ?_|refine L.nil ?_|refine L.skip rfl ?_
  refine L.cl (refLeft_C a1 a2 c1 c2 n m S4 (h1.cons kc) (hm.cons kc) (by omega) (by omega) hm0) rfl rfl ?_
  rintro _ S5 ⟨k5, a5, c5, rfl, w5⟩
  refine ⟨fun _ => k5, ?_⟩
  replace kc := kc.trans k5
  have hsum : wnum l % wnum m + wnum m < 2 ^ 25600 := by
    have : (2 : Nat) ^ 4097 ≤ 2 ^ 25600 := Nat.pow_le_pow_right (by decide) (by decide)
    have e : (2 : Nat) ^ 4097 = 2 ^ 4096 * 2 := Nat.pow_succ ..
    omega
  repeat first|refine W.g ?_|refine L.p rfl rfl ?_|refine L.nil ?_|refine L.skip rfl ?_
  refine L.cl (minusR_C a4 a5 c4 c5 _ _ S5 (w4.cons k5) w5 (Nat.lt_trans (toW_short hsum) (by decide)) (Nat.lt_trans (toW_short (by omega)) (by decide)) (by rw [wnum_toW, wnum_toW]; omega)) rfl rfl ?_
  rintro _ S6 ⟨k6, a6, c6, rfl, w6⟩
  refine ⟨fun _ => k6, ?_⟩
  rw [wnum_toW, wnum_toW] at w6 ⊢
  replace kc := kc.trans k6
  repeat first|refine W.g ?_|refine L.p rfl rfl ?_|refine L.nil ?_|refine L.skip rfl ?_
  refine L.cl (refLeft_C a6 a2 c6 c2 _ m S6 w6 (hm.cons kc) (toW_short (by omega)) (by omega) hm0) rfl rfl ?_
  rintro _ S7 ⟨k7, a7, c7, rfl, w7⟩
  refine ⟨fun _ => k7, ?_⟩
  rw [wnum_toW] at w7 ⊢
  repeat first|refine W.g ?_|refine L.p rfl rfl ?_|refine L.nil ?_|refine L.skip rfl ?_
  exact ⟨.inr rfl, _, rfl, .ok (kc.trans k7) w7⟩
theorem refMulM_C (a0 a1 a2 : Option Addr) (c0 c1 c2 : Nat) (l n m : WL) (S : Mem) (h0 : WIn S a0 c0 l) (h1 : WIn S a1 c1 n) (hm : WIn S a2 c2 m) (n0 : l.length < 1000) (n1 : n.length < 1000) (n2 : m.length < 1000) :
    C Tryd.prog gN Ext 32 [.slice a0 l.length c0, .slice a1 n.length c1, .slice a2 m.length c2] S fun v S' => RAns S S' v (wrE [l, n] m) (wnum l * wnum n % wnum m) := by
  refine C.fn Tryd.func32 rfl (by kernel_rfl) rfl ?_
  repeat first|refine W.g ?_|refine L.p rfl rfl ?_|refine L.nil ?_|refine L.skip rfl ?_
  refine L.bs [WS.v ⟨a0, c0, l⟩, WS.v ⟨a1, c1, n⟩] rfl rfl rfl rfl rfl rfl ?_
  have hc : Cons S (S ++ [newR [WS.v ⟨a0, c0, l⟩, WS.v ⟨a1, c1, n⟩] 22]) := Cons.push _ _
  have hs : Slv (S ++ [newR [WS.v ⟨a0, c0, l⟩, WS.v ⟨a1, c1, n⟩] 22]) 1 (.slice (some ⟨S.length, 0, none⟩) 2 2) 2 ([WS.mk a0 c0 l, WS.mk a1 c1 n].map WS.v) := Slv.all (row_push_new rfl) rfl rfl
  obtain ⟨S1, hS1⟩ : ∃ S1, S1 = S ++ [newR [WS.v ⟨a0, c0, l⟩, WS.v ⟨a1, c1, n⟩] 22] := ⟨_, rfl⟩
  rw [← hS1] at hc hs ⊢
  clear hS1
  repeat first|refine W.g ?_|refine L.p rfl rfl ?_|refine L.nil ?_|refine L.skip rfl ?_
  refine L.cl (refWrong_C a2 c2 m _ [⟨a0, c0, l⟩, ⟨a1, c1, n⟩] S1 (hm.cons hc) (by omega) hs (fun w hw => by
    simp only [List.mem_cons, List.not_mem_nil, or_false] at hw
    rcases hw with rfl | rfl
    · exact ⟨h0.cons hc, by dsimp only; omega⟩
    · exact ⟨h1.cons hc, by dsimp only; omega⟩) (by simp)) rfl rfl ?_
  rintro _ S2 ⟨rfl, kw⟩
  refine ⟨fun _ => kw, ?_⟩
  replace hc := hc.trans kw
  simp only [List.map_cons, List.map_nil]
  obtain ⟨E0, hE0⟩ : ∃ E0, wrE [l, n] m = E0 := ⟨_, rfl⟩
  rw [hE0]
  rcases wrE_cases [l, n] m with hE | hE | hE
  · obtain rfl := hE0.symm.trans hE
    repeat first|refine W.g ?_|refine L.p rfl rfl ?_|refine L.nil ?_|refine L.skip rfl ?_
    refine W.ite rfl (fun h => ?_) (fun h => ?_)
    · repeat first|refine W.g ?_|refine L.p rfl rfl ?_|refine L.nil ?_|refine L.skip rfl ?_
      exact ⟨.inr rfl, _, rfl, .no hc (by decide)⟩
    · cases h
  · obtain rfl := hE0.symm.trans hE
    repeat first|refine W.g ?_|refine L.p rfl rfl ?_|refine L.nil ?_|refine L.skip rfl ?_
    refine W.ite rfl (fun h => ?_) (fun h => ?_)
    · repeat first|refine W.g ?_|refine L.p rfl rfl ?_|refine L.nil ?_|refine L.skip rfl ?_
      exact ⟨.inr rfl, _, rfl, .no hc (by decide)⟩
    · cases h
  obtain ⟨hls, hm1, hm0⟩ := wrE_ok hE
  obtain rfl := hE0.symm.trans hE
  have hm2 := wr_le hm1
  have hmp : 0 < wnum m := Nat.pos_of_ne_zero hm0
  clear hs
  repeat first|refine W.g ?_|refine L.p rfl rfl ?_|refine L.nil ?_|refine L.skip rfl ?_
  refine W.ite rfl (fun h => ?_) (fun h => ?_)
  · cases h
  clear h
  repeat first|refine W.g ?_|refine L.p rfl rfl ?_|refine L.nil ?_|refine L.skip rfl ?_
  have hp : wnum l * wnum n < 2 ^ 25600 := by
    have := Nat.mul_lt_mul'' (hls l (by simp)) (hls n (by simp))
    rw [← Nat.pow_add] at this
    exact up_pow this (by decide)
  refine L.cl (timesR_C a0 a1 c0 c1 l n S2 (h0.cons hc) (h1.cons hc) (by omega) (by omega)) rfl rfl ?_
  rintro _ S3 ⟨k3, a3, c3, rfl, w3⟩
  refine ⟨fun _ => k3, ?_⟩
  repeat first|refine W.g ?_|refine L.p rfl rfl ?_|refine L.nil ?_|refine L.skip rfl ?_
  refine L.cl (refLeft_C a3 a2 c3 c2 _ m S3 w3 (hm.cons (hc.trans k3)) (toW_short hp) (by omega) hm0) rfl rfl ?_
  rintro _ S4 ⟨k4, a4, c4, rfl, w4⟩
  refine ⟨fun _ => k4, ?_⟩
  rw [wnum_toW] at w4 ⊢
  repeat first|refine W.g ?_|refine L.p rfl rfl ?_|refine L.nil ?_|refine L.skip rfl ?_
  exact ⟨.inr rfl, _, rfl, .ok ((hc.trans k3).trans k4) w4⟩
end Go.Proofs.YtlnlcddbllcehaaDoor

/- Layer 4, the document's powers and inverses. Conditions: none. -/
set_option linter.unusedSimpArgs false
set_option linter.unusedVariables false
set_option maxRecDepth 100000
set_option maxHeartbeats 4000000
set_option exponentiation.threshold 30000
namespace Go.Proofs.YtlnlcddbllcehaaDoor
open Go Ie
variable {Ext : FuncId → List Value → Mem → Outc → Mem → Prop}
theorem bit_rem {l : WL} {j : Nat} {x : BitVec 64} (h : l[j / 64]? = some x) : (Int.tmod (Int.fdiv (x.toNat : Int) (2 ^ (min (Int.tmod (j : Int) 64).toNat IntKind.u64.bits))) 2 == 1) = (wnum l).testBit j := by
  rw [show min (Int.tmod (j : Int) 64).toNat IntKind.u64.bits = j % 64 by rw [show Int.tmod (j : Int) 64 = ((j % 64 : Nat) : Int) from (Int.ofNat_tmod j 64).symm, bits_u64, Int.toNat_natCast]; omega]
  rw [fdiv_shr, show Int.tmod (((x >>> (j % 64)).toNat : Nat) : Int) 2 = (((x >>> (j % 64)).toNat % 2 : Nat) : Int) from (Int.ofNat_tmod _ 2).symm, ← bit_limb h, BitVec.toNat_ushiftRight, Nat.shiftRight_eq_div_pow, Nat.testBit_eq_decide_div_mod_eq]
  have := Nat.mod_two_eq_zero_or_one (x.toNat / 2 ^ (j % 64))
  rcases this with h | h <;> rw [h] <;> rfl
theorem raised_C (a0 a1 a2 : Option Addr) (c0 c1 c2 : Nat) (l n m : WL) (S : Mem) (h0 : WIn S a0 c0 l) (h1 : WIn S a1 c1 n) (hm : WIn S a2 c2 m) (n0 : l.length < 1000) (n1 : n.length < 1000) (n2 : m.length < 1000) (hm1 : wnum m < 2 ^ 4096) (hm0 : wnum m ≠ 0) :
    C Tryd.prog gN Ext 43 [.slice a0 l.length c0, .slice a1 n.length c1, .slice a2 m.length c2] S fun v S' => RefW S S' v (toW (wnum l ^ wnum n % wnum m)) := by
  have hmp : 0 < wnum m := Nat.pos_of_ne_zero hm0
  have hbl : blen (wnum n) ≤ 64 * n.length := blen_le.2 (wnum_lt n)
  have hX : wnum l % wnum m < wnum m := Nat.mod_lt _ hmp
  have hm3 := up_pow hm1 (show 4096 ≤ 25600 by decide)
  refine C.fn Tryd.func43 rfl (by kernel_rfl) rfl ?_
  repeat first|refine W.g ?_|refine L.p rfl rfl ?_|refine L.nil ?_|refine L.skip rfl ?_
  refine L.cl (smallR_C S) rfl rfl ?_
  rintro _ S3 ⟨k3, a3, c3, rfl, w3⟩
  refine ⟨fun _ => k3, ?_⟩
  have kc := k3
  repeat first|refine W.g ?_|refine L.p rfl rfl ?_|refine L.nil ?_|refine L.skip rfl ?_
  refine L.cl (refLeft_C a3 a2 c3 c2 _ m S3 w3 (hm.cons kc) (toW_short (Nat.one_lt_two_pow (by decide))) (by omega) hm0) rfl rfl ?_
  rintro _ S4 ⟨k4, a4, c4, rfl, w4⟩
  refine ⟨fun _ => k4, ?_⟩
  rw [wnum_toW] at w4 ⊢
  replace kc := kc.trans k4
  repeat first|refine W.g ?_|refine L.p rfl rfl ?_|refine L.nil ?_|refine L.skip rfl ?_
  refine L.cl (refLeft_C a0 a2 c0 c2 l m S4 (h0.cons kc) (hm.cons kc) (by omega) (by omega) hm0) rfl rfl ?_
  rintro _ S5 ⟨k5, a5, c5, rfl, w5⟩
  refine ⟨fun _ => k5, ?_⟩
  replace kc := kc.trans k5
  repeat first|refine W.g ?_|refine L.p rfl rfl ?_|refine L.nil ?_|refine L.skip rfl ?_
  refine L.cl (length_C a1 c1 n S5 (h1.cons kc) (by omega)) rfl rfl ?_
  rintro _ S6 ⟨rfl, k6⟩
  refine ⟨fun _ => k6, ?_⟩
  replace kc := kc.trans k6
  repeat first|refine W.g ?_|refine L.p rfl rfl ?_|refine L.nil ?_|refine L.skip rfl ?_
  rw [show IntKind.i64.wrap (((blen (wnum n) : Nat) : Int) - 1) = ((blen (wnum n) : Nat) : Int) - 1 from wrap64 (by omega) (by omega)]
  refine W.loop (fun j e T => j ≤ blen (wnum n) ∧ Cons S T ∧ e 1 = .slice a1 n.length c1 ∧ e 2 = .slice a2 m.length c2 ∧ e 9 = .int .i64 ((j : Int) - 1) ∧ (∃ ax cx, e 8 = .slice ax (toW (wnum l % wnum m)).length cx ∧ WIn T ax cx (toW (wnum l % wnum m))) ∧
      ∃ ay cy, e 7 = .slice ay (toW (wnum l ^ (wnum n / 2 ^ j) % wnum m)).length cy ∧ WIn T ay cy (toW (wnum l ^ (wnum n / 2 ^ j) % wnum m))) (blen (wnum n)) ?_ ?_
  · have e : wnum n / 2 ^ blen (wnum n) = 0 := Nat.div_eq_of_lt (blen_le.1 (Nat.le_refl _))
    refine ⟨Nat.le_refl _, kc, rfl, rfl, rfl, ⟨_, _, rfl, w5.cons k6⟩, ?_⟩
    rw [e, Nat.pow_zero]
    exact ⟨_, _, rfl, (w4.cons k5).cons k6⟩
  clear kc w3 w4 w5 k3 k4 k5 k6
  rintro j e T ⟨hj, kc, e1, e2, e9, ⟨ax, cx, e8, wx⟩, ay, cy, e7, wy⟩
  refine W.env5 e1 e2 e9 e8 e7 ?_
  clear e1 e2 e9 e8 e7
  repeat first|refine W.g ?_|refine L.p rfl rfl ?_|refine L.nil ?_|refine L.skip rfl ?_
  cases j with
  | zero =>
    refine W.ite rfl (fun h => ?_) (fun h => ?_)
    · have := of_decide_eq_true h
      omega
    clear h
    rw [Nat.pow_zero, Nat.div_one] at wy ⊢
    repeat first|refine W.g ?_|refine L.p rfl rfl ?_|refine L.nil ?_|refine L.skip rfl ?_
    exact ⟨.inr rfl, _, rfl, kc, _, _, rfl, wy⟩
  | succ j =>
    rw [show (((j + 1 : Nat) : Int) - 1) = (j : Int) by omega]
    refine W.ite rfl (fun h => ?_) (fun h => ?_)
    rotate_left
    · have := of_decide_eq_false h
      omega
    clear h
    have hY : wnum l ^ (wnum n / 2 ^ (j + 1)) % wnum m < wnum m := Nat.mod_lt _ hmp
    have hj2 : j / 64 < n.length := by omega
    obtain ⟨x, hx⟩ : ∃ x, n[j / 64]? = some x := ⟨_, List.getElem?_eq_getElem hj2⟩
    have e1 : IntKind.i64.wrap (Int.tdiv (j : Int) 64) = ((j / 64 : Nat) : Int) := by
      rw [show Int.tdiv (j : Int) 64 = ((j / 64 : Nat) : Int) from (Int.ofNat_tdiv j 64).symm, wrap64 (by omega) (by omega)]
    have hlen : ∀ {N : Nat}, N < wnum m → (toW N).length < 100000 := fun h => toW_short (by omega)
    have mul3 : ∀ {A B : Nat}, A < wnum m → B < wnum m → A * B < 2 ^ 25600 := fun hA hB => by
      have := Nat.mul_lt_mul'' (Nat.lt_trans hA hm1) (Nat.lt_trans hB hm1)
      rw [← Nat.pow_add] at this
      exact up_pow this (by decide)
    repeat first|refine W.g ?_|refine L.p rfl rfl ?_|refine L.nil ?_|refine L.skip rfl ?_
    refine L.cl (timesR_C ay ay cy cy _ _ T wy wy (hlen hY) (hlen hY)) rfl rfl ?_
    rintro _ S3 ⟨k3, a3, c3, rfl, w3⟩
    refine ⟨fun _ => k3, ?_⟩
    rw [wnum_toW] at w3 ⊢
    replace kc := kc.trans k3
    repeat first|refine W.g ?_|refine L.p rfl rfl ?_|refine L.nil ?_|refine L.skip rfl ?_
    refine L.cl (refLeft_C a3 a2 c3 c2 _ m S3 w3 (hm.cons kc) (toW_short (mul3 hY hY)) (by omega) hm0) rfl rfl ?_
    rintro _ S4 ⟨k4, a4, c4, rfl, w4⟩
    refine ⟨fun _ => k4, ?_⟩
    rw [wnum_toW] at w4 ⊢
    replace kc := kc.trans k4
    have wx := (wx.cons k3).cons k4
    repeat first|refine W.g ?_|refine L.p rfl rfl ?_|refine L.nil ?_|refine L.skip rfl ?_
    refine L.el (h1.cons kc).1 e1 (wv_get hx) rfl rfl rfl rfl (fun _ => rfl) rfl (fun p => ?_)
    repeat first|refine W.g ?_|refine L.p rfl rfl ?_|refine L.nil ?_|refine L.skip rfl ?_
    refine W.ite (t := (wnum n).testBit j) ((force_eq rfl).trans (congrArg Value.bool (bit_rem hx))) (fun hb => ?_) (fun hb => ?_)
    rotate_left
    · rw [pow_sq hb] at w4 ⊢
      repeat first|refine W.g ?_|refine L.p rfl rfl ?_|refine L.nil ?_|refine L.skip rfl ?_
      refine ⟨j, by omega, by omega, kc, rfl, rfl, ?_, ⟨_, _, rfl, wx⟩, _, _, rfl, w4⟩
      refine (force_eq rfl).trans ?_
      rw [wrap64 (by omega) (by omega)]
    · have hZ : wnum l ^ (wnum n / 2 ^ (j + 1)) % wnum m * (wnum l ^ (wnum n / 2 ^ (j + 1)) % wnum m) % wnum m < wnum m := Nat.mod_lt _ hmp
      repeat first|refine W.g ?_|refine L.p rfl rfl ?_|refine L.nil ?_|refine L.skip rfl ?_
      refine L.cl (timesR_C a4 ax c4 cx _ _ S4 w4 wx (hlen hZ) (hlen hX)) rfl rfl ?_
      rintro _ S5 ⟨k5, a5, c5, rfl, w5⟩
      refine ⟨fun _ => k5, ?_⟩
      rw [wnum_toW, wnum_toW] at w5 ⊢
      replace kc := kc.trans k5
      repeat first|refine W.g ?_|refine L.p rfl rfl ?_|refine L.nil ?_|refine L.skip rfl ?_
      refine L.cl (refLeft_C a5 a2 c5 c2 _ m S5 w5 (hm.cons kc) (toW_short (mul3 hZ hX)) (by omega) hm0) rfl rfl ?_
      rintro _ S6 ⟨k6, a6, c6, rfl, w6⟩
      refine ⟨fun _ => k6, ?_⟩
      rw [wnum_toW, pow_sqm hb] at w6 ⊢
      replace kc := kc.trans k6
      repeat first|refine W.g ?_|refine L.p rfl rfl ?_|refine L.nil ?_|refine L.skip rfl ?_
      refine ⟨j, by omega, by omega, kc, rfl, rfl, ?_, ⟨_, _, rfl, (wx.cons k5).cons k6⟩, _, _, rfl, w6⟩
      refine (force_eq rfl).trans ?_
      rw [wrap64 (by omega) (by omega)]
theorem refPow_C (a0 a1 a2 : Option Addr) (c0 c1 c2 : Nat) (l n m : WL) (S : Mem) (h0 : WIn S a0 c0 l) (h1 : WIn S a1 c1 n) (hm : WIn S a2 c2 m) (n0 : l.length < 1000) (n1 : n.length < 1000) (n2 : m.length < 1000) :
    C Tryd.prog gN Ext 12 [.slice a0 l.length c0, .slice a1 n.length c1, .slice a2 m.length c2] S fun v S' => RAns S S' v (wrE [l, n] m) (wnum l ^ wnum n % wnum m) := by
  refine C.fn Tryd.func12 rfl (by kernel_rfl) rfl ?_
  repeat first|refine W.g ?_|refine L.p rfl rfl ?_|refine L.nil ?_|refine L.skip rfl ?_
  refine L.bs [WS.v ⟨a0, c0, l⟩, WS.v ⟨a1, c1, n⟩] rfl rfl rfl rfl rfl rfl ?_
  have hc : Cons S (S ++ [newR [WS.v ⟨a0, c0, l⟩, WS.v ⟨a1, c1, n⟩] 22]) := Cons.push _ _
  have hs : Slv (S ++ [newR [WS.v ⟨a0, c0, l⟩, WS.v ⟨a1, c1, n⟩] 22]) 1 (.slice (some ⟨S.length, 0, none⟩) 2 2) 2 ([WS.mk a0 c0 l, WS.mk a1 c1 n].map WS.v) := Slv.all (row_push_new rfl) rfl rfl
  obtain ⟨S1, hS1⟩ : ∃ S1, S1 = S ++ [newR [WS.v ⟨a0, c0, l⟩, WS.v ⟨a1, c1, n⟩] 22] := ⟨_, rfl⟩
  rw [← hS1] at hc hs ⊢
  clear hS1
  repeat first|refine W.g ?_|refine L.p rfl rfl ?_|refine L.nil ?_|refine L.skip rfl ?_
  refine L.cl (refWrong_C a2 c2 m _ [⟨a0, c0, l⟩, ⟨a1, c1, n⟩] S1 (hm.cons hc) (by omega) hs (fun w hw => by
    simp only [List.mem_cons, List.not_mem_nil, or_false] at hw
    rcases hw with rfl | rfl
    · exact ⟨h0.cons hc, by dsimp only; omega⟩
    · exact ⟨h1.cons hc, by dsimp only; omega⟩) (by simp)) rfl rfl ?_
  rintro _ S2 ⟨rfl, kw⟩
  refine ⟨fun _ => kw, ?_⟩
  replace hc := hc.trans kw
  simp only [List.map_cons, List.map_nil]
  obtain ⟨E0, hE0⟩ : ∃ E0, wrE [l, n] m = E0 := ⟨_, rfl⟩
  rw [hE0]
  rcases wrE_cases [l, n] m with hE | hE | hE
  · obtain rfl := hE0.symm.trans hE
    repeat first|refine W.g ?_|refine L.p rfl rfl ?_|refine L.nil ?_|refine L.skip rfl ?_
    refine W.ite rfl (fun h => ?_) (fun h => ?_)
    · repeat first|refine W.g ?_|refine L.p rfl rfl ?_|refine L.nil ?_|refine L.skip rfl ?_
      exact ⟨.inr rfl, _, rfl, .no hc (by decide)⟩
    · cases h
  · obtain rfl := hE0.symm.trans hE
    repeat first|refine W.g ?_|refine L.p rfl rfl ?_|refine L.nil ?_|refine L.skip rfl ?_
    refine W.ite rfl (fun h => ?_) (fun h => ?_)
    · repeat first|refine W.g ?_|refine L.p rfl rfl ?_|refine L.nil ?_|refine L.skip rfl ?_
      exact ⟨.inr rfl, _, rfl, .no hc (by decide)⟩
    · cases h
  obtain ⟨hls, hm1, hm0⟩ := wrE_ok hE
  obtain rfl := hE0.symm.trans hE
  have hm2 := wr_le hm1
  have hmp : 0 < wnum m := Nat.pos_of_ne_zero hm0
  clear hs
  repeat first|refine W.g ?_|refine L.p rfl rfl ?_|refine L.nil ?_|refine L.skip rfl ?_
  refine W.ite rfl (fun h => ?_) (fun h => ?_)
  · cases h
  clear h
  repeat first|refine W.g ?_|refine L.p rfl rfl ?_|refine L.nil ?_|refine L.skip rfl ?_
  refine L.cl (raised_C a0 a1 a2 c0 c1 c2 l n m S2 (h0.cons hc) (h1.cons hc) (hm.cons hc) n0 n1 n2 hm1 hm0) rfl rfl ?_
  rintro _ S3 ⟨k3, a3, c3, rfl, w3⟩
  refine ⟨fun _ => k3, ?_⟩
  repeat first|refine W.g ?_|refine L.p rfl rfl ?_|refine L.nil ?_|refine L.skip rfl ?_
  exact ⟨.inr rfl, _, rfl, .ok (hc.trans k3) w3⟩
theorem refInv_C (a1 a2 : Option Addr) (c1 c2 : Nat) (l m : WL) (S : Mem) (h1 : WIn S a1 c1 l) (hm : WIn S a2 c2 m) (n1 : l.length < 1000) (n2 : m.length < 1000) :
    C Tryd.prog gN Ext 33 [.slice a1 l.length c1, .slice a2 m.length c2] S fun v S' => RAns S S' v (invE l m) ((invP (wnum l) (wnum m)).2 % wnum m) := by
  refine C.fn Tryd.func33 rfl (by kernel_rfl) rfl ?_
  repeat first|refine W.g ?_|refine L.p rfl rfl ?_|refine L.nil ?_|refine L.skip rfl ?_
  refine L.bs [WS.v ⟨a1, c1, l⟩] rfl rfl rfl rfl rfl rfl ?_
  have hc : Cons S (S ++ [newR [WS.v ⟨a1, c1, l⟩] 22]) := Cons.push _ _
  have hs : Slv (S ++ [newR [WS.v ⟨a1, c1, l⟩] 22]) 1 (.slice (some ⟨S.length, 0, none⟩) 1 1) 1 ([WS.mk a1 c1 l].map WS.v) := Slv.all (row_push_new rfl) rfl rfl
  obtain ⟨S1, hS1⟩ : ∃ S1, S1 = S ++ [newR [WS.v ⟨a1, c1, l⟩] 22] := ⟨_, rfl⟩
  rw [← hS1] at hc hs ⊢
  clear hS1
  repeat first|refine W.g ?_|refine L.p rfl rfl ?_|refine L.nil ?_|refine L.skip rfl ?_
  refine L.cl (refWrong_C a2 c2 m _ [⟨a1, c1, l⟩] S1 (hm.cons hc) (by omega) hs (fun w hw => by
    simp only [List.mem_cons, List.not_mem_nil, or_false] at hw
    rcases hw with rfl
    exact ⟨h1.cons hc, by dsimp only; omega⟩) (by simp)) rfl rfl ?_
  rintro _ S2 ⟨rfl, kw⟩
  refine ⟨fun _ => kw, ?_⟩
  replace hc := hc.trans kw
  simp only [List.map_cons, List.map_nil]
  have hinv : invE l m = if wrE [l] m = 0 then (if (invP (wnum l) (wnum m)).1 = 1 then 0 else 40) else wrE [l] m := rfl
  rcases wrE_cases [l] m with hE | hE | hE
  · rw [hE, if_neg (by decide)] at hinv
    rw [hE, hinv]
    repeat first|refine W.g ?_|refine L.p rfl rfl ?_|refine L.nil ?_|refine L.skip rfl ?_
    refine W.ite rfl (fun h => ?_) (fun h => ?_)
    · repeat first|refine W.g ?_|refine L.p rfl rfl ?_|refine L.nil ?_|refine L.skip rfl ?_
      exact ⟨.inr rfl, _, rfl, .no hc (by decide)⟩
    · cases h
  · rw [hE, if_neg (by decide)] at hinv
    rw [hE, hinv]
    repeat first|refine W.g ?_|refine L.p rfl rfl ?_|refine L.nil ?_|refine L.skip rfl ?_
    refine W.ite rfl (fun h => ?_) (fun h => ?_)
    · repeat first|refine W.g ?_|refine L.p rfl rfl ?_|refine L.nil ?_|refine L.skip rfl ?_
      exact ⟨.inr rfl, _, rfl, .no hc (by decide)⟩
    · cases h
  obtain ⟨hls, hm1, hm0⟩ := wrE_ok hE
  rw [hE, if_pos rfl] at hinv
  have hmp : 0 < wnum m := Nat.pos_of_ne_zero hm0
  have hm3 := up_pow hm1 (show 4096 ≤ 25600 by decide)
  obtain ⟨IE, hIE⟩ : ∃ IE, invE l m = IE := ⟨_, rfl⟩
  rw [hIE] at hinv ⊢
  rw [hE]
  clear hs
  repeat first|refine W.g ?_|refine L.p rfl rfl ?_|refine L.nil ?_|refine L.skip rfl ?_
  refine W.ite rfl (fun h => ?_) (fun h => ?_)
  · cases h
  clear h
  repeat first|refine W.g ?_|refine L.p rfl rfl ?_|refine L.nil ?_|refine L.skip rfl ?_
  refine L.cl (form_C a2 c2 m S2 (hm.cons hc) (by omega)) rfl rfl ?_
  rintro _ S3 ⟨k3, a3, c3, rfl, w3⟩
  refine ⟨fun _ => k3, ?_⟩
  replace hc := hc.trans k3
  repeat first|refine W.g ?_|refine L.p rfl rfl ?_|refine L.nil ?_|refine L.skip rfl ?_
  refine L.cl (refLeft_C a1 a2 c1 c2 l m S3 (h1.cons hc) (hm.cons hc) (by omega) (by omega) hm0) rfl rfl ?_
  rintro _ S4 ⟨k4, a4, c4, rfl, w4⟩
  refine ⟨fun _ => k4, ?_⟩
  replace hc := hc.trans k4
  replace w3 := w3.cons k4
  repeat first|refine W.g ?_|refine L.p rfl rfl ?_|refine L.nil ?_|refine L.skip rfl ?_
  refine L.cl (refLeft_C none a2 0 c2 [] m S4 (nilW S4) (hm.cons hc) (by decide) (by omega) hm0) rfl rfl ?_
  rintro _ S5 ⟨k5, a5, c5, rfl, w5⟩
  refine ⟨fun _ => k5, ?_⟩
  rw [show wnum [] % wnum m = 0 from Nat.zero_mod _] at w5 ⊢
  replace hc := hc.trans k5
  replace w3 := w3.cons k5
  replace w4 := w4.cons k5
  repeat first|refine W.g ?_|refine L.p rfl rfl ?_|refine L.nil ?_|refine L.skip rfl ?_
  refine L.cl (smallR_C S5) rfl rfl ?_
  rintro _ S6 ⟨k6, a6, c6, rfl, w6⟩
  refine ⟨fun _ => k6, ?_⟩
  replace hc := hc.trans k6
  replace w3 := w3.cons k6
  replace w4 := w4.cons k6
  replace w5 := w5.cons k6
  repeat first|refine W.g ?_|refine L.p rfl rfl ?_|refine L.nil ?_|refine L.skip rfl ?_
  refine L.cl (refLeft_C a6 a2 c6 c2 _ m S6 w6 (hm.cons hc) (toW_short (Nat.one_lt_two_pow (by decide))) (by omega) hm0) rfl rfl ?_
  rintro _ S7 ⟨k7, a7, c7, rfl, w7⟩
  refine ⟨fun _ => k7, ?_⟩
  rw [wnum_toW] at w7 ⊢
  replace hc := hc.trans k7
  replace w3 := w3.cons k7
  replace w4 := w4.cons k7
  replace w5 := w5.cons k7
  repeat first|refine W.g ?_|refine L.p rfl rfl ?_|refine L.nil ?_|refine L.skip rfl ?_
  rw [← invP_one] at hinv ⊢
  have ef : fm m = toW (wnum m) := rfl
  rw [ef] at w3 ⊢
  generalize hMM : wnum m = M at *
  generalize hA : wnum l % M = A at *
  generalize hI0 : invN M M A 0 (1 % M) = R0 at *
  refine W.loop (fun j e T => ∃ (q r s t : Nat) (b7 b8 b9 b10 : Option Addr) (d7 d8 d9 d10 : Nat), j = q ∧ invN M r q s t = R0 ∧ q ≤ M ∧ r ≤ M ∧ s < M ∧ t < M ∧ Cons S T ∧ e 1 = .slice a2 m.length c2 ∧
      e 7 = .slice b7 (toW r).length d7 ∧ WIn T b7 d7 (toW r) ∧ e 8 = .slice b8 (toW q).length d8 ∧ WIn T b8 d8 (toW q) ∧ e 9 = .slice b9 (toW s).length d9 ∧ WIn T b9 d9 (toW s) ∧ e 10 = .slice b10 (toW t).length d10 ∧ WIn T b10 d10 (toW t)) A
    ⟨A, M, 0, 1 % M, _, _, _, _, _, _, _, _, rfl, hI0, by rw [← hA]; exact Nat.le_of_lt (Nat.mod_lt _ hmp), Nat.le_refl _, hmp, Nat.mod_lt _ hmp, hc, rfl, rfl, w3, rfl, w4, rfl, w5, rfl, w7⟩ ?_
  clear w3 w4 w5 w6 w7 k3 k4 k5 k6 k7 hc kw hI0 ef
  rintro j e T ⟨q, r, s, t, b7, b8, b9, b10, d7, d8, d9, d10, rfl, hR0, hq, hr, hs, ht, kT, e1, e7, w7, e8, w8, e9, w9, e10, w10⟩
  refine W.env5 e1 e7 e8 e9 e10 ?_
  clear e1 e7 e8 e9 e10
  have hlen : ∀ {N : Nat}, N ≤ M → (toW N).length < 100000 := fun h => toW_short (by omega)
  repeat first|refine W.g ?_|refine L.p rfl rfl ?_|refine L.nil ?_|refine L.skip rfl ?_
  by_cases hq0 : j = 0
  · subst hq0
    rw [invN_zero] at hR0
    repeat first|refine W.g ?_|refine L.p rfl rfl ?_|refine L.nil ?_|refine L.skip rfl ?_
    refine W.ite rfl (fun h => ?_) (fun h => ?_)
    · have := of_decide_eq_true h
      rw [toW_zero] at this
      simp at this
    clear h
    repeat first|refine W.g ?_|refine L.p rfl rfl ?_|refine L.nil ?_|refine L.skip rfl ?_
    refine L.cl (length_C b7 d7 (toW r) T w7 (Nat.lt_trans (hlen hr) (by decide))) rfl rfl ?_
    rintro _ T1 ⟨rfl, k1⟩
    refine ⟨fun _ => k1, ?_⟩
    replace kT := kT.trans k1
    rw [wnum_toW]
    repeat first|refine W.g ?_|refine L.p rfl rfl ?_|refine L.nil ?_|refine L.skip rfl ?_
    by_cases hr1 : r = 1
    · subst hr1
      rw [show blen 1 = 1 from blen_one.2 rfl]
      repeat first|refine W.g ?_|refine L.p rfl rfl ?_|refine L.nil ?_|refine L.skip rfl ?_
      refine W.ite rfl (fun h => ?_) (fun h => ?_)
      · cases h
      clear h
      repeat first|refine W.g ?_|refine L.p rfl rfl ?_|refine L.nil ?_|refine L.skip rfl ?_
      refine L.cl (refLeft_C b9 a2 d9 c2 (toW s) m T1 (w9.cons k1) (hm.cons kT) (hlen (Nat.le_of_lt hs)) (by omega) (by rw [hMM]; exact hm0)) rfl rfl ?_
      rintro _ T2 ⟨k2, a9, c9, rfl, w9'⟩
      refine ⟨fun _ => k2, ?_⟩
      rw [wnum_toW, hMM] at w9' ⊢
      repeat first|refine W.g ?_|refine L.p rfl rfl ?_|refine L.nil ?_|refine L.skip rfl ?_
      subst hR0
      rw [if_pos rfl] at hinv
      subst hinv
      exact ⟨.inr rfl, _, rfl, .ok (kT.trans k2) w9'⟩
    · have hb : blen r ≠ 1 := fun h => hr1 (blen_one.1 h)
      rw [show (((blen r : Nat) : Int) != 1) = true from bne_iff_ne.2 (by omega)]
      repeat first|refine W.g ?_|refine L.p rfl rfl ?_|refine L.nil ?_|refine L.skip rfl ?_
      refine W.ite rfl (fun h => ?_) (fun h => ?_)
      · repeat first|refine W.g ?_|refine L.p rfl rfl ?_|refine L.nil ?_|refine L.skip rfl ?_
        subst hR0
        rw [if_neg hr1] at hinv
        subst hinv
        exact ⟨.inr rfl, _, rfl, .no kT (by decide)⟩
      · cases h
  · rw [invN_step hq0] at hR0
    have hpos : 0 < (toW j).length := Nat.pos_of_ne_zero fun h => hq0 (by have := List.length_eq_zero_iff.1 h; rw [← wnum_toW j, this]; rfl)
    refine W.ite rfl (fun h => ?_) (fun h => ?_)
    · clear h
      have hj0 : 0 < j := Nat.pos_of_ne_zero hq0
      have hk : r / j ≤ M := Nat.le_trans (Nat.div_le_self _ _) hr
      repeat first|refine W.g ?_|refine L.p rfl rfl ?_|refine L.nil ?_|refine L.skip rfl ?_
      refine L.cl (over_C b7 b8 d7 d8 (toW r) (toW j) T w7 w8 (hlen hr) (hlen hq) (by rw [wnum_toW]; exact hj0)) rfl rfl ?_
      rintro _ T1 ⟨a11, a12, c11, c12, rfl, k1, w11, w12⟩
      refine ⟨fun _ => k1, ?_⟩
      rw [wnum_toW, wnum_toW] at w11 w12 ⊢
      replace kT := kT.trans k1
      replace w8 := w8.cons k1
      replace w9 := w9.cons k1
      replace w10 := w10.cons k1
      repeat first|refine W.g ?_|refine L.p rfl rfl ?_|refine L.nil ?_|refine L.skip rfl ?_
      refine L.cl (plusR_C b9 a2 d9 c2 (toW s) m T1 w9 (hm.cons kT) (Nat.lt_trans (hlen (Nat.le_of_lt hs)) (by decide)) (by omega)) rfl rfl ?_
      rintro _ T2 ⟨k2, a13, c13, rfl, w13⟩
      refine ⟨fun _ => k2, ?_⟩
      rw [wnum_toW, hMM] at w13 ⊢
      replace kT := kT.trans k2
      replace w8 := w8.cons k2
      replace w10 := w10.cons k2
      replace w11 := w11.cons k2
      replace w12 := w12.cons k2
      repeat first|refine W.g ?_|refine L.p rfl rfl ?_|refine L.nil ?_|refine L.skip rfl ?_
      have hp2 : r / j * t < 2 ^ 25600 := by
        have h1 : r / j * t ≤ M * M := Nat.mul_le_mul hk (Nat.le_of_lt ht)
        have h2 := Nat.mul_lt_mul'' hm1 hm1
        rw [← Nat.pow_add] at h2
        exact up_pow (Nat.lt_of_le_of_lt h1 h2) (by decide)
      refine L.cl (timesR_C a11 b10 c11 d10 (toW (r / j)) (toW t) T2 w11 w10 (hlen hk) (hlen (Nat.le_of_lt ht))) rfl rfl ?_
      rintro _ T3 ⟨k3, a14, c14, rfl, w14⟩
      refine ⟨fun _ => k3, ?_⟩
      rw [wnum_toW, wnum_toW] at w14 ⊢
      replace kT := kT.trans k3
      replace w8 := w8.cons k3
      replace w10 := w10.cons k3
      replace w12 := w12.cons k3
      replace w13 := w13.cons k3
      repeat first|refine W.g ?_|refine L.p rfl rfl ?_|refine L.nil ?_|refine L.skip rfl ?_
      refine L.cl (refLeft_C a14 a2 c14 c2 _ m T3 w14 (hm.cons kT) (toW_short hp2) (by omega) (by rw [hMM]; exact hm0)) rfl rfl ?_
      rintro _ T4 ⟨k4, a15, c15, rfl, w15⟩
      refine ⟨fun _ => k4, ?_⟩
      rw [wnum_toW, hMM] at w15 ⊢
      replace kT := kT.trans k4
      replace w8 := w8.cons k4
      replace w10 := w10.cons k4
      replace w12 := w12.cons k4
      replace w13 := w13.cons k4
      have hkt : r / j * t % M < M := Nat.mod_lt _ hmp
      have hsum : s + M < 2 ^ 25600 := by
        have : (2 : Nat) ^ 4097 ≤ 2 ^ 25600 := Nat.pow_le_pow_right (by decide) (by decide)
        have e : (2 : Nat) ^ 4097 = 2 ^ 4096 * 2 := Nat.pow_succ ..
        omega
      repeat first|refine W.g ?_|refine L.p rfl rfl ?_|refine L.nil ?_|refine L.skip rfl ?_
      refine L.cl (minusR_C a13 a15 c13 c15 _ _ T4 w13 w15 (Nat.lt_trans (toW_short hsum) (by decide)) (Nat.lt_trans (hlen (Nat.le_of_lt hkt)) (by decide)) (by rw [wnum_toW, wnum_toW]; omega)) rfl rfl ?_
      rintro _ T5 ⟨k5, a16, c16, rfl, w16⟩
      refine ⟨fun _ => k5, ?_⟩
      rw [wnum_toW, wnum_toW] at w16 ⊢
      replace kT := kT.trans k5
      replace w8 := w8.cons k5
      replace w10 := w10.cons k5
      replace w12 := w12.cons k5
      repeat first|refine W.g ?_|refine L.p rfl rfl ?_|refine L.nil ?_|refine L.skip rfl ?_
      refine L.cl (refLeft_C a16 a2 c16 c2 _ m T5 w16 (hm.cons kT) (toW_short (by omega)) (by omega) (by rw [hMM]; exact hm0)) rfl rfl ?_
      rintro _ T6 ⟨k6, a17, c17, rfl, w17⟩
      refine ⟨fun _ => k6, ?_⟩
      have ed : (s + M - r / j * t % M) % M = invD M (r / j) s t := by unfold invD; rw [Nat.mod_eq_of_lt hs]
      rw [wnum_toW, hMM, ed] at w17 ⊢
      replace kT := kT.trans k6
      replace w8 := w8.cons k6
      replace w10 := w10.cons k6
      replace w12 := w12.cons k6
      repeat first|refine W.g ?_|refine L.p rfl rfl ?_|refine L.nil ?_|refine L.skip rfl ?_
      exact ⟨r % j, Nat.mod_lt _ hj0, r % j, j, t, _, _, _, _, _, _, _, _, _, rfl, hR0, Nat.le_trans (Nat.le_of_lt (Nat.mod_lt _ hj0)) hq, hq, ht, Nat.mod_lt _ hmp, kT, rfl, rfl, w8, rfl, w12, rfl, w10, rfl, w17⟩
    · have := of_decide_eq_false h; omega
end Go.Proofs.YtlnlcddbllcehaaDoor

/- The book of lists that were handed out: a list more. Conditions: none. -/
set_option linter.unusedSimpArgs false
set_option linter.unusedVariables false
set_option maxRecDepth 100000
namespace Go.Proofs.YtlnlcddbllcehaaDoor
open Go
variable {G : Nat} {Ext : FuncId → List Value → Mem → Outc → Mem → Prop}

/-- the book at row rb holds the lists ws and bs; the rows ps are its own -/
def Book (S : Mem) (rb : Nat) (ws bs : List Hd) (ps : List Nat) : Prop :=
  ∃ hw hb : Hd, S.row? rb = some (newR [hw.v, hb.v] 31) ∧ HdOk S 22 hw (ws.map Hd.v) ∧ HdOk S 48 hb (bs.map Hd.v) ∧ rb ∈ ps ∧
    (∀ b, hw.a = some b → b ∈ ps ∧ b ≠ rb) ∧ (∀ b, hb.a = some b → b ∈ ps ∧ b ≠ rb ∧ hw.a ≠ some b)
theorem Book.keep {S S1 : Mem} {rb : Nat} {ws bs : List Hd} {ps cs : List Nat} (h : Book S rb ws bs ps) (k : KeepL cs S S1) (hd : ∀ b ∈ cs, b ∉ ps) : Book S1 rb ws bs ps := by
  obtain ⟨hw, hb, h1, h2, h3, h4, h5, h6⟩ := h
  exact ⟨hw, hb, k.row h1 (fun hm => hd _ hm h4), h2.keep k (fun b e hm => hd _ hm (h5 b e).1), h3.keep k (fun b e hm => hd _ hm (h6 b e).1), h4, h5, h6⟩
theorem Book.cons {S S1 : Mem} {rb : Nat} {ws bs : List Hd} {ps : List Nat} (h : Book S rb ws bs ps) (k : Cons S S1) : Book S1 rb ws bs ps := h.keep (k.keepL []) (by simp)
/-- an empty book -/
theorem Book.new (S : Mem) : Book (S ++ [newR [.slice none 0 0, .slice none 0 0] 31]) S.length [] [] [S.length] :=
  ⟨⟨none, 0, 0⟩, ⟨none, 0, 0⟩, row_push_new rfl, HdOk.nil _ _, HdOk.nil _ _, by simp, nofun, nofun⟩
/-- from one book to the next: its own rows are old ones of its own, or new -/
def Sub2 (S : Mem) (ps ps' : List Nat) : Prop := ∀ r ∈ ps', r ∈ ps ∨ S.length ≤ r
theorem words_C (S : Mem) (h : Hd) (rb : Nat) (ws bs : List Hd) (ps : List Nat) (hB : Book S rb ws bs ps) (hn : ws.length < 1000000) :
    C Tryd.prog G Ext 14 [.pointer (some ⟨rb, 0, none⟩), h.v] S fun v S' => ∃ ps', Book S' rb (ws ++ [h]) bs ps' ∧ Sub2 S ps ps' ∧ KeepL ps S S' := by
  obtain ⟨hw, hb, hr, h2, h3, h4, h5, h6⟩ := hB
  refine C.fn Tryd.func14 rfl (by kernel_rfl) rfl ?_
  repeat first|refine W.g ?_|refine L.p rfl rfl ?_|refine L.nil ?_|refine L.skip rfl ?_
  refine L.ld (cell_of hr rfl) rfl rfl rfl ?_
  repeat first|refine W.g ?_|refine L.p rfl rfl ?_|refine L.nil ?_|refine L.skip rfl ?_
  refine L.pushH (h := hw) rfl h2 rfl rfl rfl rfl rfl (by have := h2.len; rw [List.length_map] at this; omega) rfl (fun _ => rfl) (fun p h' S1 k1 k2 k3 k4 => ?_)
  obtain ⟨b', k5, k6⟩ := k3
  have hne : rb ∉ hw.a.toList := fun hm => by
    have := (h5 rb (by simpa using hm)).2
    exact this rfl
  have hr1 := k4.row hr hne
  repeat first|refine W.g ?_|refine L.p rfl rfl ?_|refine L.nil ?_|refine L.skip rfl ?_
  refine L.st (ad := ⟨rb, 0, none⟩) (vs := [h'.v]) (write_of hr1 rfl (by simp [newR]) rfl) rfl rfl rfl rfl ?_
  rw [putFrom_one _ _ _ (by simp [newR])]
  repeat first|refine W.g ?_|refine L.p rfl rfl ?_|refine L.nil ?_|refine L.skip rfl ?_
  have hlt := row_lt hr
  have hk := Keep.set rb S1 { newR [hw.v, hb.v] 31 with cells := List.set (newR [hw.v, hb.v] 31).cells 0 h'.v }
  have hkl := Keep.keepL (bs := [rb]) hk (by simp)
  refine ⟨.inl rfl, _, rfl, b' :: ps, ⟨h', hb, row_set_same hr1 rfl, ?_, ?_, by simp [h4], ?_, ?_⟩, ?_, ?_⟩
  · rw [List.map_append]; exact k1.keep hkl (fun b e hm => by rw [k5] at e; cases e; simp at hm; omega)
  · exact (h3.keep k4 (fun b e hm => (h6 b e).2.2 (by simpa using hm))).keep hkl (fun b e hm => (h6 b e).2.1 (by simpa using hm))
  · intro b e; rw [k5] at e; cases e; exact ⟨by simp, by omega⟩
  · intro b e
    have := h3.lt e
    exact ⟨by simp [(h6 b e).1], (h6 b e).2.1, fun e2 => by rw [k5] at e2; cases e2; omega⟩
  · intro r hm
    rcases List.mem_cons.1 hm with rfl | hm
    · exact .inr k6
    · exact .inl hm
  · refine (k4.mono ?_).then hkl (by simp [h4])
    intro r hm
    exact (h5 r (by simpa using hm)).1
end Go.Proofs.YtlnlcddbllcehaaDoor

/- The book: each list has memory of its own. Conditions: none. -/
set_option linter.unusedSimpArgs false
set_option linter.unusedVariables false
set_option maxRecDepth 100000
namespace Go.Proofs.YtlnlcddbllcehaaDoor
open Go
variable {G : Nat} {Ext : FuncId → List Value → Mem → Outc → Mem → Prop}

def mkW (k n : Nat) : List Value := (List.range n).map fun (i : Nat) => v64 (mk k i)
def mkB (k n : Nat) : List Value := (List.range n).map fun (i : Nat) => v8 ((mk k i).setWidth 8)
theorem mkW_succ (k n : Nat) : mkW k (n + 1) = mkW k n ++ [v64 (mk k n)] := by simp [mkW, List.range_succ]
theorem mkB_succ (k n : Nat) : mkB k (n + 1) = mkB k n ++ [v8 ((mk k n).setWidth 8)] := by simp [mkB, List.range_succ]
theorem mkW_get {k n i : Nat} (h : i < n) : (mkW k n)[i]? = some (v64 (mk k i)) := by simp [mkW, h]
theorem mkB_get {k n i : Nat} (h : i < n) : (mkB k n)[i]? = some (v8 ((mk k i).setWidth 8)) := by simp [mkB, h]
theorem take_set_succ {l m : List Value} {w : Value} {i : Nat} (h : l.take i = m) (hi : i < l.length) : (l.set i w).take (i + 1) = m ++ [w] := by
  rw [List.take_add_one, List.getElem?_set_self hi, List.take_set_of_le (Nat.le_refl i), h]; rfl
def blks (hs : List Hd) : List Nat := hs.filterMap Hd.a
theorem blks_mem {hs : List Hd} {h : Hd} {b : Nat} {k : Nat} (hk : hs[k]? = some h) (hb : h.a = some b) : b ∈ blks hs := List.mem_filterMap.2 ⟨h, List.mem_of_getElem? hk, hb⟩
theorem blks_at {hs : List Hd} {b : Nat} (h : b ∈ blks hs) : ∃ (k : Nat) (d : Hd), hs[k]? = some d ∧ d.a = some b := by
  obtain ⟨d, h1, h2⟩ := List.mem_filterMap.1 h
  obtain ⟨k, h3⟩ := List.getElem?_of_mem h1
  exact ⟨k, d, h3, h2⟩
/-- each list's block is its own -/
def Own (hs : List Hd) : Prop := ∀ (i j : Nat) (h d : Hd) (b : Nat), hs[i]? = some h → hs[j]? = some d → h.a = some b → d.a = some b → i = j
def Alive (S : Mem) (el : TypeId) (hs : List Hd) : Prop := ∀ (i : Nat) (h : Hd), hs[i]? = some h → h.n ≤ 1000000000000 ∧ ∃ l, HdOk S el h l
def Marked (S : Mem) (el : TypeId) (f : Nat → Nat → List Value) (x : Nat) (hs : List Hd) : Prop := ∀ (i : Nat) (h : Hd), hs[i]? = some h → HdOk S el h (f i (h.n + x))
theorem Alive.keep {S S1 : Mem} {el : TypeId} {hs : List Hd} {bs : List Nat} (h : Alive S el hs) (k : KeepL bs S S1) (hd : ∀ b ∈ bs, b ∉ blks hs) : Alive S1 el hs := fun i d hi =>
  ⟨(h i d hi).1, (h i d hi).2.imp fun l h2 => h2.keep k fun b e hm => hd b hm (blks_mem hi e)⟩

set_option maxHeartbeats 1000000 in
theorem apart_C (S : Mem) (rb : Nat) (ws bs : List Hd) (ps : List Nat) (hB : Book S rb ws bs ps) (hn : ws.length < 1000000 ∧ bs.length < 1000000) (hAws : Alive S 39 ws) (hAbs : Alive S 5 bs)
    (hOws : Own ws) (hObs : Own bs) (hdws : ∀ b ∈ blks ws, b ∉ ps) (hdbs : ∀ b ∈ blks bs, b ∉ ps) (hdd : ∀ b ∈ blks ws, b ∉ blks bs) :
    C Tryd.prog G Ext 15 [.pointer (some ⟨rb, 0, none⟩)] S fun v S' => v = .bool true ∧ KeepL (blks ws ++ blks bs) S S' := by
  refine C.fn Tryd.func15 rfl (by kernel_rfl) rfl ?_
  have hBws := hB
  repeat first|refine W.g ?_|refine L.p rfl rfl ?_|refine L.nil ?_|refine L.skip rfl ?_
  refine W.loop (fun j e S' => ∃ k : Nat, j = ws.length - k ∧ k ≤ ws.length ∧ e 0 = .pointer (some ⟨rb, 0, none⟩) ∧ e 3 = vi k ∧ KeepL (blks ws) S S' ∧ (∀ (i : Nat) (h : Hd), ws[i]? = some h → if i < k then HdOk S' 39 h (mkW i h.n) else ∃ l, HdOk S' 39 h l)) ws.length
    ⟨0, by omega, by omega, rfl, rfl, KeepL.refl _ _, fun i h hi => by rw [if_neg (by omega)]; exact (hAws i h hi).2⟩ ?_
  rintro j e S' ⟨k, rfl, hk, e0, ek, hkeep, hst⟩
  refine W.env2 e0 ek ?_
  obtain ⟨hw, hb, hr, h2, h3, h4, h5, h6⟩ := hBws.keep hkeep hdws
  have hlen := h2.len
  rw [List.length_map] at hlen
  repeat first|refine W.g ?_|refine L.p rfl rfl ?_|refine L.nil ?_|refine L.skip rfl ?_
  refine L.ld (cell_of hr rfl) rfl rfl rfl ?_
  repeat first|refine W.g ?_|refine L.p rfl rfl ?_|refine L.nil ?_|refine L.skip rfl ?_
  refine W.ite rfl (fun h => ?_) (fun h => ?_)
  · have hkl : k < ws.length := by simp at h; omega
    obtain ⟨hh, hkh⟩ : ∃ hh, ws[k]? = some hh := ⟨_, List.getElem?_eq_getElem hkl⟩
    have hel : (ws.map Hd.v)[k]? = some hh.v := by rw [List.getElem?_map, hkh]; rfl
    obtain ⟨l0, hl0⟩ : ∃ l, HdOk S' 39 hh l := by have := hst k hh hkh; rwa [if_neg (by omega)] at this
    have hnb : ∀ b, hh.a = some b → b ≠ rb := fun b e hm => hdws b (blks_mem hkh e) (hm ▸ h4)
    have hnw : ∀ b, hh.a = some b → hw.a ≠ some b := fun b e hm => hdws b (blks_mem hkh e) (h5 b hm).1
    have hsm := (hAws k hh hkh).1
    clear h
    repeat first|refine W.g ?_|refine L.p rfl rfl ?_|refine L.nil ?_|refine L.skip rfl ?_
    refine W.loop (fun j e S'' => ∃ (i : Nat) (l : List Value), j = hh.n - i ∧ i ≤ hh.n ∧ e 0 = .pointer (some ⟨rb, 0, none⟩) ∧ e 3 = vi k ∧ e 4 = vi i ∧ KeepL hh.a.toList S' S'' ∧ HdOk S'' 39 hh l ∧ l.take i = mkW k i) hh.n
      ⟨0, l0, by omega, by omega, rfl, rfl, rfl, KeepL.refl _ _, hl0, rfl⟩ ?_
    rintro j e S'' ⟨i, l, rfl, hi, e0, ek, ei, hkp, hl, htk⟩
    refine W.env3 e0 ek ei ?_
    have hr2 := hkp.row hr (fun hm => hnb rb (by simpa using hm) rfl)
    have hx2 := h2.keep hkp (fun b e hm => hnw b (by simpa using hm) e)
    repeat first|refine W.g ?_|refine L.p rfl rfl ?_|refine L.nil ?_|refine L.skip rfl ?_
    refine L.ld (cell_of hr2 rfl) rfl rfl rfl ?_
    repeat first|refine W.g ?_|refine L.p rfl rfl ?_|refine L.nil ?_|refine L.skip rfl ?_
    refine L.el hx2.slv rfl hel rfl rfl rfl rfl (fun _ => rfl) rfl (fun p => ?_)
    repeat first|refine W.g ?_|refine L.p rfl rfl ?_|refine L.nil ?_|refine L.skip rfl ?_
    refine W.ite rfl (fun h => ?_) (fun h => ?_)
    · have hin : i < hh.n := by simp at h; omega
      obtain ⟨a, n, c⟩ := hh
      obtain ⟨b, rfl⟩ : ∃ b, a = some b := by
        obtain ⟨_, ⟨_, h0, _⟩ | ⟨b, _, h0, _⟩⟩ := hl
        · dsimp only at h0 hin; omega
        · exact ⟨b, h0⟩
      obtain ⟨r, hrr, hro, hrl, hrt⟩ := hl.row
      have hll := hl.len
      dsimp only at hin hll hi
      repeat first|refine W.g ?_|refine L.p rfl rfl ?_|refine L.nil ?_|refine L.skip rfl ?_
      refine L.ld (cell_of hr2 rfl) rfl rfl rfl ?_
      repeat first|refine W.g ?_|refine L.p rfl rfl ?_|refine L.nil ?_|refine L.skip rfl ?_
      refine L.el hx2.slv rfl hel rfl rfl rfl rfl (fun _ => rfl) rfl (fun p => ?_)
      repeat first|refine W.g ?_|refine L.p rfl rfl ?_|refine L.nil ?_|refine L.skip rfl ?_
      refine L.cl (mark_C _ _ _) rfl rfl ?_
      rintro _ _ ⟨rfl, rfl⟩
      refine ⟨fun _ => Cons.refl _, ?_⟩
      repeat first|refine W.g ?_|refine L.p rfl rfl ?_|refine L.nil ?_|refine L.skip rfl ?_
      refine L.elst hrr hro (by omega) rfl hin rfl rfl rfl rfl (fun _ => rfl) (fun _ => rfl) rfl rfl rfl (fun p => ?_)
      repeat first|refine W.g ?_|refine L.p rfl rfl ?_|refine L.nil ?_|refine L.skip rfl ?_
      rw [Nat.zero_add]
      refine ⟨n - (i + 1), by show n - (i + 1) < n - i; omega, i + 1, _, rfl, by show i + 1 ≤ n; omega, rfl, rfl, ?_, ?_, hl.set _ hrr, ?_⟩
      · refine (force_eq rfl).trans ?_
        rw [wrap64 (by omega) (by dsimp only at hsm; omega)]; rfl
      · exact hkp.trans ((Keep.set b _ _).keepL (by simp))
      · rw [mkW_succ]; exact take_set_succ htk (by omega)
    · have hin : i = hh.n := by simp at h; omega
      subst hin
      repeat first|refine W.g ?_|refine L.p rfl rfl ?_|refine L.nil ?_|refine L.skip rfl ?_
      refine ⟨ws.length - (k + 1), by omega, k + 1, rfl, by omega, rfl, ?_, ?_, ?_⟩
      · refine (force_eq rfl).trans ?_
        rw [wrap64 (by omega) (by omega)]; rfl
      · exact hkeep.trans (hkp.mono fun b hm => blks_mem hkh (by simpa using hm))
      · intro i h hi'
        by_cases hik : i = k
        · subst hik
          rw [hkh] at hi'; cases hi'
          rw [if_pos (by omega)]
          rw [List.take_of_length_le (Nat.le_of_eq hl.len)] at htk
          rw [← htk]; exact hl
        · have hne : ∀ b, h.a = some b → b ∉ hh.a.toList := fun b e hm => hik (hOws i k h hh b hi' hkh e (by simpa using hm))
          have := hst i h hi'
          split at this
          · rw [if_pos (by omega)]; exact this.keep hkp hne
          · rw [if_neg (by omega)]
            obtain ⟨l', hl'⟩ := this
            exact ⟨l', hl'.keep hkp hne⟩
  have hkl : k = ws.length := by simp at h; omega
  subst hkl
  have hMws : Marked S' 39 mkW 0 ws := fun i h hi => by
    have := hst i h hi
    have hlt := (List.getElem?_eq_some_iff.1 hi).1
    rw [if_pos hlt] at this
    exact this
  clear hst h hr h2 h3 h5 h6 hlen ek
  rename Mem => S1
  have hBbs := hBws.keep hkeep hdws
  have hAbs := hAbs.keep hkeep hdd
  have hkeep1 := hkeep
  clear hBws hkeep e0 hk
  repeat first|refine W.g ?_|refine L.p rfl rfl ?_|refine L.nil ?_|refine L.skip rfl ?_
  refine W.loop (fun j e S' => ∃ k : Nat, j = bs.length - k ∧ k ≤ bs.length ∧ e 0 = .pointer (some ⟨rb, 0, none⟩) ∧ e 5 = vi k ∧ KeepL (blks bs) S1 S' ∧ (∀ (i : Nat) (h : Hd), bs[i]? = some h → if i < k then HdOk S' 5 h (mkB i h.n) else ∃ l, HdOk S' 5 h l)) bs.length
    ⟨0, by omega, by omega, rfl, rfl, KeepL.refl _ _, fun i h hi => by rw [if_neg (by omega)]; exact (hAbs i h hi).2⟩ ?_
  rintro j e S' ⟨k, rfl, hk, e0, ek, hkeep, hst⟩
  refine W.env2 e0 ek ?_
  obtain ⟨hw, hb, hr, h2, h3, h4, h5, h6⟩ := hBbs.keep hkeep hdbs
  have hlen := h3.len
  rw [List.length_map] at hlen
  repeat first|refine W.g ?_|refine L.p rfl rfl ?_|refine L.nil ?_|refine L.skip rfl ?_
  refine L.ld (cell_of hr rfl) rfl rfl rfl ?_
  repeat first|refine W.g ?_|refine L.p rfl rfl ?_|refine L.nil ?_|refine L.skip rfl ?_
  refine W.ite rfl (fun h => ?_) (fun h => ?_)
  · have hkl : k < bs.length := by simp at h; omega
    obtain ⟨hh, hkh⟩ : ∃ hh, bs[k]? = some hh := ⟨_, List.getElem?_eq_getElem hkl⟩
    have hel : (bs.map Hd.v)[k]? = some hh.v := by rw [List.getElem?_map, hkh]; rfl
    obtain ⟨l0, hl0⟩ : ∃ l, HdOk S' 5 hh l := by have := hst k hh hkh; rwa [if_neg (by omega)] at this
    have hnb : ∀ b, hh.a = some b → b ≠ rb := fun b e hm => hdbs b (blks_mem hkh e) (hm ▸ h4)
    have hnw : ∀ b, hh.a = some b → hb.a ≠ some b := fun b e hm => hdbs b (blks_mem hkh e) (h6 b hm).1
    have hsm := (hAbs k hh hkh).1
    clear h
    repeat first|refine W.g ?_|refine L.p rfl rfl ?_|refine L.nil ?_|refine L.skip rfl ?_
    refine W.loop (fun j e S'' => ∃ (i : Nat) (l : List Value), j = hh.n - i ∧ i ≤ hh.n ∧ e 0 = .pointer (some ⟨rb, 0, none⟩) ∧ e 5 = vi k ∧ e 6 = vi i ∧ KeepL hh.a.toList S' S'' ∧ HdOk S'' 5 hh l ∧ l.take i = mkB k i) hh.n
      ⟨0, l0, by omega, by omega, rfl, rfl, rfl, KeepL.refl _ _, hl0, rfl⟩ ?_
    rintro j e S'' ⟨i, l, rfl, hi, e0, ek, ei, hkp, hl, htk⟩
    refine W.env3 e0 ek ei ?_
    have hr2 := hkp.row hr (fun hm => hnb rb (by simpa using hm) rfl)
    have hx2 := h3.keep hkp (fun b e hm => hnw b (by simpa using hm) e)
    repeat first|refine W.g ?_|refine L.p rfl rfl ?_|refine L.nil ?_|refine L.skip rfl ?_
    refine L.ld (cell_of hr2 rfl) rfl rfl rfl ?_
    repeat first|refine W.g ?_|refine L.p rfl rfl ?_|refine L.nil ?_|refine L.skip rfl ?_
    refine L.el hx2.slv rfl hel rfl rfl rfl rfl (fun _ => rfl) rfl (fun p => ?_)
    repeat first|refine W.g ?_|refine L.p rfl rfl ?_|refine L.nil ?_|refine L.skip rfl ?_
    refine W.ite rfl (fun h => ?_) (fun h => ?_)
    · have hin : i < hh.n := by simp at h; omega
      obtain ⟨a, n, c⟩ := hh
      obtain ⟨b, rfl⟩ : ∃ b, a = some b := by
        obtain ⟨_, ⟨_, h0, _⟩ | ⟨b, _, h0, _⟩⟩ := hl
        · dsimp only at h0 hin; omega
        · exact ⟨b, h0⟩
      obtain ⟨r, hrr, hro, hrl, hrt⟩ := hl.row
      have hll := hl.len
      dsimp only at hin hll hi
      repeat first|refine W.g ?_|refine L.p rfl rfl ?_|refine L.nil ?_|refine L.skip rfl ?_
      refine L.ld (cell_of hr2 rfl) rfl rfl rfl ?_
      repeat first|refine W.g ?_|refine L.p rfl rfl ?_|refine L.nil ?_|refine L.skip rfl ?_
      refine L.el hx2.slv rfl hel rfl rfl rfl rfl (fun _ => rfl) rfl (fun p => ?_)
      repeat first|refine W.g ?_|refine L.p rfl rfl ?_|refine L.nil ?_|refine L.skip rfl ?_
      refine L.cl (mark_C _ _ _) rfl rfl ?_
      rintro _ _ ⟨rfl, rfl⟩
      refine ⟨fun _ => Cons.refl _, ?_⟩
      repeat first|refine W.g ?_|refine L.p rfl rfl ?_|refine L.nil ?_|refine L.skip rfl ?_
      refine L.elst hrr hro (by omega) rfl hin rfl rfl rfl rfl (fun _ => rfl) (fun _ => rfl) rfl rfl rfl (fun p => ?_)
      repeat first|refine W.g ?_|refine L.p rfl rfl ?_|refine L.nil ?_|refine L.skip rfl ?_
      rw [Nat.zero_add]
      refine ⟨n - (i + 1), by show n - (i + 1) < n - i; omega, i + 1, _, rfl, by show i + 1 ≤ n; omega, rfl, rfl, ?_, ?_, hl.set _ hrr, ?_⟩
      · refine (force_eq rfl).trans ?_
        rw [wrap64 (by omega) (by dsimp only at hsm; omega)]; rfl
      · exact hkp.trans ((Keep.set b _ _).keepL (by simp))
      · rw [mkB_succ, show v8 ((mk k i).setWidth 8) = .int .u8 (IntKind.u8.wrap ((mk k i).toNat : Int)) by rw [u8_of_v64]]; exact take_set_succ htk (by omega)
    · have hin : i = hh.n := by simp at h; omega
      subst hin
      repeat first|refine W.g ?_|refine L.p rfl rfl ?_|refine L.nil ?_|refine L.skip rfl ?_
      refine ⟨bs.length - (k + 1), by omega, k + 1, rfl, by omega, rfl, ?_, ?_, ?_⟩
      · refine (force_eq rfl).trans ?_
        rw [wrap64 (by omega) (by omega)]; rfl
      · exact hkeep.trans (hkp.mono fun b hm => blks_mem hkh (by simpa using hm))
      · intro i h hi'
        by_cases hik : i = k
        · subst hik
          rw [hkh] at hi'; cases hi'
          rw [if_pos (by omega)]
          rw [List.take_of_length_le (Nat.le_of_eq hl.len)] at htk
          rw [← htk]; exact hl
        · have hne : ∀ b, h.a = some b → b ∉ hh.a.toList := fun b e hm => hik (hObs i k h hh b hi' hkh e (by simpa using hm))
          have := hst i h hi'
          split at this
          · rw [if_pos (by omega)]; exact this.keep hkp hne
          · rw [if_neg (by omega)]
            obtain ⟨l', hl'⟩ := this
            exact ⟨l', hl'.keep hkp hne⟩
  have hkl : k = bs.length := by simp at h; omega
  subst hkl
  have hMbs : Marked S' 5 mkB 0 bs := fun i h hi => by
    have := hst i h hi
    have hlt := (List.getElem?_eq_some_iff.1 hi).1
    rw [if_pos hlt] at this
    exact this
  clear hst h hr h2 h3 h5 h6 hlen ek
  rename Mem => S2
  have hBws := hBbs.keep hkeep hdbs
  have hMbs2 : Marked S2 5 mkB 0 bs := hMbs
  have hMws : Marked S2 39 mkW 0 ws := fun i h hi => (hMws i h hi).keep hkeep (fun b e hm => hdd b (blks_mem hi e) hm)
  have hkeep2 : KeepL (blks ws ++ blks bs) S S2 := (hkeep1.mono (by simp +contextual)).trans (hkeep.mono (by simp +contextual))
  clear hBbs hkeep hkeep1 e0 hk
  repeat first|refine W.g ?_|refine L.p rfl rfl ?_|refine L.nil ?_|refine L.skip rfl ?_
  refine W.loop (fun j e S' => ∃ (k : Nat) (dw : List Hd) (hxw : Hd), j = ws.length - k ∧ k ≤ ws.length ∧ e 0 = .pointer (some ⟨rb, 0, none⟩) ∧ e 8 = vi k ∧ e 7 = hxw.v ∧ e 0 = .pointer (some ⟨rb, 0, none⟩) ∧ dw.length = k ∧ KeepL (blks ws) S2 S' ∧ HdOk S' 22 hxw (dw.map Hd.v) ∧
      (∀ b, hxw.a = some b → List.length S2 ≤ b) ∧ (∀ (i : Nat) (d : Hd), dw[i]? = some d → (∃ h, ws[i]? = some h ∧ HdOk S' 39 d (mkW i (h.n + 64)) ∧ d.n = h.n + 64) ∧ ∃ b, d.a = some b ∧ List.length S2 ≤ b ∧ hxw.a ≠ some b) ∧
      (∀ (i : Nat) (h : Hd), ws[i]? = some h → k ≤ i → HdOk S' 39 h (mkW i h.n))) ws.length
    ⟨0, [], ⟨none, 0, 0⟩, by omega, by omega, rfl, rfl, rfl, rfl, rfl, KeepL.refl _ _, HdOk.nil _ _, nofun, fun i d hi => by simp at hi, fun i h hi _ => hMws i h hi⟩ ?_
  rintro j e S' ⟨k, dw, hxw, rfl, hk, e0, ek, ex, eo, hdl, hkeep, hhx, hxb, hds, hst⟩
  refine W.env4 e0 ek ex eo ?_
  obtain ⟨hw, hb, hr, h2, h3, h4, h5, h6⟩ := hBws.keep hkeep hdws
  have hlen := h2.len
  rw [List.length_map] at hlen
  repeat first|refine W.g ?_|refine L.p rfl rfl ?_|refine L.nil ?_|refine L.skip rfl ?_
  refine L.ld (cell_of hr rfl) rfl rfl rfl ?_
  repeat first|refine W.g ?_|refine L.p rfl rfl ?_|refine L.nil ?_|refine L.skip rfl ?_
  refine W.ite rfl (fun h => ?_) (fun h => ?_)
  · have hkl : k < ws.length := by simp at h; omega
    obtain ⟨hh, hkh⟩ : ∃ hh, ws[k]? = some hh := ⟨_, List.getElem?_eq_getElem hkl⟩
    have hel : (ws.map Hd.v)[k]? = some hh.v := by rw [List.getElem?_map, hkh]; rfl
    have hl0 := hst k hh hkh (Nat.le_refl _)
    have hnb : ∀ b, hh.a = some b → b ≠ rb := fun b e hm => hdws b (blks_mem hkh e) (hm ▸ h4)
    have hnw : ∀ b, hh.a = some b → hw.a ≠ some b := fun b e hm => hdws b (blks_mem hkh e) (h5 b hm).1
    have hlt : ∀ b, hh.a = some b → b < List.length S2 := fun b e => by
      have := hMws k hh hkh
      exact this.lt e
    have hsm := (hAws k hh hkh).1
    have hSl := hkeep.1
    clear h
    repeat first|refine W.g ?_|refine L.p rfl rfl ?_|refine L.nil ?_|refine L.skip rfl ?_
    refine L.ld (cell_of hr rfl) rfl rfl rfl ?_
    repeat first|refine W.g ?_|refine L.p rfl rfl ?_|refine L.nil ?_|refine L.skip rfl ?_
    refine L.el h2.slv rfl hel rfl rfl rfl rfl (fun _ => rfl) rfl (fun p => ?_)
    repeat first|refine W.g ?_|refine L.p rfl rfl ?_|refine L.nil ?_|refine L.skip rfl ?_
    refine W.loop (fun j e S'' => ∃ (i : Nat) (hl : Hd), j = 64 - i ∧ i ≤ 64 ∧ e 0 = .pointer (some ⟨rb, 0, none⟩) ∧ e 8 = vi k ∧ e 7 = hxw.v ∧ e 0 = .pointer (some ⟨rb, 0, none⟩) ∧ e 9 = hl.v ∧ e 10 = vi i ∧ KeepL hh.a.toList S' S'' ∧ HdOk S'' 39 hl (mkW k (hh.n + i)) ∧ hl.n = hh.n + i ∧ ((i = 0 ∧ hl.a = hh.a) ∨ ∃ b, hl.a = some b ∧ List.length S' ≤ b)) 64
      ⟨0, hh, by omega, by omega, rfl, rfl, rfl, rfl, rfl, rfl, KeepL.refl _ _, hl0, rfl, .inl ⟨rfl, rfl⟩⟩ ?_
    rintro j e S'' ⟨i, hl, rfl, hi, e0, ek, ex, eo, el, ei, hkp, hhl, hln, hla⟩
    refine W.env6 e0 ek ex eo el ei ?_
    have hr2 := hkp.row hr (fun hm => hnb rb (by simpa using hm) rfl)
    have hx2 := h2.keep hkp (fun b e hm => hnw b (by simpa using hm) e)
    repeat first|refine W.g ?_|refine L.p rfl rfl ?_|refine L.nil ?_|refine L.skip rfl ?_
    refine W.ite rfl (fun h => ?_) (fun h => ?_)
    · have hin : i < 64 := by simp at h; omega
      repeat first|refine W.g ?_|refine L.p rfl rfl ?_|refine L.nil ?_|refine L.skip rfl ?_
      refine L.ld (cell_of hr2 rfl) rfl rfl rfl ?_
      repeat first|refine W.g ?_|refine L.p rfl rfl ?_|refine L.nil ?_|refine L.skip rfl ?_
      refine L.el hx2.slv rfl hel rfl rfl rfl rfl (fun _ => rfl) rfl (fun p => ?_)
      repeat first|refine W.g ?_|refine L.p rfl rfl ?_|refine L.nil ?_|refine L.skip rfl ?_
      refine L.cl (mark_C _ _ _) rfl rfl ?_
      rintro _ _ ⟨rfl, rfl⟩
      refine ⟨fun _ => Cons.refl _, ?_⟩
      repeat first|refine W.g ?_|refine L.p rfl rfl ?_|refine L.nil ?_|refine L.skip rfl ?_
      refine L.pushH (h := hl) rfl hhl rfl rfl rfl rfl rfl (by omega) rfl (fun _ => rfl) (fun p h' S9 k1 k2 k3 k4 => ?_)
      rw [wrap64 (by omega) (by omega)] at k1
      repeat first|refine W.g ?_|refine L.p rfl rfl ?_|refine L.nil ?_|refine L.skip rfl ?_
      obtain ⟨b', k5, k6⟩ := k3
      have hSl2 := hkp.1
      refine ⟨64 - (i + 1), by omega, i + 1, h', rfl, by omega, rfl, rfl, rfl, rfl, rfl, ?_, ?_, ?_, by omega, .inr ⟨b', k5, by omega⟩⟩
      · refine (force_eq rfl).trans ?_
        rw [wrap64 (by omega) (by omega)]; rfl
      · refine hkp.then k4 ?_
        intro r hm
        rcases hla with ⟨_, hla⟩ | ⟨b, hla, hlb⟩
        · rw [hla] at hm; exact .inl hm
        · rw [hla] at hm; simp at hm; exact .inr (by omega)
      · rw [show hh.n + (i + 1) = (hh.n + i) + 1 by omega, mkW_succ]
        exact k1
    · have hin : i = 64 := by simp at h; omega
      subst hin
      obtain ⟨bl, hla, hlb⟩ : ∃ b, hl.a = some b ∧ List.length S' ≤ b := by
        rcases hla with ⟨h0, _⟩ | h0
        · omega
        · exact h0
      have hbl := hhl.lt hla
      have hxk : HdOk S'' 22 hxw (dw.map Hd.v) := hhx.keep hkp (fun b e hm => by have := hxb b e; have := hlt b (by simpa using hm); omega)
      have hxn := hxk.len
      rw [List.length_map] at hxn
      repeat first|refine W.g ?_|refine L.p rfl rfl ?_|refine L.nil ?_|refine L.skip rfl ?_
      refine L.pushH (h := hxw) rfl hxk rfl rfl rfl rfl rfl (by omega) rfl (fun _ => rfl) (fun p h' S9 k1 k2 k3 k4 => ?_)
      obtain ⟨b', k5, k6⟩ := k3
      repeat first|refine W.g ?_|refine L.p rfl rfl ?_|refine L.nil ?_|refine L.skip rfl ?_
      have hSl2 := hkp.1
      have hkS : KeepL (blks ws) S' S'' := hkp.mono fun b hm => blks_mem hkh (by simpa using hm)
      have hk4 : ∀ r ∈ hxw.a.toList, r ∈ blks ws ∨ List.length S2 ≤ r := fun r hm => .inr (hxb r (by simpa using hm))
      refine ⟨ws.length - (k + 1), by omega, k + 1, dw ++ [hl], h', rfl, by omega, rfl, ?_, rfl, rfl, by simp [hdl], (hkeep.trans hkS).then k4 hk4, by rw [List.map_append]; exact k1, ?_, ?_, ?_⟩
      · refine (force_eq rfl).trans ?_
        rw [wrap64 (by omega) (by omega)]; rfl
      · intro b e; rw [k5] at e; cases e; omega
      · intro i d hi'
        rw [List.getElem?_append] at hi'
        split at hi'
        · obtain ⟨⟨h9, q1, q2, q3⟩, b9, q4, q5, q6⟩ := hds i d hi'
          have q7 := q2.lt q4
          refine ⟨⟨h9, q1, (q2.keep hkp (fun b e hm => ?_)).keep k4 (fun b e hm => ?_), q3⟩, b9, q4, q5, fun e => ?_⟩
          · rw [q4] at e; cases e
            have := hlt _ (by simpa using hm : hh.a = some b9); omega
          · rw [q4] at e; cases e
            exact q6 (by simpa using hm)
          · rw [k5] at e; cases e; omega
        · rename_i hge
          rw [List.getElem?_singleton] at hi'
          split at hi'
          · rename_i h0
            cases hi'
            have hik : i = k := by omega
            subst hik
            refine ⟨⟨hh, hkh, hhl.keep k4 (fun b e hm => ?_), hln⟩, bl, hla, by omega, fun e => ?_⟩
            · rw [hla] at e; cases e
              have := hhx.lt (by simpa using hm : hxw.a = some bl)
              omega
            · rw [k5] at e; cases e; omega
          · cases hi'
      · intro i h hi' hge
        have hq := hst i h hi' (by omega)
        refine (hq.keep hkp (fun b e hm => ?_)).keep k4 (fun b e hm => ?_)
        · have := hOws i k h hh b hi' hkh e (by simpa using hm); omega
        · have := hxb b (by simpa using hm)
          have := (hMws i h hi').lt e
          omega
  have hkl : k = ws.length := by simp at h; omega
  clear h hr h2 h3 h5 h6 hlen ek e0 hst
  subst hkl
  rename Mem => S3
  have hBbs := hBws.keep hkeep hdws
  have hMbs : Marked S3 5 mkB 0 bs := fun i h hi => (hMbs i h hi).keep hkeep (fun b e hm => hdd b hm (blks_mem hi e))
  have hhxdw := hhx
  have hdsdw := hds
  have hxbw := hxb
  have hkeep3 : KeepL (blks ws ++ blks bs) S S3 := hkeep2.trans (hkeep.mono (by simp +contextual))
  have hS23 := hkeep.1
  clear hkeep hkeep2 hhx hds hxb hBws hk
  repeat first|refine W.g ?_|refine L.p rfl rfl ?_|refine L.nil ?_|refine L.skip rfl ?_
  refine W.loop (fun j e S' => ∃ (k : Nat) (ds : List Hd) (hx : Hd), j = bs.length - k ∧ k ≤ bs.length ∧ e 0 = .pointer (some ⟨rb, 0, none⟩) ∧ e 12 = vi k ∧ e 11 = hx.v ∧ e 7 = hxw.v ∧ ds.length = k ∧ KeepL (blks bs) S3 S' ∧ HdOk S' 48 hx (ds.map Hd.v) ∧
      (∀ b, hx.a = some b → List.length S3 ≤ b) ∧ (∀ (i : Nat) (d : Hd), ds[i]? = some d → (∃ h, bs[i]? = some h ∧ HdOk S' 5 d (mkB i (h.n + 64)) ∧ d.n = h.n + 64) ∧ ∃ b, d.a = some b ∧ List.length S3 ≤ b ∧ hx.a ≠ some b) ∧
      (∀ (i : Nat) (h : Hd), bs[i]? = some h → k ≤ i → HdOk S' 5 h (mkB i h.n))) bs.length
    ⟨0, [], ⟨none, 0, 0⟩, by omega, by omega, rfl, rfl, rfl, rfl, rfl, KeepL.refl _ _, HdOk.nil _ _, nofun, fun i d hi => by simp at hi, fun i h hi _ => hMbs i h hi⟩ ?_
  rintro j e S' ⟨k, ds, hx, rfl, hk, e0, ek, ex, eo, hdl, hkeep, hhx, hxb, hds, hst⟩
  refine W.env4 e0 ek ex eo ?_
  obtain ⟨hw, hb, hr, h2, h3, h4, h5, h6⟩ := hBbs.keep hkeep hdbs
  have hlen := h3.len
  rw [List.length_map] at hlen
  repeat first|refine W.g ?_|refine L.p rfl rfl ?_|refine L.nil ?_|refine L.skip rfl ?_
  refine L.ld (cell_of hr rfl) rfl rfl rfl ?_
  repeat first|refine W.g ?_|refine L.p rfl rfl ?_|refine L.nil ?_|refine L.skip rfl ?_
  refine W.ite rfl (fun h => ?_) (fun h => ?_)
  · have hkl : k < bs.length := by simp at h; omega
    obtain ⟨hh, hkh⟩ : ∃ hh, bs[k]? = some hh := ⟨_, List.getElem?_eq_getElem hkl⟩
    have hel : (bs.map Hd.v)[k]? = some hh.v := by rw [List.getElem?_map, hkh]; rfl
    have hl0 := hst k hh hkh (Nat.le_refl _)
    have hnb : ∀ b, hh.a = some b → b ≠ rb := fun b e hm => hdbs b (blks_mem hkh e) (hm ▸ h4)
    have hnw : ∀ b, hh.a = some b → hb.a ≠ some b := fun b e hm => hdbs b (blks_mem hkh e) (h6 b hm).1
    have hlt : ∀ b, hh.a = some b → b < List.length S3 := fun b e => by
      have := hMbs k hh hkh
      exact this.lt e
    have hsm := (hAbs k hh hkh).1
    have hSl := hkeep.1
    clear h
    repeat first|refine W.g ?_|refine L.p rfl rfl ?_|refine L.nil ?_|refine L.skip rfl ?_
    refine L.ld (cell_of hr rfl) rfl rfl rfl ?_
    repeat first|refine W.g ?_|refine L.p rfl rfl ?_|refine L.nil ?_|refine L.skip rfl ?_
    refine L.el h3.slv rfl hel rfl rfl rfl rfl (fun _ => rfl) rfl (fun p => ?_)
    repeat first|refine W.g ?_|refine L.p rfl rfl ?_|refine L.nil ?_|refine L.skip rfl ?_
    refine W.loop (fun j e S'' => ∃ (i : Nat) (hl : Hd), j = 64 - i ∧ i ≤ 64 ∧ e 0 = .pointer (some ⟨rb, 0, none⟩) ∧ e 12 = vi k ∧ e 11 = hx.v ∧ e 7 = hxw.v ∧ e 13 = hl.v ∧ e 14 = vi i ∧ KeepL hh.a.toList S' S'' ∧ HdOk S'' 5 hl (mkB k (hh.n + i)) ∧ hl.n = hh.n + i ∧ ((i = 0 ∧ hl.a = hh.a) ∨ ∃ b, hl.a = some b ∧ List.length S' ≤ b)) 64
      ⟨0, hh, by omega, by omega, rfl, rfl, rfl, rfl, rfl, rfl, KeepL.refl _ _, hl0, rfl, .inl ⟨rfl, rfl⟩⟩ ?_
    rintro j e S'' ⟨i, hl, rfl, hi, e0, ek, ex, eo, el, ei, hkp, hhl, hln, hla⟩
    refine W.env6 e0 ek ex eo el ei ?_
    have hr2 := hkp.row hr (fun hm => hnb rb (by simpa using hm) rfl)
    have hx2 := h3.keep hkp (fun b e hm => hnw b (by simpa using hm) e)
    repeat first|refine W.g ?_|refine L.p rfl rfl ?_|refine L.nil ?_|refine L.skip rfl ?_
    refine W.ite rfl (fun h => ?_) (fun h => ?_)
    · have hin : i < 64 := by simp at h; omega
      repeat first|refine W.g ?_|refine L.p rfl rfl ?_|refine L.nil ?_|refine L.skip rfl ?_
      refine L.ld (cell_of hr2 rfl) rfl rfl rfl ?_
      repeat first|refine W.g ?_|refine L.p rfl rfl ?_|refine L.nil ?_|refine L.skip rfl ?_
      refine L.el hx2.slv rfl hel rfl rfl rfl rfl (fun _ => rfl) rfl (fun p => ?_)
      repeat first|refine W.g ?_|refine L.p rfl rfl ?_|refine L.nil ?_|refine L.skip rfl ?_
      refine L.cl (mark_C _ _ _) rfl rfl ?_
      rintro _ _ ⟨rfl, rfl⟩
      refine ⟨fun _ => Cons.refl _, ?_⟩
      repeat first|refine W.g ?_|refine L.p rfl rfl ?_|refine L.nil ?_|refine L.skip rfl ?_
      refine L.pushH (h := hl) rfl hhl rfl rfl rfl rfl rfl (by omega) rfl (fun _ => rfl) (fun p h' S9 k1 k2 k3 k4 => ?_)
      rw [wrap64 (by omega) (by omega)] at k1
      repeat first|refine W.g ?_|refine L.p rfl rfl ?_|refine L.nil ?_|refine L.skip rfl ?_
      obtain ⟨b', k5, k6⟩ := k3
      have hSl2 := hkp.1
      refine ⟨64 - (i + 1), by omega, i + 1, h', rfl, by omega, rfl, rfl, rfl, rfl, rfl, ?_, ?_, ?_, by omega, .inr ⟨b', k5, by omega⟩⟩
      · refine (force_eq rfl).trans ?_
        rw [wrap64 (by omega) (by omega)]; rfl
      · refine hkp.then k4 ?_
        intro r hm
        rcases hla with ⟨_, hla⟩ | ⟨b, hla, hlb⟩
        · rw [hla] at hm; exact .inl hm
        · rw [hla] at hm; simp at hm; exact .inr (by omega)
      · rw [show hh.n + (i + 1) = (hh.n + i) + 1 by omega, mkB_succ]
        (rw [u8_of_v64] at k1; exact k1)
    · have hin : i = 64 := by simp at h; omega
      subst hin
      obtain ⟨bl, hla, hlb⟩ : ∃ b, hl.a = some b ∧ List.length S' ≤ b := by
        rcases hla with ⟨h0, _⟩ | h0
        · omega
        · exact h0
      have hbl := hhl.lt hla
      have hxk : HdOk S'' 48 hx (ds.map Hd.v) := hhx.keep hkp (fun b e hm => by have := hxb b e; have := hlt b (by simpa using hm); omega)
      have hxn := hxk.len
      rw [List.length_map] at hxn
      repeat first|refine W.g ?_|refine L.p rfl rfl ?_|refine L.nil ?_|refine L.skip rfl ?_
      refine L.pushH (h := hx) rfl hxk rfl rfl rfl rfl rfl (by omega) rfl (fun _ => rfl) (fun p h' S9 k1 k2 k3 k4 => ?_)
      obtain ⟨b', k5, k6⟩ := k3
      repeat first|refine W.g ?_|refine L.p rfl rfl ?_|refine L.nil ?_|refine L.skip rfl ?_
      have hSl2 := hkp.1
      have hkS : KeepL (blks bs) S' S'' := hkp.mono fun b hm => blks_mem hkh (by simpa using hm)
      have hk4 : ∀ r ∈ hx.a.toList, r ∈ blks bs ∨ List.length S3 ≤ r := fun r hm => .inr (hxb r (by simpa using hm))
      refine ⟨bs.length - (k + 1), by omega, k + 1, ds ++ [hl], h', rfl, by omega, rfl, ?_, rfl, rfl, by simp [hdl], (hkeep.trans hkS).then k4 hk4, by rw [List.map_append]; exact k1, ?_, ?_, ?_⟩
      · refine (force_eq rfl).trans ?_
        rw [wrap64 (by omega) (by omega)]; rfl
      · intro b e; rw [k5] at e; cases e; omega
      · intro i d hi'
        rw [List.getElem?_append] at hi'
        split at hi'
        · obtain ⟨⟨h9, q1, q2, q3⟩, b9, q4, q5, q6⟩ := hds i d hi'
          have q7 := q2.lt q4
          refine ⟨⟨h9, q1, (q2.keep hkp (fun b e hm => ?_)).keep k4 (fun b e hm => ?_), q3⟩, b9, q4, q5, fun e => ?_⟩
          · rw [q4] at e; cases e
            have := hlt _ (by simpa using hm : hh.a = some b9); omega
          · rw [q4] at e; cases e
            exact q6 (by simpa using hm)
          · rw [k5] at e; cases e; omega
        · rename_i hge
          rw [List.getElem?_singleton] at hi'
          split at hi'
          · rename_i h0
            cases hi'
            have hik : i = k := by omega
            subst hik
            refine ⟨⟨hh, hkh, hhl.keep k4 (fun b e hm => ?_), hln⟩, bl, hla, by omega, fun e => ?_⟩
            · rw [hla] at e; cases e
              have := hhx.lt (by simpa using hm : hx.a = some bl)
              omega
            · rw [k5] at e; cases e; omega
          · cases hi'
      · intro i h hi' hge
        have hq := hst i h hi' (by omega)
        refine (hq.keep hkp (fun b e hm => ?_)).keep k4 (fun b e hm => ?_)
        · have := hObs i k h hh b hi' hkh e (by simpa using hm); omega
        · have := hxb b (by simpa using hm)
          have := (hMbs i h hi').lt e
          omega
  have hkl : k = bs.length := by simp at h; omega
  clear h hr h2 h3 h5 h6 hlen ek e0 hst
  subst hkl
  rename Mem => S4
  have hkeep4 : KeepL (blks ws ++ blks bs) S S4 := hkeep3.trans (hkeep.mono (by simp +contextual))
  have hblt : ∀ b ∈ blks bs, b < List.length S2 := fun b hm => by
    obtain ⟨k, d, h1, h2⟩ := blks_at hm
    exact (hMbs2 k d h1).lt h2
  have hhxdw := hhxdw.keep hkeep (fun b e hm => by have := hxbw b e; have := hblt b hm; omega)
  have hdsdw : ∀ (i : Nat) (d : Hd), dw[i]? = some d → (∃ h, ws[i]? = some h ∧ HdOk S4 39 d (mkW i (h.n + 64)) ∧ d.n = h.n + 64) ∧ True := fun i d hi => by
    obtain ⟨⟨h9, q1, q2, q3⟩, b9, q4, q5, q6⟩ := hdsdw i d hi
    exact ⟨⟨h9, q1, q2.keep hkeep (fun b e hm => by rw [q4] at e; cases e; have := hblt _ hm; omega), q3⟩, trivial⟩
  have hhxds := hhx
  have hdsds := hds
  clear hkeep hkeep3 hhx hds hxb hBbs hk hxbw
  repeat first|refine W.g ?_|refine L.p rfl rfl ?_|refine L.nil ?_|refine L.skip rfl ?_
  refine W.loop (fun j e S' => ∃ k : Nat, j = dw.length - k ∧ k ≤ dw.length ∧ S4 = S' ∧ e 7 = hxw.v ∧ e 15 = vi k ∧ e 11 = hx.v) dw.length ⟨0, by omega, by omega, rfl, rfl, rfl, rfl⟩ ?_
  rintro j e S' ⟨k, rfl, hk, rfl, ex, ek, eo⟩
  refine W.env3 ex ek eo ?_
  have hlen := hhxdw.len
  rw [List.length_map] at hlen
  repeat first|refine W.g ?_|refine L.p rfl rfl ?_|refine L.nil ?_|refine L.skip rfl ?_
  refine W.ite rfl (fun h => ?_) (fun h => ?_)
  · have hkl : k < dw.length := by simp at h; omega
    obtain ⟨dd, hkd⟩ : ∃ dd, dw[k]? = some dd := ⟨_, List.getElem?_eq_getElem hkl⟩
    have hel : (dw.map Hd.v)[k]? = some dd.v := by rw [List.getElem?_map, hkd]; rfl
    obtain ⟨⟨hh, hkh, hdok, hdn⟩, _⟩ := hdsdw k dd hkd
    rw [← hdn] at hdok
    have hsm := (hAws k hh hkh).1
    clear h
    repeat first|refine W.g ?_|refine L.p rfl rfl ?_|refine L.nil ?_|refine L.skip rfl ?_
    refine W.loop (fun j e S'' => ∃ i : Nat, j = dd.n - i ∧ i ≤ dd.n ∧ S4 = S'' ∧ e 7 = hxw.v ∧ e 15 = vi k ∧ e 11 = hx.v ∧ e 16 = vi i) dd.n ⟨0, by omega, by omega, rfl, rfl, rfl, rfl, rfl⟩ ?_
    rintro j e S'' ⟨i, rfl, hi, rfl, ex, ek, eo, ei⟩
    refine W.env4 ex ek eo ei ?_
    repeat first|refine W.g ?_|refine L.p rfl rfl ?_|refine L.nil ?_|refine L.skip rfl ?_
    refine L.el hhxdw.slv rfl hel rfl rfl rfl rfl (fun _ => rfl) rfl (fun p => ?_)
    repeat first|refine W.g ?_|refine L.p rfl rfl ?_|refine L.nil ?_|refine L.skip rfl ?_
    refine W.ite rfl (fun h => ?_) (fun h => ?_)
    · have hin : i < dd.n := by simp at h; omega
      repeat first|refine W.g ?_|refine L.p rfl rfl ?_|refine L.nil ?_|refine L.skip rfl ?_
      refine L.el hhxdw.slv rfl hel rfl rfl rfl rfl (fun _ => rfl) rfl (fun p => ?_)
      repeat first|refine W.g ?_|refine L.p rfl rfl ?_|refine L.nil ?_|refine L.skip rfl ?_
      refine L.el hdok.slv rfl (mkW_get hin) rfl rfl rfl rfl (fun _ => rfl) rfl (fun p => ?_)
      repeat first|refine W.g ?_|refine L.p rfl rfl ?_|refine L.nil ?_|refine L.skip rfl ?_
      refine L.cl (mark_C _ _ _) rfl rfl ?_
      rintro _ _ ⟨rfl, rfl⟩
      refine ⟨fun _ => Cons.refl _, ?_⟩
      repeat first|refine W.g ?_|refine L.p rfl rfl ?_|refine L.nil ?_|refine L.skip rfl ?_
      refine W.ite rfl (fun h => ?_) (fun h => ?_)
      · exfalso; (simp at h)
      · repeat first|refine W.g ?_|refine L.p rfl rfl ?_|refine L.nil ?_|refine L.skip rfl ?_
        refine ⟨dd.n - (i + 1), by omega, i + 1, rfl, by omega, rfl, rfl, rfl, rfl, ?_⟩
        refine (force_eq rfl).trans ?_
        rw [wrap64 (by omega) (by omega)]; rfl
    · repeat first|refine W.g ?_|refine L.p rfl rfl ?_|refine L.nil ?_|refine L.skip rfl ?_
      refine ⟨dw.length - (k + 1), by omega, k + 1, rfl, by omega, rfl, rfl, ?_, rfl⟩
      refine (force_eq rfl).trans ?_
      rw [wrap64 (by omega) (by omega)]; rfl
  clear h ek hlen
  repeat first|refine W.g ?_|refine L.p rfl rfl ?_|refine L.nil ?_|refine L.skip rfl ?_
  refine W.loop (fun j e S' => ∃ k : Nat, j = ds.length - k ∧ k ≤ ds.length ∧ S4 = S' ∧ e 11 = hx.v ∧ e 17 = vi k ∧ e 11 = hx.v) ds.length ⟨0, by omega, by omega, rfl, rfl, rfl, rfl⟩ ?_
  rintro j e S' ⟨k, rfl, hk, rfl, ex, ek, eo⟩
  refine W.env3 ex ek eo ?_
  have hlen := hhxds.len
  rw [List.length_map] at hlen
  repeat first|refine W.g ?_|refine L.p rfl rfl ?_|refine L.nil ?_|refine L.skip rfl ?_
  refine W.ite rfl (fun h => ?_) (fun h => ?_)
  · have hkl : k < ds.length := by simp at h; omega
    obtain ⟨dd, hkd⟩ : ∃ dd, ds[k]? = some dd := ⟨_, List.getElem?_eq_getElem hkl⟩
    have hel : (ds.map Hd.v)[k]? = some dd.v := by rw [List.getElem?_map, hkd]; rfl
    obtain ⟨⟨hh, hkh, hdok, hdn⟩, _⟩ := hdsds k dd hkd
    rw [← hdn] at hdok
    have hsm := (hAbs k hh hkh).1
    clear h
    repeat first|refine W.g ?_|refine L.p rfl rfl ?_|refine L.nil ?_|refine L.skip rfl ?_
    refine W.loop (fun j e S'' => ∃ i : Nat, j = dd.n - i ∧ i ≤ dd.n ∧ S4 = S'' ∧ e 11 = hx.v ∧ e 17 = vi k ∧ e 11 = hx.v ∧ e 18 = vi i) dd.n ⟨0, by omega, by omega, rfl, rfl, rfl, rfl, rfl⟩ ?_
    rintro j e S'' ⟨i, rfl, hi, rfl, ex, ek, eo, ei⟩
    refine W.env4 ex ek eo ei ?_
    repeat first|refine W.g ?_|refine L.p rfl rfl ?_|refine L.nil ?_|refine L.skip rfl ?_
    refine L.el hhxds.slv rfl hel rfl rfl rfl rfl (fun _ => rfl) rfl (fun p => ?_)
    repeat first|refine W.g ?_|refine L.p rfl rfl ?_|refine L.nil ?_|refine L.skip rfl ?_
    refine W.ite rfl (fun h => ?_) (fun h => ?_)
    · have hin : i < dd.n := by simp at h; omega
      repeat first|refine W.g ?_|refine L.p rfl rfl ?_|refine L.nil ?_|refine L.skip rfl ?_
      refine L.el hhxds.slv rfl hel rfl rfl rfl rfl (fun _ => rfl) rfl (fun p => ?_)
      repeat first|refine W.g ?_|refine L.p rfl rfl ?_|refine L.nil ?_|refine L.skip rfl ?_
      refine L.el hdok.slv rfl (mkB_get hin) rfl rfl rfl rfl (fun _ => rfl) rfl (fun p => ?_)
      repeat first|refine W.g ?_|refine L.p rfl rfl ?_|refine L.nil ?_|refine L.skip rfl ?_
      refine L.cl (mark_C _ _ _) rfl rfl ?_
      rintro _ _ ⟨rfl, rfl⟩
      refine ⟨fun _ => Cons.refl _, ?_⟩
      repeat first|refine W.g ?_|refine L.p rfl rfl ?_|refine L.nil ?_|refine L.skip rfl ?_
      refine W.ite rfl (fun h => ?_) (fun h => ?_)
      · exfalso; (rw [u8_of_v64] at h; simp at h)
      · repeat first|refine W.g ?_|refine L.p rfl rfl ?_|refine L.nil ?_|refine L.skip rfl ?_
        refine ⟨dd.n - (i + 1), by omega, i + 1, rfl, by omega, rfl, rfl, rfl, rfl, ?_⟩
        refine (force_eq rfl).trans ?_
        rw [wrap64 (by omega) (by omega)]; rfl
    · repeat first|refine W.g ?_|refine L.p rfl rfl ?_|refine L.nil ?_|refine L.skip rfl ?_
      refine ⟨ds.length - (k + 1), by omega, k + 1, rfl, by omega, rfl, rfl, ?_, rfl⟩
      refine (force_eq rfl).trans ?_
      rw [wrap64 (by omega) (by omega)]; rfl
  clear h ek hlen
  repeat first|refine W.g ?_|refine L.p rfl rfl ?_|refine L.nil ?_|refine L.skip rfl ?_
  exact ⟨.inr rfl, _, rfl, rfl, hkeep4⟩
end Go.Proofs.YtlnlcddbllcehaaDoor

/- The book from its making to its answer. Conditions: none. -/
set_option linter.unusedSimpArgs false
set_option linter.unusedVariables false
set_option maxRecDepth 100000
namespace Go.Proofs.YtlnlcddbllcehaaDoor
open Go
variable {G : Nat} {Ext : FuncId → List Value → Mem → Outc → Mem → Prop}

/-- a book made after M0, with these lists; nothing of M0 has changed -/
def BK (M0 S : Mem) (rb : Nat) (ws bs : List Hd) : Prop := Cons M0 S ∧ ∃ ps, Book S rb ws bs ps ∧ ∀ r ∈ ps, M0.length ≤ r
theorem BK.new (M0 : Mem) : BK M0 (M0 ++ [newR [.slice none 0 0, .slice none 0 0] 31]) M0.length [] [] :=
  ⟨Cons.push _ _, _, Book.new M0, fun r hm => by simp at hm; omega⟩
theorem BK.step {M0 S S' : Mem} {rb : Nat} {ws' bs' : List Hd} {ps ps' : List Nat} (hc : Cons M0 S) (hp : ∀ r ∈ ps, M0.length ≤ r) (q1 : Book S' rb ws' bs' ps') (q2 : Sub2 S ps ps') (q3 : KeepL ps S S') : BK M0 S' rb ws' bs' :=
  ⟨q3.cons0 hc hp, ps', q1, fun r hm => (q2 r hm).elim (hp r) (fun h => Nat.le_trans hc.len h)⟩
theorem Alive.nil (S : Mem) (el : TypeId) : Alive S el [] := fun i h hi => by simp at hi
theorem Alive.add {S : Mem} {el : TypeId} {d : Hd} {ds : List Hd} {l : List Value} (h : HdOk S el d l) (hn : l.length ≤ 1000000000000) (t : Alive S el ds) : Alive S el (d :: ds) := fun i x hi => by
  cases i with
  | zero => cases hi; exact ⟨by have := h.len; omega, l, h⟩
  | succ i => exact t i x hi
theorem Own.nil : Own [] := fun i j h d b hi => by simp at hi
theorem Own.add {d : Hd} {ds : List Hd} (h : ∀ b, d.a = some b → b ∉ blks ds) (t : Own ds) : Own (d :: ds) := fun i j x y b hi hj ex ey => by
  cases i with
  | zero =>
    cases hi
    cases j with
    | zero => rfl
    | succ j => exact absurd (blks_mem (k := j) hj ey) (h b ex)
  | succ i =>
    cases j with
    | zero => cases hj; exact absurd (blks_mem (k := i) hi ex) (h b ey)
    | succ j => exact congrArg (· + 1) (t i j x y b hi hj ex ey)
theorem blks_nil : blks [] = [] := rfl
theorem Alive.lt {S : Mem} {el : TypeId} {hs : List Hd} (h : Alive S el hs) {b : Nat} (hb : b ∈ blks hs) : b < S.length := by
  obtain ⟨k, d, h1, h2⟩ := blks_at hb
  obtain ⟨_, l, h3⟩ := h k d h1
  exact h3.lt h2
end Go.Proofs.YtlnlcddbllcehaaDoor

/- A book of words made after M0, with lists on their way to it. Conditions: none. -/
set_option linter.unusedSimpArgs false
set_option linter.unusedVariables false
set_option maxRecDepth 100000
namespace Go.Proofs.YtlnlcddbllcehaaDoor
open Go
variable {G : Nat} {Ext : FuncId → List Value → Mem → Outc → Mem → Prop}
def BkP (M0 T : Mem) (rb : Nat) (ws ds : List Hd) : Prop := Cons M0 T ∧ ∃ ps, Book T rb ws [] ps ∧ (∀ r ∈ ps, M0.length ≤ r ∧ r < T.length) ∧ Alive T 39 (ws ++ ds) ∧ Own (ws ++ ds) ∧ ∀ b ∈ blks (ws ++ ds), M0.length ≤ b ∧ b ∉ ps
theorem BkP.new (M0 : Mem) : BkP M0 (M0 ++ [newR [.slice none 0 0, .slice none 0 0] 31]) M0.length [] [] :=
  ⟨Cons.push _ _, [M0.length], Book.new M0, fun r hm => by simp at hm; simp; omega, .nil _ _, .nil, fun b hb => by simp [blks] at hb⟩
theorem BkP.cons {M0 T T' : Mem} {rb : Nat} {ws ds : List Hd} (h : BkP M0 T rb ws ds) (k : Cons T T') : BkP M0 T' rb ws ds := by
  obtain ⟨hc, ps, hB, hp, hA, hO, hD⟩ := h
  exact ⟨hc.trans k, ps, hB.cons k, fun r hm => ⟨(hp r hm).1, Nat.lt_of_lt_of_le (hp r hm).2 k.len⟩, hA.keep (k.keepL []) (by simp), hO, hD⟩
theorem mem_blks' {ds : List Hd} {d : Hd} {b : Nat} : b ∈ blks (ds ++ [d]) ↔ b ∈ blks ds ∨ d.a = some b := by
  unfold blks
  rw [List.filterMap_append, List.mem_append]
  refine or_congr_right ?_
  cases h : d.a with
  | none => simp [h]
  | some x => simp [h, eq_comm]
theorem BkP.add {M0 T T' : Mem} {rb : Nat} {ws ds : List Hd} {d : Hd} {l : WL} (h : BkP M0 T rb ws ds) (r : RetW T T' d l) (hl : l.length ≤ 1000000000000) : BkP M0 T' rb ws (ds ++ [d]) := by
  have h' := h.cons r.1
  obtain ⟨hc, ps, hB, hp, hA, hO, hD⟩ := h
  obtain ⟨_, ps', hB', hp', hA', _, _⟩ := h'
  have hlt : ∀ b ∈ blks (ws ++ ds), b < T.length := fun b hb => hA.lt hb
  have hn : d.n = l.length := by have := r.2.2.1.len; rw [wv_len] at this; omega
  refine ⟨hc.trans r.1, ps, hB.cons r.1, fun q hm => ⟨(hp q hm).1, Nat.lt_of_lt_of_le (hp q hm).2 r.1.len⟩, ?_, ?_, ?_⟩
  · intro i x hi
    rw [← List.append_assoc, List.getElem?_append] at hi
    split at hi
    · exact hA' i x hi
    · rw [List.getElem?_singleton] at hi
      split at hi
      · cases hi
        exact ⟨by omega, _, r.2.2.1⟩
      · cases hi
  · rw [← List.append_assoc]
    intro i j x y b hi hj ex ey
    rw [List.getElem?_append] at hi hj
    split at hi <;> split at hj
    · exact hO i j x y b hi hj ex ey
    · rw [List.getElem?_singleton] at hj
      split at hj
      · cases hj
        have h1 := hlt b (blks_mem hi ex)
        have h2 := r.2.2.2 b ey
        omega
      · cases hj
    · rw [List.getElem?_singleton] at hi
      split at hi
      · cases hi
        have h1 := hlt b (blks_mem hj ey)
        have h2 := r.2.2.2 b ex
        omega
      · cases hi
    · rw [List.getElem?_singleton] at hi hj
      split at hi
      · split at hj
        · omega
        · cases hj
      · cases hi
  · intro b hb
    rw [← List.append_assoc] at hb
    rcases mem_blks'.1 hb with hb | hb
    · exact hD b hb
    · have h2 := r.2.2.2 b hb
      exact ⟨Nat.le_trans hc.len h2, fun hm => by have := (hp b hm).2; omega⟩
/-- two lists made at once -/
theorem BkP.add2 {M0 T T' : Mem} {rb : Nat} {ws ds : List Hd} {d d' : Hd} {l l' : WL} (h : BkP M0 T rb ws ds) (r : RetW T T' d l) (r' : RetW T T' d' l') (hap : ∀ x y, d.a = some x → d'.a = some y → x ≠ y) (hl : l.length ≤ 1000000000000) (hl' : l'.length ≤ 1000000000000) : BkP M0 T' rb ws (ds ++ [d, d']) := by
  have h1 := h.add r hl
  have h2 := h.add r' hl'
  obtain ⟨hc, ps, hB, hp, hA, hO, hD⟩ := h
  obtain ⟨hc1, ps1, hB1, hp1, hA1, hO1, hD1⟩ := h1
  obtain ⟨hc2, ps2, hB2, hp2, hA2, hO2, hD2⟩ := h2
  have hlt : ∀ b ∈ blks (ws ++ ds), b < T.length := fun b hb => hA.lt hb
  have e : ws ++ (ds ++ [d, d']) = (ws ++ (ds ++ [d])) ++ [d'] := by simp
  have hn : d'.n = l'.length := by have := r'.2.2.1.len; rw [wv_len] at this; omega
  refine ⟨hc1, ps, hB.cons r.1, fun q hm => ⟨(hp q hm).1, Nat.lt_of_lt_of_le (hp q hm).2 r.1.len⟩, ?_, ?_, ?_⟩
  · rw [e]
    intro i x hi
    rw [List.getElem?_append] at hi
    split at hi
    · exact hA1 i x hi
    · rw [List.getElem?_singleton] at hi
      split at hi
      · cases hi
        exact ⟨by omega, _, r'.2.2.1⟩
      · cases hi
  · rw [e]
    have key : ∀ b, b ∈ blks (ws ++ (ds ++ [d])) → d'.a ≠ some b := fun b hb he => by
      rw [← List.append_assoc] at hb
      rcases mem_blks'.1 hb with hb | hb
      · have h1 := hlt b hb
        have h2 := r'.2.2.2 b he
        omega
      · exact hap b b hb he rfl
    intro i j x y b hi hj ex ey
    rw [List.getElem?_append] at hi hj
    split at hi <;> split at hj
    · exact hO1 i j x y b hi hj ex ey
    · rw [List.getElem?_singleton] at hj
      split at hj
      · cases hj
        exact absurd ey (key b (blks_mem hi ex))
      · cases hj
    · rw [List.getElem?_singleton] at hi
      split at hi
      · cases hi
        exact absurd ex (key b (blks_mem hj ey))
      · cases hi
    · rw [List.getElem?_singleton] at hi hj
      split at hi
      · split at hj
        · omega
        · cases hj
      · cases hi
  · intro b hb
    rw [e] at hb
    have hnew : T.length ≤ b → M0.length ≤ b ∧ b ∉ ps := fun h2 => ⟨Nat.le_trans hc.len h2, fun hm => by have := (hp b hm).2; omega⟩
    rcases mem_blks'.1 hb with hb | hb
    · rw [← List.append_assoc] at hb
      rcases mem_blks'.1 hb with hb | hb
      · exact hD b hb
      · exact hnew (r.2.2.2 b hb)
    · exact hnew (r'.2.2.2 b hb)
/-- a book's own rows, those that are there -/
theorem Book.trim {S : Mem} {rb : Nat} {ws bs : List Hd} {ps : List Nat} (h : Book S rb ws bs ps) : Book S rb ws bs (ps.filter (· < S.length)) := by
  obtain ⟨hw, hb, h1, h2, h3, h4, h5, h6⟩ := h
  refine ⟨hw, hb, h1, h2, h3, List.mem_filter.2 ⟨h4, decide_eq_true (row_lt h1)⟩, fun b e => ⟨List.mem_filter.2 ⟨(h5 b e).1, decide_eq_true (h2.lt e)⟩, (h5 b e).2⟩, fun b e => ⟨List.mem_filter.2 ⟨(h6 b e).1, decide_eq_true (h3.lt e)⟩, (h6 b e).2⟩⟩
theorem words_BkP {M0 T : Mem} {rb : Nat} {ws ds : List Hd} {d : Hd} (hK : BkP M0 T rb ws (d :: ds)) (hn : ws.length < 1000000) : C Tryd.prog G Ext 14 [.pointer (some ⟨rb, 0, none⟩), d.v] T fun v T' => BkP M0 T' rb (ws ++ [d]) ds := by
  obtain ⟨hc, ps, hB, hp, hA, hO, hD⟩ := hK
  obtain ⟨v, S', h1, ps', q1, q2, q3⟩ := words_C (G := G) (Ext := Ext) T d rb ws [] ps hB hn
  have e : (ws ++ [d]) ++ ds = ws ++ d :: ds := by simp
  refine ⟨v, S', h1, q3.cons0 hc (fun r hm => (hp r hm).1), _, q1.trim, fun r hm => ?_, ?_, by rw [e]; exact hO, ?_⟩
  · obtain ⟨m1, m2⟩ := List.mem_filter.1 hm
    exact ⟨(q2 r m1).elim (fun h => (hp r h).1) (fun h => Nat.le_trans hc.len h), of_decide_eq_true m2⟩
  · rw [e]
    exact hA.keep q3 (fun b hb hm => (hD b hm).2 hb)
  · rw [e]
    intro b hb
    refine ⟨(hD b hb).1, fun hm => ?_⟩
    obtain ⟨m1, m2⟩ := List.mem_filter.1 hm
    rcases q2 b m1 with h | h
    · exact (hD b hb).2 h
    · have := hA.lt hb; omega
theorem apart_BkP {M0 T : Mem} {rb : Nat} {ws : List Hd} (hK : BkP M0 T rb ws []) (hn : ws.length < 1000000) : C Tryd.prog G Ext 15 [.pointer (some ⟨rb, 0, none⟩)] T fun v T' => v = .bool true ∧ Cons M0 T' := by
  obtain ⟨hc, ps, hB, hp, hA, hO, hD⟩ := hK
  rw [List.append_nil] at hA hO hD
  obtain ⟨v, S', h1, h2, h3⟩ := apart_C (G := G) (Ext := Ext) T rb ws [] ps hB ⟨hn, by decide⟩ hA (.nil _ _) hO .nil (fun b hb => (hD b hb).2) (by simp [blks]) (by simp [blks])
  refine ⟨v, S', h1, h2, h3.cons0 hc (fun b hm => ?_)⟩
  rw [blks_nil, List.append_nil] at hm
  exact (hD b hm).1
end Go.Proofs.YtlnlcddbllcehaaDoor

/- Lists of words made after M0, ahead of the book that they are put into. Conditions: none. -/
set_option linter.unusedSimpArgs false
set_option linter.unusedVariables false
set_option maxRecDepth 100000
namespace Go.Proofs.YtlnlcddbllcehaaDoor
open Go
def PK (M0 T : Mem) (ds : List Hd) : Prop := Cons M0 T ∧ Alive T 39 ds ∧ Own ds ∧ ∀ b ∈ blks ds, M0.length ≤ b
theorem PK.nil (M0 : Mem) : PK M0 M0 [] := ⟨Cons.refl _, .nil _ _, .nil, fun b hb => by simp [blks] at hb⟩
theorem PK.cons {M0 T T' : Mem} {ds : List Hd} (h : PK M0 T ds) (k : Cons T T') : PK M0 T' ds := by
  obtain ⟨hc, hA, hO, hD⟩ := h
  exact ⟨hc.trans k, hA.keep (k.keepL []) (by simp), hO, hD⟩
theorem PK.add {M0 T T' : Mem} {ds : List Hd} {d : Hd} {l : WL} (h : PK M0 T ds) (r : RetW T T' d l) (hl : l.length ≤ 1000000000000) : PK M0 T' (ds ++ [d]) := by
  have h' := h.cons r.1
  obtain ⟨hc, hA, hO, hD⟩ := h
  obtain ⟨_, hA', _, _⟩ := h'
  have hlt : ∀ b ∈ blks ds, b < T.length := fun b hb => hA.lt hb
  have hn : d.n = l.length := by have := r.2.2.1.len; rw [wv_len] at this; omega
  refine ⟨hc.trans r.1, ?_, ?_, ?_⟩
  · intro i x hi
    rw [List.getElem?_append] at hi
    split at hi
    · exact hA' i x hi
    · rw [List.getElem?_singleton] at hi
      split at hi
      · cases hi
        exact ⟨by omega, _, r.2.2.1⟩
      · cases hi
  · intro i j x y b hi hj ex ey
    rw [List.getElem?_append] at hi hj
    split at hi <;> split at hj
    · exact hO i j x y b hi hj ex ey
    · rw [List.getElem?_singleton] at hj
      split at hj
      · cases hj
        have h1 := hlt b (blks_mem hi ex)
        have h2 := r.2.2.2 b ey
        omega
      · cases hj
    · rw [List.getElem?_singleton] at hi
      split at hi
      · cases hi
        have h1 := hlt b (blks_mem hj ey)
        have h2 := r.2.2.2 b ex
        omega
      · cases hi
    · rw [List.getElem?_singleton] at hi hj
      split at hi
      · split at hj
        · omega
        · cases hj
      · cases hi
  · intro b hb
    rcases mem_blks'.1 hb with hb | hb
    · exact hD b hb
    · exact Nat.le_trans hc.len (r.2.2.2 b hb)
theorem PK.book {M0 T : Mem} {ds : List Hd} (h : PK M0 T ds) : BkP M0 (T ++ [newR [.slice none 0 0, .slice none 0 0] 31]) T.length [] ds := by
  obtain ⟨hc, hA, hO, hD⟩ := h
  have k : Cons T (T ++ [newR [.slice none 0 0, .slice none 0 0] 31]) := Cons.push _ _
  refine ⟨hc.trans k, [T.length], Book.new T, fun r hm => ?_, by rw [List.nil_append]; exact hA.keep (k.keepL []) (by simp), by rw [List.nil_append]; exact hO, fun b hb => ?_⟩
  · simp at hm
    subst hm
    exact ⟨hc.len, by simp⟩
  · rw [List.nil_append] at hb
    refine ⟨hD b hb, fun hm => ?_⟩
    have := hA.lt hb
    simp at hm
    omega
end Go.Proofs.YtlnlcddbllcehaaDoor

/- Answers of the calls, and the statements' same. Conditions: none. -/
set_option linter.unusedSimpArgs false
set_option linter.unusedVariables false
set_option maxRecDepth 100000
set_option maxHeartbeats 4000000
set_option exponentiation.threshold 20000
namespace Go.Proofs.YtlnlcddbllcehaaDoor
open Go Ie
variable {Ext : FuncId → List Value → Mem → Outc → Mem → Prop}
/-! ### lengths -/
theorem toldL_len (l : WL) : (toldL l).length ≤ 128 := by
  unfold toldL
  split
  · rename_i h; exact of_decide_eq_true h
  · exact Nat.zero_le _
theorem addL_len (l m : WL) : (addL l m).length ≤ 128 := by
  unfold addL
  split
  · exact toldL_len _
  · exact Nat.zero_le _
theorem mulL_len (l m : WL) : (mulL l m).length ≤ 128 := by
  unfold mulL
  split
  · exact toldL_len _
  · exact Nat.zero_le _
theorem subL_len (l m : WL) : (subL l m).length ≤ 128 := by
  unfold subL
  split
  · split
    · exact Nat.zero_le _
    · exact toldL_len _
  · exact Nat.zero_le _
theorem toW_le {N : Nat} (h : N < 2 ^ 8192) : (toW N).length ≤ 128 := (toW_len N 128).2 h
theorem divQ_len (l m : WL) : (divQ l m).length ≤ 128 := by
  unfold divQ
  split
  · rename_i h
    rw [Bool.and_eq_true, small_num, small_num] at h
    have h1 := of_decide_eq_true h.1
    split
    · exact Nat.zero_le _
    · exact toW_le (Nat.lt_of_le_of_lt (Nat.div_le_self _ _) h1)
  · exact Nat.zero_le _
theorem divM_len (l m : WL) : (divM l m).length ≤ 128 := by
  unfold divM
  split
  · rename_i h
    rw [Bool.and_eq_true, small_num, small_num] at h
    have h1 := of_decide_eq_true h.1
    split
    · exact Nat.zero_le _
    · exact toW_le (Nat.lt_of_le_of_lt (Nat.mod_le _ _) h1)
  · exact Nat.zero_le _
theorem gcdL_len (l m : WL) : (gcdL l m).length ≤ 128 := by
  unfold gcdL
  split
  · rename_i h
    rw [Bool.and_eq_true] at h
    have h1 := gcd_small h.1 h.2
    rw [small_num, wnum_toW] at h1
    exact toW_le (of_decide_eq_true h1)
  · exact Nat.zero_le _
/-! ### the same answer twice -/
theorem sameE_C (a1 a2 : Option Addr) (c1 c2 : Nat) (l : WL) (E : Int) (S : Mem) (h1 : WIn S a1 c1 l) (h2 : WIn S a2 c2 l) :
    C Tryd.prog gN Ext 13 [.slice a1 l.length c1, .int .i64 E, .slice a2 l.length c2, .int .i64 E] S fun v S' => v = .bool true ∧ S' = S := by
  refine C.fn Tryd.func13 rfl (by kernel_rfl) rfl ?_
  have hE : (E == E) = true := beq_self_eq_true E
  repeat first|refine W.g ?_|refine L.p rfl rfl ?_|refine L.nil ?_|refine L.skip rfl ?_
  rw [hE]
  repeat first|refine W.g ?_|refine L.p rfl rfl ?_|refine L.nil ?_|refine L.skip rfl ?_
  refine L.cl (sameW_C _ _ l l l.length l.length S h1.1 h2.1 h1.2.2.2 h1.2.2.2) rfl rfl ?_
  rintro _ M ⟨rfl, hM⟩
  have hM := hM.symm
  subst hM
  refine ⟨fun _ => Cons.refl _, ?_⟩
  rw [beq_self_eq_true (l : WL)]
  repeat first|refine W.g ?_|refine L.p rfl rfl ?_|refine L.nil ?_|refine L.skip rfl ?_
  exact ⟨.inr rfl, _, rfl, rfl, rfl⟩
theorem lent_win {S : Mem} {b : Nat} {l : WL} (h : S.row? b = some (grownR (wv (l ++ marksW 16)) 39 1)) (hl : l.length < 4294967296) : WIn S (some ⟨b, 0, none⟩) (UNK + (l.length + 16)) l := by
  refine ⟨?_, by rw [knownCap_unk]; omega, nofun, by omega⟩
  have := Slv.of (sz := 1) (n := l.length) (o := 0) (c := UNK + (l.length + 16)) h (by simp [grownR, wv]) (.inl rfl)
  rwa [List.drop_zero, show ((grownR (wv (l ++ marksW 16)) 39 1).cells.take (l.length * 1)) = wv l by simp [grownR, wv]] at this
end Go.Proofs.YtlnlcddbllcehaaDoor
