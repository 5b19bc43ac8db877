/- The proof of the statement NatCommon. Conditions: none. -/
import Derived.Test.YtbdnkneedengcaaDoorLibG
import Derived.Test.YtbdnkneedengcaaDoorRows
import Derived.Test.YtbdnkneedengcaaDoorTie
import Derived.Test.YtbdnkneedengcaaDoorCards
import Derived.SevenTiedAt
import Derived.WalkKit
import Derived.ProofKit
import Derived.OpenShut
import Derived.ShutString
import Derived.ChangeOld
import Derived.Below

/- The law of common divisors of multiples, walked. Conditions: the tables lie in memory. -/
set_option linter.unusedSimpArgs false
set_option linter.unusedVariables false
set_option maxRecDepth 100000
set_option maxHeartbeats 4000000
set_option exponentiation.threshold 20000
namespace Go.Proofs.YtbdnkneedengcaaDoor
open Go Ie
variable {Ext : FuncId → List Value → Mem → Outc → Mem → Prop}
theorem natCommon_C (a0 a1 a2 : Option Addr) (c0 c1 c2 : Nat) (l0 l1 l2 : WL) (S : Mem) (h0 : Slv S 1 (.slice a0 l0.length c0) l0.length (wv l0)) (h1 : Slv S 1 (.slice a1 l1.length c1) l1.length (wv l1)) (h2 : Slv S 1 (.slice a2 l2.length c2) l2.length (wv l2))
    (n0 : l0.length < UNK) (n1 : l1.length < UNK) (n2 : l2.length < UNK) (hS : SinOk S) (hP : PowOk S) (hG : gN ≤ S.length) :
    C Tryd.prog gN Ext 3 [.slice a0 l0.length c0, .slice a1 l1.length c1, .slice a2 l2.length c2] S fun v S' => v = .bool true ∧ Cons S S' := by
  refine C.fn Tryd.func3 rfl (by kernel_rfl) rfl ?_
  repeat (first | refine W.seq ?_ | refine W.block ?_ | refine W.reg ?_ | refine W.skip ?_ | refine W.exit ?_ | refine W.ret ?_ | refine L.nil ?_ | refine L.p rfl rfl ?_ | refine L.skip rfl ?_)
  refine L.cl (some_C a0 c0 12 l0 S h0 n0 (by decide)) rfl rfl ?_
  rintro _ S1 ⟨k1, x0, d0, rfl, i0⟩
  refine ⟨fun _ => k1, ?_⟩
  repeat (first | refine W.seq ?_ | refine W.block ?_ | refine W.reg ?_ | refine W.skip ?_ | refine W.exit ?_ | refine W.ret ?_ | refine L.nil ?_ | refine L.p rfl rfl ?_ | refine L.skip rfl ?_)
  refine L.cl (some_C a1 c1 12 l1 S1 (h1.cons k1) n1 (by decide)) rfl rfl ?_
  rintro _ S2 ⟨k2, x1, d1, rfl, i1⟩
  refine ⟨fun _ => k2, ?_⟩
  have k2' := k1.trans k2
  repeat (first | refine W.seq ?_ | refine W.block ?_ | refine W.reg ?_ | refine W.skip ?_ | refine W.exit ?_ | refine W.ret ?_ | refine L.nil ?_ | refine L.p rfl rfl ?_ | refine L.skip rfl ?_)
  refine L.cl (some_C a2 c2 12 l2 S2 (h2.cons k2') n2 (by decide)) rfl rfl ?_
  rintro _ S3 ⟨k3, x2, d2, rfl, i2⟩
  refine ⟨fun _ => k3, ?_⟩
  have k3' := k2'.trans k3
  have j0 := (i0.cons k2).cons k3
  have j1 := i1.cons k3
  have b0 := num_len (l := l0.take 12) (k := 12) (by rw [List.length_take]; omega)
  have b1 := num_len (l := l1.take 12) (k := 12) (by rw [List.length_take]; omega)
  have b2 := num_len (l := l2.take 12) (k := 12) (by rw [List.length_take]; omega)
  clear i0 i1 k1 k2 k3 k2' h0 h1 h2 n0 n1 n2
  generalize l0.take 12 = A at *
  generalize l1.take 12 = B at *
  generalize l2.take 12 = D at *
  have hbig : (2 : Nat) ^ (64 * 12) * 2 ^ (64 * 12) ≤ 2 ^ 8192 := by rw [← Nat.pow_add]; exact Nat.pow_le_pow_right (by decide) (by decide)
  have hpos := Nat.two_pow_pos (64 * 12)
  have hbig1 : (2 : Nat) ^ (64 * 12) ≤ 2 ^ 8192 := Nat.pow_le_pow_right (by decide) (by decide)
  have hAD : wnum A * wnum D < 2 ^ (64 * 12) * 2 ^ (64 * 12) := Nat.mul_lt_mul'' b0 b2
  have hBD : wnum B * wnum D < 2 ^ (64 * 12) * 2 ^ (64 * 12) := Nat.mul_lt_mul'' b1 b2
  have hgc : Nat.gcd (wnum A) (wnum B) < 2 ^ (64 * 12) := by
    rcases Nat.eq_zero_or_pos (wnum B) with h | h
    · rw [h, Nat.gcd_zero_right]; exact b0
    · exact Nat.lt_of_le_of_lt (Nat.gcd_le_right _ h) b1
  have hGD : Nat.gcd (wnum A) (wnum B) * wnum D < 2 ^ (64 * 12) * 2 ^ (64 * 12) := Nat.mul_lt_mul'' hgc b2
  have g1 := gcd_num (l1 := A) (l2 := B) (by omega) (by omega)
  have m1 := mul_num (l1 := A) (l2 := D) (by omega) (by omega) (by omega)
  have m2 := mul_num (l1 := B) (l2 := D) (by omega) (by omega) (by omega)
  have g2 := gcd_num (l1 := toW (wnum A * wnum D)) (l2 := toW (wnum B * wnum D)) (by rw [wnum_toW]; omega) (by rw [wnum_toW]; omega)
  rw [wnum_toW, wnum_toW, Nat.gcd_mul_right] at g2
  have m3 := mul_num (l1 := toW (Nat.gcd (wnum A) (wnum B))) (l2 := D) (by rw [wnum_toW]; omega) (by omega) (by rw [wnum_toW]; omega)
  rw [wnum_toW] at m3
  have hlen : (toW (Nat.gcd (wnum A) (wnum B) * wnum D)).length ≤ 128 := (toW_len _ 128).2 (show _ < 2 ^ 8192 by omega)
  repeat (first | refine W.seq ?_ | refine W.block ?_ | refine W.reg ?_ | refine W.skip ?_ | refine W.exit ?_ | refine W.ret ?_ | refine L.nil ?_ | refine L.p rfl rfl ?_ | refine L.skip rfl ?_)
  refine L.cl (natGcd_C x0 x1 d0 d1 A B S3 j0 j1) rfl rfl ?_
  rintro _ S4 ⟨e1, rfl, r1⟩
  refine ⟨fun _ => r1.1, ?_⟩
  rw [r1.val]
  rw [g1.2]
  rw [g1.1] at r1 ⊢
  have k4 := k3'.trans r1.1
  repeat (first | refine W.seq ?_ | refine W.block ?_ | refine W.reg ?_ | refine W.skip ?_ | refine W.exit ?_ | refine W.ret ?_ | refine L.nil ?_ | refine L.p rfl rfl ?_ | refine L.skip rfl ?_)
  refine L.cl (product_C x0 x2 d0 d2 A D S4 (j0.cons r1.1) (i2.cons r1.1) (hS.cons k4) (Nat.le_trans hG k4.len)) rfl rfl ?_
  rintro _ S5 ⟨k5, x5, d5, rfl, i5⟩
  refine ⟨fun _ => k5, ?_⟩
  rw [m1.1] at i5 ⊢
  have k5' := k4.trans k5
  repeat (first | refine W.seq ?_ | refine W.block ?_ | refine W.reg ?_ | refine W.skip ?_ | refine W.exit ?_ | refine W.ret ?_ | refine L.nil ?_ | refine L.p rfl rfl ?_ | refine L.skip rfl ?_)
  refine L.cl (product_C x1 x2 d1 d2 B D S5 ((j1.cons r1.1).cons k5) ((i2.cons r1.1).cons k5) (hS.cons k5') (Nat.le_trans hG k5'.len)) rfl rfl ?_
  rintro _ S6 ⟨k6, x6, d6, rfl, i6⟩
  refine ⟨fun _ => k6, ?_⟩
  rw [m2.1] at i6 ⊢
  have k6' := k5'.trans k6
  repeat (first | refine W.seq ?_ | refine W.block ?_ | refine W.reg ?_ | refine W.skip ?_ | refine W.exit ?_ | refine W.ret ?_ | refine L.nil ?_ | refine L.p rfl rfl ?_ | refine L.skip rfl ?_)
  refine L.cl (natGcd_C x5 x6 d5 d6 _ _ S6 (i5.cons k6) i6) rfl rfl ?_
  rintro _ S7 ⟨e2, rfl, r2⟩
  refine ⟨fun _ => r2.1, ?_⟩
  rw [r2.val]
  rw [g2.2]
  rw [g2.1] at r2 ⊢
  have k7 := k6'.trans r2.1
  have k47 := (k5.trans k6).trans r2.1
  repeat (first | refine W.seq ?_ | refine W.block ?_ | refine W.reg ?_ | refine W.skip ?_ | refine W.exit ?_ | refine W.ret ?_ | refine L.nil ?_ | refine L.p rfl rfl ?_ | refine L.skip rfl ?_)
  refine L.cl (product_C e1.ad x2 e1.c d2 _ D S7 (r1.win.cons k47) ((i2.cons r1.1).cons k47) (hS.cons k7) (Nat.le_trans hG k7.len)) rfl rfl ?_
  rintro _ S8 ⟨k8, x8, d8, rfl, i8⟩
  refine ⟨fun _ => k8, ?_⟩
  rw [m3.1] at i8 ⊢
  have k8' := k7.trans k8
  repeat (first | refine W.seq ?_ | refine W.block ?_ | refine W.reg ?_ | refine W.skip ?_ | refine W.exit ?_ | refine W.ret ?_ | refine L.nil ?_ | refine L.p rfl rfl ?_ | refine L.skip rfl ?_)
  refine L.cl (sameW_C _ _ (toW (Nat.gcd (wnum A) (wnum B) * wnum D)) (toW (Nat.gcd (wnum A) (wnum B) * wnum D)) ((toW (Nat.gcd (wnum A) (wnum B) * wnum D)) : WL).length ((toW (Nat.gcd (wnum A) (wnum B) * wnum D)) : WL).length S8 i8.1 (r2.win.cons k8).1 (by omega) (by omega)) rfl rfl ?_
  rintro _ M ⟨rfl, hM⟩
  have hM := hM.symm
  subst hM
  refine ⟨nofun, ?_⟩
  rw [beq_self_eq_true ((toW (Nat.gcd (wnum A) (wnum B) * wnum D)) : WL)]
  repeat (first | refine W.seq ?_ | refine W.block ?_ | refine W.reg ?_ | refine W.skip ?_ | refine W.exit ?_ | refine W.ret ?_ | refine L.nil ?_ | refine L.p rfl rfl ?_ | refine L.skip rfl ?_)
  refine L.cl (works_C S8 (hS.cons k8') (hP.cons k8') (Nat.le_trans hG k8'.len)) rfl rfl ?_
  rintro _ S9 ⟨rfl, k9⟩
  refine ⟨fun _ => k9, ?_⟩
  repeat (first | refine W.seq ?_ | refine W.block ?_ | refine W.reg ?_ | refine W.skip ?_ | refine W.exit ?_ | refine W.ret ?_ | refine L.nil ?_ | refine L.p rfl rfl ?_ | refine L.skip rfl ?_)
  exact ⟨.inr rfl, _, rfl, rfl, k8'.trans k9⟩
end Go.Proofs.YtbdnkneedengcaaDoor

/- The proof of the statement NatCommon. Conditions: none. -/
namespace Go.Proofs.YtbdnkneedengcaaDoor.natCommon
open Go.ChangeShapes Go.WideShapes Go.ChangeAt Go.RowKit
open Go.ChangeMaps (open_string shut_string)
set_option linter.unusedVariables false

theorem own : ownKnob Tryd.prog.godebug = none := by kernel_rfl
theorem laidOut : laidOutB Tryd.prog = true := by kernel_rfl

theorem walk (a0 : Option Addr) (len0 cap0 : Nat) (z0 : List Int) (a1 : Option Addr) (len1 cap1 : Nat) (z1 : List Int) (a2 : Option Addr) (len2 cap2 : Nat) (z2 : List Int) (w : World) (hG : gN ≤ w.heap.size) (hR : ∀ N, SinOk (mem0 w N) ∧ PowOk (mem0 w N)) (w0 : IsRow .u64 w a0 len0 cap0 z0) (hb0 : ∀ x, a0 = some x → x.block < w.heap.size) (w1 : IsRow .u64 w a1 len1 cap1 z1) (hb1 : ∀ x, a1 = some x → x.block < w.heap.size) (w2 : IsRow .u64 w a2 len2 cap2 z2) (hb2 : ∀ x, a2 = some x → x.block < w.heap.size) :
    Calls Tryd.prog 3 #[.slice a0 len0 cap0, .slice a1 len1 cap1, .slice a2 len2 cap2] w fun e w' => e = .returned (.bool true) ∧ Below w.heap.size w w' := by
  obtain ⟨hs0, hv0, hl0, hc0, hwf0⟩ := world_ints (N := 0) w0 (by simpa using hb0)
  have hcc0 := row_cap w0
  have hf0 : ∀ x, a0 = some x → x.block < (mem0 w).length := fun x hx => by rw [mem0_len]; have := hb0 x hx; omega
  obtain ⟨l0, hll0, hbl0⟩ := words_of z0 len0 hwf0 hl0
  rw [← hbl0] at hs0
  subst hll0
  obtain ⟨hs1, hv1, hl1, hc1, hwf1⟩ := world_ints (N := 0) w1 (by simpa using hb1)
  have hcc1 := row_cap w1
  have hf1 : ∀ x, a1 = some x → x.block < (mem0 w).length := fun x hx => by rw [mem0_len]; have := hb1 x hx; omega
  obtain ⟨l1, hll1, hbl1⟩ := words_of z1 len1 hwf1 hl1
  rw [← hbl1] at hs1
  subst hll1
  obtain ⟨hs2, hv2, hl2, hc2, hwf2⟩ := world_ints (N := 0) w2 (by simpa using hb2)
  have hcc2 := row_cap w2
  have hf2 : ∀ x, a2 = some x → x.block < (mem0 w).length := fun x hx => by rw [mem0_len]; have := hb2 x hx; omega
  obtain ⟨l2, hll2, hbl2⟩ := words_of z2 len2 hwf2 hl2
  rw [← hbl2] at hs2
  subst hll2
  obtain ⟨v, S', hE, rfl, hcons⟩ := (natCommon_C (Ext := NoX) a0 a1 a2 cap0 cap1 cap2 l0 l1 l2 (mem0 w) hs0 hs1 hs2 (Nat.lt_of_le_of_lt hcc0.2 hcc0.1) (Nat.lt_of_le_of_lt hcc1.2 hcc1.1) (Nat.lt_of_le_of_lt hcc2.2 hcc2.1) (hR 0).1 (hR 0).2 (by rw [mem0_len]; omega))
  refine top_true (Checked.mixed Tryd.checked) (fun _ _ _ _ _ h => h.elim) hG (fun a ha => ?_) hE hcons
  simp only [List.mem_cons, List.not_mem_nil, or_false] at ha
  rcases ha with rfl | rfl | rfl
  · exact hv0
  · exact hv1
  · exact hv2

set_option maxRecDepth 100000 in
theorem lifted (os : Os) (started : os.Started) (H : Type) (enc : TypeId × Value → H) :
    ReturnsInHanded {} Tryd.checked os 3 .any (fun w args => (Rows.natCommonSpec.pre enc Tryd.prog Tryd.f3 [] false w args ∧ laidMetH Tryd.prog laidL w) ∧ sizedMet enc Tryd.prog Tryd.f3 (OpenSpec.ofChange Rows.natCommonSpec) false w args)
      (Rows.natCommonSpec.post enc Tryd.prog Tryd.f3 false true false false) := by
  refine returnsInHanded_of_change_and (C := Tryd.checked) (X := fun w _ => laidMetH Tryd.prog laidL w) (fun _ _ _ hh h => h.of_heap hh) own started (by kernel_rfl) Tryd.func3
    (ChangeSpec.witness_shaped (enc := enc) (C := Tryd.checked) (os := os) (X := fun w _ => laidMetH Tryd.prog laidL w) false (World.doorLaid Tryd.prog 400 os) #[.slice none 0 0, .slice none 0 0, .slice none 0 0] 8 rfl (World.shaped_of_RefB (by kernel_rfl) (by kernel_rfl)) (by kernel_rfl) (by kernel_rfl) (by kernel_rfl) (door_met os _)) ?_
  intro W base args ds gs before hval0 hW _ _ hL _
  obtain ⟨hG, hR⟩ := of_laid hL
  have hval : ∀ (j : Nat) t v, Tryd.f3.params[j]? = some t → args[j]? = some v → Value.okWide Tryd.prog W .any base t v := hval0
  have hW' := hW
  obtain ⟨p, q, hA0, hV, rfl, hfz, hnd⟩ := hW
  have hA : DataW.TrodAll enc Tryd.prog W 0 (fun _ => true) true Tryd.f3.params.toList args.toList ds p := hA0
  rw [Tryd.params3] at hA hval
  obtain ⟨v0, vs0, d0, ds0, p0, q0, hargs, rfl, rfl, h0, r0⟩ := trodAll_cons hA
  obtain ⟨v1, vs1, d1, ds1, p1, q1, rfl, rfl, rfl, h1, r1⟩ := trodAll_cons r0
  obtain ⟨v2, vs2, d2, ds2, p2, q2, rfl, rfl, rfl, h2, r2⟩ := trodAll_cons r1
  obtain ⟨rfl, rfl, rfl⟩ := trodAll_nil r2
  obtain rfl : args = #[v0, v1, v2] := by cases args; simp_all
  obtain ⟨rfl, rfl⟩ := trodVars_none hV
  obtain ⟨a0, len0, cap0, rfl⟩ := okWide_slice Tryd.underlying22 (hval 0 22 v0 rfl rfl)
  have hb0 : ∀ x, a0 = some x → x.block < W.heap.size := by rintro x rfl; exact okWide_block Tryd.underlying22 (hval 0 22 _ rfl rfl)
  have k0 := h0
  have lt0 : ∀ x ∈ p0, x.block < W.heap.size := by obtain ⟨m, hm⟩ := k0; exact DataW.trod_lt m _ _ _ hm
  obtain ⟨z0, w0⟩ : ∃ zs, IsRow .u64 W a0 len0 cap0 zs := by
    obtain ⟨fuel, hf⟩ := h0
    rcases open_ints Tryd.underlying22 Tryd.underlying36 (by kernel_rfl) hf with ⟨hcs, _⟩ | ⟨x, l, c, zs, hcs, _, hl, hm, hz, _, hcell, hwz⟩
    · simp [Value.cells] at hcs
      obtain ⟨rfl, rfl, rfl⟩ := hcs
      exact ⟨[], .inl ⟨rfl, rfl, rfl, rfl⟩⟩
    · simp [Value.cells] at hcs
      obtain ⟨rfl, rfl, rfl⟩ := hcs
      exact ⟨zs, .inr ⟨_, rfl, hl, hm, by simpa using hz, hcell, hwz⟩⟩
  obtain ⟨a1, len1, cap1, rfl⟩ := okWide_slice Tryd.underlying22 (hval 1 22 v1 rfl rfl)
  have hb1 : ∀ x, a1 = some x → x.block < W.heap.size := by rintro x rfl; exact okWide_block Tryd.underlying22 (hval 1 22 _ rfl rfl)
  have k1 := h1
  have lt1 : ∀ x ∈ p1, x.block < W.heap.size := by obtain ⟨m, hm⟩ := k1; exact DataW.trod_lt m _ _ _ hm
  obtain ⟨z1, w1⟩ : ∃ zs, IsRow .u64 W a1 len1 cap1 zs := by
    obtain ⟨fuel, hf⟩ := h1
    rcases open_ints Tryd.underlying22 Tryd.underlying36 (by kernel_rfl) hf with ⟨hcs, _⟩ | ⟨x, l, c, zs, hcs, _, hl, hm, hz, _, hcell, hwz⟩
    · simp [Value.cells] at hcs
      obtain ⟨rfl, rfl, rfl⟩ := hcs
      exact ⟨[], .inl ⟨rfl, rfl, rfl, rfl⟩⟩
    · simp [Value.cells] at hcs
      obtain ⟨rfl, rfl, rfl⟩ := hcs
      exact ⟨zs, .inr ⟨_, rfl, hl, hm, by simpa using hz, hcell, hwz⟩⟩
  obtain ⟨a2, len2, cap2, rfl⟩ := okWide_slice Tryd.underlying22 (hval 2 22 v2 rfl rfl)
  have hb2 : ∀ x, a2 = some x → x.block < W.heap.size := by rintro x rfl; exact okWide_block Tryd.underlying22 (hval 2 22 _ rfl rfl)
  have k2 := h2
  have lt2 : ∀ x ∈ p2, x.block < W.heap.size := by obtain ⟨m, hm⟩ := k2; exact DataW.trod_lt m _ _ _ hm
  obtain ⟨z2, w2⟩ : ∃ zs, IsRow .u64 W a2 len2 cap2 zs := by
    obtain ⟨fuel, hf⟩ := h2
    rcases open_ints Tryd.underlying22 Tryd.underlying36 (by kernel_rfl) hf with ⟨hcs, _⟩ | ⟨x, l, c, zs, hcs, _, hl, hm, hz, _, hcell, hwz⟩
    · simp [Value.cells] at hcs
      obtain ⟨rfl, rfl, rfl⟩ := hcs
      exact ⟨[], .inl ⟨rfl, rfl, rfl, rfl⟩⟩
    · simp [Value.cells] at hcs
      obtain ⟨rfl, rfl, rfl⟩ := hcs
      exact ⟨zs, .inr ⟨_, rfl, hl, hm, by simpa using hz, hcell, hwz⟩⟩
  clear hA0 hval0
  refine (walk a0 len0 cap0 z0 a1 len1 cap1 z1 a2 len2 cap2 z2 W hG hR w0 hb0 w1 hb1 w2 hb2).mono fun e W' ⟨he, bel⟩ => ?_
  subst he
  exact ⟨_, rfl, _, _, _, [], _, [], hW', trodAll_mk1 (shut_bool Tryd.underlying4 _), (trodAll_cons_mk (Below.trod laidOut (by kernel_rfl) (of_decide_eq_true (by kernel_rfl)) k0 bel lt0) (trodAll_cons_mk (Below.trod laidOut (by kernel_rfl) (of_decide_eq_true (by kernel_rfl)) k1 bel lt1) (trodAll_cons_mk (Below.trod laidOut (by kernel_rfl) (of_decide_eq_true (by kernel_rfl)) k2 bel lt2) trodAll_mk0))), rfl, bel.frame _, fun h => by cases h⟩

theorem over : Rows.natCommonRow.holds Tryd.pinned (OpenSpec.ofChange Rows.natCommonSpec) :=
  OpenClaim.holds_of_wide 3 Tryd.f3 rfl rfl rfl rfl rfl rfl rfl ⟨rfl, rfl, rfl, rfl, rfl⟩ rfl rfl rfl rfl rfl (by kernel_rfl) Tryd.func3 (by kernel_rfl)
    (of_decide_eq_true (by kernel_rfl)) (by unfold Func.isWrapper; first | (rw [if_pos (by decide +kernel)]; kernel_rfl) | (rw [if_neg (by decide +kernel)]; exact ⟨rfl, rfl⟩))
    (fun os started H enc _ => lifted os started H enc)

/-- the card: the row, its variable tied to the program's text -/
theorem proved : Rows.NatCommonCardSaid :=
  Claim7.holds_tied_plain_at .later [] [.data, .data, .data, .data, .data, .data] true (true, "5146734cd9957351bebcf073fdcbea4e13584e167b6fe6558341177cdadb25c2") false
    over (fun _ h => by cases h) (by kernel_rfl) (fun _ h => by cases h) natCommon_row_tie rfl ⟨rfl, rfl⟩ (by kernel_rfl) rfl
    (fun f fn hf hfn => by
      obtain rfl : f = 3 := Option.some.inj ((show Tryd.prog.funcNamed "vouch/vouchlaw01.NatCommon" = some 3 by kernel_rfl).symm.trans hf) |>.symm
      obtain rfl : fn = Tryd.f3 := (Option.some.inj (Tryd.func3.symm.trans hfn)).symm
      exact ⟨by kernel_rfl, fun j t ht => by
        rw [Tryd.params3] at ht
        match j, ht with
        | 0, ht =>
          obtain rfl : t = 22 := by simpa using ht.symm
          exact (show Tryd.prog.wantsStandIn 22 = false by kernel_rfl)
        | 1, ht =>
          obtain rfl : t = 22 := by simpa using ht.symm
          exact (show Tryd.prog.wantsStandIn 22 = false by kernel_rfl)
        | 2, ht =>
          obtain rfl : t = 22 := by simpa using ht.symm
          exact (show Tryd.prog.wantsStandIn 22 = false by kernel_rfl)
        | j + 3, ht => simp at ht⟩)
    (by kernel_rfl)
end Go.Proofs.YtbdnkneedengcaaDoor.natCommon
