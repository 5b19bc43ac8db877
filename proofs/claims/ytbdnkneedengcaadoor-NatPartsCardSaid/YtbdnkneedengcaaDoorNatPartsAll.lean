/- The proof of the statement NatParts. Conditions: none. -/
import Derived.Test.YtbdnkneedengcaaDoorLibG
import Derived.Test.YtbdnkneedengcaaDoorRows
import Derived.Test.YtbdnkneedengcaaDoorTie
import Derived.Test.YtbdnkneedengcaaDoorCards
import Derived.SevenTiedAt
import Derived.WalkKit
import Derived.ProofKit
import Derived.OpenShut
import Derived.ShutString
import Derived.ChangeOld
import Derived.Below

/- The law of the quotient and what is left, walked. Conditions: the tables lie in memory. -/
set_option linter.unusedSimpArgs false
set_option linter.unusedVariables false
set_option maxRecDepth 100000
set_option maxHeartbeats 4000000
set_option exponentiation.threshold 20000
namespace Go.Proofs.YtbdnkneedengcaaDoor
open Go Ie
variable {Ext : FuncId → List Value → Mem → Outc → Mem → Prop}
theorem natParts_C (a0 a1 : Option Addr) (c0 c1 : Nat) (l0 l1 : WL) (S : Mem) (h0 : Slv S 1 (.slice a0 l0.length c0) l0.length (wv l0)) (h1 : Slv S 1 (.slice a1 l1.length c1) l1.length (wv l1))
    (n0 : l0.length < UNK) (n1 : l1.length < UNK) (hS : SinOk S) (hP : PowOk S) (hG : gN ≤ S.length) :
    C Tryd.prog gN Ext 5 [.slice a0 l0.length c0, .slice a1 l1.length c1] S fun v S' => v = .bool true ∧ Cons S S' := by
  refine C.fn Tryd.func5 rfl (by kernel_rfl) rfl ?_
  repeat (first | refine W.seq ?_ | refine W.block ?_ | refine W.reg ?_ | refine W.skip ?_ | refine W.exit ?_ | refine W.ret ?_ | refine L.nil ?_ | refine L.p rfl rfl ?_ | refine L.skip rfl ?_)
  refine L.cl (some_C a0 c0 128 l0 S h0 n0 (by decide)) rfl rfl ?_
  rintro _ S1 ⟨k1, x0, d0, rfl, i0⟩
  refine ⟨fun _ => k1, ?_⟩
  repeat (first | refine W.seq ?_ | refine W.block ?_ | refine W.reg ?_ | refine W.skip ?_ | refine W.exit ?_ | refine W.ret ?_ | refine L.nil ?_ | refine L.p rfl rfl ?_ | refine L.skip rfl ?_)
  refine L.cl (some_C a1 c1 128 l1 S1 (h1.cons k1) n1 (by decide)) rfl rfl ?_
  rintro _ S2 ⟨k2, x1, d1, rfl, i1⟩
  refine ⟨fun _ => k2, ?_⟩
  have kA := k1.trans k2
  replace i0 := i0.cons k2
  have b0 := num_len (l := l0.take 128) (k := 128) (by rw [List.length_take]; omega)
  have b1 := num_len (l := l1.take 128) (k := 128) (by rw [List.length_take]; omega)
  clear k1 k2 h0 h1 n0 n1
  generalize l0.take 128 = la at *
  generalize l1.take 128 = lb at *
  obtain ⟨A, hA⟩ : ∃ A, wnum la = A := ⟨_, rfl⟩
  obtain ⟨B, hB⟩ : ∃ B, wnum lb = B := ⟨_, rfl⟩
  rw [hA] at b0
  rw [hB] at b1
  have b0 : A < 2 ^ 8192 := b0
  have b1 : B < 2 ^ 8192 := b1
  have hdm := Nat.div_add_mod A B
  repeat (first | refine W.seq ?_ | refine W.block ?_ | refine W.reg ?_ | refine W.skip ?_ | refine W.exit ?_ | refine W.ret ?_ | refine L.nil ?_ | refine L.p rfl rfl ?_ | refine L.skip rfl ?_)
  refine L.cl (natDiv_C x0 x1 d0 d1 la lb S2 i0 i1) rfl rfl ?_
  rintro _ S3 ⟨eq, er, rfl, rq, rr, _⟩
  refine ⟨fun _ => rq.1, ?_⟩
  rw [rq.val, rr.val]
  replace kA := kA.trans rq.1
  replace i0 := i0.cons rq.1
  replace i1 := i1.cons rq.1
  rcases Nat.eq_zero_or_pos B with hz | hpos
  · have hd := div_zero (l1 := la) (l2 := lb) (by omega) (by omega) (by omega)
    rw [hd.1, hd.2.1, hd.2.2]
    repeat (first | refine W.seq ?_ | refine W.block ?_ | refine W.reg ?_ | refine W.skip ?_ | refine W.exit ?_ | refine W.ret ?_ | refine L.nil ?_ | refine L.p rfl rfl ?_ | refine L.skip rfl ?_)
    refine W.ite rfl (fun h => ?_) (fun h => ?_)
    rotate_left
    · cases h
    clear h
    repeat (first | refine W.seq ?_ | refine W.block ?_ | refine W.reg ?_ | refine W.skip ?_ | refine W.exit ?_ | refine W.ret ?_ | refine L.nil ?_ | refine L.p rfl rfl ?_ | refine L.skip rfl ?_)
    refine L.cl (bits_C x1 d1 lb S3 i1) rfl rfl ?_
    rintro _ M ⟨rfl, hM⟩
    have hM := hM.symm
    subst hM
    refine ⟨fun _ => Cons.refl _, ?_⟩
    rw [hB, hz, show blen 0 = 0 from rfl]
    repeat (first | refine W.seq ?_ | refine W.block ?_ | refine W.reg ?_ | refine W.skip ?_ | refine W.exit ?_ | refine W.ret ?_ | refine L.nil ?_ | refine L.p rfl rfl ?_ | refine L.skip rfl ?_)
    refine L.cl (works_C S3 (hS.cons kA) (hP.cons kA) (Nat.le_trans hG kA.len)) rfl rfl ?_
    rintro _ S9 ⟨rfl, k9⟩
    refine ⟨fun _ => k9, ?_⟩
    repeat (first | refine W.seq ?_ | refine W.block ?_ | refine W.reg ?_ | refine W.skip ?_ | refine W.exit ?_ | refine W.ret ?_ | refine L.nil ?_ | refine L.p rfl rfl ?_ | refine L.skip rfl ?_)
    exact ⟨.inr rfl, _, rfl, rfl, kA.trans k9⟩
  have hd := div_num (l1 := la) (l2 := lb) (by omega) (by omega) (by omega)
  rw [hA, hB] at hd
  rw [hd.2.2]
  rw [hd.1] at rq ⊢
  rw [hd.2.1] at rr ⊢
  have iq := rq.win
  have ir := rr.win
  clear rq rr hd
  repeat (first | refine W.seq ?_ | refine W.block ?_ | refine W.reg ?_ | refine W.skip ?_ | refine W.exit ?_ | refine W.ret ?_ | refine L.nil ?_ | refine L.p rfl rfl ?_ | refine L.skip rfl ?_)
  refine W.ite rfl (fun h => ?_) (fun h => ?_)
  · cases h
  clear h
  have hsm : small la = true := small_of (by omega)
  have htl : toldL la = toW A ∧ toldE la = 0 := by
    unfold toldL toldE
    rw [hsm, if_pos rfl, if_pos rfl]
    exact ⟨by unfold fm; rw [hA], rfl⟩
  repeat (first | refine W.seq ?_ | refine W.block ?_ | refine W.reg ?_ | refine W.skip ?_ | refine W.exit ?_ | refine W.ret ?_ | refine L.nil ?_ | refine L.p rfl rfl ?_ | refine L.skip rfl ?_)
  refine L.cl (norm_C x0 d0 la S3 i0) rfl rfl ?_
  rintro _ S4 ⟨e4, rfl, r4⟩
  refine ⟨fun _ => r4.1, ?_⟩
  rw [r4.val, htl.2]
  rw [htl.1] at r4 ⊢
  have i4 := r4.win
  replace kA := kA.trans r4.1
  replace i0 := i0.cons r4.1
  replace i1 := i1.cons r4.1
  replace iq := iq.cons r4.1
  replace ir := ir.cons r4.1
  clear r4 htl hsm
  have hle : B * (A / B) ≤ A := by omega
  have hql : A / B < 2 ^ 8192 := Nat.lt_of_le_of_lt (Nat.div_le_self _ _) b0
  have hml := Nat.mod_lt A hpos
  have hm := mul_num (l1 := lb) (l2 := toW (A / B)) (by omega) (by rw [wnum_toW]; exact hql) (by rw [wnum_toW, hB]; omega)
  rw [wnum_toW, hB] at hm
  repeat (first | refine W.seq ?_ | refine W.block ?_ | refine W.reg ?_ | refine W.skip ?_ | refine W.exit ?_ | refine W.ret ?_ | refine L.nil ?_ | refine L.p rfl rfl ?_ | refine L.skip rfl ?_)
  refine L.cl (mul_C x1 _ d1 _ lb _ S4 i1 iq (hS.cons kA) (Nat.le_trans hG kA.len)) rfl rfl ?_
  rintro _ S5 ⟨e5, rfl, r5⟩
  refine ⟨fun _ => r5.1, ?_⟩
  rw [r5.val, hm.2]
  rw [hm.1] at r5 ⊢
  have i5 := r5.win
  replace kA := kA.trans r5.1
  replace i0 := i0.cons r5.1
  replace i1 := i1.cons r5.1
  replace i4 := i4.cons r5.1
  replace ir := ir.cons r5.1
  clear r5 hm iq
  have ha := add_num (l1 := toW (B * (A / B))) (l2 := toW (A % B)) (by rw [wnum_toW]; omega) (by rw [wnum_toW]; omega) (by rw [wnum_toW, wnum_toW]; omega)
  rw [wnum_toW, wnum_toW, hdm] at ha
  repeat (first | refine W.seq ?_ | refine W.block ?_ | refine W.reg ?_ | refine W.skip ?_ | refine W.exit ?_ | refine W.ret ?_ | refine L.nil ?_ | refine L.p rfl rfl ?_ | refine L.skip rfl ?_)
  refine L.cl (natAdd_C _ _ _ _ _ _ S5 i5 ir) rfl rfl ?_
  rintro _ S6 ⟨e6, rfl, r6⟩
  refine ⟨fun _ => r6.1, ?_⟩
  rw [r6.val, ha.2]
  rw [ha.1] at r6 ⊢
  have i6 := r6.win
  replace kA := kA.trans r6.1
  replace i0 := i0.cons r6.1
  replace i1 := i1.cons r6.1
  replace i4 := i4.cons r6.1
  replace ir := ir.cons r6.1
  clear r6 ha i5
  repeat (first | refine W.seq ?_ | refine W.block ?_ | refine W.reg ?_ | refine W.skip ?_ | refine W.exit ?_ | refine W.ret ?_ | refine L.nil ?_ | refine L.p rfl rfl ?_ | refine L.skip rfl ?_)
  refine L.cl (natCmp_C _ x1 _ d1 _ lb S6 ir i1) rfl rfl ?_
  rintro _ M ⟨rfl, hM⟩
  have hM := hM.symm
  subst hM
  refine ⟨fun _ => Cons.refl _, ?_⟩
  rw [show cmpI ((wnum (toW (A % B)) : Nat) : Int) ((wnum lb : Nat) : Int) = -1 by unfold cmpI; rw [wnum_toW, hB, if_pos (by omega)]]
  repeat (first | refine W.seq ?_ | refine W.block ?_ | refine W.reg ?_ | refine W.skip ?_ | refine W.exit ?_ | refine W.ret ?_ | refine L.nil ?_ | refine L.p rfl rfl ?_ | refine L.skip rfl ?_)
  have l6 : (toW A).length ≤ 128 := (toW_len A 128).2 b0
  refine L.cl (sameW_C _ _ (toW A) (toW A) _ _ S6 i6.1 i4.1 (by omega) (by omega)) rfl rfl ?_
  rintro _ M ⟨rfl, hM⟩
  have hM := hM.symm
  subst hM
  refine ⟨fun _ => Cons.refl _, ?_⟩
  rw [beq_self_eq_true (toW A)]
  repeat (first | refine W.seq ?_ | refine W.block ?_ | refine W.reg ?_ | refine W.skip ?_ | refine W.exit ?_ | refine W.ret ?_ | refine L.nil ?_ | refine L.p rfl rfl ?_ | refine L.skip rfl ?_)
  refine W.ite rfl (fun h => ?_) (fun h => ?_)
  · cases h
  clear h i6 i4 ir
  have hg := gcd_num (l1 := la) (l2 := lb) (by omega) (by omega)
  rw [hA, hB] at hg
  have hGp : 0 < Nat.gcd A B := Nat.gcd_pos_of_pos_right _ hpos
  have hGl : Nat.gcd A B < 2 ^ 8192 := Nat.lt_of_le_of_lt (Nat.gcd_le_right _ hpos) b1
  repeat (first | refine W.seq ?_ | refine W.block ?_ | refine W.reg ?_ | refine W.skip ?_ | refine W.exit ?_ | refine W.ret ?_ | refine L.nil ?_ | refine L.p rfl rfl ?_ | refine L.skip rfl ?_)
  refine L.cl (natGcd_C x0 x1 d0 d1 la lb S6 i0 i1) rfl rfl ?_
  rintro _ S7 ⟨e7, rfl, r7⟩
  refine ⟨fun _ => r7.1, ?_⟩
  rw [r7.val, hg.2]
  rw [hg.1] at r7 ⊢
  have i7 := r7.win
  replace kA := kA.trans r7.1
  replace i0 := i0.cons r7.1
  replace i1 := i1.cons r7.1
  clear r7 hg
  repeat (first | refine W.seq ?_ | refine W.block ?_ | refine W.reg ?_ | refine W.skip ?_ | refine W.exit ?_ | refine W.ret ?_ | refine L.nil ?_ | refine L.p rfl rfl ?_ | refine L.skip rfl ?_)
  refine L.cl (bits_C _ _ _ S7 i7) rfl rfl ?_
  rintro _ M ⟨rfl, hM⟩
  have hM := hM.symm
  subst hM
  refine ⟨fun _ => Cons.refl _, ?_⟩
  rw [wnum_toW]
  repeat (first | refine W.seq ?_ | refine W.block ?_ | refine W.reg ?_ | refine W.skip ?_ | refine W.exit ?_ | refine W.ret ?_ | refine L.nil ?_ | refine L.p rfl rfl ?_ | refine L.skip rfl ?_)
  refine W.ite rfl (fun h => ?_) (fun h => ?_)
  · exfalso
    have h1 := eq_of_beq h
    have h2 : blen (Nat.gcd A B) ≠ 0 := by unfold blen; rw [if_neg (by omega)]; omega
    omega
  clear h
  have d1' := div_num (l1 := la) (l2 := toW (Nat.gcd A B)) (by omega) (by rw [wnum_toW]; exact hGl) (by rw [wnum_toW]; omega)
  have d2' := div_num (l1 := lb) (l2 := toW (Nat.gcd A B)) (by omega) (by rw [wnum_toW]; exact hGl) (by rw [wnum_toW]; omega)
  rw [wnum_toW, hA, Nat.mod_eq_zero_of_dvd (Nat.gcd_dvd_left A B), toW_zero] at d1'
  rw [wnum_toW, hB, Nat.mod_eq_zero_of_dvd (Nat.gcd_dvd_right A B), toW_zero] at d2'
  repeat (first | refine W.seq ?_ | refine W.block ?_ | refine W.reg ?_ | refine W.skip ?_ | refine W.exit ?_ | refine W.ret ?_ | refine L.nil ?_ | refine L.p rfl rfl ?_ | refine L.skip rfl ?_)
  refine L.cl (natDiv_C x0 _ d0 _ la _ S7 i0 i7) rfl rfl ?_
  rintro _ S8 ⟨e8, e9, rfl, r8, r9, _⟩
  refine ⟨fun _ => r8.1, ?_⟩
  rw [r9.val, d1'.2.1]
  replace kA := kA.trans r8.1
  replace i1 := i1.cons r8.1
  replace i7 := i7.cons r8.1
  clear r8 r9
  repeat (first | refine W.seq ?_ | refine W.block ?_ | refine W.reg ?_ | refine W.skip ?_ | refine W.exit ?_ | refine W.ret ?_ | refine L.nil ?_ | refine L.p rfl rfl ?_ | refine L.skip rfl ?_)
  refine L.cl (natDiv_C x1 _ d1 _ lb _ S8 i1 i7) rfl rfl ?_
  rintro _ S9 ⟨e10, e11, rfl, r8, r9, _⟩
  refine ⟨fun _ => r8.1, ?_⟩
  rw [r9.val, d2'.2.1]
  replace kA := kA.trans r8.1
  clear r8 r9
  repeat (first | refine W.seq ?_ | refine W.block ?_ | refine W.reg ?_ | refine W.skip ?_ | refine W.exit ?_ | refine W.ret ?_ | refine L.nil ?_ | refine L.p rfl rfl ?_ | refine L.skip rfl ?_)
  refine L.cl (works_C S9 (hS.cons kA) (hP.cons kA) (Nat.le_trans hG kA.len)) rfl rfl ?_
  rintro _ S10 ⟨rfl, k9⟩
  refine ⟨fun _ => k9, ?_⟩
  repeat (first | refine W.seq ?_ | refine W.block ?_ | refine W.reg ?_ | refine W.skip ?_ | refine W.exit ?_ | refine W.ret ?_ | refine L.nil ?_ | refine L.p rfl rfl ?_ | refine L.skip rfl ?_)
  exact ⟨.inr rfl, _, rfl, rfl, kA.trans k9⟩
end Go.Proofs.YtbdnkneedengcaaDoor

/- The proof of the statement NatParts. Conditions: none. -/
namespace Go.Proofs.YtbdnkneedengcaaDoor.natParts
open Go.ChangeShapes Go.WideShapes Go.ChangeAt Go.RowKit
open Go.ChangeMaps (open_string shut_string)
set_option linter.unusedVariables false

theorem own : ownKnob Tryd.prog.godebug = none := by kernel_rfl
theorem laidOut : laidOutB Tryd.prog = true := by kernel_rfl

theorem walk (a0 : Option Addr) (len0 cap0 : Nat) (z0 : List Int) (a1 : Option Addr) (len1 cap1 : Nat) (z1 : List Int) (w : World) (hG : gN ≤ w.heap.size) (hR : ∀ N, SinOk (mem0 w N) ∧ PowOk (mem0 w N)) (w0 : IsRow .u64 w a0 len0 cap0 z0) (hb0 : ∀ x, a0 = some x → x.block < w.heap.size) (w1 : IsRow .u64 w a1 len1 cap1 z1) (hb1 : ∀ x, a1 = some x → x.block < w.heap.size) :
    Calls Tryd.prog 5 #[.slice a0 len0 cap0, .slice a1 len1 cap1] w fun e w' => e = .returned (.bool true) ∧ Below w.heap.size w w' := by
  obtain ⟨hs0, hv0, hl0, hc0, hwf0⟩ := world_ints (N := 0) w0 (by simpa using hb0)
  have hcc0 := row_cap w0
  have hf0 : ∀ x, a0 = some x → x.block < (mem0 w).length := fun x hx => by rw [mem0_len]; have := hb0 x hx; omega
  obtain ⟨l0, hll0, hbl0⟩ := words_of z0 len0 hwf0 hl0
  rw [← hbl0] at hs0
  subst hll0
  obtain ⟨hs1, hv1, hl1, hc1, hwf1⟩ := world_ints (N := 0) w1 (by simpa using hb1)
  have hcc1 := row_cap w1
  have hf1 : ∀ x, a1 = some x → x.block < (mem0 w).length := fun x hx => by rw [mem0_len]; have := hb1 x hx; omega
  obtain ⟨l1, hll1, hbl1⟩ := words_of z1 len1 hwf1 hl1
  rw [← hbl1] at hs1
  subst hll1
  obtain ⟨v, S', hE, rfl, hcons⟩ := (natParts_C (Ext := NoX) a0 a1 cap0 cap1 l0 l1 (mem0 w) hs0 hs1 (Nat.lt_of_le_of_lt hcc0.2 hcc0.1) (Nat.lt_of_le_of_lt hcc1.2 hcc1.1) (hR 0).1 (hR 0).2 (by rw [mem0_len]; omega))
  refine top_true (Checked.mixed Tryd.checked) (fun _ _ _ _ _ h => h.elim) hG (fun a ha => ?_) hE hcons
  simp only [List.mem_cons, List.not_mem_nil, or_false] at ha
  rcases ha with rfl | rfl
  · exact hv0
  · exact hv1

set_option maxRecDepth 100000 in
theorem lifted (os : Os) (started : os.Started) (H : Type) (enc : TypeId × Value → H) :
    ReturnsInHanded {} Tryd.checked os 5 .any (fun w args => (Rows.natPartsSpec.pre enc Tryd.prog Tryd.f5 [] false w args ∧ laidMetH Tryd.prog laidL w) ∧ sizedMet enc Tryd.prog Tryd.f5 (OpenSpec.ofChange Rows.natPartsSpec) false w args)
      (Rows.natPartsSpec.post enc Tryd.prog Tryd.f5 false true false false) := by
  refine returnsInHanded_of_change_and (C := Tryd.checked) (X := fun w _ => laidMetH Tryd.prog laidL w) (fun _ _ _ hh h => h.of_heap hh) own started (by kernel_rfl) Tryd.func5
    (ChangeSpec.witness_shaped (enc := enc) (C := Tryd.checked) (os := os) (X := fun w _ => laidMetH Tryd.prog laidL w) false (World.doorLaid Tryd.prog 400 os) #[.slice none 0 0, .slice none 0 0] 8 rfl (World.shaped_of_RefB (by kernel_rfl) (by kernel_rfl)) (by kernel_rfl) (by kernel_rfl) (by kernel_rfl) (door_met os _)) ?_
  intro W base args ds gs before hval0 hW _ _ hL _
  obtain ⟨hG, hR⟩ := of_laid hL
  have hval : ∀ (j : Nat) t v, Tryd.f5.params[j]? = some t → args[j]? = some v → Value.okWide Tryd.prog W .any base t v := hval0
  have hW' := hW
  obtain ⟨p, q, hA0, hV, rfl, hfz, hnd⟩ := hW
  have hA : DataW.TrodAll enc Tryd.prog W 0 (fun _ => true) true Tryd.f5.params.toList args.toList ds p := hA0
  rw [Tryd.params5] at hA hval
  obtain ⟨v0, vs0, d0, ds0, p0, q0, hargs, rfl, rfl, h0, r0⟩ := trodAll_cons hA
  obtain ⟨v1, vs1, d1, ds1, p1, q1, rfl, rfl, rfl, h1, r1⟩ := trodAll_cons r0
  obtain ⟨rfl, rfl, rfl⟩ := trodAll_nil r1
  obtain rfl : args = #[v0, v1] := by cases args; simp_all
  obtain ⟨rfl, rfl⟩ := trodVars_none hV
  obtain ⟨a0, len0, cap0, rfl⟩ := okWide_slice Tryd.underlying22 (hval 0 22 v0 rfl rfl)
  have hb0 : ∀ x, a0 = some x → x.block < W.heap.size := by rintro x rfl; exact okWide_block Tryd.underlying22 (hval 0 22 _ rfl rfl)
  have k0 := h0
  have lt0 : ∀ x ∈ p0, x.block < W.heap.size := by obtain ⟨m, hm⟩ := k0; exact DataW.trod_lt m _ _ _ hm
  obtain ⟨z0, w0⟩ : ∃ zs, IsRow .u64 W a0 len0 cap0 zs := by
    obtain ⟨fuel, hf⟩ := h0
    rcases open_ints Tryd.underlying22 Tryd.underlying36 (by kernel_rfl) hf with ⟨hcs, _⟩ | ⟨x, l, c, zs, hcs, _, hl, hm, hz, _, hcell, hwz⟩
    · simp [Value.cells] at hcs
      obtain ⟨rfl, rfl, rfl⟩ := hcs
      exact ⟨[], .inl ⟨rfl, rfl, rfl, rfl⟩⟩
    · simp [Value.cells] at hcs
      obtain ⟨rfl, rfl, rfl⟩ := hcs
      exact ⟨zs, .inr ⟨_, rfl, hl, hm, by simpa using hz, hcell, hwz⟩⟩
  obtain ⟨a1, len1, cap1, rfl⟩ := okWide_slice Tryd.underlying22 (hval 1 22 v1 rfl rfl)
  have hb1 : ∀ x, a1 = some x → x.block < W.heap.size := by rintro x rfl; exact okWide_block Tryd.underlying22 (hval 1 22 _ rfl rfl)
  have k1 := h1
  have lt1 : ∀ x ∈ p1, x.block < W.heap.size := by obtain ⟨m, hm⟩ := k1; exact DataW.trod_lt m _ _ _ hm
  obtain ⟨z1, w1⟩ : ∃ zs, IsRow .u64 W a1 len1 cap1 zs := by
    obtain ⟨fuel, hf⟩ := h1
    rcases open_ints Tryd.underlying22 Tryd.underlying36 (by kernel_rfl) hf with ⟨hcs, _⟩ | ⟨x, l, c, zs, hcs, _, hl, hm, hz, _, hcell, hwz⟩
    · simp [Value.cells] at hcs
      obtain ⟨rfl, rfl, rfl⟩ := hcs
      exact ⟨[], .inl ⟨rfl, rfl, rfl, rfl⟩⟩
    · simp [Value.cells] at hcs
      obtain ⟨rfl, rfl, rfl⟩ := hcs
      exact ⟨zs, .inr ⟨_, rfl, hl, hm, by simpa using hz, hcell, hwz⟩⟩
  clear hA0 hval0
  refine (walk a0 len0 cap0 z0 a1 len1 cap1 z1 W hG hR w0 hb0 w1 hb1).mono fun e W' ⟨he, bel⟩ => ?_
  subst he
  exact ⟨_, rfl, _, _, _, [], _, [], hW', trodAll_mk1 (shut_bool Tryd.underlying4 _), (trodAll_cons_mk (Below.trod laidOut (by kernel_rfl) (of_decide_eq_true (by kernel_rfl)) k0 bel lt0) (trodAll_cons_mk (Below.trod laidOut (by kernel_rfl) (of_decide_eq_true (by kernel_rfl)) k1 bel lt1) trodAll_mk0)), rfl, bel.frame _, fun h => by cases h⟩

theorem over : Rows.natPartsRow.holds Tryd.pinned (OpenSpec.ofChange Rows.natPartsSpec) :=
  OpenClaim.holds_of_wide 5 Tryd.f5 rfl rfl rfl rfl rfl rfl rfl ⟨rfl, rfl, rfl, rfl, rfl⟩ rfl rfl rfl rfl rfl (by kernel_rfl) Tryd.func5 (by kernel_rfl)
    (of_decide_eq_true (by kernel_rfl)) (by unfold Func.isWrapper; first | (rw [if_pos (by decide +kernel)]; kernel_rfl) | (rw [if_neg (by decide +kernel)]; exact ⟨rfl, rfl⟩))
    (fun os started H enc _ => lifted os started H enc)

/-- the card: the row, its variable tied to the program's text -/
theorem proved : Rows.NatPartsCardSaid :=
  Claim7.holds_tied_plain_at .later [] [.data, .data, .data, .data, .data, .data] true (true, "5146734cd9957351bebcf073fdcbea4e13584e167b6fe6558341177cdadb25c2") false
    over (fun _ h => by cases h) (by kernel_rfl) (fun _ h => by cases h) natParts_row_tie rfl ⟨rfl, rfl⟩ (by kernel_rfl) rfl
    (fun f fn hf hfn => by
      obtain rfl : f = 5 := Option.some.inj ((show Tryd.prog.funcNamed "vouch/vouchlaw01.NatParts" = some 5 by kernel_rfl).symm.trans hf) |>.symm
      obtain rfl : fn = Tryd.f5 := (Option.some.inj (Tryd.func5.symm.trans hfn)).symm
      exact ⟨by kernel_rfl, fun j t ht => by
        rw [Tryd.params5] at ht
        match j, ht with
        | 0, ht =>
          obtain rfl : t = 22 := by simpa using ht.symm
          exact (show Tryd.prog.wantsStandIn 22 = false by kernel_rfl)
        | 1, ht =>
          obtain rfl : t = 22 := by simpa using ht.symm
          exact (show Tryd.prog.wantsStandIn 22 = false by kernel_rfl)
        | j + 2, ht => simp at ht⟩)
    (by kernel_rfl)
end Go.Proofs.YtbdnkneedengcaaDoor.natParts
