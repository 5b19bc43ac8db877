/- The proof of the statement NatLaws. Conditions: none. -/
import Derived.Test.YtbdnkneedengcaaDoorLibG
import Derived.Test.YtbdnkneedengcaaDoorRows
import Derived.Test.YtbdnkneedengcaaDoorTie
import Derived.Test.YtbdnkneedengcaaDoorCards
import Derived.SevenTiedAt
import Derived.WalkKit
import Derived.ProofKit
import Derived.OpenShut
import Derived.ShutString
import Derived.ChangeOld
import Derived.Below

/- The law of sums and products in any order, walked. Conditions: the tables lie in memory. -/
set_option linter.unusedSimpArgs false
set_option linter.unusedVariables false
set_option maxRecDepth 100000
set_option maxHeartbeats 4000000
set_option exponentiation.threshold 20000
namespace Go.Proofs.YtbdnkneedengcaaDoor
open Go Ie
variable {Ext : FuncId → List Value → Mem → Outc → Mem → Prop}
def NumR (S S' : Mem) (v : Value) (N : Nat) : Prop := ∃ a c, Cons S S' ∧ v = .slice a (toW N).length c ∧ WIn S' a c (toW N)
theorem sumN_C (a1 a2 : Option Addr) (c1 c2 : Nat) (l1 l2 : WL) (S : Mem) (h1 : WIn S a1 c1 l1) (h2 : WIn S a2 c2 l2) (X Y : Nat) (e1 : wnum l1 = X) (e2 : wnum l2 = Y) (hl : X + Y < 2 ^ 8192) :
    C Tryd.prog gN Ext 12 [.slice a1 l1.length c1, .slice a2 l2.length c2] S fun v S' => NumR S S' v (X + Y) := by
  refine (sum_C a1 a2 c1 c2 l1 l2 S h1 h2).mono fun v S' h => ?_
  obtain ⟨k, a, c, e, h⟩ := h
  rw [(add_num (l1 := l1) (l2 := l2) (by omega) (by omega) (by omega)).1, e1, e2] at e h
  exact ⟨a, c, k, e, h⟩
theorem prodN_C (a1 a2 : Option Addr) (c1 c2 : Nat) (l1 l2 : WL) (S : Mem) (h1 : WIn S a1 c1 l1) (h2 : WIn S a2 c2 l2) (hS : SinOk S) (hG : gN ≤ S.length) (X Y : Nat) (e1 : wnum l1 = X) (e2 : wnum l2 = Y) (hx : X < 2 ^ 8192) (hy : Y < 2 ^ 8192) (hl : X * Y < 2 ^ 8192) :
    C Tryd.prog gN Ext 8 [.slice a1 l1.length c1, .slice a2 l2.length c2] S fun v S' => NumR S S' v (X * Y) := by
  refine (product_C a1 a2 c1 c2 l1 l2 S h1 h2 hS hG).mono fun v S' h => ?_
  obtain ⟨k, a, c, e, h⟩ := h
  rw [(mul_num (l1 := l1) (l2 := l2) (by omega) (by omega) (by rw [e1, e2]; exact hl)).1, e1, e2] at e h
  exact ⟨a, c, k, e, h⟩
theorem sameN_C (a1 a2 : Option Addr) (c1 c2 : Nat) (l m : WL) (S : Mem) (h1 : WIn S a1 c1 l) (h2 : WIn S a2 c2 m) (e : l = m) :
    C Tryd.prog gN Ext 9 [.slice a1 l.length c1, .slice a2 m.length c2] S fun v S' => v = .bool true ∧ S' = S := by
  subst e
  refine (sameW_C _ _ l l l.length l.length S h1.1 h2.1 h1.2.2.2 h1.2.2.2).mono fun v S' h => ?_
  rw [beq_self_eq_true] at h
  exact h
theorem natLaws_C (a0 a1 a2 : Option Addr) (c0 c1 c2 : Nat) (l0 l1 l2 : WL) (S : Mem) (h0 : Slv S 1 (.slice a0 l0.length c0) l0.length (wv l0)) (h1 : Slv S 1 (.slice a1 l1.length c1) l1.length (wv l1)) (h2 : Slv S 1 (.slice a2 l2.length c2) l2.length (wv l2))
    (n0 : l0.length < UNK) (n1 : l1.length < UNK) (n2 : l2.length < UNK) (hS : SinOk S) (hP : PowOk S) (hG : gN ≤ S.length) :
    C Tryd.prog gN Ext 4 [.slice a0 l0.length c0, .slice a1 l1.length c1, .slice a2 l2.length c2] S fun v S' => v = .bool true ∧ Cons S S' := by
  refine C.fn Tryd.func4 rfl (by kernel_rfl) rfl ?_
  repeat (first | refine W.seq ?_ | refine W.block ?_ | refine W.reg ?_ | refine W.skip ?_ | refine W.exit ?_ | refine W.ret ?_ | refine L.nil ?_ | refine L.p rfl rfl ?_ | refine L.skip rfl ?_)
  refine L.cl (some_C a0 c0 40 l0 S h0 n0 (by decide)) rfl rfl ?_
  rintro _ S1 ⟨k1, x0, d0, rfl, i0⟩
  refine ⟨fun _ => k1, ?_⟩
  repeat (first | refine W.seq ?_ | refine W.block ?_ | refine W.reg ?_ | refine W.skip ?_ | refine W.exit ?_ | refine W.ret ?_ | refine L.nil ?_ | refine L.p rfl rfl ?_ | refine L.skip rfl ?_)
  refine L.cl (some_C a1 c1 40 l1 S1 (h1.cons k1) n1 (by decide)) rfl rfl ?_
  rintro _ S2 ⟨k2, x1, d1, rfl, i1⟩
  refine ⟨fun _ => k2, ?_⟩
  have k2' := k1.trans k2
  repeat (first | refine W.seq ?_ | refine W.block ?_ | refine W.reg ?_ | refine W.skip ?_ | refine W.exit ?_ | refine W.ret ?_ | refine L.nil ?_ | refine L.p rfl rfl ?_ | refine L.skip rfl ?_)
  refine L.cl (some_C a2 c2 40 l2 S2 (h2.cons k2') n2 (by decide)) rfl rfl ?_
  rintro _ S3 ⟨k3, x2, d2, rfl, i2⟩
  refine ⟨fun _ => k3, ?_⟩
  have kA := k2'.trans k3
  replace i0 := (i0.cons k2).cons k3
  replace i1 := i1.cons k3
  have b0 := num_len (l := l0.take 40) (k := 40) (by rw [List.length_take]; omega)
  have b1 := num_len (l := l1.take 40) (k := 40) (by rw [List.length_take]; omega)
  have b2 := num_len (l := l2.take 40) (k := 40) (by rw [List.length_take]; omega)
  clear k1 k2 k3 k2' h0 h1 h2 n0 n1 n2
  generalize l0.take 40 = la at *
  generalize l1.take 40 = lb at *
  generalize l2.take 40 = lc at *
  obtain ⟨A, hA⟩ : ∃ A, wnum la = A := ⟨_, rfl⟩
  obtain ⟨B, hB⟩ : ∃ B, wnum lb = B := ⟨_, rfl⟩
  obtain ⟨D, hD⟩ : ∃ D, wnum lc = D := ⟨_, rfl⟩
  rw [hA] at b0
  rw [hB] at b1
  rw [hD] at b2
  have hbig : (2 : Nat) ^ (64 * 40) * 2 ^ (64 * 40) * 2 ^ (64 * 40) * 8 ≤ 2 ^ 8192 := by
    rw [← Nat.pow_add, ← Nat.pow_add, show (8 : Nat) = 2 ^ 3 by decide, ← Nat.pow_add]; exact Nat.pow_le_pow_right (by decide) (by decide)
  have hpos := Nat.two_pow_pos (64 * 40)
  generalize (2 : Nat) ^ (64 * 40) = M at *
  have hMM : M ≤ M * M := Nat.le_mul_of_pos_right _ hpos
  have hMMM : M * M ≤ M * M * M := Nat.le_mul_of_pos_right _ hpos
  have p3 : A * B < M * M := Nat.mul_lt_mul'' b0 b1
  have p3' : B * A < M * M := Nat.mul_lt_mul'' b1 b0
  have p4 : A * B * D < M * M * M := Nat.mul_lt_mul'' p3 b2
  have p5 : B * D < M * M := Nat.mul_lt_mul'' b1 b2
  have p6 : A * (B * D) < M * M * M := by rw [← Nat.mul_assoc]; exact p4
  have p8 : A * D < M * M := Nat.mul_lt_mul'' b0 b2
  have p7 : A * (B + D) < M * M + M * M := by rw [Nat.mul_add]; omega
  have q0 : A < 2 ^ 8192 := Nat.lt_of_lt_of_le b0 (by omega)
  have q1 : B < 2 ^ 8192 := Nat.lt_of_lt_of_le b1 (by omega)
  have q6 : A * (B * D) < 2 ^ 8192 := Nat.lt_of_lt_of_le p6 (by omega)
  have q7 : A * (B + D) < 2 ^ 8192 := Nat.lt_of_lt_of_le p7 (by omega)
  have q5 : B * D < 2 ^ 8192 := Nat.lt_of_lt_of_le p5 (by omega)
  have q4 : A * B * D < 2 ^ 8192 := Nat.lt_of_lt_of_le p4 (by omega)
  have q3 : A * B < 2 ^ 8192 := Nat.lt_of_lt_of_le p3 (by omega)
  repeat (first | refine W.seq ?_ | refine W.block ?_ | refine W.reg ?_ | refine W.skip ?_ | refine W.exit ?_ | refine W.ret ?_ | refine L.nil ?_ | refine L.p rfl rfl ?_ | refine L.skip rfl ?_)
  refine L.cl (sumN_C _ _ _ _ _ _ _ i0 i1 A B hA hB (by omega)) rfl rfl ?_
  rintro _ S4 ⟨x4, d4, kk, rfl, i4⟩
  refine ⟨fun _ => kk, ?_⟩
  replace kA := kA.trans kk
  replace i0 := i0.cons kk
  replace i1 := i1.cons kk
  replace i2 := i2.cons kk
  repeat (first | refine W.seq ?_ | refine W.block ?_ | refine W.reg ?_ | refine W.skip ?_ | refine W.exit ?_ | refine W.ret ?_ | refine L.nil ?_ | refine L.p rfl rfl ?_ | refine L.skip rfl ?_)
  have hsub := sub_num (l1 := toW (A + B)) (l2 := lb) (by rw [wnum_toW]; omega) (by omega) (by rw [wnum_toW]; omega)
  rw [wnum_toW, hB, Nat.add_sub_cancel] at hsub
  refine L.cl (natSub_C x4 x1 d4 d1 _ lb S4 i4 i1) rfl rfl ?_
  rintro _ S5 ⟨e5, rfl, r5⟩
  refine ⟨fun _ => r5.1, ?_⟩
  rw [r5.val, hsub.2]
  rw [hsub.1] at r5 ⊢
  have i5 := r5.win
  replace kA := kA.trans r5.1
  replace i0 := i0.cons r5.1
  replace i1 := i1.cons r5.1
  replace i2 := i2.cons r5.1
  clear i4 r5 hsub
  repeat (first | refine W.seq ?_ | refine W.block ?_ | refine W.reg ?_ | refine W.skip ?_ | refine W.exit ?_ | refine W.ret ?_ | refine L.nil ?_ | refine L.p rfl rfl ?_ | refine L.skip rfl ?_)
  have hsm : small la = true := small_of (by omega)
  have htl : toldL la = toW A ∧ toldE la = 0 := by
    unfold toldL toldE
    rw [hsm, if_pos rfl, if_pos rfl]
    exact ⟨by unfold fm; rw [hA], rfl⟩
  refine L.cl (norm_C x0 d0 la S5 i0) rfl rfl ?_
  rintro _ S6 ⟨e6, rfl, r6⟩
  refine ⟨fun _ => r6.1, ?_⟩
  rw [r6.val, htl.2]
  rw [htl.1] at r6 ⊢
  have i6 := r6.win
  replace kA := kA.trans r6.1
  replace i0 := i0.cons r6.1
  replace i1 := i1.cons r6.1
  replace i2 := i2.cons r6.1
  replace i5 := i5.cons r6.1
  clear r6 htl hsm
  repeat (first | refine W.seq ?_ | refine W.block ?_ | refine W.reg ?_ | refine W.skip ?_ | refine W.exit ?_ | refine W.ret ?_ | refine L.nil ?_ | refine L.p rfl rfl ?_ | refine L.skip rfl ?_)
  refine L.cl (sameN_C _ _ _ _ _ _ S6 i5 i6 rfl) rfl rfl ?_
  rintro _ M ⟨rfl, hM⟩
  have hM := hM.symm
  subst hM
  refine ⟨fun _ => Cons.refl _, ?_⟩
  repeat (first | refine W.seq ?_ | refine W.block ?_ | refine W.reg ?_ | refine W.skip ?_ | refine W.exit ?_ | refine W.ret ?_ | refine L.nil ?_ | refine L.p rfl rfl ?_ | refine L.skip rfl ?_)
  refine W.ite rfl (fun h => ?_) (fun h => ?_)
  · cases h
  clear h i5
  repeat (first | refine W.seq ?_ | refine W.block ?_ | refine W.reg ?_ | refine W.skip ?_ | refine W.exit ?_ | refine W.ret ?_ | refine L.nil ?_ | refine L.p rfl rfl ?_ | refine L.skip rfl ?_)
  refine L.cl (sumN_C _ _ _ _ _ _ _ i0 i1 A B hA hB (by omega)) rfl rfl ?_
  rintro _ S7 ⟨x7, d7, kk, rfl, i7⟩
  refine ⟨fun _ => kk, ?_⟩
  replace kA := kA.trans kk
  replace i0 := i0.cons kk
  replace i1 := i1.cons kk
  replace i2 := i2.cons kk
  replace i6 := i6.cons kk
  clear kk
  repeat (first | refine W.seq ?_ | refine W.block ?_ | refine W.reg ?_ | refine W.skip ?_ | refine W.exit ?_ | refine W.ret ?_ | refine L.nil ?_ | refine L.p rfl rfl ?_ | refine L.skip rfl ?_)
  refine L.cl (sumN_C _ _ _ _ _ _ _ i1 i0 B A hB hA (by omega)) rfl rfl ?_
  rintro _ S8 ⟨x8, d8, kk, rfl, i8⟩
  refine ⟨fun _ => kk, ?_⟩
  replace kA := kA.trans kk
  replace i0 := i0.cons kk
  replace i1 := i1.cons kk
  replace i2 := i2.cons kk
  replace i6 := i6.cons kk
  replace i7 := i7.cons kk
  clear kk
  repeat (first | refine W.seq ?_ | refine W.block ?_ | refine W.reg ?_ | refine W.skip ?_ | refine W.exit ?_ | refine W.ret ?_ | refine L.nil ?_ | refine L.p rfl rfl ?_ | refine L.skip rfl ?_)
  refine L.cl (sameN_C _ _ _ _ _ _ S8 i7 i8 (by rw [Nat.add_comm])) rfl rfl ?_
  rintro _ M ⟨rfl, hM⟩
  have hM := hM.symm
  subst hM
  refine ⟨fun _ => Cons.refl _, ?_⟩
  repeat (first | refine W.seq ?_ | refine W.block ?_ | refine W.reg ?_ | refine W.skip ?_ | refine W.exit ?_ | refine W.ret ?_ | refine L.nil ?_ | refine L.p rfl rfl ?_ | refine L.skip rfl ?_)
  clear i7 i8
  refine L.cl (prodN_C _ _ _ _ _ _ _ i0 i1 (hS.cons kA) (Nat.le_trans hG kA.len) A B hA hB (by first | assumption | omega) (by first | assumption | omega) (by first | assumption | omega)) rfl rfl ?_
  rintro _ S9 ⟨x9, d9, kk, rfl, i9⟩
  refine ⟨fun _ => kk, ?_⟩
  replace kA := kA.trans kk
  replace i0 := i0.cons kk
  replace i1 := i1.cons kk
  replace i2 := i2.cons kk
  replace i6 := i6.cons kk
  clear kk
  repeat (first | refine W.seq ?_ | refine W.block ?_ | refine W.reg ?_ | refine W.skip ?_ | refine W.exit ?_ | refine W.ret ?_ | refine L.nil ?_ | refine L.p rfl rfl ?_ | refine L.skip rfl ?_)
  refine L.cl (prodN_C _ _ _ _ _ _ _ i1 i0 (hS.cons kA) (Nat.le_trans hG kA.len) B A hB hA (by first | assumption | omega) (by first | assumption | omega) (by first | assumption | omega)) rfl rfl ?_
  rintro _ S10 ⟨x10, d10, kk, rfl, i10⟩
  refine ⟨fun _ => kk, ?_⟩
  replace kA := kA.trans kk
  replace i0 := i0.cons kk
  replace i1 := i1.cons kk
  replace i2 := i2.cons kk
  replace i6 := i6.cons kk
  replace i9 := i9.cons kk
  clear kk
  repeat (first | refine W.seq ?_ | refine W.block ?_ | refine W.reg ?_ | refine W.skip ?_ | refine W.exit ?_ | refine W.ret ?_ | refine L.nil ?_ | refine L.p rfl rfl ?_ | refine L.skip rfl ?_)
  refine L.cl (sameN_C _ _ _ _ _ _ S10 i9 i10 (by rw [Nat.mul_comm])) rfl rfl ?_
  rintro _ M ⟨rfl, hM⟩
  have hM := hM.symm
  subst hM
  refine ⟨fun _ => Cons.refl _, ?_⟩
  repeat (first | refine W.seq ?_ | refine W.block ?_ | refine W.reg ?_ | refine W.skip ?_ | refine W.exit ?_ | refine W.ret ?_ | refine L.nil ?_ | refine L.p rfl rfl ?_ | refine L.skip rfl ?_)
  clear i9 i10
  refine L.cl (sumN_C _ _ _ _ _ _ _ i0 i1 A B hA hB (by omega)) rfl rfl ?_
  rintro _ S11 ⟨x11, d11, kk, rfl, i11⟩
  refine ⟨fun _ => kk, ?_⟩
  replace kA := kA.trans kk
  replace i0 := i0.cons kk
  replace i1 := i1.cons kk
  replace i2 := i2.cons kk
  replace i6 := i6.cons kk
  clear kk
  repeat (first | refine W.seq ?_ | refine W.block ?_ | refine W.reg ?_ | refine W.skip ?_ | refine W.exit ?_ | refine W.ret ?_ | refine L.nil ?_ | refine L.p rfl rfl ?_ | refine L.skip rfl ?_)
  refine L.cl (sumN_C _ _ _ _ _ _ _ i11 i2 (A + B) D (wnum_toW _) hD (by omega)) rfl rfl ?_
  rintro _ S12 ⟨x12, d12, kk, rfl, i12⟩
  refine ⟨fun _ => kk, ?_⟩
  replace kA := kA.trans kk
  replace i0 := i0.cons kk
  replace i1 := i1.cons kk
  replace i2 := i2.cons kk
  replace i6 := i6.cons kk
  clear kk
  repeat (first | refine W.seq ?_ | refine W.block ?_ | refine W.reg ?_ | refine W.skip ?_ | refine W.exit ?_ | refine W.ret ?_ | refine L.nil ?_ | refine L.p rfl rfl ?_ | refine L.skip rfl ?_)
  refine L.cl (sumN_C _ _ _ _ _ _ _ i1 i2 B D hB hD (by omega)) rfl rfl ?_
  rintro _ S13 ⟨x13, d13, kk, rfl, i13⟩
  refine ⟨fun _ => kk, ?_⟩
  replace kA := kA.trans kk
  replace i0 := i0.cons kk
  replace i1 := i1.cons kk
  replace i2 := i2.cons kk
  replace i6 := i6.cons kk
  replace i12 := i12.cons kk
  clear kk
  repeat (first | refine W.seq ?_ | refine W.block ?_ | refine W.reg ?_ | refine W.skip ?_ | refine W.exit ?_ | refine W.ret ?_ | refine L.nil ?_ | refine L.p rfl rfl ?_ | refine L.skip rfl ?_)
  refine L.cl (sumN_C _ _ _ _ _ _ _ i0 i13 A (B + D) hA (wnum_toW _) (by omega)) rfl rfl ?_
  rintro _ S14 ⟨x14, d14, kk, rfl, i14⟩
  refine ⟨fun _ => kk, ?_⟩
  replace kA := kA.trans kk
  replace i0 := i0.cons kk
  replace i1 := i1.cons kk
  replace i2 := i2.cons kk
  replace i6 := i6.cons kk
  replace i12 := i12.cons kk
  clear kk
  repeat (first | refine W.seq ?_ | refine W.block ?_ | refine W.reg ?_ | refine W.skip ?_ | refine W.exit ?_ | refine W.ret ?_ | refine L.nil ?_ | refine L.p rfl rfl ?_ | refine L.skip rfl ?_)
  refine L.cl (sameN_C _ _ _ _ _ _ S14 i12 i14 (by rw [Nat.add_assoc])) rfl rfl ?_
  rintro _ M ⟨rfl, hM⟩
  have hM := hM.symm
  subst hM
  refine ⟨fun _ => Cons.refl _, ?_⟩
  repeat (first | refine W.seq ?_ | refine W.block ?_ | refine W.reg ?_ | refine W.skip ?_ | refine W.exit ?_ | refine W.ret ?_ | refine L.nil ?_ | refine L.p rfl rfl ?_ | refine L.skip rfl ?_)
  clear i11 i12 i13 i14
  refine L.cl (prodN_C _ _ _ _ _ _ _ i0 i1 (hS.cons kA) (Nat.le_trans hG kA.len) A B hA hB (by first | assumption | omega) (by first | assumption | omega) (by first | assumption | omega)) rfl rfl ?_
  rintro _ S15 ⟨x15, d15, kk, rfl, i15⟩
  refine ⟨fun _ => kk, ?_⟩
  replace kA := kA.trans kk
  replace i0 := i0.cons kk
  replace i1 := i1.cons kk
  replace i2 := i2.cons kk
  replace i6 := i6.cons kk
  clear kk
  repeat (first | refine W.seq ?_ | refine W.block ?_ | refine W.reg ?_ | refine W.skip ?_ | refine W.exit ?_ | refine W.ret ?_ | refine L.nil ?_ | refine L.p rfl rfl ?_ | refine L.skip rfl ?_)
  refine L.cl (prodN_C _ _ _ _ _ _ _ i15 i2 (hS.cons kA) (Nat.le_trans hG kA.len) (A * B) D (wnum_toW _) hD (by first | assumption | omega) (by first | assumption | omega) (by first | assumption | omega)) rfl rfl ?_
  rintro _ S16 ⟨x16, d16, kk, rfl, i16⟩
  refine ⟨fun _ => kk, ?_⟩
  replace kA := kA.trans kk
  replace i0 := i0.cons kk
  replace i1 := i1.cons kk
  replace i2 := i2.cons kk
  replace i6 := i6.cons kk
  clear kk
  repeat (first | refine W.seq ?_ | refine W.block ?_ | refine W.reg ?_ | refine W.skip ?_ | refine W.exit ?_ | refine W.ret ?_ | refine L.nil ?_ | refine L.p rfl rfl ?_ | refine L.skip rfl ?_)
  refine L.cl (prodN_C _ _ _ _ _ _ _ i1 i2 (hS.cons kA) (Nat.le_trans hG kA.len) B D hB hD (by first | assumption | omega) (by first | assumption | omega) (by first | assumption | omega)) rfl rfl ?_
  rintro _ S17 ⟨x17, d17, kk, rfl, i17⟩
  refine ⟨fun _ => kk, ?_⟩
  replace kA := kA.trans kk
  replace i0 := i0.cons kk
  replace i1 := i1.cons kk
  replace i2 := i2.cons kk
  replace i6 := i6.cons kk
  replace i16 := i16.cons kk
  clear kk
  repeat (first | refine W.seq ?_ | refine W.block ?_ | refine W.reg ?_ | refine W.skip ?_ | refine W.exit ?_ | refine W.ret ?_ | refine L.nil ?_ | refine L.p rfl rfl ?_ | refine L.skip rfl ?_)
  refine L.cl (prodN_C _ _ _ _ _ _ _ i0 i17 (hS.cons kA) (Nat.le_trans hG kA.len) A (B * D) hA (wnum_toW _) (by first | assumption | omega) (by first | assumption | omega) (by first | assumption | omega)) rfl rfl ?_
  rintro _ S18 ⟨x18, d18, kk, rfl, i18⟩
  refine ⟨fun _ => kk, ?_⟩
  replace kA := kA.trans kk
  replace i0 := i0.cons kk
  replace i1 := i1.cons kk
  replace i2 := i2.cons kk
  replace i6 := i6.cons kk
  replace i16 := i16.cons kk
  clear kk
  repeat (first | refine W.seq ?_ | refine W.block ?_ | refine W.reg ?_ | refine W.skip ?_ | refine W.exit ?_ | refine W.ret ?_ | refine L.nil ?_ | refine L.p rfl rfl ?_ | refine L.skip rfl ?_)
  refine L.cl (sameN_C _ _ _ _ _ _ S18 i16 i18 (by rw [Nat.mul_assoc])) rfl rfl ?_
  rintro _ M ⟨rfl, hM⟩
  have hM := hM.symm
  subst hM
  refine ⟨fun _ => Cons.refl _, ?_⟩
  repeat (first | refine W.seq ?_ | refine W.block ?_ | refine W.reg ?_ | refine W.skip ?_ | refine W.exit ?_ | refine W.ret ?_ | refine L.nil ?_ | refine L.p rfl rfl ?_ | refine L.skip rfl ?_)
  clear i15 i16 i17 i18
  refine L.cl (sumN_C _ _ _ _ _ _ _ i1 i2 B D hB hD (by omega)) rfl rfl ?_
  rintro _ S19 ⟨x19, d19, kk, rfl, i19⟩
  refine ⟨fun _ => kk, ?_⟩
  replace kA := kA.trans kk
  replace i0 := i0.cons kk
  replace i1 := i1.cons kk
  replace i2 := i2.cons kk
  replace i6 := i6.cons kk
  clear kk
  repeat (first | refine W.seq ?_ | refine W.block ?_ | refine W.reg ?_ | refine W.skip ?_ | refine W.exit ?_ | refine W.ret ?_ | refine L.nil ?_ | refine L.p rfl rfl ?_ | refine L.skip rfl ?_)
  refine L.cl (prodN_C _ _ _ _ _ _ _ i0 i19 (hS.cons kA) (Nat.le_trans hG kA.len) A (B + D) hA (wnum_toW _) (by first | assumption | omega) (by first | assumption | omega) (by first | assumption | omega)) rfl rfl ?_
  rintro _ S20 ⟨x20, d20, kk, rfl, i20⟩
  refine ⟨fun _ => kk, ?_⟩
  replace kA := kA.trans kk
  replace i0 := i0.cons kk
  replace i1 := i1.cons kk
  replace i2 := i2.cons kk
  replace i6 := i6.cons kk
  clear kk
  repeat (first | refine W.seq ?_ | refine W.block ?_ | refine W.reg ?_ | refine W.skip ?_ | refine W.exit ?_ | refine W.ret ?_ | refine L.nil ?_ | refine L.p rfl rfl ?_ | refine L.skip rfl ?_)
  refine L.cl (prodN_C _ _ _ _ _ _ _ i0 i1 (hS.cons kA) (Nat.le_trans hG kA.len) A B hA hB (by first | assumption | omega) (by first | assumption | omega) (by first | assumption | omega)) rfl rfl ?_
  rintro _ S21 ⟨x21, d21, kk, rfl, i21⟩
  refine ⟨fun _ => kk, ?_⟩
  replace kA := kA.trans kk
  replace i0 := i0.cons kk
  replace i1 := i1.cons kk
  replace i2 := i2.cons kk
  replace i6 := i6.cons kk
  replace i20 := i20.cons kk
  clear kk
  repeat (first | refine W.seq ?_ | refine W.block ?_ | refine W.reg ?_ | refine W.skip ?_ | refine W.exit ?_ | refine W.ret ?_ | refine L.nil ?_ | refine L.p rfl rfl ?_ | refine L.skip rfl ?_)
  refine L.cl (prodN_C _ _ _ _ _ _ _ i0 i2 (hS.cons kA) (Nat.le_trans hG kA.len) A D hA hD (by first | assumption | omega) (by first | assumption | omega) (by first | assumption | omega)) rfl rfl ?_
  rintro _ S22 ⟨x22, d22, kk, rfl, i22⟩
  refine ⟨fun _ => kk, ?_⟩
  replace kA := kA.trans kk
  replace i0 := i0.cons kk
  replace i1 := i1.cons kk
  replace i2 := i2.cons kk
  replace i6 := i6.cons kk
  replace i20 := i20.cons kk
  replace i21 := i21.cons kk
  clear kk
  repeat (first | refine W.seq ?_ | refine W.block ?_ | refine W.reg ?_ | refine W.skip ?_ | refine W.exit ?_ | refine W.ret ?_ | refine L.nil ?_ | refine L.p rfl rfl ?_ | refine L.skip rfl ?_)
  refine L.cl (sumN_C _ _ _ _ _ _ _ i21 i22 (A * B) (A * D) (wnum_toW _) (wnum_toW _) (by omega)) rfl rfl ?_
  rintro _ S23 ⟨x23, d23, kk, rfl, i23⟩
  refine ⟨fun _ => kk, ?_⟩
  replace kA := kA.trans kk
  replace i0 := i0.cons kk
  replace i1 := i1.cons kk
  replace i2 := i2.cons kk
  replace i6 := i6.cons kk
  replace i20 := i20.cons kk
  clear kk
  repeat (first | refine W.seq ?_ | refine W.block ?_ | refine W.reg ?_ | refine W.skip ?_ | refine W.exit ?_ | refine W.ret ?_ | refine L.nil ?_ | refine L.p rfl rfl ?_ | refine L.skip rfl ?_)
  refine L.cl (sameN_C _ _ _ _ _ _ S23 i20 i23 (by rw [Nat.mul_add])) rfl rfl ?_
  rintro _ M ⟨rfl, hM⟩
  have hM := hM.symm
  subst hM
  refine ⟨fun _ => Cons.refl _, ?_⟩
  repeat (first | refine W.seq ?_ | refine W.block ?_ | refine W.reg ?_ | refine W.skip ?_ | refine W.exit ?_ | refine W.ret ?_ | refine L.nil ?_ | refine L.p rfl rfl ?_ | refine L.skip rfl ?_)
  clear i21 i20 i19 i22 i23
  refine W.ite rfl (fun h => ?_) (fun h => ?_)
  · cases h
  clear h
  clear p3 p3' p4 p5 p6 p7 p8 hMM hMMM i2
  obtain ⟨S0, hS0⟩ : ∃ S0, S0 = S23 := ⟨_, rfl⟩
  rw [← hS0] at kA i0 i1 i6 ⊢
  clear hS0
  repeat (first | refine W.seq ?_ | refine W.block ?_ | refine W.reg ?_ | refine W.skip ?_ | refine W.exit ?_ | refine W.ret ?_ | refine L.nil ?_ | refine L.p rfl rfl ?_ | refine L.skip rfl ?_)
  refine L.cl (natSub_C x0 x1 d0 d1 la lb S0 i0 i1) rfl rfl ?_
  rintro _ T1 ⟨f1, rfl, r1⟩
  refine ⟨fun _ => r1.1, ?_⟩
  rw [r1.val]
  replace kA := kA.trans r1.1
  replace i0 := i0.cons r1.1
  replace i1 := i1.cons r1.1
  replace i6 := i6.cons r1.1
  repeat (first | refine W.seq ?_ | refine W.block ?_ | refine W.reg ?_ | refine W.skip ?_ | refine W.exit ?_ | refine W.ret ?_ | refine L.nil ?_ | refine L.p rfl rfl ?_ | refine L.skip rfl ?_)
  refine L.cl (natCmp_C x0 x1 d0 d1 la lb T1 i0 i1) rfl rfl ?_
  rintro _ M ⟨rfl, hM⟩
  have hM := hM.symm
  subst hM
  refine ⟨fun _ => Cons.refl _, ?_⟩
  repeat (first | refine W.seq ?_ | refine W.block ?_ | refine W.reg ?_ | refine W.skip ?_ | refine W.exit ?_ | refine W.ret ?_ | refine L.nil ?_ | refine L.p rfl rfl ?_ | refine L.skip rfl ?_)
  rw [hA, hB]
  rcases Nat.lt_or_ge A B with hlt | hge
  · have hsb := sub_below (l1 := la) (l2 := lb) (by omega) (by omega) (by omega)
    rw [hsb.1, hsb.2]
    rw [show cmpI ((A : Nat) : Int) ((B : Nat) : Int) = -1 by unfold cmpI; rw [if_pos (by omega)]]
    repeat (first | refine W.seq ?_ | refine W.block ?_ | refine W.reg ?_ | refine W.skip ?_ | refine W.exit ?_ | refine W.ret ?_ | refine L.nil ?_ | refine L.p rfl rfl ?_ | refine L.skip rfl ?_)
    refine L.cl (natCmp_C x1 x0 d1 d0 lb la T1 i1 i0) rfl rfl ?_
    rintro _ M ⟨rfl, hM⟩
    have hM := hM.symm
    subst hM
    refine ⟨fun _ => Cons.refl _, ?_⟩
    repeat (first | refine W.seq ?_ | refine W.block ?_ | refine W.reg ?_ | refine W.skip ?_ | refine W.exit ?_ | refine W.ret ?_ | refine L.nil ?_ | refine L.p rfl rfl ?_ | refine L.skip rfl ?_)
    rw [hA, hB, show cmpI ((B : Nat) : Int) ((A : Nat) : Int) = 1 by unfold cmpI; rw [if_neg (by omega), if_pos (by omega)]]
    repeat (first | refine W.seq ?_ | refine W.block ?_ | refine W.reg ?_ | refine W.skip ?_ | refine W.exit ?_ | refine W.ret ?_ | refine L.nil ?_ | refine L.p rfl rfl ?_ | refine L.skip rfl ?_)
    refine W.ite rfl (fun h => ?_) (fun h => ?_)
    · cases h
    clear h
    repeat (first | refine W.seq ?_ | refine W.block ?_ | refine W.reg ?_ | refine W.skip ?_ | refine W.exit ?_ | refine W.ret ?_ | refine L.nil ?_ | refine L.p rfl rfl ?_ | refine L.skip rfl ?_)
    refine L.cl (works_C _ (hS.cons kA) (hP.cons kA) (Nat.le_trans hG kA.len)) rfl rfl ?_
    rintro _ S9 ⟨rfl, k9⟩
    refine ⟨fun _ => k9, ?_⟩
    repeat (first | refine W.seq ?_ | refine W.block ?_ | refine W.reg ?_ | refine W.skip ?_ | refine W.exit ?_ | refine W.ret ?_ | refine L.nil ?_ | refine L.p rfl rfl ?_ | refine L.skip rfl ?_)
    exact ⟨.inr rfl, _, rfl, rfl, kA.trans k9⟩
  have hsb := sub_num (l1 := la) (l2 := lb) (by omega) (by omega) (by omega)
  rw [hA, hB] at hsb
  rw [hsb.2]
  rw [hsb.1] at r1 ⊢
  have i9 := r1.win
  clear r1 hsb
  rcases Nat.lt_or_eq_of_le hge with hgt | heq
  · rw [show cmpI ((A : Nat) : Int) ((B : Nat) : Int) = 1 by unfold cmpI; rw [if_neg (by omega), if_pos (by omega)]]
    repeat (first | refine W.seq ?_ | refine W.block ?_ | refine W.reg ?_ | refine W.skip ?_ | refine W.exit ?_ | refine W.ret ?_ | refine L.nil ?_ | refine L.p rfl rfl ?_ | refine L.skip rfl ?_)
    refine L.cl (sumN_C _ _ _ _ _ _ T1 i9 i1 (A - B) B (wnum_toW _) hB (by omega)) rfl rfl ?_
    rintro _ T2 ⟨x3, d3, kk, rfl, i3⟩
    refine ⟨fun _ => kk, ?_⟩
    replace kA := kA.trans kk
    replace i0 := i0.cons kk
    replace i1 := i1.cons kk
    replace i6 := i6.cons kk
    repeat (first | refine W.seq ?_ | refine W.block ?_ | refine W.reg ?_ | refine W.skip ?_ | refine W.exit ?_ | refine W.ret ?_ | refine L.nil ?_ | refine L.p rfl rfl ?_ | refine L.skip rfl ?_)
    refine L.cl (sameN_C _ _ _ _ _ _ T2 i3 i6 (by rw [Nat.sub_add_cancel hge])) rfl rfl ?_
    rintro _ M ⟨rfl, hM⟩
    have hM := hM.symm
    subst hM
    refine ⟨fun _ => Cons.refl _, ?_⟩
    repeat (first | refine W.seq ?_ | refine W.block ?_ | refine W.reg ?_ | refine W.skip ?_ | refine W.exit ?_ | refine W.ret ?_ | refine L.nil ?_ | refine L.p rfl rfl ?_ | refine L.skip rfl ?_)
    refine L.cl (natCmp_C x1 x0 d1 d0 lb la T2 i1 i0) rfl rfl ?_
    rintro _ M ⟨rfl, hM⟩
    have hM := hM.symm
    subst hM
    refine ⟨fun _ => Cons.refl _, ?_⟩
    repeat (first | refine W.seq ?_ | refine W.block ?_ | refine W.reg ?_ | refine W.skip ?_ | refine W.exit ?_ | refine W.ret ?_ | refine L.nil ?_ | refine L.p rfl rfl ?_ | refine L.skip rfl ?_)
    rw [hA, hB, show cmpI ((B : Nat) : Int) ((A : Nat) : Int) = -1 by unfold cmpI; rw [if_pos (by omega)]]
    repeat (first | refine W.seq ?_ | refine W.block ?_ | refine W.reg ?_ | refine W.skip ?_ | refine W.exit ?_ | refine W.ret ?_ | refine L.nil ?_ | refine L.p rfl rfl ?_ | refine L.skip rfl ?_)
    refine W.ite rfl (fun h => ?_) (fun h => ?_)
    · cases h
    clear h
    repeat (first | refine W.seq ?_ | refine W.block ?_ | refine W.reg ?_ | refine W.skip ?_ | refine W.exit ?_ | refine W.ret ?_ | refine L.nil ?_ | refine L.p rfl rfl ?_ | refine L.skip rfl ?_)
    refine L.cl (works_C _ (hS.cons kA) (hP.cons kA) (Nat.le_trans hG kA.len)) rfl rfl ?_
    rintro _ S9 ⟨rfl, k9⟩
    refine ⟨fun _ => k9, ?_⟩
    repeat (first | refine W.seq ?_ | refine W.block ?_ | refine W.reg ?_ | refine W.skip ?_ | refine W.exit ?_ | refine W.ret ?_ | refine L.nil ?_ | refine L.p rfl rfl ?_ | refine L.skip rfl ?_)
    exact ⟨.inr rfl, _, rfl, rfl, kA.trans k9⟩
  · rw [show cmpI ((A : Nat) : Int) ((B : Nat) : Int) = 0 by unfold cmpI; rw [if_neg (by omega), if_neg (by omega)]]
    repeat (first | refine W.seq ?_ | refine W.block ?_ | refine W.reg ?_ | refine W.skip ?_ | refine W.exit ?_ | refine W.ret ?_ | refine L.nil ?_ | refine L.p rfl rfl ?_ | refine L.skip rfl ?_)
    refine L.cl (sumN_C _ _ _ _ _ _ T1 i9 i1 (A - B) B (wnum_toW _) hB (by omega)) rfl rfl ?_
    rintro _ T2 ⟨x3, d3, kk, rfl, i3⟩
    refine ⟨fun _ => kk, ?_⟩
    replace kA := kA.trans kk
    replace i0 := i0.cons kk
    replace i1 := i1.cons kk
    replace i6 := i6.cons kk
    repeat (first | refine W.seq ?_ | refine W.block ?_ | refine W.reg ?_ | refine W.skip ?_ | refine W.exit ?_ | refine W.ret ?_ | refine L.nil ?_ | refine L.p rfl rfl ?_ | refine L.skip rfl ?_)
    refine L.cl (sameN_C _ _ _ _ _ _ T2 i3 i6 (by rw [Nat.sub_add_cancel hge])) rfl rfl ?_
    rintro _ M ⟨rfl, hM⟩
    have hM := hM.symm
    subst hM
    refine ⟨fun _ => Cons.refl _, ?_⟩
    repeat (first | refine W.seq ?_ | refine W.block ?_ | refine W.reg ?_ | refine W.skip ?_ | refine W.exit ?_ | refine W.ret ?_ | refine L.nil ?_ | refine L.p rfl rfl ?_ | refine L.skip rfl ?_)
    refine L.cl (natCmp_C x1 x0 d1 d0 lb la T2 i1 i0) rfl rfl ?_
    rintro _ M ⟨rfl, hM⟩
    have hM := hM.symm
    subst hM
    refine ⟨fun _ => Cons.refl _, ?_⟩
    repeat (first | refine W.seq ?_ | refine W.block ?_ | refine W.reg ?_ | refine W.skip ?_ | refine W.exit ?_ | refine W.ret ?_ | refine L.nil ?_ | refine L.p rfl rfl ?_ | refine L.skip rfl ?_)
    rw [hA, hB, show cmpI ((B : Nat) : Int) ((A : Nat) : Int) = 0 by unfold cmpI; rw [if_neg (by omega), if_neg (by omega)]]
    repeat (first | refine W.seq ?_ | refine W.block ?_ | refine W.reg ?_ | refine W.skip ?_ | refine W.exit ?_ | refine W.ret ?_ | refine L.nil ?_ | refine L.p rfl rfl ?_ | refine L.skip rfl ?_)
    refine W.ite rfl (fun h => ?_) (fun h => ?_)
    · cases h
    clear h
    repeat (first | refine W.seq ?_ | refine W.block ?_ | refine W.reg ?_ | refine W.skip ?_ | refine W.exit ?_ | refine W.ret ?_ | refine L.nil ?_ | refine L.p rfl rfl ?_ | refine L.skip rfl ?_)
    refine L.cl (works_C _ (hS.cons kA) (hP.cons kA) (Nat.le_trans hG kA.len)) rfl rfl ?_
    rintro _ S9 ⟨rfl, k9⟩
    refine ⟨fun _ => k9, ?_⟩
    repeat (first | refine W.seq ?_ | refine W.block ?_ | refine W.reg ?_ | refine W.skip ?_ | refine W.exit ?_ | refine W.ret ?_ | refine L.nil ?_ | refine L.p rfl rfl ?_ | refine L.skip rfl ?_)
    exact ⟨.inr rfl, _, rfl, rfl, kA.trans k9⟩
end Go.Proofs.YtbdnkneedengcaaDoor

/- The proof of the statement NatLaws. Conditions: none. -/
namespace Go.Proofs.YtbdnkneedengcaaDoor.natLaws
open Go.ChangeShapes Go.WideShapes Go.ChangeAt Go.RowKit
open Go.ChangeMaps (open_string shut_string)
set_option linter.unusedVariables false

theorem own : ownKnob Tryd.prog.godebug = none := by kernel_rfl
theorem laidOut : laidOutB Tryd.prog = true := by kernel_rfl

theorem walk (a0 : Option Addr) (len0 cap0 : Nat) (z0 : List Int) (a1 : Option Addr) (len1 cap1 : Nat) (z1 : List Int) (a2 : Option Addr) (len2 cap2 : Nat) (z2 : List Int) (w : World) (hG : gN ≤ w.heap.size) (hR : ∀ N, SinOk (mem0 w N) ∧ PowOk (mem0 w N)) (w0 : IsRow .u64 w a0 len0 cap0 z0) (hb0 : ∀ x, a0 = some x → x.block < w.heap.size) (w1 : IsRow .u64 w a1 len1 cap1 z1) (hb1 : ∀ x, a1 = some x → x.block < w.heap.size) (w2 : IsRow .u64 w a2 len2 cap2 z2) (hb2 : ∀ x, a2 = some x → x.block < w.heap.size) :
    Calls Tryd.prog 4 #[.slice a0 len0 cap0, .slice a1 len1 cap1, .slice a2 len2 cap2] w fun e w' => e = .returned (.bool true) ∧ Below w.heap.size w w' := by
  obtain ⟨hs0, hv0, hl0, hc0, hwf0⟩ := world_ints (N := 0) w0 (by simpa using hb0)
  have hcc0 := row_cap w0
  have hf0 : ∀ x, a0 = some x → x.block < (mem0 w).length := fun x hx => by rw [mem0_len]; have := hb0 x hx; omega
  obtain ⟨l0, hll0, hbl0⟩ := words_of z0 len0 hwf0 hl0
  rw [← hbl0] at hs0
  subst hll0
  obtain ⟨hs1, hv1, hl1, hc1, hwf1⟩ := world_ints (N := 0) w1 (by simpa using hb1)
  have hcc1 := row_cap w1
  have hf1 : ∀ x, a1 = some x → x.block < (mem0 w).length := fun x hx => by rw [mem0_len]; have := hb1 x hx; omega
  obtain ⟨l1, hll1, hbl1⟩ := words_of z1 len1 hwf1 hl1
  rw [← hbl1] at hs1
  subst hll1
  obtain ⟨hs2, hv2, hl2, hc2, hwf2⟩ := world_ints (N := 0) w2 (by simpa using hb2)
  have hcc2 := row_cap w2
  have hf2 : ∀ x, a2 = some x → x.block < (mem0 w).length := fun x hx => by rw [mem0_len]; have := hb2 x hx; omega
  obtain ⟨l2, hll2, hbl2⟩ := words_of z2 len2 hwf2 hl2
  rw [← hbl2] at hs2
  subst hll2
  obtain ⟨v, S', hE, rfl, hcons⟩ := (natLaws_C (Ext := NoX) a0 a1 a2 cap0 cap1 cap2 l0 l1 l2 (mem0 w) hs0 hs1 hs2 (Nat.lt_of_le_of_lt hcc0.2 hcc0.1) (Nat.lt_of_le_of_lt hcc1.2 hcc1.1) (Nat.lt_of_le_of_lt hcc2.2 hcc2.1) (hR 0).1 (hR 0).2 (by rw [mem0_len]; omega))
  refine top_true (Checked.mixed Tryd.checked) (fun _ _ _ _ _ h => h.elim) hG (fun a ha => ?_) hE hcons
  simp only [List.mem_cons, List.not_mem_nil, or_false] at ha
  rcases ha with rfl | rfl | rfl
  · exact hv0
  · exact hv1
  · exact hv2

set_option maxRecDepth 100000 in
theorem lifted (os : Os) (started : os.Started) (H : Type) (enc : TypeId × Value → H) :
    ReturnsInHanded {} Tryd.checked os 4 .any (fun w args => (Rows.natLawsSpec.pre enc Tryd.prog Tryd.f4 [] false w args ∧ laidMetH Tryd.prog laidL w) ∧ sizedMet enc Tryd.prog Tryd.f4 (OpenSpec.ofChange Rows.natLawsSpec) false w args)
      (Rows.natLawsSpec.post enc Tryd.prog Tryd.f4 false true false false) := by
  refine returnsInHanded_of_change_and (C := Tryd.checked) (X := fun w _ => laidMetH Tryd.prog laidL w) (fun _ _ _ hh h => h.of_heap hh) own started (by kernel_rfl) Tryd.func4
    (ChangeSpec.witness_shaped (enc := enc) (C := Tryd.checked) (os := os) (X := fun w _ => laidMetH Tryd.prog laidL w) false (World.doorLaid Tryd.prog 400 os) #[.slice none 0 0, .slice none 0 0, .slice none 0 0] 8 rfl (World.shaped_of_RefB (by kernel_rfl) (by kernel_rfl)) (by kernel_rfl) (by kernel_rfl) (by kernel_rfl) (door_met os _)) ?_
  intro W base args ds gs before hval0 hW _ _ hL _
  obtain ⟨hG, hR⟩ := of_laid hL
  have hval : ∀ (j : Nat) t v, Tryd.f4.params[j]? = some t → args[j]? = some v → Value.okWide Tryd.prog W .any base t v := hval0
  have hW' := hW
  obtain ⟨p, q, hA0, hV, rfl, hfz, hnd⟩ := hW
  have hA : DataW.TrodAll enc Tryd.prog W 0 (fun _ => true) true Tryd.f4.params.toList args.toList ds p := hA0
  rw [Tryd.params4] at hA hval
  obtain ⟨v0, vs0, d0, ds0, p0, q0, hargs, rfl, rfl, h0, r0⟩ := trodAll_cons hA
  obtain ⟨v1, vs1, d1, ds1, p1, q1, rfl, rfl, rfl, h1, r1⟩ := trodAll_cons r0
  obtain ⟨v2, vs2, d2, ds2, p2, q2, rfl, rfl, rfl, h2, r2⟩ := trodAll_cons r1
  obtain ⟨rfl, rfl, rfl⟩ := trodAll_nil r2
  obtain rfl : args = #[v0, v1, v2] := by cases args; simp_all
  obtain ⟨rfl, rfl⟩ := trodVars_none hV
  obtain ⟨a0, len0, cap0, rfl⟩ := okWide_slice Tryd.underlying22 (hval 0 22 v0 rfl rfl)
  have hb0 : ∀ x, a0 = some x → x.block < W.heap.size := by rintro x rfl; exact okWide_block Tryd.underlying22 (hval 0 22 _ rfl rfl)
  have k0 := h0
  have lt0 : ∀ x ∈ p0, x.block < W.heap.size := by obtain ⟨m, hm⟩ := k0; exact DataW.trod_lt m _ _ _ hm
  obtain ⟨z0, w0⟩ : ∃ zs, IsRow .u64 W a0 len0 cap0 zs := by
    obtain ⟨fuel, hf⟩ := h0
    rcases open_ints Tryd.underlying22 Tryd.underlying36 (by kernel_rfl) hf with ⟨hcs, _⟩ | ⟨x, l, c, zs, hcs, _, hl, hm, hz, _, hcell, hwz⟩
    · simp [Value.cells] at hcs
      obtain ⟨rfl, rfl, rfl⟩ := hcs
      exact ⟨[], .inl ⟨rfl, rfl, rfl, rfl⟩⟩
    · simp [Value.cells] at hcs
      obtain ⟨rfl, rfl, rfl⟩ := hcs
      exact ⟨zs, .inr ⟨_, rfl, hl, hm, by simpa using hz, hcell, hwz⟩⟩
  obtain ⟨a1, len1, cap1, rfl⟩ := okWide_slice Tryd.underlying22 (hval 1 22 v1 rfl rfl)
  have hb1 : ∀ x, a1 = some x → x.block < W.heap.size := by rintro x rfl; exact okWide_block Tryd.underlying22 (hval 1 22 _ rfl rfl)
  have k1 := h1
  have lt1 : ∀ x ∈ p1, x.block < W.heap.size := by obtain ⟨m, hm⟩ := k1; exact DataW.trod_lt m _ _ _ hm
  obtain ⟨z1, w1⟩ : ∃ zs, IsRow .u64 W a1 len1 cap1 zs := by
    obtain ⟨fuel, hf⟩ := h1
    rcases open_ints Tryd.underlying22 Tryd.underlying36 (by kernel_rfl) hf with ⟨hcs, _⟩ | ⟨x, l, c, zs, hcs, _, hl, hm, hz, _, hcell, hwz⟩
    · simp [Value.cells] at hcs
      obtain ⟨rfl, rfl, rfl⟩ := hcs
      exact ⟨[], .inl ⟨rfl, rfl, rfl, rfl⟩⟩
    · simp [Value.cells] at hcs
      obtain ⟨rfl, rfl, rfl⟩ := hcs
      exact ⟨zs, .inr ⟨_, rfl, hl, hm, by simpa using hz, hcell, hwz⟩⟩
  obtain ⟨a2, len2, cap2, rfl⟩ := okWide_slice Tryd.underlying22 (hval 2 22 v2 rfl rfl)
  have hb2 : ∀ x, a2 = some x → x.block < W.heap.size := by rintro x rfl; exact okWide_block Tryd.underlying22 (hval 2 22 _ rfl rfl)
  have k2 := h2
  have lt2 : ∀ x ∈ p2, x.block < W.heap.size := by obtain ⟨m, hm⟩ := k2; exact DataW.trod_lt m _ _ _ hm
  obtain ⟨z2, w2⟩ : ∃ zs, IsRow .u64 W a2 len2 cap2 zs := by
    obtain ⟨fuel, hf⟩ := h2
    rcases open_ints Tryd.underlying22 Tryd.underlying36 (by kernel_rfl) hf with ⟨hcs, _⟩ | ⟨x, l, c, zs, hcs, _, hl, hm, hz, _, hcell, hwz⟩
    · simp [Value.cells] at hcs
      obtain ⟨rfl, rfl, rfl⟩ := hcs
      exact ⟨[], .inl ⟨rfl, rfl, rfl, rfl⟩⟩
    · simp [Value.cells] at hcs
      obtain ⟨rfl, rfl, rfl⟩ := hcs
      exact ⟨zs, .inr ⟨_, rfl, hl, hm, by simpa using hz, hcell, hwz⟩⟩
  clear hA0 hval0
  refine (walk a0 len0 cap0 z0 a1 len1 cap1 z1 a2 len2 cap2 z2 W hG hR w0 hb0 w1 hb1 w2 hb2).mono fun e W' ⟨he, bel⟩ => ?_
  subst he
  exact ⟨_, rfl, _, _, _, [], _, [], hW', trodAll_mk1 (shut_bool Tryd.underlying4 _), (trodAll_cons_mk (Below.trod laidOut (by kernel_rfl) (of_decide_eq_true (by kernel_rfl)) k0 bel lt0) (trodAll_cons_mk (Below.trod laidOut (by kernel_rfl) (of_decide_eq_true (by kernel_rfl)) k1 bel lt1) (trodAll_cons_mk (Below.trod laidOut (by kernel_rfl) (of_decide_eq_true (by kernel_rfl)) k2 bel lt2) trodAll_mk0))), rfl, bel.frame _, fun h => by cases h⟩

theorem over : Rows.natLawsRow.holds Tryd.pinned (OpenSpec.ofChange Rows.natLawsSpec) :=
  OpenClaim.holds_of_wide 4 Tryd.f4 rfl rfl rfl rfl rfl rfl rfl ⟨rfl, rfl, rfl, rfl, rfl⟩ rfl rfl rfl rfl rfl (by kernel_rfl) Tryd.func4 (by kernel_rfl)
    (of_decide_eq_true (by kernel_rfl)) (by unfold Func.isWrapper; first | (rw [if_pos (by decide +kernel)]; kernel_rfl) | (rw [if_neg (by decide +kernel)]; exact ⟨rfl, rfl⟩))
    (fun os started H enc _ => lifted os started H enc)

/-- the card: the row, its variable tied to the program's text -/
theorem proved : Rows.NatLawsCardSaid :=
  Claim7.holds_tied_plain_at .later [] [.data, .data, .data, .data, .data, .data] true (true, "5146734cd9957351bebcf073fdcbea4e13584e167b6fe6558341177cdadb25c2") false
    over (fun _ h => by cases h) (by kernel_rfl) (fun _ h => by cases h) natLaws_row_tie rfl ⟨rfl, rfl⟩ (by kernel_rfl) rfl
    (fun f fn hf hfn => by
      obtain rfl : f = 4 := Option.some.inj ((show Tryd.prog.funcNamed "vouch/vouchlaw01.NatLaws" = some 4 by kernel_rfl).symm.trans hf) |>.symm
      obtain rfl : fn = Tryd.f4 := (Option.some.inj (Tryd.func4.symm.trans hfn)).symm
      exact ⟨by kernel_rfl, fun j t ht => by
        rw [Tryd.params4] at ht
        match j, ht with
        | 0, ht =>
          obtain rfl : t = 22 := by simpa using ht.symm
          exact (show Tryd.prog.wantsStandIn 22 = false by kernel_rfl)
        | 1, ht =>
          obtain rfl : t = 22 := by simpa using ht.symm
          exact (show Tryd.prog.wantsStandIn 22 = false by kernel_rfl)
        | 2, ht =>
          obtain rfl : t = 22 := by simpa using ht.symm
          exact (show Tryd.prog.wantsStandIn 22 = false by kernel_rfl)
        | j + 3, ht => simp at ht⟩)
    (by kernel_rfl)
end Go.Proofs.YtbdnkneedengcaaDoor.natLaws
