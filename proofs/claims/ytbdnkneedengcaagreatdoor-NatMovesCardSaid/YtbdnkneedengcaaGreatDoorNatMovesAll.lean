/- The proof of the statement NatMoves. Conditions: none. -/
import Derived.Test.YtbdnkneedengcaaGreatDoorLibG
import Derived.Test.YtbdnkneedengcaaGreatDoorRows
import Derived.Test.YtbdnkneedengcaaGreatDoorTie
import Derived.Test.YtbdnkneedengcaaGreatDoorCards
import Derived.SevenTiedAt
import Derived.WalkKit
import Derived.ProofKit
import Derived.OpenShut
import Derived.ShutString
import Derived.ChangeOld
import Derived.Below

/- The document's calls of layer 1: walked. Conditions: none. -/
set_option linter.unusedSimpArgs false
set_option linter.unusedVariables false
set_option maxRecDepth 100000
set_option maxHeartbeats 4000000
namespace Go.Proofs.YtbdnkneedengcaaGreatDoor
open Go Ie
variable {Ext : FuncId → List Value → Mem → Outc → Mem → Prop}
theorem WIn.nil (S : Mem) : WIn S none 0 [] := ⟨Slv.nil _ _ _ _, by decide, fun _ => rfl, by decide⟩
end Go.Proofs.YtbdnkneedengcaaGreatDoor

/- The law of reckoning, walked. Conditions: the tables lie in memory. -/
set_option linter.unusedSimpArgs false
set_option linter.unusedVariables false
set_option maxRecDepth 100000
set_option maxHeartbeats 4000000
set_option exponentiation.threshold 20000
namespace Go.Proofs.YtbdnkneedengcaaGreatDoor
open Go Ie
variable {Ext : FuncId → List Value → Mem → Outc → Mem → Prop}
/-! ### lengths -/
theorem toW_le {N : Nat} (h : N < 2 ^ 8192) : (toW N).length ≤ 128 := (toW_len N 128).2 h
/-! ### the same answer twice -/
theorem sameE_C (a1 a2 : Option Addr) (c1 c2 : Nat) (l : WL) (E : Int) (S : Mem) (h1 : WIn S a1 c1 l) (h2 : WIn S a2 c2 l) :
    C Tryz.prog gN Ext 22 [.slice a1 l.length c1, .int .i64 E, .slice a2 l.length c2, .int .i64 E] S fun v S' => v = .bool true ∧ S' = S := by
  refine C.fn Tryz.func22 rfl (by kernel_rfl) rfl ?_
  have hE : (E == E) = true := beq_self_eq_true E
  repeat first|refine W.g ?_|refine L.p rfl rfl ?_|refine L.nil ?_|refine L.skip rfl ?_
  rw [hE]
  repeat first|refine W.g ?_|refine L.p rfl rfl ?_|refine L.nil ?_|refine L.skip rfl ?_
  refine L.cl (sameW_C _ _ l l l.length l.length S h1.1 h2.1 h1.2.2.2 h1.2.2.2) rfl rfl ?_
  rintro _ M ⟨rfl, hM⟩
  have hM := hM.symm
  subst hM
  refine ⟨fun _ => Cons.refl _, ?_⟩
  rw [beq_self_eq_true (l : WL)]
  repeat first|refine W.g ?_|refine L.p rfl rfl ?_|refine L.nil ?_|refine L.skip rfl ?_
  exact ⟨.inr rfl, _, rfl, rfl, rfl⟩
theorem lent_win {S : Mem} {b : Nat} {l : WL} (h : S.row? b = some (grownR (wv (l ++ marksW 16)) 55 1)) (hl : l.length < 4294967296) : WIn S (some ⟨b, 0, none⟩) (UNK + (l.length + 16)) l := by
  refine ⟨?_, by rw [knownCap_unk]; omega, nofun, by omega⟩
  have := Slv.of (sz := 1) (n := l.length) (o := 0) (c := UNK + (l.length + 16)) h (by simp [grownR, wv]) (.inl rfl)
  rwa [List.drop_zero, show ((grownR (wv (l ++ marksW 16)) 55 1).cells.take (l.length * 1)) = wv l by simp [grownR, wv]] at this
end Go.Proofs.YtbdnkneedengcaaGreatDoor

/- The law of shifting and writing, walked. Conditions: the tables lie in memory. -/
set_option linter.unusedSimpArgs false
set_option linter.unusedVariables false
set_option maxRecDepth 100000
set_option maxHeartbeats 4000000
set_option exponentiation.threshold 20000
namespace Go.Proofs.YtbdnkneedengcaaGreatDoor
open Go Ie
theorem shL_len (l : WL) (s : Int) : (shL l s).length ≤ 128 := by
  unfold shL
  split
  · rename_i hsm
    have hN := small_num l
    rw [hsm] at hN
    have hN := of_decide_eq_true hN.symm
    split
    · exact Nat.zero_le _
    · split
      · exact Nat.zero_le _
      · rename_i h1 h2
        split
        · exact toW_le (Nat.lt_of_le_of_lt (Nat.div_le_self _ _) hN)
        · refine toW_le ?_
          have h5 := blen_lt (wnum l)
          have h6 : blen (wnum l) + s.natAbs ≤ 8192 := by
            generalize blen (wnum l) = b at *
            omega
          generalize wnum l = N at *
          calc N * 2 ^ s.natAbs < 2 ^ blen N * 2 ^ s.natAbs := Nat.mul_lt_mul_of_pos_right h5 (Nat.two_pow_pos _)
            _ = 2 ^ (blen N + s.natAbs) := (Nat.pow_add _ _ _).symm
            _ ≤ 2 ^ 8192 := Nat.pow_le_pow_right (by decide) h6
  · exact Nat.zero_le _
theorem natMoves_C (a0 : Option Addr) (c0 : Nat) (l0 : WL) (s : Int) (S : Mem) (h0 : WPre S a0 c0 l0) (hs : -9223372036854775808 ≤ s ∧ s ≤ 9223372036854775807) (hS : SinOk S) (hP : PowOk S) (hG : gN ≤ S.length) :
    C Tryz.prog gN (Known Tryz.prog gN) 4 [.slice a0 l0.length c0, .int .i64 s] S fun v S' => v = .bool true ∧ Cons S S' := by
  refine C.fn Tryz.func4 rfl (by kernel_rfl) rfl ?_
  repeat first|refine W.g ?_|refine L.p rfl rfl ?_|refine L.nil ?_|refine L.skip rfl ?_
  refine W.ite rfl (fun h => ?_) (fun h => ?_)
  · repeat first|refine W.g ?_|refine L.p rfl rfl ?_|refine L.nil ?_|refine L.skip rfl ?_
    exact ⟨.inr rfl, _, rfl, rfl, Cons.refl _⟩
  have hn0 : l0.length ≤ 300 := by have := of_decide_eq_false h; omega
  clear h
  replace h0 := h0.win (by omega)
  repeat first|refine W.g ?_|refine L.p rfl rfl ?_|refine L.nil ?_|refine L.skip rfl ?_
  refine L.cl (lentW_C _ l0 S h0.1 (by omega)) rfl rfl ?_
  rintro _ S1 ⟨k1, x, hx, rfl, hr0⟩
  refine ⟨fun _ => k1, ?_⟩
  have hxw := lent_win hr0 (by omega)
  repeat first|refine W.g ?_|refine L.p rfl rfl ?_|refine L.nil ?_|refine L.skip rfl ?_
  refine L.cl (shift_C _ _ l0 s S1 hxw hs) rfl rfl ?_
  rintro _ T1 ⟨d1, rfl, r1⟩
  refine ⟨fun _ => r1.1, ?_⟩
  rw [r1.val]
  have kT1 := r1.1
  repeat first|refine W.g ?_|refine L.p rfl rfl ?_|refine L.nil ?_|refine L.skip rfl ?_
  refine L.cl (natText_C _ _ l0 T1 (hxw.cons kT1) ((hP.cons k1).cons kT1)) rfl rfl ?_
  rintro _ T2 ⟨rfl, k2⟩
  refine ⟨fun _ => k2, ?_⟩
  have kT2 := kT1.trans k2
  repeat first|refine W.g ?_|refine L.p rfl rfl ?_|refine L.nil ?_|refine L.skip rfl ?_
  refine L.cl (natBytes_C _ _ l0 T2 (hxw.cons kT2)) rfl rfl ?_
  rintro _ T3 ⟨d3, rfl, r3⟩
  refine ⟨fun _ => r3.1, ?_⟩
  have kT3 := kT2.trans r3.1
  repeat first|refine W.g ?_|refine L.p rfl rfl ?_|refine L.nil ?_|refine L.skip rfl ?_
  refine L.cl (refShift_C _ _ l0 s T3 ((h0.cons k1).cons kT3) (by omega) hs) rfl rfl ?_
  rintro _ T4 ⟨a4, c4, rfl, k4, w4⟩
  refine ⟨fun _ => k4, ?_⟩
  have kT4 := kT3.trans k4
  repeat first|refine W.g ?_|refine L.p rfl rfl ?_|refine L.nil ?_|refine L.skip rfl ?_
  refine L.cl (refText_C _ _ l0 T4 ((h0.cons k1).cons kT4) (by omega)) rfl rfl ?_
  rintro _ T5 ⟨rfl, k5⟩
  refine ⟨fun _ => k5, ?_⟩
  have kT5 := kT4.trans k5
  repeat first|refine W.g ?_|refine L.p rfl rfl ?_|refine L.nil ?_|refine L.skip rfl ?_
  refine L.cl (refBytes_C _ _ l0 T5 ((h0.cons k1).cons kT5) (by omega)) rfl rfl ?_
  rintro _ M0 ⟨a6, c6, rfl, k6, w6⟩
  refine ⟨fun _ => k6, ?_⟩
  have kM := kT5.trans k6
  have kB : Cons T3 M0 := (k4.trans k5).trans k6
  have kA : Cons T1 M0 := (k2.trans r3.1).trans kB
  repeat first|refine W.g ?_|refine L.p rfl rfl ?_|refine L.nil ?_|refine L.skip rfl ?_
  refine L.eff (v := .pointer (some ⟨M0.length, 0, none⟩)) (S1 := M0 ++ [newR [.slice none 0 0, .slice none 0 0] 27]) rfl rfl ?_
  have hB := BK.new M0
  obtain ⟨T0, hT0⟩ : ∃ T0, T0 = M0 ++ [newR [.slice none 0 0, .slice none 0 0] 27] := ⟨_, rfl⟩
  rw [← hT0] at hB ⊢
  clear hT0
  repeat first|refine W.g ?_|refine L.p rfl rfl ?_|refine L.nil ?_|refine L.skip rfl ?_
  rw [← RetW.val r1]
  refine L.cl (words_BK d1 hB (by decide)) rfl rfl ?_
  rintro _ T6 hB6
  refine ⟨nofun, ?_⟩
  repeat first|refine W.g ?_|refine L.p rfl rfl ?_|refine L.nil ?_|refine L.skip rfl ?_
  refine L.cl (bytes_BK d3 hB6 (by decide)) rfl rfl ?_
  rintro _ T7 hB7
  refine ⟨nofun, ?_⟩
  have k7 : Cons M0 T7 := hB7.1
  have kx7 : Cons S1 T7 := kM.trans k7
  repeat first|refine W.g ?_|refine L.p rfl rfl ?_|refine L.nil ?_|refine L.skip rfl ?_
  refine L.cl (keptW_C _ l0 x _ _ (Cons.row (h := kx7) hr0) rfl rfl ((h0.cons k1).cons kx7).1 (by omega)) rfl rfl ?_
  rintro _ M ⟨rfl, hM⟩
  have hM := hM.symm
  subst hM
  refine ⟨fun _ => Cons.refl _, ?_⟩
  repeat first|refine W.g ?_|refine L.p rfl rfl ?_|refine L.nil ?_|refine L.skip rfl ?_
  have hdn : d1.n = (shL l0 s).length := by have := r1.2.2.1.len; rw [wv_len] at this; exact this.symm
  rw [hdn]
  refine L.cl (sameE_C _ _ _ _ _ _ T7 ((r1.win.cons kA).cons k7) (w4.cons ((k5.trans k6).trans k7))) rfl rfl ?_
  rintro _ M ⟨rfl, hM⟩
  have hM := hM.symm
  subst hM
  refine ⟨fun _ => Cons.refl _, ?_⟩
  repeat first|refine W.g ?_|refine L.p rfl rfl ?_|refine L.nil ?_|refine L.skip rfl ?_
  rw [show ((strB (textL l0)).toList == (strB (textL l0)).toList) = true from beq_self_eq_true _]
  repeat first|refine W.g ?_|refine L.p rfl rfl ?_|refine L.nil ?_|refine L.skip rfl ?_
  rw [show (textE l0 == textE l0) = true from beq_self_eq_true _]
  repeat first|refine W.g ?_|refine L.p rfl rfl ?_|refine L.nil ?_|refine L.skip rfl ?_
  rw [show (toldE l0 == toldE l0) = true from beq_self_eq_true _]
  repeat first|refine W.g ?_|refine L.p rfl rfl ?_|refine L.nil ?_|refine L.skip rfl ?_
  have hdn3 : d3.n = (bytesL l0).length := by have := r3.2.2.1.len; rw [bv_len] at this; exact this.symm
  have hbl : (bytesL l0).length < 1099511627776 := r3.2.1
  have s3 := (r3.2.2.1.cons kB).cons k7
  refine L.cl (same_C _ _ (bytesL l0) (bytesL l0) d3.n (bytesL l0).length T7 s3.slv (w6.cons k7).1 (by omega) hbl) rfl rfl ?_
  rintro _ M ⟨rfl, hM⟩
  have hM := hM.symm
  subst hM
  refine ⟨fun _ => Cons.refl _, ?_⟩
  repeat first|refine W.g ?_|refine L.p rfl rfl ?_|refine L.nil ?_|refine L.skip rfl ?_
  rw [show (bytesL l0 == bytesL l0) = true from beq_self_eq_true (bytesL l0 : BL)]
  repeat first|refine W.g ?_|refine L.p rfl rfl ?_|refine L.nil ?_|refine L.skip rfl ?_
  have hw1 : (shL l0 s).length ≤ 1000000000000 := Nat.le_trans (shL_len l0 s) (by decide)
  have hb3 : (bytesL l0).length ≤ 1000000000000 := by
    unfold bytesL
    split
    · rename_i hsm
      have hN := small_num l0
      rw [hsm] at hN
      have hb := blen_le.2 (of_decide_eq_true hN.symm)
      rw [toB_len]
      unfold bsz
      omega
    · exact Nat.zero_le _
  have hd1 : ∀ b, b ∈ blks ([] ++ [d1]) → d1.a = some b := fun b hm => (mem_blks.1 hm).resolve_right (by simp [blks])
  have hd3 : ∀ b, b ∈ blks ([] ++ [d3]) → d3.a = some b := fun b hm => (mem_blks.1 hm).resolve_right (by simp [blks])
  refine L.cl (apart_BK hB7 ⟨by simp, by simp⟩ (.add (r1.2.2.1.cons kA) (by rw [wv_len]; exact hw1) (.nil _ _)) (.add (r3.2.2.1.cons kB) (by rw [bv_len]; exact hb3) (.nil _ _)) (.add (fun b e hm => by simp [blks] at hm) .nil) (.add (fun b e hm => by simp [blks] at hm) .nil) (fun b hm hm2 => ?_)) rfl rfl ?_
  · have e1 := r1.2.2.1.lt (hd1 b hm)
    have e3 := r3.2.2.2 b (hd3 b hm2)
    have := k2.len
    omega
  rintro _ T8 ⟨rfl, hk8⟩
  have k8 : Cons S1 T8 := hk8.cons0 kM (fun b hm => by
    rcases List.mem_append.1 hm with hm | hm
    · exact r1.2.2.2 b (hd1 b hm)
    · exact Nat.le_trans kT2.len (r3.2.2.2 b (hd3 b hm)))
  refine ⟨nofun, ?_⟩
  repeat first|refine W.g ?_|refine L.p rfl rfl ?_|refine L.nil ?_|refine L.skip rfl ?_
  refine L.cl (keptW_C _ l0 x _ _ (Cons.row (h := k8) hr0) rfl rfl ((h0.cons k1).cons k8).1 (by omega)) rfl rfl ?_
  rintro _ M ⟨rfl, hM⟩
  have hM := hM.symm
  subst hM
  refine ⟨fun _ => Cons.refl _, ?_⟩
  repeat first|refine W.g ?_|refine L.p rfl rfl ?_|refine L.nil ?_|refine L.skip rfl ?_
  refine L.cl (works_C T8 (hS.cons (k1.trans k8)) (hP.cons (k1.trans k8)) (Nat.le_trans hG (k1.trans k8).len)) rfl rfl ?_
  rintro _ T9 ⟨rfl, k9⟩
  refine ⟨fun _ => k9, ?_⟩
  repeat first|refine W.g ?_|refine L.p rfl rfl ?_|refine L.nil ?_|refine L.skip rfl ?_
  exact ⟨.inr rfl, _, rfl, rfl, (k1.trans k8).trans k9⟩
end Go.Proofs.YtbdnkneedengcaaGreatDoor

/- The proof of the statement NatMoves. Conditions: none. -/
namespace Go.Proofs.YtbdnkneedengcaaGreatDoor.natMoves
open Go.ChangeShapes Go.WideShapes Go.ChangeAt Go.RowKit
open Go.ChangeMaps (open_string shut_string)
set_option linter.unusedVariables false

theorem own : ownKnob Tryz.prog.godebug = none := by kernel_rfl
theorem laidOut : laidOutB Tryz.prog = true := by kernel_rfl

theorem walk (a0 : Option Addr) (len0 cap0 : Nat) (z0 : List Int) (a1 : Int) (w : World) (hG : gN ≤ w.heap.size) (hR : ∀ N, SinOk (mem0 w N) ∧ PowOk (mem0 w N)) (w0 : IsRow .u64 w a0 len0 cap0 z0) (hb0 : ∀ x, a0 = some x → x.block < w.heap.size) (w1 : (Lit.int .i64 a1).wf = true) :
    Calls Tryz.prog 4 #[.slice a0 len0 cap0, .int .i64 a1] w fun e w' => e = .returned (.bool true) ∧ Below w.heap.size w w' := by
  obtain ⟨hs0, hv0, hl0, hc0, hwf0⟩ := world_ints (N := 0) w0 (by simpa using hb0)
  have hcc0 := row_cap w0
  have hf0 : ∀ x, a0 = some x → x.block < (mem0 w).length := fun x hx => by rw [mem0_len]; have := hb0 x hx; omega
  obtain ⟨l0, hll0, hbl0⟩ := words_of z0 len0 hwf0 hl0
  rw [← hbl0] at hs0
  subst hll0
  have hx1 : -9223372036854775808 ≤ a1 ∧ a1 ≤ 9223372036854775807 := by simpa [Lit.wf, IntKind.min, IntKind.max, IntKind.signed, IntKind.bits] using w1
  obtain ⟨v, S', hE, rfl, hcons⟩ := (natMoves_C a0 cap0 l0 a1 (mem0 w) (row_pre w0 hs0) hx1 (hR 0).1 (hR 0).2 (by rw [mem0_len]; omega))
  refine top_true (Checked.mixed Tryz.checked) (fun _ _ _ _ _ h => h) hG (fun a ha => ?_) hE hcons
  simp only [List.mem_cons, List.not_mem_nil, or_false] at ha
  rcases ha with rfl | rfl
  · exact hv0
  · exact scalar_VR _ rfl

set_option maxRecDepth 100000 in
theorem lifted (os : Os) (started : os.Started) (H : Type) (enc : TypeId × Value → H) :
    ReturnsInHanded {} Tryz.checked os 4 .any (fun w args => (Rows.natMovesSpec.pre enc Tryz.prog Tryz.f4 [] false w args ∧ laidMetH Tryz.prog laidL w) ∧ sizedMet enc Tryz.prog Tryz.f4 (OpenSpec.ofChange Rows.natMovesSpec) false w args)
      (Rows.natMovesSpec.post enc Tryz.prog Tryz.f4 false true false false) := by
  refine returnsInHanded_of_change_and (C := Tryz.checked) (X := fun w _ => laidMetH Tryz.prog laidL w) (fun _ _ _ hh h => h.of_heap hh) own started (by kernel_rfl) Tryz.func4
    (ChangeSpec.witness_shaped (enc := enc) (C := Tryz.checked) (os := os) (X := fun w _ => laidMetH Tryz.prog laidL w) false (World.doorLaid Tryz.prog 400 os) #[.slice none 0 0, .int .i64 0] 8 rfl (World.shaped_of_RefB (by kernel_rfl) (by kernel_rfl)) (by kernel_rfl) (by kernel_rfl) (by kernel_rfl) (door_met os _)) ?_
  intro W base args ds gs before hval0 hW _ _ hL _
  obtain ⟨hG, hR⟩ := of_laid hL
  have hval : ∀ (j : Nat) t v, Tryz.f4.params[j]? = some t → args[j]? = some v → Value.okWide Tryz.prog W .any base t v := hval0
  have hW' := hW
  obtain ⟨p, q, hA0, hV, rfl, hfz, hnd⟩ := hW
  have hA : DataW.TrodAll enc Tryz.prog W 0 (fun _ => true) true Tryz.f4.params.toList args.toList ds p := hA0
  rw [Tryz.params4] at hA hval
  obtain ⟨v0, vs0, d0, ds0, p0, q0, hargs, rfl, rfl, h0, r0⟩ := trodAll_cons hA
  obtain ⟨v1, vs1, d1, ds1, p1, q1, rfl, rfl, rfl, h1, r1⟩ := trodAll_cons r0
  obtain ⟨rfl, rfl, rfl⟩ := trodAll_nil r1
  obtain rfl : args = #[v0, v1] := by cases args; simp_all
  obtain ⟨rfl, rfl⟩ := trodVars_none hV
  obtain ⟨a0, len0, cap0, rfl⟩ := okWide_slice Tryz.underlying22 (hval 0 22 v0 rfl rfl)
  have hb0 : ∀ x, a0 = some x → x.block < W.heap.size := by rintro x rfl; exact okWide_block Tryz.underlying22 (hval 0 22 _ rfl rfl)
  have k0 := h0
  have lt0 : ∀ x ∈ p0, x.block < W.heap.size := by obtain ⟨m, hm⟩ := k0; exact DataW.trod_lt m _ _ _ hm
  obtain ⟨z0, w0⟩ : ∃ zs, IsRow .u64 W a0 len0 cap0 zs := by
    obtain ⟨fuel, hf⟩ := h0
    rcases open_ints Tryz.underlying22 Tryz.underlying55 (by kernel_rfl) hf with ⟨hcs, _⟩ | ⟨x, l, c, zs, hcs, _, hl, hm, hz, _, hcell, hwz⟩
    · simp [Value.cells] at hcs
      obtain ⟨rfl, rfl, rfl⟩ := hcs
      exact ⟨[], .inl ⟨rfl, rfl, rfl, rfl⟩⟩
    · simp [Value.cells] at hcs
      obtain ⟨rfl, rfl, rfl⟩ := hcs
      exact ⟨zs, .inr ⟨_, rfl, hl, hm, by simpa using hz, hcell, hwz⟩⟩
  obtain ⟨a1, rfl, rfl, rfl, w1⟩ := open_int Tryz.underlying3 (hval 1 3 v1 rfl rfl) h1
  clear hA0 hval0
  refine (walk a0 len0 cap0 z0 a1 W hG hR w0 hb0 w1).mono fun e W' ⟨he, bel⟩ => ?_
  subst he
  exact ⟨_, rfl, _, _, _, [], _, [], hW', trodAll_mk1 (shut_bool Tryz.underlying4 _), (trodAll_cons_mk (Below.trod laidOut (by kernel_rfl) (of_decide_eq_true (by kernel_rfl)) k0 bel lt0) (trodAll_cons_mk (shut_int Tryz.underlying3 w1) trodAll_mk0)), rfl, bel.frame _, fun h => by cases h⟩

theorem over : Rows.natMovesRow.holds Tryz.pinned (OpenSpec.ofChange Rows.natMovesSpec) :=
  OpenClaim.holds_of_wide 4 Tryz.f4 rfl rfl rfl rfl rfl rfl rfl ⟨rfl, rfl, rfl, rfl, rfl⟩ rfl rfl rfl rfl rfl (by kernel_rfl) Tryz.func4 (by kernel_rfl)
    (of_decide_eq_true (by kernel_rfl)) (by unfold Func.isWrapper; first | (rw [if_pos (by decide +kernel)]; kernel_rfl) | (rw [if_neg (by decide +kernel)]; exact ⟨rfl, rfl⟩))
    (fun os started H enc _ => lifted os started H enc)

/-- the card: the row, its variable tied to the program's text -/
theorem proved : Rows.NatMovesCardSaid :=
  Claim7.holds_tied_plain_at .later [] [.data, .data, .data, .data, .data, .data] true (true, "f359f1ec3b8a34669a412f1fb12c4f4546e2aa5dd4fb8b79c44fe11e8264e144") true
    over (fun _ h => by cases h) (by kernel_rfl) (fun _ h => by cases h) natMoves_row_tie rfl ⟨rfl, rfl⟩ (by kernel_rfl) rfl
    (fun f fn hf hfn => by
      obtain rfl : f = 4 := Option.some.inj ((show Tryz.prog.funcNamed "vouch/vouchlaw01.NatMoves" = some 4 by kernel_rfl).symm.trans hf) |>.symm
      obtain rfl : fn = Tryz.f4 := (Option.some.inj (Tryz.func4.symm.trans hfn)).symm
      exact ⟨by kernel_rfl, fun j t ht => by
        rw [Tryz.params4] at ht
        match j, ht with
        | 0, ht =>
          obtain rfl : t = 22 := by simpa using ht.symm
          exact (show Tryz.prog.wantsStandIn 22 = false by kernel_rfl)
        | 1, ht =>
          obtain rfl : t = 3 := by simpa using ht.symm
          exact (show Tryz.prog.wantsStandIn 3 = false by kernel_rfl)
        | j + 2, ht => simp at ht⟩)
    (by kernel_rfl)
end Go.Proofs.YtbdnkneedengcaaGreatDoor.natMoves
