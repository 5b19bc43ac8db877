/- The proof of the statement WholeParts. Conditions: none. -/
import Derived.Test.YtbiigbicgfchiaaGreatDoorLicA
import Derived.Test.YtbiigbicgfchiaaGreatDoorLicB
import Derived.Test.YtbiigbicgfchiaaGreatDoorLicC
import Derived.Test.YtbiigbicgfchiaaGreatDoorLicD
import Derived.Test.YtbiigbicgfchiaaGreatDoorLicE
import Derived.Test.YtbiigbicgfchiaaGreatDoorLicF
import Derived.Test.YtbiigbicgfchiaaGreatDoorRows
import Derived.Test.YtbiigbicgfchiaaGreatDoorTie
import Derived.Test.YtbiigbicgfchiaaGreatDoorCards
import Derived.SevenTiedAt
import Derived.WalkKit
import Derived.ProofKit
import Derived.OpenShut
import Derived.ShutString
import Derived.ChangeOld
import Derived.Below

/- The proof of the statement WholeParts. Conditions: none. -/
namespace Go.Proofs.YtbiigbicgfchiaaGreatDoor.wholeParts
open Go.ChangeShapes Go.WideShapes Go.ChangeAt Go.RowKit
open Go.ChangeMaps (open_string shut_string)
set_option linter.unusedVariables false
theorem own : ownKnob Tryz.prog.godebug = none := by kernel_rfl
theorem laidOut : laidOutB Tryz.prog = true := by kernel_rfl
theorem walk (v0 : Value) (v1 : Value) (w : World) (hG : gN ≤ w.heap.size) (hR : ∀ N, SinOk (mem0 w N) ∧ PowOk (mem0 w N)) (w0 : ∃ N b l, WholeAt w N v0 b l) (w1 : ∃ N b l, WholeAt w N v1 b l) :
  Calls Tryz.prog 5 #[v0, v1] w fun e w' => e = .returned (.bool true) ∧ Below w.heap.size w w' := by
 obtain ⟨N0, b0, l0, _, rfl, ⟨a0, c0, rfl, hk0, hn0, hu0, hw0⟩⟩ := w0
 obtain ⟨N1, b1, l1, _, rfl, ⟨a1, c1, rfl, hk1, hn1, hu1, hw1⟩⟩ := w1
 obtain ⟨N, hN⟩ : ∃ N, N = N0 + N1 := ⟨_, rfl⟩
 obtain ⟨hs0, hv0, hf0⟩ := hw0 N (by omega)
 obtain ⟨hs1, hv1, hf1⟩ := hw1 N (by omega)
 obtain ⟨v, S', hE, rfl, hcons⟩ := (wholeParts_C (Ext := NoX) b0 b1 a0 a1 c0 c1 l0 l1 (mem0 w N) hs0 hs1 (known_lt hk0 hu0) (known_lt hk1 hu1) (hR N).1 (hR N).2 (by rw [mem0_len]; omega))
 refine top_true (Checked.mixed Tryz.checked) (fun _ _ _ _ _ h => h.elim) hG (fun a ha => ?_) hE hcons
 simp only [List.mem_cons, List.not_mem_nil, or_false] at ha
 rcases ha with rfl | rfl
 ·exact VR.agg2 (scalar_VR _ rfl) hv0
 ·exact VR.agg2 (scalar_VR _ rfl) hv1
set_option maxRecDepth 100000 in
theorem lifted (os : Os) (started : os.Started) (H : Type) (enc : TypeId × Value → H) :
  ReturnsInHanded {} Tryz.checked os 5 .any (fun w args => (Rows.wholePartsSpec.pre enc Tryz.prog Tryz.f5 [] false w args ∧ laidMetH Tryz.prog laidL w) ∧ sizedMet enc Tryz.prog Tryz.f5 (OpenSpec.ofChange Rows.wholePartsSpec) false w args)
   (Rows.wholePartsSpec.post enc Tryz.prog Tryz.f5 false true false false) := by
 refine returnsInHanded_of_change_and (C := Tryz.checked) (X := fun w _ => laidMetH Tryz.prog laidL w) (fun _ _ _ hh h => h.of_heap hh) own started (by kernel_rfl) Tryz.func5
  (ChangeSpec.witness_shaped (enc := enc) (C := Tryz.checked) (os := os) (X := fun w _ => laidMetH Tryz.prog laidL w) false (World.doorLaid Tryz.prog 400 os) #[.agg #[.bool false, .slice none 0 0], .agg #[.bool false, .slice none 0 0]] 8 rfl (World.shaped_of_RefB (by kernel_rfl) (by kernel_rfl)) (by kernel_rfl) (by kernel_rfl) (by kernel_rfl) (door_met os _)) ?_
 intro W base args ds gs before hval0 hW _ _ hL _
 obtain ⟨hG, hR⟩ := of_laid hL
 have hval : ∀ (j : Nat) t v, Tryz.f5.params[j]? = some t → args[j]? = some v → Value.okWide Tryz.prog W .any base t v := hval0
 have hW' := hW
 obtain ⟨p, q, hA0, hV, rfl, hfz, hnd⟩ := hW
 have hA : DataW.TrodAll enc Tryz.prog W 0 (fun _ => true) true Tryz.f5.params.toList args.toList ds p := hA0
 rw [Tryz.params5] at hA hval
 obtain ⟨v0, vs0, d0, ds0, p0, q0, hargs, rfl, rfl, h0, r0⟩ := trodAll_cons hA
 obtain ⟨v1, vs1, d1, ds1, p1, q1, rfl, rfl, rfl, h1, r1⟩ := trodAll_cons r0
 obtain ⟨rfl, rfl, rfl⟩ := trodAll_nil r1
 obtain rfl : args = #[v0, v1] := by cases args; simp_all
 obtain ⟨rfl, rfl⟩ := trodVars_none hV
 have lt0 : ∀ x ∈ p0, x.block < W.heap.size := by obtain ⟨m, hm⟩ := h0; exact DataW.trod_lt m _ _ _ hm
 have lt1 : ∀ x ∈ p1, x.block < W.heap.size := by obtain ⟨m, hm⟩ := h1; exact DataW.trod_lt m _ _ _ hm
 clear hA0 hval0
 refine (walk v0 v1 W hG hR (whole_world (okWide_struct Tryz.underlying24 (hval 0 24 v0 rfl rfl)) h0) (whole_world (okWide_struct Tryz.underlying24 (hval 1 24 v1 rfl rfl)) h1)).mono fun e W' ⟨he, bel⟩ => ?_
 subst he
 exact ⟨_, rfl, _, _, _, [], _, [], hW', trodAll_mk1 (shut_bool Tryz.underlying4 _), (trodAll_cons_mk (Below.trod laidOut (by kernel_rfl) (of_decide_eq_true (by kernel_rfl)) h0 bel lt0) (trodAll_cons_mk (Below.trod laidOut (by kernel_rfl) (of_decide_eq_true (by kernel_rfl)) h1 bel lt1) trodAll_mk0)), rfl, bel.frame _, fun h => by cases h⟩
theorem over : Rows.wholePartsRow.holds Tryz.pinned (OpenSpec.ofChange Rows.wholePartsSpec) :=
 OpenClaim.holds_of_wide 5 Tryz.f5 rfl rfl rfl rfl rfl rfl rfl ⟨rfl, rfl, rfl, rfl, rfl⟩ rfl rfl rfl rfl rfl (by kernel_rfl) Tryz.func5 (by kernel_rfl)
  (of_decide_eq_true (by kernel_rfl)) (by unfold Func.isWrapper; first | (rw [if_pos (by decide +kernel)]; kernel_rfl) | (rw [if_neg (by decide +kernel)]; exact ⟨rfl, rfl⟩))
  (fun os started H enc _ => lifted os started H enc)
theorem proved : Rows.WholePartsCardSaid :=
 Claim7.holds_tied_plain_at .later [] [.data, .data, .data, .data, .data, .data] true (true, "fec42c2c2770d3608b3b87db2f8cdd2caa924e50f3b388b6462229a161397f08") true
  over (fun _ h => by cases h) (by kernel_rfl) (fun _ h => by cases h) wholeParts_row_tie rfl ⟨rfl, rfl⟩ (by kernel_rfl) rfl
  (fun f fn hf hfn => by
   obtain rfl : f = 5 := Option.some.inj ((show Tryz.prog.funcNamed "vouch/vouchlaw02.WholeParts" = some 5 by kernel_rfl).symm.trans hf) |>.symm
   obtain rfl : fn = Tryz.f5 := (Option.some.inj (Tryz.func5.symm.trans hfn)).symm
   exact ⟨by kernel_rfl, fun j t ht => by
    rw [Tryz.params5] at ht
    match j, ht with
    | 0, ht =>
     obtain rfl : t = 24 := by simpa using ht.symm
     exact (show Tryz.prog.wantsStandIn 24 = false by kernel_rfl)
    | 1, ht =>
     obtain rfl : t = 24 := by simpa using ht.symm
     exact (show Tryz.prog.wantsStandIn 24 = false by kernel_rfl)
    | j + 2, ht => simp at ht⟩)
  (by kernel_rfl)
end Go.Proofs.YtbiigbicgfchiaaGreatDoor.wholeParts
