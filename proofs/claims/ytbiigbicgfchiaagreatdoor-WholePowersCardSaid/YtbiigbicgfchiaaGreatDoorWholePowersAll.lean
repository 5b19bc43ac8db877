/- The proof of the statement WholePowers. Conditions: none. -/
import Derived.Test.YtbiigbicgfchiaaGreatDoorLibA
import Derived.Test.YtbiigbicgfchiaaGreatDoorLibB
import Derived.Test.YtbiigbicgfchiaaGreatDoorLibC
import Derived.Test.YtbiigbicgfchiaaGreatDoorLibD
import Derived.Test.YtbiigbicgfchiaaGreatDoorLibE
import Derived.Test.YtbiigbicgfchiaaGreatDoorLibF
import Derived.Test.YtbiigbicgfchiaaGreatDoorLibG
import Derived.Test.YtbiigbicgfchiaaGreatDoorRows
import Derived.Test.YtbiigbicgfchiaaGreatDoorTie
import Derived.Test.YtbiigbicgfchiaaGreatDoorCards
import Derived.SevenTiedAt
import Derived.WalkKit
import Derived.ProofKit
import Derived.OpenShut
import Derived.ShutString
import Derived.ChangeOld
import Derived.Below

/- The law of powers, walked. Conditions: the tables lie in memory. -/
set_option linter.unusedSimpArgs false
set_option linter.unusedVariables false
set_option maxRecDepth 100000
set_option maxHeartbeats 4000000
set_option exponentiation.threshold 20000
namespace Go.Proofs.YtbiigbicgfchiaaGreatDoor
open Go Ie
variable {Ext : FuncId → List Value → Mem → Outc → Mem → Prop}
theorem wholePowers_C (b0 b1 : Bool) (a0 a1 : Option Addr) (c0 c1 : Nat) (l0 l1 : WL) (S : Mem) (h0 : WPre S a0 c0 l0) (h1 : WPre S a1 c1 l1) (hS : SinOk S) (hP : PowOk S) (hG : gN ≤ S.length) :
  C Tryz.prog gN Ext 3 [wZ b0 (.slice a0 l0.length c0), wZ b1 (.slice a1 l1.length c1)] S fun v S' => v = .bool true ∧ Cons S S' := by
 refine C.fn Tryz.func3 rfl (by kernel_rfl) rfl ?_
 repeat first|apply wg|refine ss rfl ?_|apply nl
 refine L.nr [.bool b0, .slice a0 l0.length c0] wT rfl rfl (fun b2 Tb2 gb2 kb2 rb2 => ?_)
 refine L.nr [.bool b1, .slice a1 l1.length c1] wT rfl rfl (fun b3 Tb3 gb3 kb3 rb3 => ?_)
 have kM := kb2.trans kb3
 replace rb2 := Cons.row (h := kb3) rb2
 have hc := Cons.refl Tb3
 clear kb2 kb3 gb2 gb3
 repeat first|apply wg|refine ss rfl ?_|apply nl
 refine L.zf (Cons.row (h := hc) rb2) rfl rfl rfl rfl rfl ?_
 repeat first|apply wg|refine ss rfl ?_|apply nl
 cases hg0 : decide ((l0.length : Int) > 200)
 case true =>
  repeat first|apply wg|refine ss rfl ?_|apply nl
  refine W.ite rfl (fun h => ?_) (fun h => ?_)
  ·repeat first|apply wg|refine ss rfl ?_|apply nl
   exact ⟨.inr rfl, _, rfl, rfl, kM.trans hc⟩
  ·cases h
 repeat first|apply wg|refine ss rfl ?_|apply nl
 refine L.zf (Cons.row (h := hc) rb3) rfl rfl rfl rfl rfl ?_
 repeat first|apply wg|refine ss rfl ?_|apply nl
 cases hg1 : decide ((l1.length : Int) > 200)
 case true =>
  repeat first|apply wg|refine ss rfl ?_|apply nl
  refine W.ite rfl (fun h => ?_) (fun h => ?_)
  ·repeat first|apply wg|refine ss rfl ?_|apply nl
   exact ⟨.inr rfl, _, rfl, rfl, kM.trans hc⟩
  ·cases h
 repeat first|apply wg|refine ss rfl ?_|apply nl
 refine W.ite rfl (fun h => ?_) (fun h => ?_)
 ·cases h
 clear h
 have hn0 : l0.length ≤ 200 := by have := of_decide_eq_false hg0; omega
 have hn1 : l1.length ≤ 200 := by have := of_decide_eq_false hg1; omega
 clear hg0 hg1
 replace h0 := (h0.win (by omega)).cons kM
 replace h1 := (h1.win (by omega)).cons kM
 repeat first|apply wg|refine ss rfl ?_|apply nl
 refine L.z2 (Cons.row (h := hc) rb2) rfl rfl rfl ?_
 repeat first|apply wg|refine ss rfl ?_|apply nl
 refine L.cl (lentZ_C b0 a0 c0 l0 _ (h0.cons hc) (by omega)) rfl rfl ?_
 rintro _ S1 ⟨k1, x, hx, rfl, hr0⟩
 refine ⟨fun _ => k1, ?_⟩
 replace hc := hc.trans k1
 repeat first|apply wg|refine ss rfl ?_|apply nl
 refine L.z2 (Cons.row (h := hc) rb3) rfl rfl rfl ?_
 repeat first|apply wg|refine ss rfl ?_|apply nl
 refine L.cl (lentZ_C b1 a1 c1 l1 _ (h1.cons hc) (by omega)) rfl rfl ?_
 rintro _ S2 ⟨k2, y, hy, rfl, hr1⟩
 refine ⟨fun _ => k2, ?_⟩
 replace hc := hc.trans k2
 replace hr0 := Cons.row (h := k2) hr0
 clear hx hy k1 k2
 repeat first|apply wg|refine ss rfl ?_|apply nl
 refine L.nr [.bool false, .slice none 0 0] wT rfl rfl (fun b5 T1' g1' k1' r1' => ?_)
 refine L.nr [.bool false, .slice none 0 0] wT rfl rfl (fun b6 T2' g2' k2' r2' => ?_)
 have n12 : b6 ≠ b5 := by have := row_lt r1'; omega
 replace r1' := Cons.row (h := k2') r1'
 refine L.st2 r1' rfl rfl rfl rfl rfl rfl (fun T3' kk1 s1' => ?_)
 refine L.st2 (kk1.row r2' n12) rfl rfl rfl rfl rfl rfl (fun M0 kk2 rb6 => ?_)
 have rb5 := kk2.row s1' (Ne.symm n12)
 have kx := kk2.mono (kk1.mono (k1'.trans k2') g1') (Nat.le_trans k1'.len g2')
 replace hc := hc.trans kx
 replace hr0 := Cons.row (h := kx) hr0
 replace hr1 := Cons.row (h := kx) hr1
 replace rb2 := Cons.row (h := hc) rb2
 replace rb3 := Cons.row (h := hc) rb3
 replace h0 := h0.cons hc
 replace h1 := h1.cons hc
 have kS := kM.trans hc
 replace hS := hS.cons kS
 replace hP := hP.cons kS
 replace hG := Nat.le_trans hG kS.len
 have hx := lent_win hr0 (by omega)
 have hy := lent_win hr1 (by omega)
 clear kx kk1 kk2 s1' r1' r2' k1' k2' g1' g2' n12 hc kM
 have hc := Cons.refl M0
 have hZ := Zs.nil M0
 have hQ := Qs.nil M0
 have hK := PK.nil M0
 obtain ⟨X, hX⟩ : ∃ X, zv b0 l0 = X := ⟨_, rfl⟩
 obtain ⟨Y, hY⟩ : ∃ Y, zv b1 l1 = Y := ⟨_, rfl⟩
 have X5 : ZIn M0 (.agg #[.bool b0, .slice (some ⟨x, 0, none⟩) l0.length (UNK + (l0.length + 16))]) X 200 := ⟨_, _, _, _, rfl, hx, hn0, hX⟩
 have Y6 : ZIn M0 (.agg #[.bool b1, .slice (some ⟨y, 0, none⟩) l1.length (UNK + (l1.length + 16))]) Y 200 := ⟨_, _, _, _, rfl, hy, hn1, hY⟩
 have X2 : ZIn M0 (.agg #[.bool b0, .slice a0 l0.length c0]) X 200 := ⟨_, _, _, _, rfl, h0, hn0, hX⟩
 have Y3 : ZIn M0 (.agg #[.bool b1, .slice a1 l1.length c1]) Y 200 := ⟨_, _, _, _, rfl, h1, hn1, hY⟩
 repeat first|apply wg|refine ss rfl ?_|apply nl
 refine L.z2 (Cons.row (h := hc) rb5) rfl rfl rfl ?_
 repeat first|apply wg|refine ss rfl ?_|apply nl
 refine L.z2 (Cons.row (h := hc) rb6) rfl rfl rfl ?_
 repeat first|apply wg|refine ss rfl ?_|apply nl
 refine L.cl (iPow_C (X5.cons hc) (Y6.cons hc) (hS.cons hc) (Nat.le_trans hG hc.len)) rfl rfl ?_
 rintro _ T' hr
 obtain ⟨d11, rfl, r11⟩ := hr.both
 refine ⟨fun _ => r11.1, ?_⟩
 clear hr
 have w11 := r11.win
 have v11 := r11.val
 replace hZ := hZ.cons r11.1
 replace hQ := hQ.cons r11.1
 replace hK := hK.add r11 (zcE_len (zzP_ok))
 replace hc := hc.trans r11.1
 clear r11
 repeat first|apply wg|refine ss rfl ?_|apply nl
 refine L.nr [.bool false, .slice none 0 0] wT rfl rfl (fun b11 T' g' k' r' => ?_)
 refine L.st2 r' rfl rfl rfl rfl rfl rfl (fun T' kk' r'' => ?_)
 have kx := kk'.mono k' g'
 replace hZ := hZ.cons kx
 replace hQ := (hQ.cons kx).add ⟨r'', w11.cons kx⟩
 replace hK := hK.cons kx
 replace hc := hc.trans kx
 clear kx kk' r'' r' k' g' w11
 repeat first|apply wg|refine ss rfl ?_|apply nl
 refine L.z2 (Cons.row (h := hc) rb2) rfl rfl rfl ?_
 repeat first|apply wg|refine ss rfl ?_|apply nl
 refine L.z2 (Cons.row (h := hc) rb3) rfl rfl rfl ?_
 repeat first|apply wg|refine ss rfl ?_|apply nl
 refine L.cl (rzPow_C (X2.cons hc) (Y3.cons hc) (by decide) (by decide)) rfl rfl ?_
 rintro _ T' ⟨_, rfl, k0', a21, c21, rfl, w21⟩
 refine ⟨fun _ => k0', ?_⟩
 replace hZ := hZ.cons k0'
 replace hQ := hQ.cons k0'
 replace hK := hK.cons k0'
 replace hc := hc.trans k0'
 clear k0'
 repeat first|apply wg|refine ss rfl ?_|apply nl
 refine L.nr [.bool false, .slice none 0 0] wT rfl rfl (fun b21 T' g' k' r' => ?_)
 refine L.st2 r' rfl rfl rfl rfl rfl rfl (fun T' kk' r'' => ?_)
 have kx := kk'.mono k' g'
 replace hZ := (hZ.cons kx).add ⟨_, _, r'', w21.cons kx⟩
 replace hK := hK.cons kx
 replace hQ := hQ.cons kx
 replace hc := hc.trans kx
 clear kx kk' r'' r' k' g' w21
 repeat first|apply wg|refine ss rfl ?_|apply nl
 refine L.ql (hQ.at 0 rfl) rfl rfl rfl ?_
 repeat first|apply wg|refine ss rfl ?_|apply nl
 refine L.zl (hZ.at 0 rfl) rfl rfl rfl (fun u hu => ?_)
 repeat first|apply wg|refine ss rfl ?_|apply nl
 refine L.cv (zsame_C _ (hQ.at 0 rfl).zis hu) rfl rfl fun T' k' => ?_
 clear hu
 replace hZ := hZ.cons k'
 replace hQ := hQ.cons k'
 replace hK := hK.cons k'
 replace hc := hc.trans k'
 clear k'
 repeat first|apply wg|refine ss rfl ?_|apply nl
 refine W.ite rfl (fun h => ?_) (fun h => ?_)
 ·cases h
 clear h
 repeat first|apply wg|refine ss rfl ?_|apply nl
 refine L.eff (v := .pointer (some ⟨List.length T', 0, none⟩)) (S1 := T' ++ [newR [.slice none 0 0, .slice none 0 0] 33]) rfl rfl ?_
 have hB := hK.bookT
 have hL := hK.2.2.2
 generalize T' ++ [newR [.slice none 0 0, .slice none 0 0] 33] = TB at *
 clear hZ
 repeat first|apply wg|refine ss rfl ?_|apply nl
 refine L.ql ((hQ.cons hB.1).at 0 rfl) rfl rfl rfl ?_
 repeat first|apply wg|refine ss rfl ?_|apply nl
 refine L.cl (zBook_C _ _ v11 hB (by first | omega | (simp <;> omega))) rfl rfl ?_
 rintro _ TB' hB'
 refine ⟨nofun, ?_⟩
 replace hB := hB'
 clear hB'
 repeat first|apply wg|refine ss rfl ?_|apply nl
 refine L.cl (apart_BkT hB hc hL (by first | omega | (simp <;> omega))) rfl rfl ?_
 rintro _ TA ⟨rfl, hc'⟩
 refine ⟨nofun, ?_⟩
 replace hc := hc'
 clear hc' hB hL hQ hK
 repeat first|apply wg|refine ss rfl ?_|apply nl
 refine L.z2 (Cons.row (h := hc) rb5) rfl rfl rfl ?_
 repeat first|apply wg|refine ss rfl ?_|apply nl
 refine L.z2 (Cons.row (h := hc) rb2) rfl rfl rfl ?_
 repeat first|apply wg|refine ss rfl ?_|apply nl
 refine L.cv (keptZ_C b0 a0 x c0 l0 _ (Cons.row (h := hc) hr0) (h0.cons hc) (by omega)) rfl rfl fun T' k' => ?_
 replace hc := hc.trans k'
 clear k'
 repeat first|apply wg|refine ss rfl ?_|apply nl
 refine L.z2 (Cons.row (h := hc) rb6) rfl rfl rfl ?_
 repeat first|apply wg|refine ss rfl ?_|apply nl
 refine L.z2 (Cons.row (h := hc) rb3) rfl rfl rfl ?_
 repeat first|apply wg|refine ss rfl ?_|apply nl
 refine L.cv (keptZ_C b1 a1 y c1 l1 _ (Cons.row (h := hc) hr1) (h1.cons hc) (by omega)) rfl rfl fun T' k' => ?_
 replace hc := hc.trans k'
 clear k'
 repeat first|apply wg|refine ss rfl ?_|apply nl
 refine L.cv (works_C _ (hS.cons hc) (hP.cons hc) (Nat.le_trans hG hc.len)) rfl rfl fun M4 k4 => ?_
 repeat first|apply wg|refine ss rfl ?_|apply nl
 exact ⟨.inr rfl, _, rfl, rfl, (kS.trans hc).trans k4⟩
end Go.Proofs.YtbiigbicgfchiaaGreatDoor

/- The proof of the statement WholePowers. Conditions: none. -/
namespace Go.Proofs.YtbiigbicgfchiaaGreatDoor.wholePowers
open Go.ChangeShapes Go.WideShapes Go.ChangeAt Go.RowKit
open Go.ChangeMaps (open_string shut_string)
theorem own : ownKnob Tryz.prog.godebug = none := by kernel_rfl
theorem laidOut : laidOutB Tryz.prog = true := by kernel_rfl
theorem walk (v0 : Value) (v1 : Value) (w : World) (hG : gN ≤ w.heap.size) (hR : ∀ N, SinOk (mem0 w N) ∧ PowOk (mem0 w N)) (w0 : ∃ N b l, WholeAt w N v0 b l) (w1 : ∃ N b l, WholeAt w N v1 b l) :
  Calls Tryz.prog 3 #[v0, v1] w fun e w' => e = .returned (.bool true) ∧ Below w.heap.size w w' := by
 obtain ⟨N0, b0, l0, _, rfl, ⟨a0, c0, rfl, hk0, hn0, hu0, hw0⟩⟩ := w0
 obtain ⟨N1, b1, l1, _, rfl, ⟨a1, c1, rfl, hk1, hn1, hu1, hw1⟩⟩ := w1
 obtain ⟨N, hN⟩ : ∃ N, N = N0 + N1 := ⟨_, rfl⟩
 obtain ⟨hs0, hv0, hf0⟩ := hw0 N (by omega)
 obtain ⟨hs1, hv1, hf1⟩ := hw1 N (by omega)
 obtain ⟨v, S', hE, rfl, hcons⟩ := (wholePowers_C (Ext := NoX) b0 b1 a0 a1 c0 c1 l0 l1 (mem0 w N) ⟨hs0, hk0, hn0⟩ ⟨hs1, hk1, hn1⟩ (hR N).1 (hR N).2 (by rw [mem0_len]; omega))
 refine top_true (Checked.mixed Tryz.checked) (fun _ _ _ _ _ h => h.elim) hG (fun a ha => ?_) hE hcons
 simp only [List.mem_cons, List.not_mem_nil, or_false] at ha
 rcases ha with rfl | rfl
 ·exact VR.agg2 (scalar_VR _ rfl) hv0
 ·exact VR.agg2 (scalar_VR _ rfl) hv1
set_option maxRecDepth 100000 in
theorem lifted (os : Os) (started : os.Started) (H : Type) (enc : TypeId × Value → H) :
  ReturnsInHanded {} Tryz.checked os 3 .any (fun w args => (Rows.wholePowersSpec.pre enc Tryz.prog Tryz.f3 [] false w args ∧ laidMetH Tryz.prog laidL w) ∧ sizedMet enc Tryz.prog Tryz.f3 (OpenSpec.ofChange Rows.wholePowersSpec) false w args)
   (Rows.wholePowersSpec.post enc Tryz.prog Tryz.f3 false true false false) := by
 refine returnsInHanded_of_change_and (C := Tryz.checked) (X := fun w _ => laidMetH Tryz.prog laidL w) (fun _ _ _ hh h => h.of_heap hh) own started (by kernel_rfl) Tryz.func3
  (ChangeSpec.witness_shaped (enc := enc) (C := Tryz.checked) (os := os) (X := fun w _ => laidMetH Tryz.prog laidL w) false (World.doorLaid Tryz.prog 400 os) #[.agg #[.bool false, .slice none 0 0], .agg #[.bool false, .slice none 0 0]] 8 rfl (World.shaped_of_RefB (by kernel_rfl) (by kernel_rfl)) (by kernel_rfl) (by kernel_rfl) (by kernel_rfl) (door_met os _)) ?_
 intro W base args ds gs before hval0 hW _ _ hL _
 obtain ⟨hG, hR⟩ := of_laid hL
 have hval : ∀ (j : Nat) t v, Tryz.f3.params[j]? = some t → args[j]? = some v → Value.okWide Tryz.prog W .any base t v := hval0
 have hW' := hW
 obtain ⟨p, q, hA0, hV, rfl, hfz, hnd⟩ := hW
 have hA : DataW.TrodAll enc Tryz.prog W 0 (fun _ => true) true Tryz.f3.params.toList args.toList ds p := hA0
 rw [Tryz.params3] at hA hval
 obtain ⟨v0, vs0, d0, ds0, p0, q0, hargs, rfl, rfl, h0, r0⟩ := trodAll_cons hA
 obtain ⟨v1, vs1, d1, ds1, p1, q1, rfl, rfl, rfl, h1, r1⟩ := trodAll_cons r0
 obtain ⟨rfl, rfl, rfl⟩ := trodAll_nil r1
 obtain rfl : args = #[v0, v1] := by cases args; simp_all
 obtain ⟨rfl, rfl⟩ := trodVars_none hV
 have lt0 : ∀ x ∈ p0, x.block < W.heap.size := by obtain ⟨m, hm⟩ := h0; exact DataW.trod_lt m _ _ _ hm
 have lt1 : ∀ x ∈ p1, x.block < W.heap.size := by obtain ⟨m, hm⟩ := h1; exact DataW.trod_lt m _ _ _ hm
 clear hA0 hval0
 refine (walk v0 v1 W hG hR (whole_world (okWide_struct Tryz.underlying24 (hval 0 24 v0 rfl rfl)) h0) (whole_world (okWide_struct Tryz.underlying24 (hval 1 24 v1 rfl rfl)) h1)).mono fun e W' ⟨he, bel⟩ => ?_
 subst he
 exact ⟨_, rfl, _, _, _, [], _, [], hW', trodAll_mk1 (shut_bool Tryz.underlying4 _), (trodAll_cons_mk (Below.trod laidOut (by kernel_rfl) (of_decide_eq_true (by kernel_rfl)) h0 bel lt0) (trodAll_cons_mk (Below.trod laidOut (by kernel_rfl) (of_decide_eq_true (by kernel_rfl)) h1 bel lt1) trodAll_mk0)), rfl, bel.frame _, fun h => by cases h⟩
theorem over : Rows.wholePowersRow.holds Tryz.pinned (OpenSpec.ofChange Rows.wholePowersSpec) :=
 OpenClaim.holds_of_wide 3 Tryz.f3 rfl rfl rfl rfl rfl rfl rfl ⟨rfl, rfl, rfl, rfl, rfl⟩ rfl rfl rfl rfl rfl (by kernel_rfl) Tryz.func3 (by kernel_rfl)
  (of_decide_eq_true (by kernel_rfl)) (by unfold Func.isWrapper; first | (rw [if_pos (by decide +kernel)]; kernel_rfl) | (rw [if_neg (by decide +kernel)]; exact ⟨rfl, rfl⟩))
  (fun os started H enc _ => lifted os started H enc)
theorem proved : Rows.WholePowersCardSaid :=
 Claim7.holds_tied_plain_at .later [] [.data, .data, .data, .data, .data, .data] true (true, "fec42c2c2770d3608b3b87db2f8cdd2caa924e50f3b388b6462229a161397f08") true
  over (fun _ h => by cases h) (by kernel_rfl) (fun _ h => by cases h) wholePowers_row_tie rfl ⟨rfl, rfl⟩ (by kernel_rfl) rfl
  (fun f fn hf hfn => by
   obtain rfl : f = 3 := Option.some.inj ((show Tryz.prog.funcNamed "vouch/vouchlaw02.WholePowers" = some 3 by kernel_rfl).symm.trans hf) |>.symm
   obtain rfl : fn = Tryz.f3 := (Option.some.inj (Tryz.func3.symm.trans hfn)).symm
   exact ⟨by kernel_rfl, fun j t ht => by
    rw [Tryz.params3] at ht
    match j, ht with
    | 0, ht =>
     obtain rfl : t = 24 := by simpa using ht.symm
     exact (show Tryz.prog.wantsStandIn 24 = false by kernel_rfl)
    | 1, ht =>
     obtain rfl : t = 24 := by simpa using ht.symm
     exact (show Tryz.prog.wantsStandIn 24 = false by kernel_rfl)
    | j + 2, ht => simp at ht⟩)
  (by kernel_rfl)
end Go.Proofs.YtbiigbicgfchiaaGreatDoor.wholePowers
