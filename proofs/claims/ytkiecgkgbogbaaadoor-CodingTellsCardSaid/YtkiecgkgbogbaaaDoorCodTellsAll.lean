/- The proof of the statement CodingTells. Conditions: none. -/
import Derived.Test.YtkiecgkgbogbaaaDoorLibD
import Derived.Test.YtkiecgkgbogbaaaDoorRows
import Derived.Test.YtkiecgkgbogbaaaDoorTie
import Derived.Test.YtkiecgkgbogbaaaDoorCards
import Derived.SevenTiedAt
import Derived.WalkKit
import Derived.ProofKit
import Derived.OpenShut
import Derived.ShutString
import Derived.ChangeOld
import Derived.Below

/- The law of telling, walked. Conditions: none. -/
set_option linter.unusedSimpArgs false
set_option linter.unusedVariables false
set_option maxRecDepth 100000
namespace Go.Proofs.YtkiecgkgbogbaaaDoor
open Go
variable {Ext : FuncId → List Value → Mem → Outc → Mem → Prop}
theorem lent_bin {S : Mem} {b : Nat} {l : BL} (h : S.row? b = some (grownR (bv (l ++ marks 16)) 5 1)) (hl : l.length < 4294967296) : BIn S (some ⟨b, 0, none⟩) (UNK + (l.length + 16)) l := by
  refine ⟨?_, .of (by rw [knownCap_unk]; omega), by omega⟩
  have := Slv.of (sz := 1) (n := l.length) (o := 0) (c := UNK + (l.length + 16)) h (by show 0 + l.length * 1 ≤ (bv (l ++ marks 16)).length; rw [bv_len, List.length_append]; omega) (.inl rfl)
  rwa [show ((grownR (bv (l ++ marks 16)) 5 1).cells.drop 0).take (l.length * 1) = bv l by
    show ((bv (l ++ marks 16)).drop 0).take (l.length * 1) = bv l
    rw [List.drop_zero, Nat.mul_one, bv_app, List.take_append_of_le_length (by rw [bv_len]; omega), List.take_of_length_le (by rw [bv_len]; omega)]] at this
theorem tells_C (a : Option Addr) (c : Nat) (l : BL) (S : Mem) (hs : Slv S 1 (.slice a l.length c) l.length (bv l)) (hk : Cut l.length c) (hR : RowsOk S) :
    C Tryd.prog 1 Ext 3 [.slice a l.length c] S fun v S' => v = .bool true ∧ Cons S S' := by
  refine C.fn Tryd.func3 rfl (by kernel_rfl) rfl ?_
  repeat (first | refine W.seq ?_ | refine W.block ?_ | refine W.reg ?_ | refine W.skip ?_ | refine W.exit ?_ | refine W.ret ?_ | refine L.nil ?_ | refine L.p rfl rfl ?_ | refine L.skip rfl ?_)
  refine W.ite rfl (fun h => ?_) (fun h => ?_)
  · repeat (first | refine W.seq ?_ | refine W.block ?_ | refine W.reg ?_ | refine W.skip ?_ | refine W.exit ?_ | refine W.ret ?_ | refine L.nil ?_ | refine L.p rfl rfl ?_ | refine L.skip rfl ?_)
    exact ⟨.inr rfl, _, rfl, rfl, Cons.refl _⟩
  have hl : l.length ≤ 4096 := by have := of_decide_eq_false h; omega
  clear h
  have hI : BIn S a c l := ⟨hs, hk, by omega⟩
  repeat (first | refine W.seq ?_ | refine W.block ?_ | refine W.reg ?_ | refine W.skip ?_ | refine W.exit ?_ | refine W.ret ?_ | refine L.nil ?_ | refine L.p rfl rfl ?_ | refine L.skip rfl ?_)
  refine L.cl (lent_C _ l S hI.1 (by omega)) rfl rfl ?_
  rintro _ S1 ⟨c1, b, hb, rfl, hr⟩
  refine ⟨fun _ => c1, ?_⟩
  have hx := lent_bin hr (by omega)
  repeat (first | refine W.seq ?_ | refine W.block ?_ | refine W.reg ?_ | refine W.skip ?_ | refine W.exit ?_ | refine W.ret ?_ | refine L.nil ?_ | refine L.p rfl rfl ?_ | refine L.skip rfl ?_)
  refine L.cl (hex_C _ _ l S1 hx.1 (by omega)) rfl rfl ?_
  rintro _ S2 ⟨rfl, c2⟩
  refine ⟨fun _ => c2, ?_⟩
  have c12 := c1.trans c2
  repeat (first | refine W.seq ?_ | refine W.block ?_ | refine W.reg ?_ | refine W.skip ?_ | refine W.exit ?_ | refine W.ret ?_ | refine L.nil ?_ | refine L.p rfl rfl ?_ | refine L.skip rfl ?_)
  refine L.cl (refHex_C _ _ l S2 (hI.cons c12).1 (by omega)) rfl rfl ?_
  rintro _ S3 ⟨rfl, c3⟩
  refine ⟨fun _ => c3, ?_⟩
  have c13 := c12.trans c3
  repeat (first | refine W.seq ?_ | refine W.block ?_ | refine W.reg ?_ | refine W.skip ?_ | refine W.exit ?_ | refine W.ret ?_ | refine L.nil ?_ | refine L.p rfl rfl ?_ | refine L.skip rfl ?_)
  rw [strB_same, decide_eq_true (rfl : hexS l = hexS l)]
  repeat (first | refine W.seq ?_ | refine W.block ?_ | refine W.reg ?_ | refine W.skip ?_ | refine W.exit ?_ | refine W.ret ?_ | refine L.nil ?_ | refine L.p rfl rfl ?_ | refine L.skip rfl ?_)
  refine L.cl (base64_C _ _ l S3 (hx.cons (c2.trans c3)) (by omega) (hR.cons c13)) rfl rfl ?_
  rintro _ S4 ⟨rfl, c4⟩
  refine ⟨fun _ => c4, ?_⟩
  have c14 := c13.trans c4
  repeat (first | refine W.seq ?_ | refine W.block ?_ | refine W.reg ?_ | refine W.skip ?_ | refine W.exit ?_ | refine W.ret ?_ | refine L.nil ?_ | refine L.p rfl rfl ?_ | refine L.skip rfl ?_)
  refine L.cl (refBase64_C _ _ l S4 (hI.cons c14).1 (by omega)) rfl rfl ?_
  rintro _ S5 ⟨rfl, c5⟩
  refine ⟨fun _ => c5, ?_⟩
  have c15 := c14.trans c5
  repeat (first | refine W.seq ?_ | refine W.block ?_ | refine W.reg ?_ | refine W.skip ?_ | refine W.exit ?_ | refine W.ret ?_ | refine L.nil ?_ | refine L.p rfl rfl ?_ | refine L.skip rfl ?_)
  rw [strB_same, decide_eq_true (rfl : b64S l = b64S l)]
  repeat (first | refine W.seq ?_ | refine W.block ?_ | refine W.reg ?_ | refine W.skip ?_ | refine W.exit ?_ | refine W.ret ?_ | refine L.nil ?_ | refine L.p rfl rfl ?_ | refine L.skip rfl ?_)
  have c25 := ((c2.trans c3).trans c4).trans c5
  refine L.cl (kept_C _ l b _ S5 (c25.row' hr) rfl rfl (hI.cons c15).1 (by omega)) rfl rfl ?_
  rintro _ S6 ⟨rfl, hS⟩
  have hS := hS.symm
  subst hS
  refine ⟨fun _ => Cons.refl _, ?_⟩
  repeat (first | refine W.seq ?_ | refine W.block ?_ | refine W.reg ?_ | refine W.skip ?_ | refine W.exit ?_ | refine W.ret ?_ | refine L.nil ?_ | refine L.p rfl rfl ?_ | refine L.skip rfl ?_)
  refine L.cl (works_C _ (hR.cons c15)) rfl rfl ?_
  rintro _ S7 ⟨rfl, c7⟩
  refine ⟨fun _ => c7, ?_⟩
  repeat (first | refine W.seq ?_ | refine W.block ?_ | refine W.reg ?_ | refine W.skip ?_ | refine W.exit ?_ | refine W.ret ?_ | refine L.nil ?_ | refine L.p rfl rfl ?_ | refine L.skip rfl ?_)
  exact ⟨.inr rfl, _, rfl, rfl, c15.trans c7⟩
end Go.Proofs.YtkiecgkgbogbaaaDoor

/- The proof of the statement CodingTells. Conditions: none. -/
namespace Go.Proofs.YtkiecgkgbogbaaaDoor.codingTells
open Go.ChangeShapes Go.WideShapes Go.ChangeAt Go.RowKit
open Go.ChangeMaps (open_string shut_string)
set_option linter.unusedVariables false

theorem own : ownKnob Tryd.prog.godebug = none := by kernel_rfl
theorem laidOut : laidOutB Tryd.prog = true := by kernel_rfl

theorem walk (a0 : Option Addr) (len0 cap0 : Nat) (z0 : List Int) (w : World) (hG : 1 ≤ w.heap.size) (hR : ∀ N, RowsOk (mem0 w N)) (w0 : IsRow .u8 w a0 len0 cap0 z0) (hb0 : ∀ x, a0 = some x → x.block < w.heap.size) :
    Calls Tryd.prog 3 #[.slice a0 len0 cap0] w fun e w' => e = .returned (.bool true) ∧ Below w.heap.size w w' := by
  obtain ⟨hs0, hv0, hl0, hc0, hwf0⟩ := world_ints (N := 0) w0 (by simpa using hb0)
  have hcc0 := row_cap w0
  have hf0 : ∀ x, a0 = some x → x.block < (mem0 w).length := fun x hx => by rw [mem0_len]; have := hb0 x hx; omega
  obtain ⟨l0, hll0, hbl0⟩ := bytes_of z0 len0 hwf0 hl0
  rw [← hbl0] at hs0
  subst hll0
  obtain ⟨v, S', hE, rfl, hcons⟩ := tells_C (Ext := fun _ _ _ _ _ => False) a0 cap0 l0 (mem0 w) hs0 (.inl hcc0) (hR 0)
  refine top_true (Checked.mixed Tryd.checked) (fun _ _ _ _ _ h => h.elim) hG (fun a ha => ?_) hE hcons
  obtain rfl : a = .slice a0 l0.length cap0 := by simpa using ha
  exact hv0

set_option maxRecDepth 100000 in
theorem lifted (os : Os) (started : os.Started) (H : Type) (enc : TypeId × Value → H) :
    ReturnsInHanded {} Tryd.checked os 3 .any (fun w args => (Rows.codingTellsSpec.pre enc Tryd.prog Tryd.f3 [] false w args ∧ laidMetH Tryd.prog laidL w) ∧ sizedMet enc Tryd.prog Tryd.f3 (OpenSpec.ofChange Rows.codingTellsSpec) false w args)
      (Rows.codingTellsSpec.post enc Tryd.prog Tryd.f3 false true false false) := by
  refine returnsInHanded_of_change_and (C := Tryd.checked) (X := fun w _ => laidMetH Tryd.prog laidL w) (fun _ _ _ hh h => h.of_heap hh) own started (by kernel_rfl) Tryd.func3
    (ChangeSpec.witness_shaped (enc := enc) (C := Tryd.checked) (os := os) (X := fun w _ => laidMetH Tryd.prog laidL w) false (World.doorLaid Tryd.prog 400 os) #[.slice none 0 0] 8 rfl (World.shaped_of_RefB (by kernel_rfl) (by kernel_rfl)) (by kernel_rfl) (by kernel_rfl) (by kernel_rfl) (door_met os _)) ?_
  intro W base args ds gs before hval0 hW _ _ hL _
  obtain ⟨hG, hR⟩ := of_laid hL
  have hval : ∀ (j : Nat) t v, Tryd.f3.params[j]? = some t → args[j]? = some v → Value.okWide Tryd.prog W .any base t v := hval0
  have hW' := hW
  obtain ⟨p, q, hA0, hV, rfl, hfz, hnd⟩ := hW
  have hA : DataW.TrodAll enc Tryd.prog W 0 (fun _ => true) true Tryd.f3.params.toList args.toList ds p := hA0
  rw [Tryd.params3] at hA hval
  obtain ⟨v0, vs0, d0, ds0, p0, q0, hargs, rfl, rfl, h0, r0⟩ := trodAll_cons hA
  obtain ⟨rfl, rfl, rfl⟩ := trodAll_nil r0
  obtain rfl : args = #[v0] := by cases args; simp_all
  obtain ⟨rfl, rfl⟩ := trodVars_none hV
  obtain ⟨a0, len0, cap0, rfl⟩ := okWide_slice Tryd.underlying22 (hval 0 22 v0 rfl rfl)
  have hb0 : ∀ x, a0 = some x → x.block < W.heap.size := by rintro x rfl; exact okWide_block Tryd.underlying22 (hval 0 22 _ rfl rfl)
  have k0 := h0
  have lt0 : ∀ x ∈ p0, x.block < W.heap.size := by obtain ⟨m, hm⟩ := k0; exact DataW.trod_lt m _ _ _ hm
  obtain ⟨z0, w0⟩ : ∃ zs, IsRow .u8 W a0 len0 cap0 zs := by
    obtain ⟨fuel, hf⟩ := h0
    rcases open_ints Tryd.underlying22 Tryd.underlying5 (by kernel_rfl) hf with ⟨hcs, _⟩ | ⟨x, l, c, zs, hcs, _, hl, hm, hz, _, hcell, hwz⟩
    · simp [Value.cells] at hcs
      obtain ⟨rfl, rfl, rfl⟩ := hcs
      exact ⟨[], .inl ⟨rfl, rfl, rfl, rfl⟩⟩
    · simp [Value.cells] at hcs
      obtain ⟨rfl, rfl, rfl⟩ := hcs
      exact ⟨zs, .inr ⟨_, rfl, hl, hm, by simpa using hz, hcell, hwz⟩⟩
  clear hA0 hval0
  refine (walk a0 len0 cap0 z0 W hG hR w0 hb0).mono fun e W' ⟨he, bel⟩ => ?_
  subst he
  exact ⟨_, rfl, _, _, _, [], _, [], hW', trodAll_mk1 (shut_bool Tryd.underlying4 _), (trodAll_cons_mk (Below.trod laidOut (by kernel_rfl) (of_decide_eq_true (by kernel_rfl)) k0 bel lt0) trodAll_mk0), rfl, bel.frame _, fun h => by cases h⟩

theorem over : Rows.codingTellsRow.holds Tryd.pinned (OpenSpec.ofChange Rows.codingTellsSpec) :=
  OpenClaim.holds_of_wide 3 Tryd.f3 rfl rfl rfl rfl rfl rfl rfl ⟨rfl, rfl, rfl, rfl, rfl⟩ rfl rfl rfl rfl rfl (by kernel_rfl) Tryd.func3 (by kernel_rfl)
    (of_decide_eq_true (by kernel_rfl)) (by unfold Func.isWrapper; first | (rw [if_pos (by decide +kernel)]; kernel_rfl) | (rw [if_neg (by decide +kernel)]; exact ⟨rfl, rfl⟩))
    (fun os started H enc _ => lifted os started H enc)

/-- the card: the row, its variable tied to the program's text -/
theorem proved : Rows.CodingTellsCardSaid :=
  Claim7.holds_tied_plain_at .later [] [.data] true (true, "f8b44dcaa85ac0566c79ab81753e15c4d3dda83bef56da4901400e8532865c88") false
    over (fun _ h => by cases h) (by kernel_rfl) (fun _ h => by cases h) codingTells_row_tie rfl ⟨rfl, rfl⟩ (by kernel_rfl) rfl
    (fun f fn hf hfn => by
      obtain rfl : f = 3 := Option.some.inj ((show Tryd.prog.funcNamed "vouch/vouchlaw06.CodingTells" = some 3 by kernel_rfl).symm.trans hf) |>.symm
      obtain rfl : fn = Tryd.f3 := (Option.some.inj (Tryd.func3.symm.trans hfn)).symm
      exact ⟨by kernel_rfl, fun j t ht => by
        rw [Tryd.params3] at ht
        match j, ht with
        | 0, ht =>
          obtain rfl : t = 22 := by simpa using ht.symm
          exact (show Tryd.prog.wantsStandIn 22 = false by kernel_rfl)
        | j + 1, ht => simp at ht⟩)
    (by kernel_rfl)
end Go.Proofs.YtkiecgkgbogbaaaDoor.codingTells
