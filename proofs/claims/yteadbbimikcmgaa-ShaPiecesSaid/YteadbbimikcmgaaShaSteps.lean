/- A script that came in, on the abstract memory of the world in which a call begins. Conditions: none. -/
import Derived.Test.YteadbbimikcmgaaShaPieces
import Derived.Test.YteadbbimikcmgaaWorld
import Derived.Deep.SlicePairs
set_option linter.unusedSimpArgs false
set_option linter.unusedVariables false
set_option maxRecDepth 100000
namespace Go.Proofs.Yteadbbimikcmgaa
open Go Go.ChangeShapes Go.WideShapes Go.Deep

instance : Inhabited SStep := ⟨⟨0, none, 0, []⟩⟩
theorem steps_world {H : Type} {enc : TypeId × Value → H} {W : World} {a0 : Option Addr} {len0 cap0 : Nat} {d : DataW H} {p : List MemPlace} (hb : ∀ x, a0 = some x → x.block < W.heap.size)
    (h : DataW.Trod enc Try.prog W 0 (fun _ => true) true 29 (.slice a0 len0 cap0) d p) :
    ∃ (N : Nat) (ss : List SStep), ss.length = len0 ∧ StepsIn (mem0 W N) (.slice a0 len0 cap0) ss ∧ VR (rho0 W N) (.slice a0 len0 cap0) (.slice a0 len0 cap0) := by
  obtain ⟨fuel, hf⟩ := h
  rcases open_slice_pairs Try.underlying29 Try.underlying33 (by kernel_rfl) rfl rfl (by kernel_rfl) (by kernel_rfl) hf with ⟨hcs, _⟩ | ⟨a, len, cap, m, n, V0, V1, D0, D1, P0, P1, hcs, _, hl, hm, hmm, _, hV⟩
  · simp [Value.cells] at hcs
    obtain ⟨rfl, rfl, rfl⟩ := hcs
    exact ⟨0, [], rfl, ⟨Slv.nil _ _ _ _, nofun⟩, .slNil _ _⟩
  · simp [Value.cells] at hcs
    obtain ⟨rfl, rfl, rfl⟩ := hcs
    have hmc : m = cap0 := by rw [hmm]; rfl
    have hcu : cap0 < UNK := by unfold maxLen at hm; unfold UNK; omega
    obtain ⟨f, hfs⟩ := choose_lt (α := SStep) (n := len0) (p := fun i s => V0 i = .int .i64 s.k ∧ V1 i = .slice s.a s.l.length s.c ∧ ∃ zs, IsRow .u8 W s.a s.l.length s.c zs ∧ bv s.l = (zs.take s.l.length).map (Value.int .u8)) (fun i hi => by
      obtain ⟨h1, h2, h3, h4⟩ := hV i (by omega)
      obtain ⟨k, hk, _, _⟩ := DataW.trod_int Try.underlying3 h3
      have hk' : V0 i = .int .i64 k := by simpa using hk
      rcases open_ints Try.underlying22 Try.underlying5 (by kernel_rfl) h4 with ⟨hc, _⟩ | ⟨x, l, c, zs, hc, _, q1, q2, q3, _, q4, q5⟩
      · exact ⟨⟨k, none, 0, []⟩, hk', by simpa using hc, [], .inl ⟨rfl, rfl, rfl, rfl⟩, rfl⟩
      · have hzl : zs.length = c := by simpa using q3
        obtain ⟨b, hb1, hb2⟩ := bytes_of zs l q5 (by rw [List.length_take]; omega)
        refine ⟨⟨k, some x, c, b⟩, hk', ?_, zs, .inr ⟨x, rfl, ?_, q2, hzl, q4, q5⟩, ?_⟩
        · show V1 i = .slice (some x) b.length c
          rw [hb1]; simpa using hc
        · show b.length ≤ c
          omega
        · show bv b = (zs.take b.length).map _
          rw [hb1]; exact hb2)
    obtain ⟨N, hN⟩ := bound_of (fun i => match (f i).a with | some x => x.block | none => 0) len0
    have hblk : ∀ i, i < len0 → ∀ x, (f i).a = some x → x.block < W.heap.size + N := fun i hi x hx => by
      have := hN i hi
      simp only [hx] at this
      omega
    refine ⟨N, (List.range len0).map f, by simp, ⟨?_, ?_⟩, (fixed_slice (N := N) (Nat.lt_of_lt_of_le (hb a rfl) (by omega)) hcu).1⟩
    · rcases Nat.eq_zero_or_pos len0 with rfl | hpos
      · exact Slv.nil _ _ _ _
      have hc0 : ∀ i, i < len0 → Fixed W N (V0 i) ∧ Fixed W N (V1 i) := fun i hi => by
        obtain ⟨h1, h2, zs, h3, h4⟩ := hfs i hi
        rw [h1, h2]
        refine ⟨fixed_scalar _ _ rfl, ?_⟩
        cases hfa : (f i).a with
        | none =>
          rcases h3 with ⟨_, e1, e2, _⟩ | ⟨x, e1, _⟩
          · rw [e2]; exact fixed_scalar _ _ rfl
          · rw [hfa] at e1; cases e1
        | some x =>
          rcases h3 with ⟨e1, _⟩ | ⟨y, e1, _, e2, _⟩
          · rw [hfa] at e1; cases e1
          · exact fixed_slice (hblk i hi x hfa) (by unfold maxLen at e2; unfold UNK; omega)
      obtain ⟨hax, _, r, hr, _⟩ := cell_row (hV 0 (by omega)).1 (hc0 0 hpos).1
      have ha0 : (a.add (0 * 2)).block = a.block := by unfold Addr.add; split <;> rfl
      have has : a.spot = none := by
        have := congrArg Addr.spot hax
        simpa [Addr.add] using this
      have haa : a = ⟨a.block, a.off, none⟩ := by cases a; simp at has; subst has; rfl
      have hadd : ∀ i, a.add i = ⟨a.block, a.off + i, none⟩ := fun i => by rw [haa]; exact add_plain _ _ _
      rw [ha0] at hr
      have hrow : ∀ i, i < len0 → r.cells[a.off + (i * 2 + 0)]? = some (.int .i64 (f i).k) ∧ r.cells[a.off + (i * 2 + 1)]? = some (.slice (f i).a (f i).l.length (f i).c) := fun i hi => by
        obtain ⟨h1, h2, _⟩ := hV i (by omega)
        rw [hadd] at h1 h2
        obtain ⟨_, _, r1, hr1, q1⟩ := cell_row h1 (hc0 i hi).1
        obtain ⟨_, _, r2, hr2, q2⟩ := cell_row h2 (hc0 i hi).2
        dsimp only at hr1 hr2 q1 q2
        rw [hr] at hr1 hr2; cases hr1; cases hr2
        rw [(hfs i hi).1] at q1
        rw [(hfs i hi).2.1] at q2
        exact ⟨q1, q2⟩
      have hbound : a.off + len0 * 2 ≤ r.cells.length := by
        have := (List.getElem?_eq_some_iff.1 (hrow (len0 - 1) (by omega)).2).1
        omega
      have hseg : (r.cells.drop a.off).take (len0 * 2) = ((List.range len0).map f).flatMap SStep.cells := by
        have hlen : (((List.range len0).map f).flatMap SStep.cells).length = len0 * 2 := by
          rw [List.length_flatMap, List.map_map]
          have : (List.map ((fun s => (SStep.cells s).length) ∘ f) (List.range len0)) = List.replicate len0 2 := by
            apply List.ext_getElem <;> simp [SStep.cells]
          rw [this]; simp
        apply List.ext_getElem?
        intro q
        rw [List.getElem?_take]
        split
        · rename_i hq
          rw [List.getElem?_drop]
          have hi : q / 2 < len0 := by omega
          have hg := steps_get ((List.range len0).map f) (i := q / 2) (s := f (q / 2)) (by simp [hi])
          have hr' := hrow (q / 2) hi
          rcases Nat.mod_two_eq_zero_or_one q with h0 | h0
          · rw [show q / 2 * 2 + 0 = q by omega] at hg hr'
            rw [hr'.1, hg.1]
          · rw [show q / 2 * 2 + 1 = q by omega] at hg hr'
            rw [hr'.2, hg.2]
        · rw [List.getElem?_eq_none (by rw [hlen]; omega)]
      have hS := Slv.of (sz := 2) (n := len0) (o := a.off) (c := cap0) hr hbound (.inr (by
        rw [hseg, List.all_eq_true]
        intro v hv
        obtain ⟨s, _, hs⟩ := List.mem_flatMap.1 hv
        simp [SStep.cells] at hs
        rcases hs with rfl | rfl <;> rfl))
      rw [hseg, ← haa] at hS
      rw [List.length_map, List.length_range]
      exact hS
    · intro s hs
      obtain ⟨i, hi, rfl⟩ := List.mem_map.1 hs
      have hi := List.mem_range.1 hi
      obtain ⟨_, _, zs, h3, h4⟩ := hfs i hi
      obtain ⟨w1, w2, w3, w4, w5⟩ := world_ints (N := N) h3 (hblk i hi)
      rw [← h4] at w1
      exact ⟨w1, w4, fun x hx => by rw [mem0_len]; exact hblk i hi x hx⟩
end Go.Proofs.Yteadbbimikcmgaa
