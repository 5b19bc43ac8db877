/- Arguments that came in, on the abstract memory of the world in which a call begins. Conditions: none. -/
import Derived.Test.YteadbbimikcmgaaSlC
import Derived.WalkKit
import Derived.ProofKit
import Derived.OpenShut
import Derived.ShutString
import Derived.ChangeOld
import Derived.Below
set_option linter.unusedSimpArgs false
set_option linter.unusedVariables false
namespace Go.Proofs.Yteadbbimikcmgaa
open Go

/-- a slice of whole numbers that came in: none; or it leads to a row of cap cells, the numbers zs -/
def IsRow (k : IntKind) (w : World) (a : Option Addr) (len cap : Nat) (zs : List Int) : Prop :=
  (a = none ∧ len = 0 ∧ cap = 0 ∧ zs = []) ∨
  ∃ x, a = some x ∧ len ≤ cap ∧ cap ≤ maxLen ∧ zs.length = cap ∧ (∀ i, i < zs.length → w.cell? (x.add i) = some (.int k (zs.getD i 0))) ∧ ∀ n ∈ zs, (Lit.int k n).wf = true
theorem okWide_block {P : Program} {W : World} {base : Nat} {t e : TypeId} {a : Addr} {len cap : Nat} (hu : P.underlying t = some (.slice e)) (h : Value.okWide P W .any base t (.slice (some a) len cap)) : a.block < W.heap.size := by
  unfold Value.okWide at h
  simp only [hu] at h
  unfold Cell.okWide at h
  simp only [hu] at h
  unfold Cell.ok at h
  simp only [hu] at h
  obtain ⟨_, _, _, _, row, cells, hs, _⟩ := h
  unfold World.shape? at hs
  split at hs
  · rename_i c el fz hh
    exact (Array.getElem?_eq_some_iff.1 hh).1
  · cases hs
theorem row_cap {k : IntKind} {W : World} {a : Option Addr} {len cap : Nat} {zs : List Int} (h : IsRow k W a len cap zs) : cap < UNK ∧ len ≤ cap := by
  rcases h with ⟨rfl, rfl, rfl, rfl⟩ | ⟨x, rfl, hlc, hm, hz, hcell, hwf⟩
  · exact ⟨by decide, by decide⟩
  · exact ⟨by unfold maxLen at hm; unfold UNK; omega, hlc⟩
theorem world_ints {k : IntKind} {W : World} {N : Nat} {a : Option Addr} {len cap : Nat} {zs : List Int} (h : IsRow k W a len cap zs) (hb : ∀ x, a = some x → x.block < W.heap.size + N) :
    Slv (mem0 W N) 1 (.slice a len cap) len ((zs.take len).map (Value.int k)) ∧ VR (rho0 W N) (.slice a len cap) (.slice a len cap) ∧ (zs.take len).length = len ∧ Cut len cap ∧ (∀ n ∈ zs, (Lit.int k n).wf = true) := by
  rcases h with ⟨rfl, rfl, rfl, rfl⟩ | ⟨x, rfl, hlc, hm, hz, hcell, hwf⟩
  · exact ⟨Slv.nil _ _ _ _, .slNil _ _, rfl, .inl ⟨by decide, by decide⟩, nofun⟩
  · have hcu : cap < UNK := by unfold maxLen at hm; unfold UNK; omega
    have hlen : (zs.take len).length = len := by rw [List.length_take]; omega
    refine ⟨?_, (fixed_slice (N := N) (hb x rfl) hcu).1, hlen, .inl ⟨hcu, hlc⟩, hwf⟩
    rcases Nat.eq_zero_or_pos len with rfl | hpos
    · rw [List.take_zero]; exact Slv.nil _ _ _ _
    have h0 := hcell 0 (by omega)
    have hx0 : x.add 0 = x := rfl
    rw [hx0] at h0
    unfold World.cell? at h0
    split at h0
    · rename_i c el fz hh
      split at h0
      · cases h0
      · rename_i hsp
        have hsp' : x.spot = none := by cases hxs : x.spot <;> simp_all
        obtain ⟨r, hr, hrl, hrc⟩ := mem0_live (N := N) hh
        have hxa : x = ⟨x.block, x.off, none⟩ := by cases x; simp at hsp'; subst hsp'; rfl
        have hci : ∀ i, i < cap → r.cells[x.off + i]? = some (.int k (zs.getD i 0)) := by
          intro i hi
          have h1 := hcell i (by omega)
          have hadd : x.add i = ⟨x.block, x.off + i, none⟩ := by
            unfold Addr.add
            split
            · rename_i h9; rw [h9]; exact hxa
            · rfl
          rw [hadd] at h1
          simp only [World.cell?, hh] at h1
          exact hrc _ _ (by simpa using h1) (fixed_scalar W N rfl)
        have hbound : x.off + len * 1 ≤ r.cells.length := by
          have := (List.getElem?_eq_some_iff.1 (hci (len - 1) (by omega))).1
          omega
        have hseg : (r.cells.drop x.off).take (len * 1) = (zs.take len).map (Value.int k) := by
          apply List.ext_getElem?
          intro i
          rw [List.getElem?_take, Nat.mul_one]
          split
          · rename_i hi
            rw [List.getElem?_drop, hci i (by omega), List.getElem?_map, List.getElem?_take, if_pos hi, List.getD_eq_getElem?_getD, List.getElem?_eq_getElem (by omega)]
            rfl
          · rename_i hi
            rw [List.getElem?_eq_none (by rw [List.length_map, hlen]; omega)]
        have := Slv.of (sz := 1) (n := len) (c := cap) hr hbound (.inr (by rw [hseg, List.all_map, List.all_eq_true]; intro n _; rfl))
        rw [hseg, ← hxa] at this
        exact this
    · cases h0
theorem bound_of (f : Nat → Nat) (n : Nat) : ∃ N, ∀ i, i < n → f i < N := by
  induction n with
  | zero => exact ⟨0, nofun⟩
  | succ n ih =>
    obtain ⟨N, h⟩ := ih
    refine ⟨max N (f n + 1), fun i hi => ?_⟩
    rcases Nat.lt_or_eq_of_le (Nat.le_of_lt_succ hi) with h1 | rfl
    · have := h i h1; omega
    · omega
theorem cell_row {W : World} {N : Nat} {x : Addr} {v : Value} (h : W.cell? x = some v) (hf : Fixed W N v) : x = ⟨x.block, x.off, none⟩ ∧ x.block < W.heap.size ∧ ∃ r, (mem0 W N).row? x.block = some r ∧ r.cells[x.off]? = some v := by
  unfold World.cell? at h
  split at h
  · rename_i c el fz hh
    split at h
    · cases h
    · rename_i hsp
      have hsp' : x.spot = none := by cases hxs : x.spot <;> simp_all
      obtain ⟨r, hr, hrl, hrc⟩ := mem0_live (N := N) hh
      refine ⟨by cases x; simp at hsp'; subst hsp'; rfl, (Array.getElem?_eq_some_iff.1 hh).1, r, hr, hrc _ _ (by simpa using h) hf⟩
  · cases h
end Go.Proofs.Yteadbbimikcmgaa
