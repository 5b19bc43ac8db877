/- Cutting a slice whose capacity is known, at any places. Conditions: none. -/
import Derived.Test.YteadbbimikcmgaaSlC
set_option linter.unusedSimpArgs false
set_option linter.unusedVariables false
namespace Go.Proofs.Yteadbbimikcmgaa
open Go

theorem slv_any {S : Mem} {a : Option Addr} {n c k h : Nat} {l : List Value} {lo hi : Option Value} (hs : Slv S 1 (.slice a n c) n l) (hl : LoIs lo k) (hh : HiIs hi n h) (hk : k ≤ h) (hn : h ≤ n) (hcu : c < UNK) (hc : n ≤ c) :
    ∃ a' c', aslice 1 a n c lo hi none = some (.slice a' (h - k) c') ∧ Slv S 1 (.slice a' (h - k) c') (h - k) ((l.drop k).take (h - k)) ∧ (c' < UNK ∧ h - k ≤ c') ∧ ∀ x, a' = some x → ∃ y, a = some y ∧ y.block = x.block := by
  have hkc : knownCap c = c := if_pos hcu
  have e3 : aslice 1 a n c lo hi none = some (acut 1 a k h c) := by
    have hkh : (k : Int) ≤ (h : Int) := by omega
    have hhc : (h : Int) ≤ (c : Int) := by omega
    unfold aslice
    rcases hl with ⟨rfl, rfl⟩ | ⟨kd, rfl⟩ <;> rcases hh with ⟨rfl, rfl⟩ | ⟨kd', rfl⟩ <;> simp [abound, hkc, hcu, hk, hkh, hhc, show h ≤ c by omega]
  refine ⟨if c = k then a else a.map (fun x => Addr.add x (k * 1)), c - k, e3, ?_, ⟨by omega, by omega⟩, ?_⟩
  · rcases Nat.eq_zero_or_pos (h - k) with h0 | hpos
    · rw [h0, List.take_zero]; exact Slv.nil _ _ _ _
    · rw [if_neg (by omega)]
      obtain ⟨h1, a2, c2, hv, h3⟩ := hs
      cases hv
      rcases h3 with h3 | ⟨b, o, r, rfl, q2, q3, q4, q5⟩
      · omega
      have hadd : Addr.add ⟨b, o, none⟩ (k * 1) = ⟨b, o + k, none⟩ := by
        unfold Addr.add
        split
        · rename_i h0; rw [show k = 0 by omega]; rfl
        · rw [Nat.mul_one]
      simp only [Option.map_some, hadd]
      have hd : ((r.cells.drop (o + k)).take ((h - k) * 1)) = (l.drop k).take (h - k) := by
        rw [← q4, List.drop_take, List.drop_drop, Nat.mul_one, Nat.mul_one, List.take_take, Nat.min_eq_left (by omega)]
      have := Slv.of (sz := 1) (n := h - k) (o := o + k) (c := c - k) q2 (by omega) (q5.imp id fun h => by
        rw [hd, List.all_eq_true]; exact fun x hx => List.all_eq_true.1 h x (List.mem_of_mem_drop (List.mem_of_mem_take hx)))
      rwa [hd] at this
  · intro x hx
    split at hx
    · exact ⟨x, hx, rfl⟩
    · rw [Option.map_eq_some_iff] at hx
      obtain ⟨y, hy, rfl⟩ := hx
      refine ⟨y, hy, ?_⟩
      unfold Addr.add
      split <;> rfl
end Go.Proofs.Yteadbbimikcmgaa
