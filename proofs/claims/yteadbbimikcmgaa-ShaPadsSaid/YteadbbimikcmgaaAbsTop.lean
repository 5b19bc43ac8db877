/- The abstract memory in which a call begins is the world's own; a call that changes nothing there leaves the world below as it was. Conditions: none. -/
import Derived.Test.YteadbbimikcmgaaAbsSim
import Derived.Below
set_option linter.unusedSimpArgs false
set_option linter.unusedVariables false
namespace Go.Proofs.Yteadbbimikcmgaa
open Go Go.RowKit

def rho0 (W : World) : Nat → Option Loc := fun r => if r < W.heap.size then some ⟨r, 0, 0⟩ else none
/-- a value that every renaming leaves as it is, if it leaves the first blocks where they are -/
def Fixed (W : World) (v : Value) : Prop := VR (rho0 W) v v ∧ ∀ ρ v', Sub (rho0 W) ρ → VR ρ v v' → v' = v
open Classical in
noncomputable def seen (W : World) (v : Value) : Value := if Fixed W v then v else .tuple #[]
theorem seen_fixed {W : World} {v : Value} (h : Fixed W v) : seen W v = v := if_pos h
theorem seen_not {W : World} {v : Value} (h : ¬ Fixed W v) : seen W v = .tuple #[] := if_neg h
noncomputable def row0 (W : World) : Obj → Row
  | .cells c e fz => ⟨c.toList.map (seen W), e, true, 0, .live, some fz⟩
  | _ => ⟨[], 0, true, 0, .opq, none⟩
noncomputable def mem0 (W : World) : Mem := W.heap.toList.map (row0 W)

theorem fixed_scalar (W : World) {v : Value} (h : scalar v = true) : Fixed W v := ⟨scalar_VR _ h, fun _ _ _ hv => hv.scalar_eq h⟩
theorem fixed_slice {W : World} {a : Addr} {n c : Nat} (hb : a.block < W.heap.size) (hc : c < UNK) : Fixed W (.slice (some a) n c) := by
  have hA : At (rho0 W) a.block a.block := ⟨⟨a.block, 0, 0⟩, if_pos hb, rfl⟩
  refine ⟨.sl _ _ _ _ _ hA rfl rfl ⟨fun _ => rfl, fun h => by omega⟩, fun ρ v' hs hv => ?_⟩
  cases hv with
  | sl _ a' _ _ c' h1 h2 h3 h4 =>
    have e1 := At.inj (hA.mono hs) h1
    obtain ⟨x, y, z⟩ := a
    obtain ⟨x', y', z'⟩ := a'
    simp only at e1 h2 h3
    rw [h4.1 hc, ← e1, h2, h3]
theorem mem0_len (W : World) : (mem0 W).length = W.heap.size := by simp [mem0]
theorem mem0_get (W : World) (r : Nat) : (mem0 W)[r]? = (W.heap[r]?).map (row0 W) := by simp [mem0]
/-- a row of the world: what is fixed in it is known -/
theorem mem0_live {W : World} {b : Nat} {c : Array Value} {e : TypeId} {fz : Nat × Nat} (h : W.heap[b]? = some (.cells c e fz)) : ∃ r, (mem0 W).row? b = some r ∧ r.cells.length = c.size ∧ ∀ (i : Nat) (v : Value), c[i]? = some v → Fixed W v → r.cells[i]? = some v := by
  refine ⟨row0 W (.cells c e fz), Mem.row?_of ?_ rfl, by simp [row0], fun i v hv hf => ?_⟩
  · rw [mem0_get, h]; rfl
  · have : (c.toList.map (seen W))[i]? = some v := by
      rw [List.getElem?_map, Array.getElem?_toList, hv, Option.map_some, seen_fixed hf]
    exact this

theorem sr0 (W : World) : SR (rho0 W) (mem0 W) W := by
  have get : ∀ r L, rho0 W r = some L → r < W.heap.size ∧ L = ⟨r, 0, 0⟩ := fun r L h => by
    unfold rho0 at h
    split at h
    · cases h; exact ⟨by assumption, rfl⟩
    · cases h
  refine ⟨fun r x hx hl => ?_, fun r L h => ?_, fun r r' x x' b h1 h2 _ _ _ _ => ?_⟩
  · rw [mem0_get, Option.map_eq_some_iff] at hx
    obtain ⟨o, ho, rfl⟩ := hx
    have hr : r < W.heap.size := (Array.getElem?_eq_some_iff.1 ho).1
    cases o with
    | cells c e fz =>
      refine ⟨⟨r, 0, 0⟩, if_pos hr, ⟨c, fz, ho, by simp [row0], fun _ => by simp [row0], nofun, fun f h => by cases h; rfl, nofun, fun i v hv => ?_⟩⟩
      simp only [row0, List.getElem?_map, Option.map_eq_some_iff] at hv
      obtain ⟨u, hu, rfl⟩ := hv
      by_cases hf : Fixed W u
      · rw [seen_fixed hf]; exact .inr ⟨u, by simpa using hu, hf.1⟩
      · rw [seen_not hf]; exact .inl ⟨by simp [row0], rfl⟩
    | _ => simp [row0] at hl
  · obtain ⟨h1, rfl⟩ := get r L h
    exact ⟨by rw [mem0_len]; exact h1, h1⟩
  · obtain ⟨L, a1, a2⟩ := h1
    obtain ⟨M, b1, b2⟩ := h2
    obtain ⟨_, rfl⟩ := get _ _ a1
    obtain ⟨_, rfl⟩ := get _ _ b1
    exact a2.trans b2.symm

theorem glob0 {W : World} {G : Nat} (h : G ≤ W.heap.size) : Glob G (rho0 W) := fun g hg => ⟨⟨g, 0, 0⟩, if_pos (by omega), rfl⟩

theorem below_of {W w' : World} {ρ' : Nat → Option Loc} {S' : Mem} (hs : SR ρ' S' w') (hst : Stp (rho0 W) (mem0 W) W ρ' S' w') (hc : Cons (mem0 W) S') : Below W.heap.size W w' := by
  refine ⟨hst.os, hst.tape, hst.output, hst.size, fun b hb => ?_⟩
  obtain ⟨o, ho⟩ : ∃ o, W.heap[b]? = some o := ⟨_, Array.getElem?_eq_getElem hb⟩
  have h0 : (mem0 W)[b]? = some (row0 W o) := by rw [mem0_get, ho]; rfl
  refine hst.frame b hb fun r hr => ?_
  obtain ⟨L, h1, h2⟩ := hr
  unfold rho0 at h1
  split at h1
  · cases h1
    simp only at h2
    subst h2
    refine ⟨_, h0, ?_⟩
    cases o <;> simp [row0]
  · cases h1

/-- FROM THE ABSTRACT MACHINE TO THE REAL ONE: a call that leaves what was there alone -/
theorem top {P : Program} {G : Nat} {Ext : FuncId → List Value → Mem → Outc → Mem → Prop} (hm : P.follows .mixedOrders = true) (hext : ∀ f args S out S', Ext f args S out S' → CallSim P G f args S out S')
    {W : World} {f : FuncId} {args : List Value} {v : Value} {S' : Mem} (hG : G ≤ W.heap.size) (hargs : ∀ a ∈ args, VR (rho0 W) a a) (h : Ex P G Ext (.j (.call f args (mem0 W) (.ret v) S'))) (hc : Cons (mem0 W) S') :
    Calls P f args.toArray W fun e w' => ∃ v' ρ', e = .returned v' ∧ VR ρ' v v' ∧ Below W.heap.size W w' := by
  have hs := (h.sim hm hext).2 (rho0 W) args W ⟨rfl, fun i v v' a b => by rw [a] at b; cases b; exact hargs v (List.mem_of_getElem? a)⟩ (sr0 W) (glob0 hG)
  refine hs.mono fun e w' ⟨ρ', h1, h2, h3⟩ => ?_
  cases e with
  | returned v' => exact ⟨v', ρ', rfl, h1, below_of h2 h3 hc⟩
  | _ => exact h1.elim
/-- the same for a call that answers true -/
theorem top_true {P : Program} {G : Nat} {Ext : FuncId → List Value → Mem → Outc → Mem → Prop} (hm : P.follows .mixedOrders = true) (hext : ∀ f args S out S', Ext f args S out S' → CallSim P G f args S out S')
    {W : World} {f : FuncId} {args : List Value} {S' : Mem} (hG : G ≤ W.heap.size) (hargs : ∀ a ∈ args, VR (rho0 W) a a) (h : Ex P G Ext (.j (.call f args (mem0 W) (.ret (.bool true)) S'))) (hc : Cons (mem0 W) S') :
    Calls P f args.toArray W fun e w' => e = .returned (.bool true) ∧ Below W.heap.size W w' :=
  (top hm hext hG hargs h hc).mono fun e w' ⟨v', ρ', h1, h2, h3⟩ => by
    rw [h2.scalar_eq rfl] at h1
    exact ⟨h1, h3⟩
end Go.Proofs.Yteadbbimikcmgaa
