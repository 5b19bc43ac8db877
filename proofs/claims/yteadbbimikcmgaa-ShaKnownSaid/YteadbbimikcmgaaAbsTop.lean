/- The abstract memory in which a call begins is the world's own; a call that changes nothing there leaves the world below as it was. Conditions: none. -/
import Derived.Test.YteadbbimikcmgaaAbsSim
import Derived.Below
set_option linter.unusedSimpArgs false
set_option linter.unusedVariables false
namespace Go.Proofs.Yteadbbimikcmgaa
open Go Go.RowKit

def rho0 (W : World) (N : Nat) : Nat → Option Loc := fun r => if r < W.heap.size + N then some ⟨r, 0, 0⟩ else none
/-- a value that every renaming leaves as it is, if it leaves the first blocks where they are (N block numbers behind the world's own are names too: an empty slice may point there) -/
def Fixed (W : World) (N : Nat) (v : Value) : Prop := VR (rho0 W N) v v ∧ ∀ ρ v', Sub (rho0 W N) ρ → VR ρ v v' → v' = v
open Classical in
noncomputable def seen (W : World) (N : Nat) (v : Value) : Value := if Fixed W N v then v else .tuple #[]
theorem seen_fixed {W : World} {N : Nat} {v : Value} (h : Fixed W N v) : seen W N v = v := if_pos h
theorem seen_not {W : World} {N : Nat} {v : Value} (h : ¬ Fixed W N v) : seen W N v = .tuple #[] := if_neg h
noncomputable def row0 (W : World) (N : Nat) : Obj → Row
  | .cells c e fz => ⟨c.toList.map (seen W N), e, true, 0, .live, some fz⟩
  | _ => ⟨[], 0, true, 0, .opq, none⟩
noncomputable def mem0 (W : World) (N : Nat := 0) : Mem := W.heap.toList.map (row0 W N) ++ List.replicate N ⟨[], 0, true, 0, .opq, none⟩

theorem fixed_scalar (W : World) (N : Nat) {v : Value} (h : scalar v = true) : Fixed W N v := ⟨scalar_VR _ h, fun _ _ _ hv => hv.scalar_eq h⟩
theorem fixed_slice {W : World} {N : Nat} {a : Addr} {n c : Nat} (hb : a.block < W.heap.size + N) (hc : c < UNK) : Fixed W N (.slice (some a) n c) := by
  have hA : At (rho0 W N) a.block a.block := ⟨⟨a.block, 0, 0⟩, if_pos hb, rfl⟩
  refine ⟨.sl _ _ _ _ _ hA rfl rfl ⟨fun _ => rfl, fun h => by omega⟩, fun ρ v' hs hv => ?_⟩
  cases hv with
  | sl _ a' _ _ c' h1 h2 h3 h4 =>
    have e1 := At.inj (hA.mono hs) h1
    obtain ⟨x, y, z⟩ := a
    obtain ⟨x', y', z'⟩ := a'
    simp only at e1 h2 h3
    rw [h4.1 hc, ← e1, h2, h3]
theorem mem0_len (W : World) (N : Nat) : (mem0 W N).length = W.heap.size + N := by simp [mem0]
theorem mem0_get (W : World) (N r : Nat) (h : r < W.heap.size) : (mem0 W N)[r]? = (W.heap[r]?).map (row0 W N) := by
  unfold mem0
  rw [List.getElem?_append_left (by simpa using h)]; simp
/-- a row of the world: what is fixed in it is known -/
theorem mem0_live {W : World} {N b : Nat} {c : Array Value} {e : TypeId} {fz : Nat × Nat} (h : W.heap[b]? = some (.cells c e fz)) : ∃ r, (mem0 W N).row? b = some r ∧ r.cells.length = c.size ∧ ∀ (i : Nat) (v : Value), c[i]? = some v → Fixed W N v → r.cells[i]? = some v := by
  refine ⟨row0 W N (.cells c e fz), Mem.row?_of ?_ rfl, by simp [row0], fun i v hv hf => ?_⟩
  · rw [mem0_get W N b (Array.getElem?_eq_some_iff.1 h).1, h]; rfl
  · have : (c.toList.map (seen W N))[i]? = some v := by
      rw [List.getElem?_map, Array.getElem?_toList, hv, Option.map_some, seen_fixed hf]
    exact this

theorem sr0 (W : World) (N : Nat) : SR (rho0 W N) (mem0 W N) W := by
  have get : ∀ r L, rho0 W N r = some L → r < W.heap.size + N ∧ L = ⟨r, 0, 0⟩ := fun r L h => by
    unfold rho0 at h
    split at h
    · cases h; exact ⟨by assumption, rfl⟩
    · cases h
  have old : ∀ (r : Nat) (x : Row), (mem0 W N)[r]? = some x → x.st ≠ .opq → r < W.heap.size := fun r x hx hl => by
    rcases Nat.lt_or_ge r W.heap.size with h | h
    · exact h
    · unfold mem0 at hx
      rw [List.getElem?_append_right (by simpa using h), List.getElem?_replicate] at hx
      split at hx
      · cases hx; exact absurd rfl hl
      · cases hx
  refine ⟨fun r x hx hl => ?_, fun r L h => ?_, fun r r' x x' b h1 h2 _ _ _ _ => ?_⟩
  · have hr := old r x hx (by rw [hl]; nofun)
    rw [mem0_get W N r hr, Option.map_eq_some_iff] at hx
    obtain ⟨o, ho, rfl⟩ := hx
    cases o with
    | cells c e fz =>
      refine ⟨⟨r, 0, 0⟩, if_pos (by omega), ⟨c, fz, ho, by simp [row0], fun _ => by simp [row0], nofun, fun f h => by cases h; rfl, nofun, fun i v hv => ?_⟩⟩
      simp only [row0, List.getElem?_map, Option.map_eq_some_iff] at hv
      obtain ⟨u, hu, rfl⟩ := hv
      by_cases hf : Fixed W N u
      · rw [seen_fixed hf]; exact .inr ⟨u, by simpa using hu, hf.1⟩
      · rw [seen_not hf]; exact .inl ⟨by simp [row0], rfl⟩
    | _ => simp [row0] at hl
  · obtain ⟨h1, rfl⟩ := get r L h
    exact ⟨by rw [mem0_len]; exact h1, fun x hx hxo => old r x hx hxo⟩
  · obtain ⟨L, a1, a2⟩ := h1
    obtain ⟨M, b1, b2⟩ := h2
    obtain ⟨_, rfl⟩ := get _ _ a1
    obtain ⟨_, rfl⟩ := get _ _ b1
    exact a2.trans b2.symm

theorem glob0 {W : World} {N G : Nat} (h : G ≤ W.heap.size) : Glob G (rho0 W N) := fun g hg => ⟨⟨g, 0, 0⟩, if_pos (by omega), rfl⟩

theorem below_of {W w' : World} {N : Nat} {ρ' : Nat → Option Loc} {S' : Mem} (hs : SR ρ' S' w') (hst : Stp (rho0 W N) (mem0 W N) W ρ' S' w') (hc : Cons (mem0 W N) S') : Below W.heap.size W w' := by
  refine ⟨hst.os, hst.tape, hst.output, hst.size, fun b hb => ?_⟩
  obtain ⟨o, ho⟩ : ∃ o, W.heap[b]? = some o := ⟨_, Array.getElem?_eq_getElem hb⟩
  have h0 : (mem0 W N)[b]? = some (row0 W N o) := by rw [mem0_get W N b hb, ho]; rfl
  refine hst.frame b hb fun r hr => ?_
  obtain ⟨L, h1, h2⟩ := hr
  unfold rho0 at h1
  split at h1
  · cases h1
    simp only at h2
    subst h2
    refine ⟨_, h0, ?_⟩
    cases o <;> simp [row0]
  · cases h1

/-- FROM THE ABSTRACT MACHINE TO THE REAL ONE: a call that leaves what was there alone -/
theorem top {P : Program} {G : Nat} {Ext : FuncId → List Value → Mem → Outc → Mem → Prop} (hm : P.follows .mixedOrders = true) (hext : ∀ f args S out S', Ext f args S out S' → CallSim P G f args S out S')
    {W : World} {N : Nat} {f : FuncId} {args : List Value} {v : Value} {S' : Mem} (hG : G ≤ W.heap.size) (hargs : ∀ a ∈ args, VR (rho0 W N) a a) (h : Ex P G Ext (.j (.call f args (mem0 W N) (.ret v) S'))) (hc : Cons (mem0 W N) S') :
    Calls P f args.toArray W fun e w' => ∃ v' ρ', e = .returned v' ∧ VR ρ' v v' ∧ Below W.heap.size W w' := by
  have hs := (h.sim hm hext).2 (rho0 W N) args W ⟨rfl, fun i v v' a b => by rw [a] at b; cases b; exact hargs v (List.mem_of_getElem? a)⟩ (sr0 W N) (glob0 hG)
  refine hs.mono fun e w' ⟨ρ', h1, h2, h3⟩ => ?_
  cases e with
  | returned v' => exact ⟨v', ρ', rfl, h1, below_of h2 h3 hc⟩
  | _ => exact h1.elim
/-- the same for a call that answers true -/
theorem top_true {P : Program} {G : Nat} {Ext : FuncId → List Value → Mem → Outc → Mem → Prop} (hm : P.follows .mixedOrders = true) (hext : ∀ f args S out S', Ext f args S out S' → CallSim P G f args S out S')
    {W : World} {N : Nat} {f : FuncId} {args : List Value} {S' : Mem} (hG : G ≤ W.heap.size) (hargs : ∀ a ∈ args, VR (rho0 W N) a a) (h : Ex P G Ext (.j (.call f args (mem0 W N) (.ret (.bool true)) S'))) (hc : Cons (mem0 W N) S') :
    Calls P f args.toArray W fun e w' => e = .returned (.bool true) ∧ Below W.heap.size W w' :=
  (top hm hext hG hargs h hc).mono fun e w' ⟨v', ρ', h1, h2, h3⟩ => by
    rw [h2.scalar_eq rfl] at h1
    exact ⟨h1, h3⟩
end Go.Proofs.Yteadbbimikcmgaa
