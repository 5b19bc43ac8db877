/- Steps of the abstract memory, and of the real one beside it: a write, a new row, a row that is moved. Conditions: none. -/
import Derived.Test.YteadbbimikcmgaaAbsMem
set_option linter.unusedSimpArgs false
set_option linter.unusedVariables false
namespace Go.Proofs.Yteadbbimikcmgaa
open Go

theorem putFrom_length (l : List Value) (i : Nat) (vs : List Value) (h : i + vs.length ≤ l.length) : (putFrom l i vs).length = l.length := by
  simp [putFrom]; omega
theorem putFrom_get (l : List Value) (i : Nat) (vs : List Value) (h : i + vs.length ≤ l.length) (j : Nat) :
    (putFrom l i vs)[j]? = if j < i then l[j]? else if j < i + vs.length then vs[j - i]? else l[j]? := by
  unfold putFrom
  have hl : (l.take i).length = i := by simp; omega
  by_cases h1 : j < i
  · rw [if_pos h1, List.append_assoc, List.getElem?_append_left (by omega), List.getElem?_take, if_pos h1]
  · rw [if_neg h1, List.append_assoc, List.getElem?_append_right (by omega), hl]
    by_cases h2 : j < i + vs.length
    · rw [if_pos h2, List.getElem?_append_left (by omega)]
    · rw [if_neg h2, List.getElem?_append_right (by omega), List.getElem?_drop]
      congr 1
      omega
theorem putFrom_cons (l : List Value) (i : Nat) (v : Value) (vs : List Value) (h : i < l.length) : putFrom l i (v :: vs) = putFrom (l.set i v) (i + 1) vs := by
  unfold putFrom
  have h1 : (l.set i v).take (i + 1) = l.take i ++ [v] := by
    rw [List.take_succ_eq_append_getElem (by simpa using h)]
    simp [List.take_set_of_le]
  rw [h1, List.drop_set_of_lt (by omega)]
  simp [Nat.add_assoc, Nat.add_comm 1]

theorem setCell_heap {w : World} {b o : Nat} {c : Array Value} {T : TypeId} {fz : Nat × Nat} (v : Value) (h : w.heap[b]? = some (.cells c T fz)) :
    (w.setCell ⟨b, o, none⟩ v).heap[b]? = some (.cells (c.setIfInBounds o v) T fz) := by
  simp [World.setCell, Array.getElem?_modify, h]
theorem setCells_heap (b : Nat) (T : TypeId) (fz : Nat × Nat) : ∀ (vs : List Value) (o : Nat) (w : World) (c : Array Value), w.heap[b]? = some (.cells c T fz) → o + vs.length ≤ c.size →
    (w.setCells b o vs).heap[b]? = some (.cells (putFrom c.toList o vs).toArray T fz)
  | [], o, w, c, h, _ => by simp [World.setCells, putFrom, h]
  | v :: r, o, w, c, h, hl => by
    simp only [List.length_cons] at hl
    rw [World.setCells, setCells_heap b T fz r (o + 1) _ (c.setIfInBounds o v) (setCell_heap v h) (by simp; omega), putFrom_cons _ _ _ _ (by simp; omega)]
    simp
theorem setCells_other (b : Nat) : ∀ (vs : List Value) (o : Nat) (w : World) (k : Nat), k ≠ b → (w.setCells b o vs).heap[k]? = w.heap[k]?
  | [], _, _, _, _ => rfl
  | v :: r, o, w, k, h => by rw [World.setCells, setCells_other b r (o + 1) _ k h, heap_setCell_other w ⟨b, o, none⟩ k v h]
theorem setCells_rest (b : Nat) : ∀ (vs : List Value) (o : Nat) (w : World), (w.setCells b o vs).heap.size = w.heap.size ∧ (w.setCells b o vs).tape = w.tape ∧ (w.setCells b o vs).os = w.os ∧ (w.setCells b o vs).output = w.output
  | [], _, _ => ⟨rfl, rfl, rfl, rfl⟩
  | v :: r, o, w => by
    obtain ⟨h1, h2, h3, h4⟩ := setCells_rest b r (o + 1) (w.setCell ⟨b, o, none⟩ v)
    exact ⟨by rw [World.setCells, h1]; simp, h2, h3, h4⟩

theorem oneCell_eq : ∀ v : Value, Value.oneCell' v = oneCell v := by intro v; cases v <;> rfl
theorem VR.oneCell {ρ} {v v' : Value} (h : VR ρ v v') : oneCell v' = oneCell v := by cases h <;> rfl
theorem LR.oneCell {ρ} {l l' : List Value} (h : LR ρ l l') (h1 : l.all oneCell = true) : ∀ v ∈ l', v.oneCell' = true := by
  intro v hv
  obtain ⟨i, hi⟩ := List.mem_iff_getElem?.1 hv
  have hlt : i < l.length := by rw [h.1]; exact (List.getElem?_eq_some_iff.1 hi).1
  have := h.2 i _ _ (List.getElem?_eq_getElem hlt) hi
  rw [oneCell_eq, this.oneCell]
  exact List.all_eq_true.1 h1 _ (List.getElem_mem hlt)

section
variable {P : Program} {ρ ρ' : Nat → Option Loc} {S S' : Mem} {w w' : World}

theorem RowAt.mono (h : Sub ρ ρ') {x : Row} {L : Loc} (hx : RowAt ρ x L w) (hw : w'.heap[L.b]? = w.heap[L.b]?) : RowAt ρ' x L w' := by
  obtain ⟨c, fz, h1, h2, h3, h4, h5, h6, h7⟩ := hx.ex
  exact ⟨c, fz, hw.trans h1, h2, h3, h4, h5, h6, fun i v hv => (h7 i v hv).imp id fun ⟨v', a, b⟩ => ⟨v', a, b.mono h⟩⟩

theorem row_live_lt {x : Row} {r : Nat} (h : S[r]? = some x) : r < S.length := (List.getElem?_eq_some_iff.1 h).1

/-- the cells of one live row, and of its block, are set -/
theorem SR.put (h : SR ρ S w) {r : Nat} {x : Row} {L : Loc} (hx : S[r]? = some x) (hl : x.st = .live) (hron : x.ro = none) (hL : ρ r = some L) {cells : List Value}
    (hw : ∀ k, k ≠ L.b → w'.heap[k]? = w.heap[k]?) (hsz : w'.heap.size = w.heap.size) (htape : w'.tape = w.tape) (hos : w'.os = w.os) (hout : w'.output = w.output)
    (hrow : RowAt ρ { x with cells := cells } L w') : SR ρ (S.set r { x with cells := cells }) w' ∧ Stp ρ S w ρ (S.set r { x with cells := cells }) w' := by
  have hr := row_live_lt hx
  refine ⟨⟨fun r' x' hx' hl' => ?_, fun r' L' hL' => ?_, fun r1 r2 x1 x2 b h1 h2 k1 k2 l1 l2 => ?_⟩, ⟨Sub.refl _, htape, hos, hout, by omega, fun b hb hq => hw b fun e => ?_, fun b hb hq r' hr' => ?_⟩⟩
  · rw [List.getElem?_set] at hx'
    by_cases e : r = r'
    · rw [if_pos e] at hx'
      subst e
      rw [if_pos hr] at hx'
      cases hx'
      exact ⟨L, hL, hrow⟩
    · rw [if_neg e] at hx'
      obtain ⟨M, h1, h2⟩ := h.live r' x' hx' hl'
      refine ⟨M, h1, h2.mono (Sub.refl _) (hw _ fun e' => e ?_)⟩
      exact h.inj r r' x x' L.b ⟨L, hL, rfl⟩ ⟨M, h1, e'⟩ hx hx' hl hl'
  · have := h.dom r' L' hL'
    refine ⟨by simpa using this.1, fun y hy hyo => ?_⟩
    rw [hsz]
    rw [List.getElem?_set] at hy
    by_cases e : r = r'
    · subst e; exact this.2 x hx (by rw [hl]; nofun)
    · rw [if_neg e] at hy; exact this.2 y hy hyo
  · have get : ∀ (q : Nat) (y : Row), (S.set r { x with cells := cells })[q]? = some y → y.st = .live → ∃ z, S[q]? = some z ∧ z.st = .live := by
      intro q y hy hyl
      rw [List.getElem?_set] at hy
      by_cases e : r = q
      · subst e; exact ⟨x, hx, hl⟩
      · rw [if_neg e] at hy; exact ⟨y, hy, hyl⟩
    obtain ⟨z1, a1, b1⟩ := get r1 x1 k1 l1
    obtain ⟨z2, a2, b2⟩ := get r2 x2 k2 l2
    exact h.inj r1 r2 z1 z2 b h1 h2 a1 a2 b1 b2
  · obtain ⟨y, hy, hyo⟩ := hq r ⟨L, hL, e.symm⟩
    rw [hx] at hy; cases hy; rw [hl, hron] at hyo; exact hyo.elim nofun fun h => h rfl
  · obtain ⟨y, hy, hyo⟩ := hq r' hr'
    by_cases e : r = r'
    · subst e; rw [hx] at hy; cases hy; rw [hl, hron] at hyo; exact (hyo.elim nofun fun h => h rfl : False).elim
    · exact ⟨y, by rw [List.getElem?_set, if_neg e]; exact hy, hyo⟩

theorem addr_lit {a : Addr} (h : a.spot = none) : a = ⟨a.block, a.off, none⟩ := by cases a; simp at h; subst h; rfl

theorem write_sound {a a' : Addr} {vs vs' : List Value} (h : SR ρ S w) (hw : S.write a vs = some S') (hv : LR ρ vs vs') (hb : At ρ a.block a'.block) (ho : a'.off = a.off) (hs : a'.spot = a.spot) :
    ∃ w', (storeCells a' vs').run P w = .ok () w' ∧ SR ρ S' w' ∧ Stp ρ S w ρ S' w' := by
  unfold Mem.write at hw
  split at hw
  · rename_i x hx
    split at hw
    · rename_i hc
      cases hw
      obtain ⟨hx1, hx2⟩ := Mem.row?_some hx
      obtain ⟨L, hL, ⟨c, fz, hh, hle, hex, hgr, hro, hun, hcell⟩⟩ := h.live _ _ hx1 hx2
      have hLb : L.b = a'.block := At.inj ⟨L, hL, rfl⟩ hb
      have hsp : a'.spot = none := hs.trans hc.1
      have hlen : vs'.length = vs.length := hv.1.symm
      have hfit : a'.off + vs'.length ≤ c.size := by rw [hlen, ho]; omega
      have ha' := addr_lit hsp
      have hh' := hh
      rw [hLb] at hh'
      have hrun := run_storeCells_cells (P := P) a'.block a'.off vs' 0 w (fun j hj => by
        rw [cell_of_row w _ _ c x.elem fz hh']
        simp; omega) (fun j hj => by
        have := hun hc.2.2.1 (a'.off + 0 + j) (by omega)
        simp only [World.frozen?, hh']
        simpa using this) (hv.oneCell hc.2.2.2)
      rw [← ha'] at hrun
      refine ⟨_, hrun, ?_⟩
      obtain ⟨q1, q2, q3, q4⟩ := setCells_rest a'.block vs' (a'.off + 0) w
      refine h.put hx1 hx2 hc.2.2.1 hL (fun k hk => setCells_other _ _ _ _ k (by rw [← hLb]; exact hk)) q1 q2 q3 q4 ⟨(putFrom c.toList a'.off vs').toArray, fz, ?_, ?_, ?_, ?_, hro, ?_, ?_⟩
      · rw [hLb]; exact setCells_heap _ _ _ _ _ _ _ hh' hfit
      · simp only [List.size_toArray]
        rw [putFrom_length _ _ _ hc.2.1, putFrom_length _ _ _ (by simpa using hfit)]
        simpa using hle
      · intro he
        simp only [List.size_toArray]
        rw [putFrom_length _ _ _ hc.2.1, putFrom_length _ _ _ (by simpa using hfit)]
        simpa using hex he
      · intro he
        simp only [List.size_toArray]
        rw [putFrom_length _ _ _ (by simpa using hfit)]
        simpa using hgr he
      · intro he i hi
        simp only [List.size_toArray] at hi
        rw [putFrom_length _ _ _ (by simpa using hfit)] at hi
        exact hun he i (by simpa using hi)
      · intro i v e
        simp only [List.getElem?_toArray]
        rw [putFrom_get _ _ _ hc.2.1] at e
        rw [putFrom_get _ _ _ (by simpa using hfit), ho, hlen]
        split at e
        · rename_i h1
          rw [if_pos h1]
          obtain ⟨hk1, _⟩ | ⟨v', a1, b1⟩ := hcell i v e
          · exact absurd hc.2.2.1 hk1
          exact .inr ⟨v', by simpa using a1, b1⟩
        · rename_i h1
          rw [if_neg h1]
          split at e
          · rename_i h2
            rw [if_pos h2]
            exact .inr (hv.get e)
          · rename_i h2
            rw [if_neg h2]
            obtain ⟨hk1, _⟩ | ⟨v', a1, b1⟩ := hcell i v e
            · exact absurd hc.2.2.1 hk1
            exact .inr ⟨v', by simpa using a1, b1⟩
    · cases hw
  · cases hw

/-- a new row in a new block -/
theorem SR.push (h : SR ρ S w) (x : Row) (c : Array Value) (fz : Nat × Nat) (hheap : w'.heap = w.heap.push (.cells c x.elem fz)) (htape : w'.tape = w.tape) (hos : w'.os = w.os) (hout : w'.output = w.output)
    (sz : Nat) (hle : x.cells.length ≤ c.size) (hex : x.exact = true → c.size = x.cells.length) (hgr : x.exact = false → sz = x.sz) (hro : x.ro = none)
    (hun : ∀ i, i < c.size → ¬ (fz.1 ≤ i ∧ i < fz.2)) (hcell : ∀ (i : Nat) (v : Value), x.cells[i]? = some v → ∃ v', c[i]? = some v' ∧ VR ρ v v') :
    ∃ ρ', ρ' S.length = some ⟨w.heap.size, c.size, sz⟩ ∧ SR ρ' (S ++ [x]) w' ∧ Stp ρ S w ρ' (S ++ [x]) w' := by
  have hsub : Sub ρ fun r => if r = S.length then some ⟨w.heap.size, c.size, sz⟩ else ρ r := fun r L hL => by
    have := (h.dom r L hL).1
    show (if r = S.length then _ else ρ r) = some L
    rw [if_neg (by omega)]; exact hL
  have hsize : w'.heap.size = w.heap.size + 1 := by rw [hheap]; simp
  have hold : ∀ k, k < w.heap.size → w'.heap[k]? = w.heap[k]? := fun k hk => by rw [hheap, Array.getElem?_push, if_neg (by omega)]
  have back : ∀ (q : Nat) (M : Loc), (if q = S.length then some ⟨w.heap.size, c.size, sz⟩ else ρ q) = some M → (q = S.length ∧ M.b = w.heap.size) ∨ (q ≠ S.length ∧ ρ q = some M) := by
    intro q M hM
    by_cases e : q = S.length
    · rw [if_pos e] at hM; cases hM; exact .inl ⟨e, rfl⟩
    · rw [if_neg e] at hM; exact .inr ⟨e, hM⟩
  refine ⟨fun r => if r = S.length then some ⟨w.heap.size, c.size, sz⟩ else ρ r, by simp, ⟨fun r y hy hl => ?_, fun r L hL => ?_, fun r r' y y' b h1 h2 k1 k2 l1 l2 => ?_⟩, ⟨hsub, htape, hos, hout, by omega, fun b hb _ => hold b hb, fun b hb hq r hr => ?_⟩⟩
  · by_cases e : r = S.length
    · subst e
      simp at hy
      subst hy
      refine ⟨⟨w.heap.size, c.size, sz⟩, if_pos rfl, ⟨c, fz, by rw [hheap]; simp, hle, hex, fun he => ⟨rfl, hgr he⟩, fun f hf => (by rw [hro] at hf; cases hf), fun _ => hun, fun i v hv => ?_⟩⟩
      obtain ⟨v', a, b⟩ := hcell i v hv
      exact .inr ⟨v', a, b.mono hsub⟩
    · have hy' : S[r]? = some y := by
        rw [List.getElem?_append] at hy
        split at hy
        · exact hy
        · rename_i h9
          have : r - S.length ≠ 0 := by omega
          rw [List.getElem?_singleton, if_neg this] at hy
          cases hy
      obtain ⟨L, h1, h2⟩ := h.live r y hy' hl
      exact ⟨L, hsub _ _ h1, h2.mono hsub (hold _ ((h.dom r L h1).2 y hy' (by rw [hl]; nofun)))⟩
  · rcases back r L hL with ⟨e, e2⟩ | ⟨e, e2⟩
    · subst e; exact ⟨by simp, fun _ _ _ => by omega⟩
    · have := h.dom r L e2
      refine ⟨by simp; omega, fun y hy hyo => ?_⟩
      rw [List.getElem?_append_left this.1] at hy
      have := this.2 y hy hyo
      omega
  · obtain ⟨L1, p1, p2⟩ := h1
    obtain ⟨L2, q1, q2⟩ := h2
    have old : ∀ (q : Nat) (z : Row), q ≠ S.length → (S ++ [x])[q]? = some z → S[q]? = some z := by
      intro q z hq hz
      rw [List.getElem?_append] at hz
      split at hz
      · exact hz
      · rename_i h9
        rw [List.getElem?_singleton, if_neg (by omega)] at hz
        cases hz
    rcases back r L1 p1 with ⟨e, e2⟩ | ⟨e, e2⟩ <;> rcases back r' L2 q1 with ⟨f, f2⟩ | ⟨f, f2⟩
    · omega
    · have := (h.dom r' L2 f2).2 y' (old r' y' f k2) (by rw [l2]; nofun); omega
    · have := (h.dom r L1 e2).2 y (old r y e k1) (by rw [l1]; nofun); omega
    · exact h.inj r r' y y' b ⟨L1, e2, p2⟩ ⟨L2, f2, q2⟩ (old r y e k1) (old r' y' f k2) l1 l2
  · obtain ⟨L, p1, p2⟩ := hr
    rcases back r L p1 with ⟨e, e2⟩ | ⟨e, e2⟩
    · omega
    · obtain ⟨y, hy, hyo⟩ := hq r ⟨L, e2, p2⟩
      exact ⟨y, by rw [List.getElem?_append_left (row_live_lt hy)]; exact hy, hyo⟩

/-- a live row is handed on: nobody asks any more what its block holds -/
theorem SR.kill (h : SR ρ S w) {r : Nat} {x : Row} (hx : S[r]? = some x) (hl : x.st = .live) (hron : x.ro = none) :
    SR ρ (S.set r { x with st := .moved }) w ∧ Stp ρ S w ρ (S.set r { x with st := .moved }) w := by
  have hr := row_live_lt hx
  have get : ∀ (q : Nat) (y : Row), (S.set r { x with st := .moved })[q]? = some y → y.st = .live → S[q]? = some y := by
    intro q y hy hyl
    rw [List.getElem?_set] at hy
    by_cases e : r = q
    · subst e; rw [if_pos rfl, if_pos hr] at hy; cases hy; cases hyl
    · rw [if_neg e] at hy; exact hy
  refine ⟨⟨fun q y hy hyl => h.live q y (get q y hy hyl) hyl, fun q L hL => ⟨by simpa using (h.dom q L hL).1, fun y hy hyo => ?_⟩,
    fun r1 r2 x1 x2 b h1 h2 k1 k2 l1 l2 => h.inj r1 r2 x1 x2 b h1 h2 (get r1 x1 k1 l1) (get r2 x2 k2 l2) l1 l2⟩,
    ⟨Sub.refl _, rfl, rfl, rfl, Nat.le_refl _, fun _ _ _ => rfl, fun b hb hq q hq' => ?_⟩⟩
  · rw [List.getElem?_set] at hy
    by_cases e : r = q
    · subst e; exact (h.dom r L hL).2 x hx (by rw [hl]; nofun)
    · rw [if_neg e] at hy; exact (h.dom q L hL).2 y hy hyo
  obtain ⟨y, hy, hyo⟩ := hq q hq'
  by_cases e : r = q
  · subst e; rw [hx] at hy; cases hy; rw [hl, hron] at hyo; exact (hyo.elim nofun fun h => h rfl : False).elim
  · exact ⟨y, by rw [List.getElem?_set, if_neg e]; exact hy, hyo⟩

/-- a block that no live row has is set, and given to a new row -/
theorem SR.take (h : SR ρ S w) (x : Row) (L : Loc) {r0 : Nat} {x0 : Row} (hr0 : ρ r0 = some L) (hx0 : S[r0]? = some x0) (hm : x0.st = .moved) (hron : x0.ro = none)
    (hfree : ∀ (r : Nat) (y : Row), At ρ r L.b → S[r]? = some y → y.st ≠ .live)
    (hw : ∀ k, k ≠ L.b → w'.heap[k]? = w.heap[k]?) (hsz : w'.heap.size = w.heap.size) (htape : w'.tape = w.tape) (hos : w'.os = w.os) (hout : w'.output = w.output)
    (hrow : RowAt ρ x L w') : ∃ ρ', ρ' S.length = some L ∧ SR ρ' (S ++ [x]) w' ∧ Stp ρ S w ρ' (S ++ [x]) w' := by
  have hsub : Sub ρ fun r => if r = S.length then some L else ρ r := fun r M hM => by
    have := (h.dom r M hM).1
    show (if r = S.length then _ else ρ r) = some M
    rw [if_neg (by omega)]; exact hM
  have hLlt := (h.dom r0 L hr0).2 x0 hx0 (by rw [hm]; nofun)
  have back : ∀ (q : Nat) (M : Loc), (if q = S.length then some L else ρ q) = some M → (q = S.length ∧ M = L) ∨ (q ≠ S.length ∧ ρ q = some M) := by
    intro q M hM
    by_cases e : q = S.length
    · rw [if_pos e] at hM; cases hM; exact .inl ⟨e, rfl⟩
    · rw [if_neg e] at hM; exact .inr ⟨e, hM⟩
  have old : ∀ (q : Nat) (z : Row), q ≠ S.length → (S ++ [x])[q]? = some z → S[q]? = some z := by
    intro q z hq hz
    rw [List.getElem?_append] at hz
    split at hz
    · exact hz
    · rename_i h9
      rw [List.getElem?_singleton, if_neg (by omega)] at hz
      cases hz
  refine ⟨fun r => if r = S.length then some L else ρ r, by simp, ⟨fun r y hy hl => ?_, fun r M hM => ?_, fun r r' y y' b h1 h2 k1 k2 l1 l2 => ?_⟩, ⟨hsub, htape, hos, hout, by omega, fun b hb hq => hw b fun e => ?_, fun b hb hq r hr => ?_⟩⟩
  · by_cases e : r = S.length
    · subst e
      simp at hy
      subst hy
      exact ⟨L, if_pos rfl, hrow.mono hsub rfl⟩
    · have hy' := old r y e hy
      obtain ⟨M, h1, h2⟩ := h.live r y hy' hl
      exact ⟨M, hsub _ _ h1, h2.mono hsub (hw _ fun e' => hfree r y ⟨M, h1, e'⟩ hy' hl)⟩
  · rcases back r M hM with ⟨e, e2⟩ | ⟨e, e2⟩
    · subst e e2; exact ⟨by simp, fun _ _ _ => by omega⟩
    · have := h.dom r M e2
      refine ⟨by simp; omega, fun y hy hyo => ?_⟩
      rw [List.getElem?_append_left this.1] at hy
      have := this.2 y hy hyo
      omega
  · obtain ⟨L1, p1, p2⟩ := h1
    obtain ⟨L2, q1, q2⟩ := h2
    rcases back r L1 p1 with ⟨e, e2⟩ | ⟨e, e2⟩ <;> rcases back r' L2 q1 with ⟨f, f2⟩ | ⟨f, f2⟩
    · omega
    · subst e2; exact absurd l2 (hfree r' y' ⟨L2, f2, by rw [q2, p2]⟩ (old r' y' f k2))
    · subst f2; exact absurd l1 (hfree r y ⟨L1, e2, by rw [p2, q2]⟩ (old r y e k1))
    · exact h.inj r r' y y' b ⟨L1, e2, p2⟩ ⟨L2, f2, q2⟩ (old r y e k1) (old r' y' f k2) l1 l2
  · obtain ⟨y, hy, hyo⟩ := hq r0 ⟨L, hr0, e.symm⟩
    rw [hx0] at hy; cases hy; rw [hm, hron] at hyo; exact hyo.elim nofun fun h => h rfl
  · obtain ⟨M, p1, p2⟩ := hr
    rcases back r M p1 with ⟨e, e2⟩ | ⟨e, e2⟩
    · subst e2
      obtain ⟨y, hy, hyo⟩ := hq r0 ⟨M, hr0, p2⟩
      rw [hx0] at hy; cases hy; rw [hm, hron] at hyo; exact (hyo.elim nofun fun h => h rfl : False).elim
    · obtain ⟨y, hy, hyo⟩ := hq r ⟨M, e2, p2⟩
      exact ⟨y, by rw [List.getElem?_append_left (row_live_lt hy)]; exact hy, hyo⟩
end
end Go.Proofs.Yteadbbimikcmgaa
