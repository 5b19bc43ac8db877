/- The abstract machine: memory as rows, values related by a renaming of blocks; its pure operations. Conditions: none. -/
import Derived.Orders
import Derived.Laws.Rows
import Derived.Laws.Sem
import Derived.Laws.World
import Derived.Laws.AppendOwn
import Derived.Tactics
set_option linter.unusedSimpArgs false
set_option linter.unusedVariables false
namespace Go.Proofs.Yteadbbimikcmgaa
open Go

/-- how a row stands: it may be used; it was handed on (an append that may or may not have moved it); it is none of ours -/
inductive RowSt where | live | moved | opq
  deriving DecidableEq

/-- a row of abstract memory: the cells that are known, the type of its elements, whether these are all (if not: the cells of an element), how it stands, whether (and how) it is frozen -/
structure Row where
  cells : List Value
  elem : TypeId
  exact : Bool
  sz : Nat
  st : RowSt
  ro : Option (Nat × Nat)

abbrev Mem := List Row
abbrev Env := Nat → Value

def newR (cells : List Value) (elem : TypeId) : Row := ⟨cells, elem, true, 0, .live, none⟩
def grownR (cells : List Value) (elem : TypeId) (sz : Nat) : Row := ⟨cells, elem, false, sz, .live, none⟩

def Env.put (e : Env) (d : Option Tmp) (v : Value) : Env := fun t => match d with
  | some d => if t = d then v else e t
  | none => e t
def Env.eval (e : Env) : Operand → Value
  | .tmp t => e t
  | .const v => v
  | .global g => .pointer (some ⟨g, 0, none⟩)
  | .func f => .func (.func f) #[] #[]
def Env.of (args : List Value) : Env := fun t => args.getD t undef

/-- capacities from here on: unknown, at least so many behind this number -/
def UNK : Nat := 9223372036854775808

/-- where an abstract row lies: its block, that block's cells, the cells of an element -/
structure Loc where
  b : Nat
  N : Nat
  sz : Nat
def At (ρ : Nat → Option Loc) (r b : Nat) : Prop := ∃ L, ρ r = some L ∧ L.b = b
def CapOk (ρ : Nat → Option Loc) (r off c c' : Nat) : Prop := (c < UNK → c' = c) ∧ (UNK ≤ c → c ≤ c' + UNK ∧ ∃ L, ρ r = some L ∧ (off = 0 → c' * L.sz ≤ L.N))

/-- a value, and the same value with its blocks renamed -/
inductive VR (ρ : Nat → Option Loc) : Value → Value → Prop
  | bool (b) : VR ρ (.bool b) (.bool b)
  | int (k n) : VR ρ (.int k n) (.int k n)
  | float (k b) : VR ρ (.float k b) (.float k b)
  | complex (k a b) : VR ρ (.complex k a b) (.complex k a b)
  | string (s) : VR ρ (.string s) (.string s)
  | map (r) : VR ρ (.map r) (.map r)
  | chan (r) : VR ρ (.chan r) (.chan r)
  | ptrNil : VR ρ (.pointer none) (.pointer none)
  | ptr (a a' : Addr) (hb : At ρ a.block a'.block) (ho : a'.off = a.off) (hs : a'.spot = a.spot) : VR ρ (.pointer (some a)) (.pointer (some a'))
  | slNil (n c) : VR ρ (.slice none n c) (.slice none n c)
  | slE (a c) : VR ρ (.slice none 0 UNK) (.slice a 0 c)
  | sl (a a' : Addr) (n c c' : Nat) (hb : At ρ a.block a'.block) (ho : a'.off = a.off) (hs : a'.spot = a.spot)
      (hc : CapOk ρ a.block a.off c c') : VR ρ (.slice (some a) n c) (.slice (some a') n c')
  | func (fn) (f f' c c' : Array Value) (hf : f.size = f'.size) (hc : c.size = c'.size)
      (hF : ∀ (i : Nat) (v v' : Value), f[i]? = some v → f'[i]? = some v' → VR ρ v v') (hC : ∀ (i : Nat) (v v' : Value), c[i]? = some v → c'[i]? = some v' → VR ρ v v') :
      VR ρ (.func fn f c) (.func fn f' c')
  | nilFunc : VR ρ .nilFunc .nilFunc
  | iface (t v v') (h : VR ρ v v') : VR ρ (.iface t v) (.iface t v')
  | nilIface : VR ρ .nilIface .nilIface
  | agg (c c' : Array Value) (hc : c.size = c'.size) (hC : ∀ (i : Nat) (v v' : Value), c[i]? = some v → c'[i]? = some v' → VR ρ v v') : VR ρ (.agg c) (.agg c')
  | tuple (c c' : Array Value) (hc : c.size = c'.size) (hC : ∀ (i : Nat) (v v' : Value), c[i]? = some v → c'[i]? = some v' → VR ρ v v') : VR ρ (.tuple c) (.tuple c')

def Sub (ρ ρ' : Nat → Option Loc) : Prop := ∀ r b, ρ r = some b → ρ' r = some b
theorem Sub.refl (ρ) : Sub ρ ρ := fun _ _ h => h
theorem Sub.trans {a b c : Nat → Option Loc} (h : Sub a b) (k : Sub b c) : Sub a c := fun r x hx => k r x (h r x hx)

theorem At.mono {ρ ρ' : Nat → Option Loc} (h : Sub ρ ρ') {r b : Nat} (hv : At ρ r b) : At ρ' r b := let ⟨L, h1, h2⟩ := hv; ⟨L, h _ _ h1, h2⟩
theorem CapOk.mono {ρ ρ' : Nat → Option Loc} (h : Sub ρ ρ') {r o c c' : Nat} (hv : CapOk ρ r o c c') : CapOk ρ' r o c c' :=
  ⟨hv.1, fun hu => let ⟨a, L, h1, h2⟩ := hv.2 hu; ⟨a, L, h _ _ h1, h2⟩⟩
theorem At.inj {ρ : Nat → Option Loc} {r b b' : Nat} (h : At ρ r b) (k : At ρ r b') : b = b' := by
  obtain ⟨L, h1, h2⟩ := h
  obtain ⟨M, k1, k2⟩ := k
  rw [h1] at k1; cases k1; exact h2.symm.trans k2
theorem VR.mono {ρ ρ' : Nat → Option Loc} (h : Sub ρ ρ') {v v' : Value} (hv : VR ρ v v') : VR ρ' v v' := by
  induction hv with
  | bool b => exact .bool b
  | int k n => exact .int k n
  | float k b => exact .float k b
  | complex k a b => exact .complex k a b
  | string s => exact .string s
  | map r => exact .map r
  | chan r => exact .chan r
  | ptrNil => exact .ptrNil
  | ptr a a' hb ho hs => exact .ptr a a' (hb.mono h) ho hs
  | slNil n c => exact .slNil n c
  | slE a c => exact .slE a c
  | sl a a' n c c' hb ho hs hc => exact .sl a a' n c c' (hb.mono h) ho hs (hc.mono h)
  | func fn f f' c c' hf hc _ _ iF iC => exact .func fn f f' c c' hf hc iF iC
  | nilFunc => exact .nilFunc
  | iface t v v' _ ih => exact .iface t v v' ih
  | nilIface => exact .nilIface
  | agg c c' hc _ ih => exact .agg c c' hc ih
  | tuple c c' hc _ ih => exact .tuple c c' hc ih

/-- lists of values, one by one -/
def LR (ρ : Nat → Option Loc) (l l' : List Value) : Prop := l.length = l'.length ∧ ∀ (i : Nat) (v v' : Value), l[i]? = some v → l'[i]? = some v' → VR ρ v v'
theorem LR.nil (ρ) : LR ρ [] [] := ⟨rfl, fun i v v' h => by simp at h⟩
theorem LR.mono {ρ ρ' : Nat → Option Loc} (h : Sub ρ ρ') {l l' : List Value} (hl : LR ρ l l') : LR ρ' l l' := ⟨hl.1, fun i v v' a b => (hl.2 i v v' a b).mono h⟩
theorem LR.cons {ρ} {v v' : Value} {l l' : List Value} (h : VR ρ v v') (hl : LR ρ l l') : LR ρ (v :: l) (v' :: l') := by
  refine ⟨by simp [hl.1], fun i u u' a b => ?_⟩
  cases i with
  | zero => simp at a b; subst a; subst b; exact h
  | succ i => exact hl.2 i u u' (by simpa using a) (by simpa using b)
theorem LR.append {ρ} {l l' m m' : List Value} (h : LR ρ l l') (k : LR ρ m m') : LR ρ (l ++ m) (l' ++ m') := by
  refine ⟨by simp [h.1, k.1], fun i u u' a b => ?_⟩
  by_cases hi : i < l.length
  · rw [List.getElem?_append_left hi] at a
    rw [List.getElem?_append_left (h.1 ▸ hi)] at b
    exact h.2 i u u' a b
  · rw [List.getElem?_append_right (by omega)] at a
    rw [List.getElem?_append_right (by have := h.1; omega)] at b
    exact k.2 (i - l.length) u u' a (by rw [h.1]; exact b)
theorem LR.take {ρ} {l l' : List Value} (h : LR ρ l l') (n : Nat) : LR ρ (l.take n) (l'.take n) := by
  refine ⟨by simp [h.1], fun i u u' a b => ?_⟩
  rw [List.getElem?_take] at a b
  by_cases hi : i < n
  · rw [if_pos hi] at a b; exact h.2 i u u' a b
  · rw [if_neg hi] at a; cases a
theorem LR.drop {ρ} {l l' : List Value} (h : LR ρ l l') (n : Nat) : LR ρ (l.drop n) (l'.drop n) := by
  refine ⟨by simp [h.1], fun i u u' a b => ?_⟩
  rw [List.getElem?_drop] at a b
  exact h.2 _ u u' a b
theorem LR.get {ρ} {l l' : List Value} (h : LR ρ l l') {i : Nat} {v : Value} (hv : l[i]? = some v) : ∃ v', l'[i]? = some v' ∧ VR ρ v v' := by
  have hi : i < l.length := (List.getElem?_eq_some_iff.1 hv).1
  have hi' : i < l'.length := h.1 ▸ hi
  exact ⟨l'[i], List.getElem?_eq_getElem hi', h.2 i _ _ hv (List.getElem?_eq_getElem hi')⟩
theorem LR.agg {ρ} {c c' : Array Value} (h : LR ρ c.toList c'.toList) : VR ρ (.agg c) (.agg c') :=
  .agg c c' (by simpa using h.1) fun i v v' a b => h.2 i v v' (by simpa using a) (by simpa using b)
theorem LR.tuple {ρ} {c c' : Array Value} (h : LR ρ c.toList c'.toList) : VR ρ (.tuple c) (.tuple c') :=
  .tuple c c' (by simpa using h.1) fun i v v' a b => h.2 i v v' (by simpa using a) (by simpa using b)
theorem VR.aggInv {ρ} {c : Array Value} {v' : Value} (h : VR ρ (.agg c) v') : ∃ c', v' = .agg c' ∧ LR ρ c.toList c'.toList := by
  cases h with
  | agg _ c' hc hC => exact ⟨c', rfl, by simpa using hc, fun i v v' a b => hC i v v' (by simpa using a) (by simpa using b)⟩
theorem VR.tupleInv {ρ} {c : Array Value} {v' : Value} (h : VR ρ (.tuple c) v') : ∃ c', v' = .tuple c' ∧ LR ρ c.toList c'.toList := by
  cases h with
  | tuple _ c' hc hC => exact ⟨c', rfl, by simpa using hc, fun i v v' a b => hC i v v' (by simpa using a) (by simpa using b)⟩
/-- the cells of related values are related -/
theorem VR.cellsLR {ρ} {v v' : Value} (h : VR ρ v v') : LR ρ v.cells.toList v'.cells.toList := by
  cases v with
  | agg c => obtain ⟨c', rfl, hl⟩ := h.aggInv; exact hl
  | _ =>
    have hv : VR ρ _ v' := h
    cases h <;> exact LR.cons hv (LR.nil _)

/-- values without addresses -/
def scalar : Value → Bool
  | .bool _ | .int _ _ | .float _ _ | .complex _ _ _ | .string _ | .nilIface | .nilFunc | .pointer none => true
  | .slice none _ c => Nat.blt c UNK
  | _ => false
def flat1 : Value → Bool
  | .agg c => c.toList.all scalar
  | v => scalar v
def flat : Value → Bool
  | .tuple c => c.toList.all flat1
  | .iface _ v => flat1 v
  | v => flat1 v

theorem VR.scalar_eq {ρ} {v v' : Value} (h : VR ρ v v') (hs : scalar v = true) : v' = v := by
  cases h <;> first | rfl | (simp [scalar] at hs)
theorem scalar_VR (ρ) {v : Value} (hs : scalar v = true) : VR ρ v v := by
  cases v with
  | bool b => exact .bool b
  | int k n => exact .int k n
  | float k b => exact .float k b
  | complex k a b => exact .complex k a b
  | string s => exact .string s
  | pointer a => cases a with
    | none => exact .ptrNil
    | some a => simp [scalar] at hs
  | slice a n c => cases a with
    | none => exact .slNil n c
    | some a => simp [scalar] at hs
  | nilFunc => exact .nilFunc
  | nilIface => exact .nilIface
  | _ => simp [scalar] at hs
theorem LR.scalar_eq {ρ} {l l' : List Value} (h : LR ρ l l') (hs : l.all scalar = true) : l' = l := by
  apply List.ext_getElem?
  intro i
  rcases Nat.lt_or_ge i l.length with hi | hi
  · have hi' : i < l'.length := h.1 ▸ hi
    rw [List.getElem?_eq_getElem hi, List.getElem?_eq_getElem hi']
    have := h.2 i _ _ (List.getElem?_eq_getElem hi) (List.getElem?_eq_getElem hi')
    exact congrArg some (this.scalar_eq (List.all_eq_true.1 hs _ (List.getElem_mem hi)))
  · rw [List.getElem?_eq_none hi, List.getElem?_eq_none (by rw [← h.1]; exact hi)]
theorem scalars_LR (ρ) {l : List Value} (hs : l.all scalar = true) : LR ρ l l :=
  ⟨rfl, fun i v v' a b => by rw [a] at b; cases b; exact scalar_VR ρ (List.all_eq_true.1 hs _ (List.mem_of_getElem? a))⟩
theorem VR.flat1_eq {ρ} {v v' : Value} (h : VR ρ v v') (hs : flat1 v = true) : v' = v := by
  cases v with
  | agg c =>
    obtain ⟨c', rfl, hl⟩ := h.aggInv
    have := hl.scalar_eq (by simpa [flat1] using hs)
    exact congrArg Value.agg (Array.ext' this)
  | _ => exact h.scalar_eq (by simpa [flat1] using hs)
theorem flat1_VR (ρ) {v : Value} (hs : flat1 v = true) : VR ρ v v := by
  cases v with
  | agg c => exact LR.agg (scalars_LR ρ (by simpa [flat1] using hs))
  | _ => exact scalar_VR ρ (by simpa [flat1] using hs)
theorem LR.flat1_eq {ρ} {l l' : List Value} (h : LR ρ l l') (hs : l.all flat1 = true) : l' = l := by
  apply List.ext_getElem?
  intro i
  rcases Nat.lt_or_ge i l.length with hi | hi
  · have hi' : i < l'.length := h.1 ▸ hi
    rw [List.getElem?_eq_getElem hi, List.getElem?_eq_getElem hi']
    have := h.2 i _ _ (List.getElem?_eq_getElem hi) (List.getElem?_eq_getElem hi')
    exact congrArg some (this.flat1_eq (List.all_eq_true.1 hs _ (List.getElem_mem hi)))
  · rw [List.getElem?_eq_none hi, List.getElem?_eq_none (by rw [← h.1]; exact hi)]
theorem flats_LR (ρ) {l : List Value} (hs : l.all flat1 = true) : LR ρ l l :=
  ⟨rfl, fun i v v' a b => by rw [a] at b; cases b; exact flat1_VR ρ (List.all_eq_true.1 hs _ (List.mem_of_getElem? a))⟩
theorem VR.flat_eq {ρ} {v v' : Value} (h : VR ρ v v') (hs : flat v = true) : v' = v := by
  cases v with
  | tuple c =>
    obtain ⟨c', rfl, hl⟩ := h.tupleInv
    have := hl.flat1_eq (by simpa [flat] using hs)
    exact congrArg Value.tuple (Array.ext' this)
  | iface t v =>
    cases h with
    | iface _ _ v' h => exact congrArg _ (h.flat1_eq (by simpa [flat] using hs))
  | _ => exact h.flat1_eq (by simpa [flat] using hs)
theorem flat_VR (ρ) {v : Value} (hs : flat v = true) : VR ρ v v := by
  cases v with
  | tuple c => exact LR.tuple (flats_LR ρ (by simpa [flat] using hs))
  | iface t v => exact .iface t v v (flat1_VR ρ (by simpa [flat] using hs))
  | _ => exact flat1_VR ρ (by simpa [flat] using hs)
theorem undef_flat : flat undef = true := rfl

/-! ### memory -/

def Mem.row? (S : Mem) (r : Nat) : Option Row := match S[r]? with
  | some x => if x.st = .live then some x else none
  | none => none
/-- a cell that is known -/
def known : Value → Bool
  | .tuple _ => false
  | _ => true
def Mem.cellsAt (S : Mem) (a : Addr) (n : Nat) : Option (List Value) := match S.row? a.block with
  | some x => if a.spot = none ∧ a.off + n ≤ x.cells.length ∧ (x.ro = none ∨ ((x.cells.drop a.off).take n).all known = true) then some ((x.cells.drop a.off).take n) else none
  | none => none
def oneCell : Value → Bool
  | .agg _ | .tuple _ => false
  | _ => true
/-- cells from i on set -/
def putFrom (l : List Value) (i : Nat) (vs : List Value) : List Value := l.take i ++ vs ++ l.drop (i + vs.length)
def Mem.write (S : Mem) (a : Addr) (vs : List Value) : Option Mem := match S.row? a.block with
  | some x => if a.spot = none ∧ a.off + vs.length ≤ x.cells.length ∧ x.ro = none ∧ vs.all oneCell = true then
      some (S.set a.block { x with cells := putFrom x.cells a.off vs }) else none
  | none => none

theorem Mem.row?_some {S : Mem} {r : Nat} {x : Row} (h : S.row? r = some x) : S[r]? = some x ∧ x.st = .live := by
  unfold Mem.row? at h
  split at h
  · rename_i y hy
    split at h
    · cases h; exact ⟨hy, by assumption⟩
    · cases h
  · cases h
theorem Mem.row?_of {S : Mem} {r : Nat} {x : Row} (h : S[r]? = some x) (hl : x.st = .live) : S.row? r = some x := by
  simp [Mem.row?, h, hl]

/-- a block that nobody writes: whoever is mapped to it is none of ours, or stands since the beginning -/
def Quiet (ρ : Nat → Option Loc) (S : Mem) (b : Nat) : Prop := ∀ r, At ρ r b → ∃ x, S[r]? = some x ∧ (x.st = .opq ∨ x.ro ≠ none)

/-- a row, and the block in which it lies -/
structure RowAt (ρ : Nat → Option Loc) (x : Row) (L : Loc) (w : World) : Prop where
  ex : ∃ (c : Array Value) (fz : Nat × Nat), w.heap[L.b]? = some (.cells c x.elem fz) ∧ x.cells.length ≤ c.size ∧
    (x.exact = true → c.size = x.cells.length) ∧ (x.exact = false → L.N = c.size ∧ L.sz = x.sz) ∧ (∀ f, x.ro = some f → fz = f) ∧ (x.ro = none → ∀ i, i < c.size → ¬ (fz.1 ≤ i ∧ i < fz.2)) ∧
    ∀ (i : Nat) (v : Value), x.cells[i]? = some v → (x.ro ≠ none ∧ known v = false) ∨ ∃ v', c[i]? = some v' ∧ VR ρ v v'

/-- the abstract memory S, under the renaming ρ, in the world w -/
structure SR (ρ : Nat → Option Loc) (S : Mem) (w : World) : Prop where
  live : ∀ (r : Nat) (x : Row), S[r]? = some x → x.st = .live → ∃ L, ρ r = some L ∧ RowAt ρ x L w
  dom : ∀ r L, ρ r = some L → r < S.length ∧ ∀ x, S[r]? = some x → x.st ≠ .opq → L.b < w.heap.size
  inj : ∀ (r r' : Nat) (x x' : Row) (b : Nat), At ρ r b → At ρ r' b → S[r]? = some x → S[r']? = some x' → x.st = .live → x'.st = .live → r = r'

/-- from one pair of memories to the next -/
structure Stp (ρ : Nat → Option Loc) (S : Mem) (w : World) (ρ' : Nat → Option Loc) (S' : Mem) (w' : World) : Prop where
  ext : Sub ρ ρ'
  tape : w'.tape = w.tape
  os : w'.os = w.os
  output : w'.output = w.output
  size : w.heap.size ≤ w'.heap.size
  frame : ∀ b, b < w.heap.size → Quiet ρ S b → w'.heap[b]? = w.heap[b]?
  quiet : ∀ b, b < w.heap.size → Quiet ρ S b → Quiet ρ' S' b

theorem Stp.refl (ρ S w) : Stp ρ S w ρ S w := ⟨Sub.refl _, rfl, rfl, rfl, Nat.le_refl _, fun _ _ _ => rfl, fun _ _ h => h⟩
theorem Stp.trans {ρ S w ρ1 S1 w1 ρ2 S2 w2} (h : Stp ρ S w ρ1 S1 w1) (k : Stp ρ1 S1 w1 ρ2 S2 w2) : Stp ρ S w ρ2 S2 w2 :=
  ⟨h.ext.trans k.ext, k.tape.trans h.tape, k.os.trans h.os, k.output.trans h.output, Nat.le_trans h.size k.size,
   fun b hb hq => (k.frame b (Nat.lt_of_lt_of_le hb h.size) (h.quiet b hb hq)).trans (h.frame b hb hq),
   fun b hb hq => k.quiet b (Nat.lt_of_lt_of_le hb h.size) (h.quiet b hb hq)⟩
theorem Stp.drew (ρ S) (w : World) : Stp ρ S w ρ S w.drew := ⟨Sub.refl _, rfl, rfl, rfl, Nat.le_refl _, fun _ _ _ => rfl, fun _ _ h => h⟩
theorem SR.drew {ρ S} {w : World} (h : SR ρ S w) : SR ρ S w.drew := ⟨fun r x a b => let ⟨L, h1, h2⟩ := h.live r x a b; ⟨L, h1, ⟨h2.ex⟩⟩, h.dom, h.inj⟩

end Go.Proofs.Yteadbbimikcmgaa
