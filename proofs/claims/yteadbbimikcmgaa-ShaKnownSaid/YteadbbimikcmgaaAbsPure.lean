/- The abstract machine's operations that neither read nor write memory, and that the real ones do the same. Conditions: none. -/
import Derived.Test.YteadbbimikcmgaaAbs
set_option linter.unusedSimpArgs false
set_option linter.unusedVariables false
namespace Go.Proofs.Yteadbbimikcmgaa
open Go

def pureRun (P : Program) {α : Type} : Sem α → Option α
  | .pure a => some a
  | .program k => pureRun P (k P)
  | _ => none
theorem pureRun_sound {P : Program} {α : Type} {s : Sem α} {a : α} (h : pureRun P s = some a) (w : World) : s.run P w = .ok a w := by
  induction s with
  | pure b => simp [pureRun] at h; subst h; rfl
  | program k ih => exact ih P (by simpa [pureRun] using h)
  | _ => simp [pureRun] at h
theorem pureRun_bind {P : Program} {α β : Type} (s : Sem α) (f : α → Sem β) : pureRun P (s >>= f) = (pureRun P s).bind fun a => pureRun P (f a) := by
  show pureRun P (s.bind f) = _
  induction s with
  | pure b => rfl
  | program k ih => simpa [pureRun, Sem.bind] using ih P
  | _ => rfl
@[simp] theorem pureRun_pure {P : Program} {α : Type} (a : α) : pureRun P (pure a : Sem α) = some a := rfl

/-- operands without addresses: the real operation itself, run where there is no memory -/
def aflat (P : Program) (o : Oper) (ev : Operand → Value) : Option Value :=
  if o.op.operands.toList.all (fun x => flat (ev x)) then
    match pureRun P (execOp ev o) with
    | some (.value v) => if flat v then some v else none
    | _ => none
  else none

def isAggD : TypeDesc → Bool
  | .struct _ | .array _ _ => true
  | _ => false
/-- a part of an aggregate -/
def apart (P : Program) (t : TypeId) (cs : List Value) (off : Nat) : Option Value :=
  match P.underlying t, P.info? t with
  | some d, some i => if isAggD d then some (.agg ((cs.drop off).take i.size).toArray) else cs[off]?
  | _, _ => none

def abound (v : Value) (y : Nat) : Option Nat := match v with
  | .int _ i => if 0 ≤ i ∧ i ≤ y then some i.toNat else none
  | _ => none
def knownCap (c : Nat) : Nat := if c < UNK then c else c - UNK
def acut (size : Nat) (a : Option Addr) (l h m : Nat) : Value := .slice (if m = l then a else a.map (fun x => Addr.add x (l * size))) (h - l) (m - l)
def aslice (size : Nat) (a : Option Addr) (len cap : Nat) (lo hi mx : Option Value) : Option Value :=
  match mx with
  | some mv => (abound mv (knownCap cap)).bind fun m => (hi.bind (abound · m)).bind fun h => (match lo with | some v => abound v h | none => some 0).bind fun l =>
      if m < UNK then (match a with
        | some x => some (acut size (some x) l h m)
        | none => if cap < UNK then some (acut size none l h m) else if m = 0 then some (.slice none 0 UNK) else none) else none
  | none => (match hi with | some v => abound v (knownCap cap) | none => some len).bind fun h => (match lo with | some v => abound v h | none => some 0).bind fun l =>
      if cap < UNK then some (acut size a l h cap)
      else match a with
        | some x => if l = 0 ∨ l < knownCap cap then some (.slice (some (Addr.add x (l * size))) (h - l) (UNK + (knownCap cap - l))) else if h = l then some (.slice none 0 UNK) else none
        | none => if h = 0 then some (.slice none 0 UNK) else none

def aindexA (P : Program) (t : TypeId) (x ix : Value) : Option Value := match ix with
  | .int _ i => match P.underlying t, x with
    | some (.slice e), .slice (some a) len _ => if 0 ≤ i ∧ i < len ∧ (P.info? e).isSome then some (.pointer (some (a.add (i.toNat * P.cellsOf e)))) else none
    | some (.array len e), .pointer (some a) => if 0 ≤ i ∧ i < len ∧ (P.info? e).isSome then some (.pointer (some (a.add (i.toNat * P.cellsOf e)))) else none
    | _, _ => none
  | _ => none

/-- comparing with nil -/
def anilB (P : Program) (t : TypeId) (x y : Value) : Option Bool :=
  match P.underlying t, x, y with
  | some (.slice _), .slice none _ c, .slice b _ d => if c < UNK ∧ (b = none → d < UNK) then some b.isNone else none
  | some (.slice _), .slice (some _) _ _, .slice none _ d => if d < UNK then some false else none
  | some (.pointer _), .pointer none, .pointer b => some b.isNone
  | some (.pointer _), .pointer (some _), .pointer none => some false
  | some (.func _ _ _), .nilFunc, .nilFunc => some true
  | some (.func _ _ _), .nilFunc, .func .. => some false
  | some (.func _ _ _), .func .., .nilFunc => some false
  | _, _, _ => none
def anilOp (op : BinOp) (b : Bool) : Option Value := match op with
  | .eql => some (.bool b)
  | .neq => some (.bool !b)
  | _ => none
def anil (P : Program) (op : BinOp) (t : TypeId) (x y : Value) : Option Value := (anilB P t x y).bind (anilOp op)

def abuild (P : Program) (t : TypeId) (parts : Array (Nat × Value)) : Option Value :=
  match P.info? t with
  | some i => match i.zero with
    | some z => if z.cells.toList.all scalar then pureRun P (Instr.build t parts) else none
    | none => none
  | none => none

def apure (P : Program) (o : Oper) (ev : Operand → Value) : Option Value :=
  match o.op with
  | .move x | .assign x => some (ev x)
  | .pick c a b => match ev c with
    | .bool t => some (if t then ev a else ev b)
    | _ => none
  | .nilCheck x => match ev x with
    | .pointer (some a) => some (.pointer (some a))
    | _ => none
  | .fieldAddr s x f => match P.underlying s, ev x with
    | some (.struct fs), .pointer (some a) => match fs[f]? with
      | some fd => if (P.info? fd.type).isSome ∧ P.cellsOf fd.type ≠ 0 then some (.pointer (some (a.add fd.offset))) else none
      | none => none
    | _, _ => none
  | .indexAddr t x ix => aindexA P t (ev x) (ev ix)
  | .slice t x lo hi mx => match ev x with
    | .slice a len cap => match P.underlying t with
      | some (.slice e) => if (P.info? e).isSome then aslice (P.cellsOf e) a len cap (lo.map ev) (hi.map ev) (mx.map ev) else none
      | _ => none
    | .pointer (some a) => match P.underlying t with
      | some (.array n e) => if (P.info? e).isSome ∧ n < UNK then aslice (P.cellsOf e) (some a) n n (lo.map ev) (hi.map ev) (mx.map ev) else none
      | _ => none
    | _ => aflat P o ev
  | .index t x ix => match ev x, ev ix with
    | .agg cs, .int _ i => match P.underlying t with
      | some (.array len e) => if 0 ≤ i ∧ i < len then apart P e cs.toList (i.toNat * P.cellsOf e) else none
      | _ => none
    | _, _ => aflat P o ev
  | .field t x f => match ev x, P.underlying t with
    | .agg cs, some (.struct fs) => match fs[f]? with
      | some fd => apart P fd.type cs.toList fd.offset
      | none => none
    | _, _ => none
  | .extract x i => match ev x with
    | .tuple vs => vs[i]?
    | _ => none
  | .build t parts => abuild P t (parts.map fun (i, x) => (i, ev x))
  | .makeInterface t x => match P.underlying t with
    | some (.interface _) => none
    | some _ => some (.iface t (ev x))
    | none => none
  | .makeFunc fn first captured => some (.func fn (first.map ev) (captured.map ev))
  | .binOp op t x y _ => match aflat P o ev with
    | some v => some v
    | none => anil P op t (ev x) (ev y)
  | .unOp .. | .convert .. | .typeAssert .. => aflat P o ev
  | .call c => match c.callee with
    | .builtin .len => match c.argTypes[0]?.bind P.underlying, (c.args[0]?).map ev with
      | some (.slice _), some (.slice _ n _) => some (.int .i64 n)
      | _, _ => aflat P o ev
    | .builtin .cap => match c.argTypes[0]?.bind P.underlying, (c.args[0]?).map ev with
      | some (.slice _), some (.slice _ _ n) => if n < UNK then some (.int .i64 n) else none
      | _, _ => none
    | .builtin .min | .builtin .max | .builtin .real | .builtin .imag | .builtin .complex => aflat P o ev
    | _ => none
  | _ => none

/-! ### the real ones do the same -/
theorem add_VR {ρ : Nat → Option Loc} {a a' : Addr} (n : Nat) (hb : At ρ a.block a'.block) (ho : a'.off = a.off) (hs : a'.spot = a.spot) :
    VR ρ (.pointer (some (a.add n))) (.pointer (some (a'.add n))) := by
  unfold Addr.add
  split
  · exact .ptr _ _ hb ho hs
  · exact .ptr _ _ hb (by simp [ho]) rfl

section
variable {P : Program} {o : Oper} {ev ev' : Operand → Value} {ρ : Nat → Option Loc} {v : Value}

theorem aflat_sound (hsel : ∀ cs b, o.op ≠ .select cs b) (h : aflat P o ev = some v) (hv : ∀ x ∈ o.op.operands, VR ρ (ev x) (ev' x)) :
    ∃ v', VR ρ v v' ∧ ∀ w, (execOp ev' o).run P w = .ok (.value v') w := by
  unfold aflat at h
  split at h
  · rename_i hall
    split at h
    · rename_i u hr
      split at h
      · cases h
        have he : execOp ev' o = execOp ev o := execOp_congr o hsel fun x hx =>
          (hv x hx).flat_eq (List.all_eq_true.1 hall x (by simpa using hx))
        exact ⟨v, flat_VR ρ (by assumption), fun w => by rw [he]; exact pureRun_sound hr w⟩
      · cases h
    · cases h
  · cases h

theorem run_underlying' {t : TypeId} {d : TypeDesc} (h : P.underlying t = some d) (w : World) : (underlying t).run P w = .ok d w := by
  simp [underlying, h]
theorem run_sizeOf' {t : TypeId} (h : (P.info? t).isSome = true) (w : World) : (sizeOf t).run P w = .ok (P.cellsOf t) w := by
  obtain ⟨i, hi⟩ := Option.isSome_iff_exists.1 h
  simp [sizeOf, typeInfo, hi, Program.cellsOf]

theorem abound_run {v : Value} {y n : Nat} (h : abound v y = some n) (code : BoundsCode) {y' : Nat} (hy : y ≤ y') (w : World) :
    (Instr.sliceBound v y' code).run P w = .ok n w ∧ n ≤ y := by
  unfold abound at h
  split at h
  · rename_i k i
    split at h
    · rename_i hi
      cases h
      have h' : 0 ≤ i ∧ i ≤ (y' : Int) := ⟨hi.1, by omega⟩
      refine ⟨?_, by omega⟩
      simp [Instr.sliceBound, asIntOf, h']
    · cases h
  · cases h
theorem abound_scalar {v : Value} {y n : Nat} (h : abound v y = some n) : scalar v = true := by
  unfold abound at h
  split at h
  · rfl
  · cases h

theorem abound_le {v : Value} {y n : Nat} (h : abound v y = some n) : n ≤ y := by
  unfold abound at h
  split at h
  · split at h
    · cases h; omega
    · cases h
  · cases h
theorem eval_mem_sub {x : Operand} (hv : ∀ x ∈ o.op.operands, VR ρ (ev x) (ev' x)) (h : x ∈ o.op.operands) : VR ρ (ev x) (ev' x) := hv x h

/-- the operands of a slice expression -/
theorem optional_eq {lo : Option Operand} {y n : Nat} {d : Nat} (hv : ∀ x, lo = some x → VR ρ (ev x) (ev' x)) (h : (match lo.map ev with | some v => abound v y | none => some d) = some n) :
    lo.map ev' = lo.map ev := by
  cases lo with
  | none => rfl
  | some x =>
    have := (hv x rfl).scalar_eq (abound_scalar h)
    simp [this]

theorem cut_VR {size : Nat} {a a' : Option Addr} (l : Nat) (ha : ∀ x, a = some x → ∃ x', a' = some x' ∧ At ρ x.block x'.block ∧ x'.off = x.off ∧ x'.spot = x.spot) (hn : a = none → a' = none)
    (n c : Nat) (hc : c < UNK) (b : Prop) [Decidable b] :
    VR ρ (.slice (if b then a else a.map (fun x => Addr.add x (l * size))) n c) (.slice (if b then a' else a'.map (fun x => Addr.add x (l * size))) n c) := by
  have hk : ∀ r o, CapOk ρ r o c c := fun r o => ⟨fun _ => rfl, fun h => by omega⟩
  cases a with
  | none => rw [hn rfl]; simp; exact .slNil _ _
  | some x =>
    obtain ⟨x', rfl, h1, h2, h3⟩ := ha x rfl
    split
    · exact .sl x x' n c c h1 h2 h3 (hk _ _)
    · simp only [Option.map_some]
      unfold Addr.add
      split
      · exact .sl x x' n c c h1 h2 h3 (hk _ _)
      · exact .sl _ _ n c c h1 (by simp [h2]) rfl (hk _ _)

theorem slice_sound {isS : Bool} {size : Nat} {a a' : Option Addr} {len cap cap' : Nat} {lo hi mx : Option Operand}
    (ha : ∀ x, a = some x → ∃ x', a' = some x' ∧ At ρ x.block x'.block ∧ x'.off = x.off ∧ x'.spot = x.spot) (hn : a = none → (a' = none ∧ cap' = cap) ∨ (len = 0 ∧ cap = UNK))
    (hc : cap < UNK → cap' = cap) (hu : UNK ≤ cap → cap ≤ cap' + UNK) (hC : ∀ x, a = some x → CapOk ρ x.block x.off cap cap')
    (hlo : ∀ x, lo = some x → VR ρ (ev x) (ev' x)) (hhi : ∀ x, hi = some x → VR ρ (ev x) (ev' x)) (hmx : ∀ x, mx = some x → VR ρ (ev x) (ev' x))
    (h : aslice size a len cap (lo.map ev) (hi.map ev) (mx.map ev) = some v) :
    ∃ l h' m, VR ρ v (.slice (if m = l then a' else a'.map (fun x => Addr.add x (l * size))) (h' - l) (m - l)) ∧
      ∀ w, (Instr.sliceBounds isS len cap' (lo.map ev') (hi.map ev') (mx.map ev')).run P w = .ok (l, h', m) w := by
  have hk : knownCap cap ≤ cap' := by
    unfold knownCap
    split
    · rename_i h1; rw [hc h1]; exact Nat.le_refl _
    · have := hu (by omega); omega
  unfold aslice at h
  cases mx with
  | some x =>
    simp only [Option.map_some] at h
    rw [Option.bind_eq_some_iff] at h
    obtain ⟨m, hm, h⟩ := h
    rw [Option.bind_eq_some_iff] at h
    obtain ⟨hh, hh1, h⟩ := h
    rw [Option.bind_eq_some_iff] at h
    obtain ⟨l, hl, h⟩ := h
    split at h
    · rename_i hmu
      have hvr : VR ρ v (.slice (if m = l then a' else a'.map (fun x => Addr.add x (l * size))) (hh - l) (m - l)) := by
        cases a with
        | some x =>
          cases h
          exact cut_VR l ha nofun _ _ (by omega) _
        | none =>
          simp only [] at h
          split at h
          · rename_i hcu
            cases h
            have h0 : a' = none := by rcases hn rfl with h0 | h0; exact h0.1; omega
            exact cut_VR l ha (fun _ => h0) _ _ (by omega) _
          · split at h
            · rename_i hm0
              cases h
              subst hm0
              have hh0 : hh = 0 := by
                cases hi with
                | none => simp at hh1
                | some y =>
                  simp only [Option.map_some, Option.bind_some] at hh1
                  have := abound_le hh1; omega
              subst hh0
              have hl0 : l = 0 := by
                cases hlo' : lo with
                | none => rw [hlo'] at hl; simp at hl; omega
                | some y =>
                  rw [hlo'] at hl
                  simp only [Option.map_some] at hl
                  have := abound_le hl; omega
              subst hl0
              exact .slE _ _
            · cases h
      clear h
      cases hi with
      | none => simp at hh1
      | some y =>
        simp only [Option.map_some, Option.bind_some] at hh1
        have e1 : ev' x = ev x := (hmx x rfl).scalar_eq (abound_scalar hm)
        have e2 : ev' y = ev y := (hhi y rfl).scalar_eq (abound_scalar hh1)
        have e3 := optional_eq hlo hl
        refine ⟨l, hh, m, hvr, fun w => ?_⟩
        have hm' := (abound_run (P := P) hm (if isS then .slice3Acap else .slice3Alen) hk w).1
        have hh' := (abound_run (P := P) hh1 .slice3B (Nat.le_refl _) w).1
        rw [e3]
        simp only [Instr.sliceBounds, Option.map_some, e1, e2, Sem.run_bind, hm', Result.andThen_ok, hh']
        cases lo with
        | none => simp only [Option.map_none] at hl ⊢; cases hl; simp
        | some z =>
          simp only [Option.map_some] at hl ⊢
          simp [(abound_run (P := P) hl .slice3C (Nat.le_refl _) w).1]
    · cases h
  | none =>
    simp only [Option.map_none] at h
    rw [Option.bind_eq_some_iff] at h
    obtain ⟨hh, hh1, h⟩ := h
    rw [Option.bind_eq_some_iff] at h
    obtain ⟨l, hl, h⟩ := h
    have e2 := optional_eq hhi hh1
    have e3 := optional_eq hlo hl
    have hrun : ∀ w, (Instr.sliceBounds isS len cap' (lo.map ev') (hi.map ev') ((none : Option Operand).map ev')).run P w = .ok (l, hh, cap') w := fun w => by
      rw [e2, e3]
      simp only [Instr.sliceBounds, Option.map_none, Sem.run_bind, Sem.run_pure, Result.andThen_ok]
      cases hi with
      | none =>
        simp only [Option.map_none] at hh1 ⊢
        cases hh1
        cases lo with
        | none => simp only [Option.map_none] at hl ⊢; cases hl; simp
        | some z => simp only [Option.map_some] at hl ⊢; simp [(abound_run (P := P) hl .sliceB (Nat.le_refl _) w).1]
      | some y =>
        simp only [Option.map_some] at hh1 ⊢
        have hq := fun code => (abound_run (P := P) hh1 code hk w).1
        cases lo with
        | none => simp only [Option.map_none] at hl ⊢; cases hl; simp [hq]
        | some z => simp only [Option.map_some] at hl ⊢; simp [hq, (abound_run (P := P) hl .sliceB (Nat.le_refl _) w).1]
    split at h
    · rename_i hcu
      cases h
      refine ⟨l, hh, cap', ?_, hrun⟩
      rw [hc hcu]
      exact cut_VR l ha (fun h => by rcases hn h with h0 | h0; exact h0.1; omega) _ _ (by omega) _
    · rename_i hcu
      cases a with
      | none =>
        simp only [] at h
        split at h
        · rename_i hh0
          cases h
          refine ⟨l, hh, cap', ?_, hrun⟩
          rw [hh0, Nat.zero_sub]; exact .slE _ _
        · cases h
      | some x =>
        simp only [] at h
        split at h
        · rename_i hor
          cases h
          refine ⟨l, hh, cap', ?_, hrun⟩
          have hne : l = 0 ∨ cap' ≠ l := by omega
          obtain ⟨x', rfl, h1, h2, h3⟩ := ha x rfl
          have hadd : (if cap' = l then some x' else (some x').map (fun x => Addr.add x (l * size))) = some (x'.add (l * size)) := by
            split
            · rename_i he
              have : l = 0 := by omega
              subst this
              simp [Addr.add]
            · rfl
          rw [hadd]
          have huu := hu (by omega)
          have hl : l ≤ cap' := by
            unfold knownCap at hor hk
            split at hor
            · omega
            · rename_i h9
              rw [if_neg h9] at hk
              omega
          have hkl : UNK + (knownCap cap - l) ≤ (cap' - l) + UNK := by omega
          obtain ⟨_, L, hL1, hL2⟩ := (hC x rfl).2 (by omega)
          have hCap : ∀ o, (o = 0 → x.off = 0) → CapOk ρ x.block o (UNK + (knownCap cap - l)) (cap' - l) := fun o ho =>
            ⟨fun h => by omega, fun _ => ⟨hkl, L, hL1, fun h0 => Nat.le_trans (Nat.mul_le_mul_right _ (Nat.sub_le _ _)) (hL2 (ho h0))⟩⟩
          unfold Addr.add
          split
          · exact .sl _ _ _ _ _ h1 h2 h3 (hCap _ id)
          · exact .sl _ _ _ _ _ h1 (by simp [h2]) rfl (hCap _ (fun h => by simp at h; omega))
        · split at h
          · rename_i he
            cases h
            refine ⟨l, hh, cap', ?_, hrun⟩
            rw [he, Nat.sub_self]; exact .slE _ _
          · cases h

theorem run_isAgg' {t : TypeId} {d : TypeDesc} (h : P.underlying t = some d) (w : World) : (isAgg t).run P w = .ok (isAggD d) w := by
  unfold isAgg
  rw [Sem.run_bind, run_underlying' h]
  cases d <;> rfl
theorem part_sound {t : TypeId} {cs : List Value} {cs' : Array Value} {off : Nat} (hl : LR ρ cs cs'.toList) (h : apart P t cs off = some v) :
    ∃ v', VR ρ v v' ∧ ∀ w, (part t cs' off).run P w = .ok v' w := by
  unfold apart at h
  split at h
  · rename_i d i hd hi
    have hs : ∀ w, (sizeOf t).run P w = .ok i.size w := fun w => by
      have := run_sizeOf' (P := P) (t := t) (by rw [hi]; rfl) w
      simpa [Program.cellsOf, hi] using this
    split at h
    · rename_i hag
      cases h
      refine ⟨.agg (cs'.extract off (off + i.size)), LR.agg ?_, fun w => ?_⟩
      · rw [Array.toList_extract]
        have := (hl.drop off).take i.size
        simpa [List.extract_eq_take_drop] using this
      · unfold part
        rw [Sem.run_bind, run_isAgg' hd, hag]
        simp [hs]
    · rename_i hag
      obtain ⟨v', hv', hr⟩ := hl.get h
      refine ⟨v', hr, fun w => ?_⟩
      have hag' : isAggD d = false := by simpa using hag
      unfold part
      rw [Sem.run_bind, run_isAgg' hd, hag']
      have : cs'[off]? = some v' := by simpa using hv'
      simp [this]
  · cases h

theorem LR.set {l l' : List Value} {u u' : Value} (h : LR ρ l l') (i : Nat) (hu : VR ρ u u') : LR ρ (l.set i u) (l'.set i u') := by
  refine ⟨by simp [h.1], fun j x x' a b => ?_⟩
  rw [List.getElem?_set] at a b
  by_cases hij : i = j
  · rw [if_pos hij] at a b
    by_cases hj : i < l.length
    · rw [if_pos hj] at a
      rw [if_pos (by rw [← h.1]; exact hj)] at b
      cases a; cases b; exact hu
    · rw [if_neg hj] at a; cases a
  · rw [if_neg hij] at a b
    exact h.2 j x x' a b
theorem fold_LR (off : Nat) : ∀ (l l' : List Value) (k : Nat) (cs cs' : Array Value), LR ρ l l' → LR ρ cs.toList cs'.toList →
    LR ρ ((l.zipIdx k).foldl (fun cs (x : Value × Nat) => cs.setIfInBounds (off + x.2) x.1) cs).toList ((l'.zipIdx k).foldl (fun cs (x : Value × Nat) => cs.setIfInBounds (off + x.2) x.1) cs').toList
  | [], [], _, _, _, _, hc => hc
  | [], _ :: _, _, _, _, hl, _ => by simp [LR] at hl
  | _ :: _, [], _, _, _, hl, _ => by simp [LR] at hl
  | x :: l, x' :: l', k, cs, cs', hl, hc => by
    simp only [List.zipIdx_cons, List.foldl_cons]
    refine fold_LR off l l' (k + 1) _ _ ⟨by simpa using hl.1, fun i v v' a b => hl.2 (i + 1) v v' (by simpa using a) (by simpa using b)⟩ ?_
    simp only [Array.toList_setIfInBounds]
    exact hc.set _ (hl.2 0 x x' (by simp) (by simp))
theorem fill_sound (place : Nat → Option (Nat × Nat)) : ∀ (parts parts' : List (Nat × Value)) (cs cs' r : Array Value), parts.length = parts'.length →
    (∀ (i : Nat) (p p' : Nat × Value), parts[i]? = some p → parts'[i]? = some p' → p.1 = p'.1 ∧ VR ρ p.2 p'.2) → LR ρ cs.toList cs'.toList → Instr.fill place cs parts = some r →
    ∃ r', Instr.fill place cs' parts' = some r' ∧ LR ρ r.toList r'.toList
  | [], [], cs, cs', r, _, _, hc, h => ⟨cs', rfl, by simp only [Instr.fill] at h; cases h; exact hc⟩
  | [], _ :: _, _, _, _, hl, _, _, _ => by simp at hl
  | _ :: _, [], _, _, _, hl, _, _, _ => by simp at hl
  | (i, x) :: l, (i', x') :: l', cs, cs', r, hl, hp, hc, h => by
    obtain ⟨rfl, hx⟩ := hp 0 (i, x) (i', x') (by simp) (by simp)
    have hcl := hx.cellsLR
    have e1 : x'.cells.size = x.cells.size := by have := hcl.1; simpa using this.symm
    have e2 : cs'.size = cs.size := by have := hc.1; simpa using this.symm
    simp only [Instr.fill] at h ⊢
    cases hpl : place i with
    | none => simp [hpl] at h
    | some q =>
      obtain ⟨off, size⟩ := q
      simp only [hpl] at h ⊢
      rw [e1, e2]
      split at h
      · cases h
      · rename_i hcond
        rw [if_neg hcond]
        refine fill_sound place l l' _ _ r (by simpa using hl) (fun j p p' a b => hp (j + 1) p p' (by simpa using a) (by simpa using b)) ?_ h
        have := fold_LR off x.cells.toList x'.cells.toList 0 cs cs' hcl hc
        simpa only [← Array.foldl_toList, Array.toList_zipIdx] using this

theorem build_sound {t : TypeId} {parts parts' : Array (Nat × Value)} (hs : parts.size = parts'.size)
    (hp : ∀ (i : Nat) (p p' : Nat × Value), parts[i]? = some p → parts'[i]? = some p' → p.1 = p'.1 ∧ VR ρ p.2 p'.2) (h : abuild P t parts = some v) :
    ∃ v', VR ρ v v' ∧ pureRun P (Instr.build t parts') = some v' := by
  unfold abuild at h
  split at h
  · rename_i i hi
    split at h
    · rename_i z hz
      split at h
      · rename_i hall
        have hzero : pureRun P (zeroValue t) = some z := by
          simp [zeroValue, typeInfo, pureRun_bind, program, pureRun, hi, hz]
        unfold Instr.build at h ⊢
        simp only [pureRun_bind, hzero, Option.bind_some] at h ⊢
        cases hu : P.underlying t with
        | none => simp [underlying, pureRun_bind, program, pureRun, hu, stuck] at h
        | some d =>
          have hun : pureRun P (underlying t) = some d := by simp [underlying, pureRun_bind, program, pureRun, hu]
          simp only [hun, Option.bind_some] at h ⊢
          cases d with
          | struct fields =>
            simp only [pureRun_bind] at h ⊢
            rw [Option.bind_eq_some_iff] at h
            obtain ⟨places, hpl, h⟩ := h
            simp only [hpl, Option.bind_some]
            cases hf : Instr.fill (fun x => places[x]?) z.cells parts.toList with
            | none => simp [hf, stuck, pureRun] at h
            | some cells =>
              obtain ⟨r', hr', hlr⟩ := fill_sound (ρ := ρ) _ parts.toList parts'.toList z.cells z.cells cells (by simpa using hs) (fun i p p' a b => hp i p p' (by simpa using a) (by simpa using b)) (scalars_LR ρ hall) hf
              simp only [hf, pureRun_pure, Option.some.injEq] at h
              simp only [hr', pureRun_pure]
              subst h
              exact ⟨_, LR.agg hlr, rfl⟩
          | array n e =>
            simp only [pureRun_bind] at h ⊢
            rw [Option.bind_eq_some_iff] at h
            obtain ⟨size, hpl, h⟩ := h
            simp only [hpl, Option.bind_some]
            cases hf : Instr.fill (fun i => some (i * size, size)) z.cells parts.toList with
            | none => simp [hf, stuck, pureRun] at h
            | some cells =>
              obtain ⟨r', hr', hlr⟩ := fill_sound (ρ := ρ) _ parts.toList parts'.toList z.cells z.cells cells (by simpa using hs) (fun i p p' a b => hp i p p' (by simpa using a) (by simpa using b)) (scalars_LR ρ hall) hf
              simp only [hf, pureRun_pure, Option.some.injEq] at h
              simp only [hr', pureRun_pure]
              subst h
              exact ⟨_, LR.agg hlr, rfl⟩
          | _ => simp [stuck, pureRun] at h
      · cases h
    · cases h
  · cases h

theorem VR.ptrInv {a : Addr} {v' : Value} (h : VR ρ (.pointer (some a)) v') : ∃ a', v' = .pointer (some a') ∧ At ρ a.block a'.block ∧ a'.off = a.off ∧ a'.spot = a.spot := by
  cases h with
  | ptr _ a' hb ho hs => exact ⟨a', rfl, hb, ho, hs⟩
theorem VR.slInv {a : Option Addr} {n c : Nat} {v' : Value} (h : VR ρ (.slice a n c) v') : ∃ a' c', v' = .slice a' n c' ∧
    (∀ x, a = some x → ∃ x', a' = some x' ∧ At ρ x.block x'.block ∧ x'.off = x.off ∧ x'.spot = x.spot) ∧ (a = none → (a' = none ∧ c' = c) ∨ (n = 0 ∧ c = UNK)) ∧ (c < UNK → c' = c) ∧ (UNK ≤ c → c ≤ c' + UNK) ∧ (∀ x, a = some x → CapOk ρ x.block x.off c c') := by
  cases h with
  | slNil => exact ⟨none, c, rfl, nofun, fun _ => .inl ⟨rfl, rfl⟩, fun _ => rfl, fun _ => by omega, nofun⟩
  | slE a c' => exact ⟨a, c', rfl, nofun, fun _ => .inr ⟨rfl, rfl⟩, fun h => absurd h (by decide), fun _ => by omega, nofun⟩
  | sl a a' _ _ c' hb ho hs hc => exact ⟨some a', c', rfl, fun x hx => by cases hx; exact ⟨a', rfl, hb, ho, hs⟩, nofun, hc.1, fun h => (hc.2 h).1, fun x hx => by cases hx; exact hc⟩

theorem equal_unf (t : TypeId) (x y : Value) : Op.equal t x y = Op.equalIn (9999 + 1) t x y := rfl
theorem anilB_sound {t : TypeId} {x y x' y' : Value} {b : Bool} (h : anilB P t x y = some b) (hx : VR ρ x x') (hy : VR ρ y y') :
    (∀ w, (Op.equal t x' y').run P w = .ok b w) ∧ (∀ op, binOp op t x' y' = match op with
      | .eql => (do pure (.bool (← Op.equal t x' y')))
      | .neq => (do pure (.bool (!(← Op.equal t x' y'))))
      | op => binOp op t x' y') ∧ (∀ op (a c : Operand), eqGuard op t a c x' y' = pure ()) := by
  unfold anilB at h
  have g1 : ∀ (op : BinOp) (a c : Operand) (x y : Value), (match x, y with | .nilIface, .nilIface => False | .agg _, .agg _ => False | _, _ => True) → eqGuard op t a c x y = pure () := by
    intro op a c x y hk
    cases op <;> first | rfl | (cases x <;> first | rfl | (cases y <;> first | rfl | exact hk.elim))
  split at h
  · rename_i e n c b' m d hu
    split at h
    rotate_left
    · cases h
    rename_i hcd
    cases h
    obtain ⟨a2, c2, rfl, _, ha2, _⟩ := hx.slInv
    obtain ⟨b2, d2, rfl, hb1, hb2, _⟩ := hy.slInv
    obtain ⟨rfl, rfl⟩ : a2 = none ∧ c2 = c := by rcases ha2 rfl with h0 | h0; exact h0; omega
    have hbn : b2.isNone = b'.isNone := by
      cases b' with
      | none =>
        have hd := hcd.2 rfl
        rcases hb2 rfl with h0 | h0
        · rw [h0.1]
        · omega
      | some z => obtain ⟨z', rfl, _⟩ := hb1 z rfl; rfl
    exact ⟨fun w => by rw [equal_unf]; unfold Op.equalIn; rw [Sem.run_bind, run_underlying' hu, ← hbn]; rfl, fun op => by cases op <;> rfl, fun op a c => g1 op a c _ _ trivial⟩
  · rename_i e z n c m d hu
    split at h
    rotate_left
    · cases h
    cases h
    obtain ⟨a2, c2, rfl, ha1, _⟩ := hx.slInv
    obtain ⟨b2, d2, rfl, hb1, hb2, _⟩ := hy.slInv
    obtain ⟨z', rfl, _⟩ := ha1 z rfl
    obtain ⟨rfl, rfl⟩ : b2 = none ∧ d2 = d := by rcases hb2 rfl with h0 | h0; exact h0; omega
    exact ⟨fun w => by rw [equal_unf]; unfold Op.equalIn; rw [Sem.run_bind, run_underlying' hu]; rfl, fun op => by cases op <;> rfl, fun op a c => g1 op a c _ _ trivial⟩
  · rename_i e b' hu
    cases h
    have e1 := hx.scalar_eq rfl
    subst e1
    cases b' with
    | none =>
      have e2 := hy.scalar_eq rfl
      subst e2
      exact ⟨fun w => by rw [equal_unf]; unfold Op.equalIn; rw [Sem.run_bind, run_underlying' hu]; rfl, fun op => by cases op <;> rfl, fun op a c => g1 op a c _ _ trivial⟩
    | some z =>
      obtain ⟨z', rfl, _⟩ := hy.ptrInv
      exact ⟨fun w => by rw [equal_unf]; unfold Op.equalIn; rw [Sem.run_bind, run_underlying' hu]; rfl, fun op => by cases op <;> rfl, fun op a c => g1 op a c _ _ trivial⟩
  · rename_i e z hu
    cases h
    obtain ⟨z', rfl, _⟩ := hx.ptrInv
    have e2 := hy.scalar_eq rfl
    subst e2
    exact ⟨fun w => by rw [equal_unf]; unfold Op.equalIn; rw [Sem.run_bind, run_underlying' hu]; rfl, fun op => by cases op <;> rfl, fun op a c => g1 op a c _ _ trivial⟩
  · rename_i hu
    cases h
    have e1 := hx.scalar_eq rfl
    have e2 := hy.scalar_eq rfl
    subst e1 e2
    exact ⟨fun w => by rw [equal_unf]; unfold Op.equalIn; rw [Sem.run_bind, run_underlying' hu]; rfl, fun op => by cases op <;> rfl, fun op a c => g1 op a c _ _ trivial⟩
  · rename_i hu
    cases h
    have e1 := hx.scalar_eq rfl
    subst e1
    cases hy
    exact ⟨fun w => by rw [equal_unf]; unfold Op.equalIn; rw [Sem.run_bind, run_underlying' hu]; rfl, fun op => by cases op <;> rfl, fun op a c => g1 op a c _ _ trivial⟩
  · rename_i hu
    cases h
    have e2 := hy.scalar_eq rfl
    subst e2
    cases hx
    exact ⟨fun w => by rw [equal_unf]; unfold Op.equalIn; rw [Sem.run_bind, run_underlying' hu]; rfl, fun op => by cases op <;> rfl, fun op a c => g1 op a c _ _ trivial⟩
  · cases h
theorem anil_sound {op : BinOp} {t : TypeId} {x y x' y' : Value} (h : anil P op t x y = some v) (hx : VR ρ x x') (hy : VR ρ y y') (a c : Operand) :
    ∃ v', VR ρ v v' ∧ ∀ w, ((do eqGuard op t a c x' y'; binOp op t x' y') : Sem Value).run P w = .ok v' w := by
  unfold anil at h
  rw [Option.bind_eq_some_iff] at h
  obtain ⟨b, hb, h⟩ := h
  obtain ⟨h1, h2, h3⟩ := anilB_sound hb hx hy
  unfold anilOp at h
  split at h
  · cases h; exact ⟨_, .bool _, fun w => by rw [h3, h2]; simp [h1]⟩
  · cases h; exact ⟨_, .bool _, fun w => by rw [h3, h2]; simp [h1]⟩
  · cases h

theorem aindexA_sound {t : TypeId} {x ix x' ix' : Value} (h : aindexA P t x ix = some v) (hx : VR ρ x x') (hi : VR ρ ix ix') :
    ∃ v', VR ρ v v' ∧ ∀ w, (Instr.indexAt t x' ix').run P w = .ok v' w := by
  unfold aindexA at h
  split at h
  · rename_i k i
    have e := hi.scalar_eq rfl
    subst e
    split at h
    · rename_i e a len cap hu
      split at h
      · rename_i hc
        cases h
        obtain ⟨a', c', rfl, ha1, _⟩ := hx.slInv
        obtain ⟨z, rfl, h1, h2, h3⟩ := ha1 a rfl
        refine ⟨_, add_VR _ h1 h2 h3, fun w => ?_⟩
        simp [Instr.indexAt, asIntOf, run_underlying' hu, hc.1, hc.2.1, run_sizeOf' hc.2.2]
      · cases h
    · rename_i len e a hu
      split at h
      · rename_i hc
        cases h
        obtain ⟨z, rfl, h1, h2, h3⟩ := hx.ptrInv
        refine ⟨_, add_VR _ h1 h2 h3, fun w => ?_⟩
        simp [Instr.indexAt, Instr.sureAddr, asIntOf, run_underlying' hu, hc.1, hc.2.1, run_sizeOf' hc.2.2]
      · cases h
    · cases h
  · cases h

theorem apure_sound (h : apure P o ev = some v) (hv : ∀ x ∈ o.op.operands, VR ρ (ev x) (ev' x)) :
    ∃ v', VR ρ v v' ∧ ∀ w, (execOp ev' o).run P w = .ok (.value v') w := by
  have H := h
  unfold apure at h
  split at h
  · rename_i x ho; cases h; exact ⟨_, hv x (by simp [ho, Op.operands]), fun w => by simp [execOp, ho]⟩
  · rename_i x ho; cases h; exact ⟨_, hv x (by simp [ho, Op.operands]), fun w => by simp [execOp, ho]⟩
  · rename_i c a b ho
    split at h
    · rename_i t hc
      cases h
      have e := (hv c (by simp [ho, Op.operands])).scalar_eq (by rw [hc]; rfl)
      rw [hc] at e
      have ha := hv a (by simp [ho, Op.operands])
      have hb := hv b (by simp [ho, Op.operands])
      cases t
      · exact ⟨_, hb, fun w => by simp [execOp, ho, e, asBool]⟩
      · exact ⟨_, ha, fun w => by simp [execOp, ho, e, asBool]⟩
    · cases h
  · rename_i x ho
    split at h
    · rename_i a hx
      cases h
      have hh := hv x (by simp [ho, Op.operands])
      rw [hx] at hh
      obtain ⟨a', ha, h1, h2, h3⟩ := hh.ptrInv
      exact ⟨_, ha ▸ hh, fun w => by simp [execOp, ho, ha]⟩
    · cases h
  · rename_i s x f ho
    split at h
    · rename_i fs a hu hx
      split at h
      · rename_i fd hf
        split at h
        · rename_i hc
          cases h
          have hh := hv x (by simp [ho, Op.operands])
          rw [hx] at hh
          obtain ⟨a', ha, h1, h2, h3⟩ := hh.ptrInv
          exact ⟨_, add_VR _ h1 h2 h3, fun w => by simp [execOp, ho, ha, Instr.fieldAt, run_underlying' hu, hf, Instr.sureAddr, fieldPlace, run_sizeOf' hc.1, hc.2]⟩
        · cases h
      · cases h
    · cases h
  · rename_i t x ix ho
    obtain ⟨v', h1, h2⟩ := aindexA_sound h (hv x (by simp [ho, Op.operands])) (hv ix (by simp [ho, Op.operands]))
    exact ⟨v', h1, fun w => by simp [execOp, ho, h2]⟩
  · rename_i t x lo hi mx ho
    have m0 := hv x (by simp [ho, Op.operands])
    have m1 : ∀ y, lo = some y → VR ρ (ev y) (ev' y) := fun y hy => hv y (by simp [ho, Op.operands, hy])
    have m2 : ∀ y, hi = some y → VR ρ (ev y) (ev' y) := fun y hy => hv y (by simp [ho, Op.operands, hy])
    have m3 : ∀ y, mx = some y → VR ρ (ev y) (ev' y) := fun y hy => hv y (by simp [ho, Op.operands, hy])
    split at h
    · rename_i a len cap hx
      split at h
      · rename_i e hu
        split at h
        · rename_i hc
          rw [hx] at m0
          obtain ⟨a', c', ha, ha1, ha2, hc1, hc2, hC⟩ := m0.slInv
          obtain ⟨l, h', m, hr, hrun⟩ := slice_sound (P := P) (isS := true) ha1 ha2 hc1 hc2 hC m1 m2 m3 h
          exact ⟨_, hr, fun w => by simp [execOp, ho, ha, Instr.sliceAt, Instr.slice, run_underlying' hu, hrun, run_sizeOf' hc]⟩
        · cases h
      · cases h
    · rename_i a hx
      split at h
      · rename_i n e hu
        split at h
        · rename_i hc
          rw [hx] at m0
          obtain ⟨a', ha, h1, h2, h3⟩ := m0.ptrInv
          obtain ⟨l, h', m, hr, hrun⟩ := slice_sound (P := P) (isS := false) (a := some a) (a' := some a') (cap' := n) (fun x hx => by cases hx; exact ⟨a', rfl, h1, h2, h3⟩) nofun (fun _ => rfl) (fun hk => by omega) (fun x hx => ⟨fun _ => rfl, fun hk => by omega⟩) m1 m2 m3 h
          refine ⟨_, hr, fun w => ?_⟩
          simp only [execOp, ho, ha, Instr.sliceAt, Sem.run_bind, run_underlying' hu, Result.andThen_ok, Instr.sureAddr, Sem.run_pure, hrun, run_sizeOf' hc.1]
          split <;> rfl
        · cases h
      · cases h
    · exact aflat_sound (by rw [ho]; nofun) h hv
  · rename_i t x ix ho
    split at h
    · rename_i cs k i hx hi
      split at h
      · rename_i len e hu
        split at h
        · rename_i hc
          have m0 := hv x (by simp [ho, Op.operands])
          have m1 := (hv ix (by simp [ho, Op.operands])).scalar_eq (by rw [hi]; rfl)
          rw [hx] at m0
          obtain ⟨cs', hcs, hl⟩ := m0.aggInv
          obtain ⟨v', hr, hrun⟩ := part_sound hl h
          have hs : (P.info? e).isSome = true := by
            unfold apart at h
            split at h
            · rename_i hi; rw [hi]; rfl
            · cases h
          exact ⟨v', hr, fun w => by simp [execOp, ho, hcs, m1, hi, Instr.index, asIntOf, run_underlying' hu, hc.1, hc.2, run_sizeOf' hs, hrun]⟩
        · cases h
      · cases h
    · exact aflat_sound (by rw [ho]; nofun) h hv
  · rename_i t x f ho
    split at h
    · rename_i cs fs hx hu
      split at h
      · rename_i fd hf
        have m0 := hv x (by simp [ho, Op.operands])
        rw [hx] at m0
        obtain ⟨cs', hcs, hl⟩ := m0.aggInv
        obtain ⟨v', hr, hrun⟩ := part_sound hl h
        exact ⟨v', hr, fun w => by simp [execOp, ho, hcs, Instr.field, run_underlying' hu, hf, asAgg, hrun]⟩
      · cases h
    · cases h
  · rename_i x i ho
    split at h
    · rename_i vs hx
      have m0 := hv x (by simp [ho, Op.operands])
      rw [hx] at m0
      obtain ⟨cs', hcs, hl⟩ := m0.tupleInv
      obtain ⟨v', hg, hr⟩ := hl.get (i := i) (v := v) (by simpa using h)
      have hg' : cs'[i]? = some v' := by simpa using hg
      exact ⟨v', hr, fun w => by simp [execOp, ho, hcs, Instr.extract, hg']⟩
    · cases h
  · rename_i t parts ho
    have hp : ∀ (i : Nat) (p p' : Nat × Value), (parts.map fun (i, x) => (i, ev x))[i]? = some p → (parts.map fun (i, x) => (i, ev' x))[i]? = some p' → p.1 = p'.1 ∧ VR ρ p.2 p'.2 := by
      intro i p p' a b
      rw [Array.getElem?_map, Option.map_eq_some_iff] at a b
      obtain ⟨q, hq, rfl⟩ := a
      obtain ⟨q', hq', rfl⟩ := b
      rw [hq] at hq'
      cases hq'
      refine ⟨rfl, hv q.2 ?_⟩
      rw [ho]
      simp only [Op.operands, List.mem_toArray, List.mem_map, Array.mem_toList_iff]
      exact ⟨q, Array.mem_of_getElem? hq, rfl⟩
    obtain ⟨v', hr, hrun⟩ := build_sound (by simp) hp h
    exact ⟨v', hr, fun w => by simp [execOp, ho, pureRun_sound hrun]⟩
  · rename_i t x ho
    have m0 := hv x (by simp [ho, Op.operands])
    split at h
    · cases h
    · rename_i d hni hu
      cases h
      refine ⟨_, .iface t _ _ m0, fun w => ?_⟩
      simp only [execOp, ho, Instr.makeInterface, Sem.run_bind, run_underlying' hu, Result.andThen_ok]
      cases d <;> first | rfl | exact absurd hu (hni _)
    · cases h
  · rename_i fn first captured ho
    cases h
    refine ⟨.func fn (first.map ev') (captured.map ev'), .func fn _ _ _ _ (by simp) (by simp) ?_ ?_, fun w => by simp [execOp, ho, Instr.makeFunc]⟩
    · intro i x x' a b
      rw [Array.getElem?_map, Option.map_eq_some_iff] at a b
      obtain ⟨q, hq, rfl⟩ := a
      obtain ⟨q', hq', rfl⟩ := b
      rw [hq] at hq'
      cases hq'
      exact hv q (by simp [ho, Op.operands, Array.mem_of_getElem? hq])
    · intro i x x' a b
      rw [Array.getElem?_map, Option.map_eq_some_iff] at a b
      obtain ⟨q, hq, rfl⟩ := a
      obtain ⟨q', hq', rfl⟩ := b
      rw [hq] at hq'
      cases hq'
      exact hv q (by simp [ho, Op.operands, Array.mem_of_getElem? hq])
  · rename_i op t x y yt ho
    split at h
    · rename_i u hu
      cases h
      exact aflat_sound (by rw [ho]; nofun) hu hv
    · obtain ⟨v', hr, hrun⟩ := anil_sound h (hv x (by simp [ho, Op.operands])) (hv y (by simp [ho, Op.operands])) x y
      refine ⟨v', hr, fun w => ?_⟩
      have := hrun w
      simp only [execOp, ho]
      rw [Sem.run_bind, this]
      rfl
  · rename_i ho; exact aflat_sound (by rw [ho]; nofun) h hv
  · rename_i ho; exact aflat_sound (by rw [ho]; nofun) h hv
  · rename_i ho; exact aflat_sound (by rw [ho]; nofun) h hv
  · rename_i c ho
    split at h
    · rename_i hcal
      split at h
      · rename_i e a n cp hT hA
        cases h
        rw [Option.bind_eq_some_iff] at hT
        obtain ⟨t, ht, hu⟩ := hT
        rw [Option.map_eq_some_iff] at hA
        obtain ⟨y, hy, hA⟩ := hA
        have m0 := hv y (by simp [ho, Op.operands, Call.operands, hcal, Array.mem_of_getElem? hy])
        rw [hA] at m0
        obtain ⟨a', c', ha, _⟩ := m0.slInv
        refine ⟨_, .int _ _, fun w => ?_⟩
        simp [execOp, ho, resolve, hcal, invoke, builtin, Builtin.len_, ht, hy, ha, run_underlying' hu, goInt]
      · exact aflat_sound (by rw [ho]; nofun) h hv
    · rename_i hcal
      split at h
      · rename_i e a q n hT hA
        split at h
        · rename_i hn
          cases h
          rw [Option.bind_eq_some_iff] at hT
          obtain ⟨t, ht, hu⟩ := hT
          rw [Option.map_eq_some_iff] at hA
          obtain ⟨y, hy, hA⟩ := hA
          have m0 := hv y (by simp [ho, Op.operands, Call.operands, hcal, Array.mem_of_getElem? hy])
          rw [hA] at m0
          obtain ⟨a', c', ha, _, _, hc, _⟩ := m0.slInv
          refine ⟨_, .int _ _, fun w => ?_⟩
          simp [execOp, ho, resolve, hcal, invoke, builtin, Builtin.cap_, ht, hy, ha, run_underlying' hu, goInt, hc hn]
        · cases h
      · cases h
    · exact aflat_sound (by rw [ho]; nofun) h hv
    · exact aflat_sound (by rw [ho]; nofun) h hv
    · exact aflat_sound (by rw [ho]; nofun) h hv
    · exact aflat_sound (by rw [ho]; nofun) h hv
    · exact aflat_sound (by rw [ho]; nofun) h hv
    · cases h
  · cases h
end
end Go.Proofs.Yteadbbimikcmgaa
