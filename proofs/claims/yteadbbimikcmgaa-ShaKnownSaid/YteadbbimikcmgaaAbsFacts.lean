/- Facts on abstract memory, and the rules for loads, stores, indexes, slices with their conditions laid open. Conditions: none. -/
import Derived.Test.YteadbbimikcmgaaAbsWp
set_option linter.unusedSimpArgs false
set_option linter.unusedVariables false
namespace Go.Proofs.Yteadbbimikcmgaa
open Go

section
variable {S S1 : Mem} {b o n : Nat} {r x : Row} {v : Value} {l : List Value}

/-- rows -/
theorem row_set_same (h : S.row? b = some r) (hl : x.st = .live) : Mem.row? (S.set b x) b = some x :=
  Mem.row?_of (by rw [List.getElem?_set, if_pos rfl, if_pos (row_live_lt (Mem.row?_some h).1)]) hl
theorem row_set_other (c : Nat) (h : b ≠ c) : Mem.row? (S.set b x) c = S.row? c := by simp only [Mem.row?]; rw [List.getElem?_set, if_neg h]
theorem row_lt (h : S.row? b = some r) : b < S.length := row_live_lt (Mem.row?_some h).1
theorem row_push_new (hl : x.st = .live) : Mem.row? (S ++ [x]) S.length = some x := Mem.row?_of (by simp) hl
theorem row_push_old (h : b < S.length) : Mem.row? (S ++ [x]) b = S.row? b := by simp only [Mem.row?]; rw [List.getElem?_append_left h]
theorem row_cons (h : Cons S S1) (hb : b < S.length) : S1.row? b = S.row? b := by simp only [Mem.row?]; rw [h b hb]
theorem Cons.row {h : Cons S S1} (hr : S.row? b = some r) : S1.row? b = some r := (row_cons h (row_lt hr)).trans hr
/-- everything but row b is as it was -/
def Keep (b : Nat) (S S1 : Mem) : Prop := S.length ≤ S1.length ∧ ∀ r, r < S.length → r ≠ b → S1[r]? = S[r]?
theorem Keep.refl (b : Nat) (S : Mem) : Keep b S S := ⟨Nat.le_refl _, fun _ _ _ => rfl⟩
theorem Keep.trans {S2 : Mem} (h : Keep b S S1) (k : Keep b S1 S2) : Keep b S S2 := ⟨Nat.le_trans h.1 k.1, fun r hr hb => (k.2 r (Nat.lt_of_lt_of_le hr h.1) hb).trans (h.2 r hr hb)⟩
theorem Keep.set (b : Nat) (S : Mem) (x : Row) : Keep b S (S.set b x) := ⟨by simp, fun r _ hb => by rw [List.getElem?_set, if_neg (fun e => hb e.symm)]⟩
theorem Cons.keep (h : Cons S S1) (b : Nat) : Keep b S S1 := ⟨h.len, fun r hr _ => h r hr⟩
theorem Keep.row {c : Nat} (h : Keep b S S1) (hr : S.row? c = some r) (hne : c ≠ b) : S1.row? c = some r := by
  rw [← hr]; simp only [Mem.row?]; rw [h.2 c (row_lt hr) hne]
theorem Keep.cons (h : Keep b S S1) (hb : S.length ≤ b) : Cons S S1 := fun r hr => h.2 r hr (by omega)
theorem Keep.mono {S0 : Mem} (h : Cons S0 S) (hb : S0.length ≤ b) (k : Keep b S S1) : Cons S0 S1 := fun r hr => (k.2 r (Nat.lt_of_lt_of_le hr h.len) (by omega)).trans (h r hr)

/-- one cell -/
def Mem.cell (S : Mem) (a : Addr) : Option Value := (S.cellsAt a 1).bind (·[0]?)
theorem cell_of (h : S.row? b = some r) (hv : r.cells[o]? = some v) (hk : r.ro = none ∨ known v = true := by exact .inl rfl) : S.cell ⟨b, o, none⟩ = some v := by
  have hlt := (List.getElem?_eq_some_iff.1 hv).1
  unfold Mem.cell Mem.cellsAt
  simp only [h]
  rw [if_pos ⟨trivial, by omega, hk.imp id fun hk => by
    rw [List.all_eq_true]
    intro u hu
    obtain ⟨i, hi⟩ := List.getElem?_of_mem hu
    rw [List.getElem?_take] at hi
    split at hi
    · rw [List.getElem?_drop, show o + i = o by omega, hv] at hi
      cases hi; exact hk
    · cases hi⟩]
  simp only [Option.bind_some]
  rw [List.getElem?_take, if_pos (by omega), List.getElem?_drop]
  simpa using hv
theorem cellsAt_of (h : S.row? b = some r) (hn : o + n ≤ r.cells.length) (hk : r.ro = none ∨ ((r.cells.drop o).take n).all known = true := by exact .inl rfl) : S.cellsAt ⟨b, o, none⟩ n = some ((r.cells.drop o).take n) := by
  unfold Mem.cellsAt
  simp only [h]
  rw [if_pos ⟨trivial, hn, hk⟩]
theorem write_of (h : S.row? b = some r) (hro : r.ro = none) (hn : o + l.length ≤ r.cells.length) (h1 : l.all oneCell = true) :
    S.write ⟨b, o, none⟩ l = some (S.set b { r with cells := putFrom r.cells o l }) := by
  unfold Mem.write
  simp only [h]
  rw [if_pos ⟨trivial, hn, hro, h1⟩]
theorem putFrom_one (l : List Value) (i : Nat) (v : Value) (h : i < l.length) : putFrom l i [v] = l.set i v := by
  rw [putFrom_cons _ _ _ _ h]; simp [putFrom]
end

def loadOne (P : Program) (t : TypeId) : Bool := match P.underlying t, P.info? t with
  | some d, some _ => !isAggD d
  | _, _ => false
def aggSize (P : Program) (t : TypeId) : Option Nat := match P.underlying t, P.info? t with
  | some d, some i => if isAggD d then some i.size else none
  | _, _ => none
def cellsOf' (P : Program) (t : TypeId) : Option Nat := (P.info? t).map (·.size)
def sliceOf (P : Program) (t : TypeId) : Option Nat := match P.underlying t with
  | some (.slice e) => (P.info? e).map (·.size)
  | _ => none
def arrayOf (P : Program) (t : TypeId) : Option (Nat × Nat) := match P.underlying t with
  | some (.array n e) => (P.info? e).map fun i => (n, i.size)
  | _ => none

section
variable {P : Program} {G : Nat} {Ext : FuncId → List Value → Mem → Outc → Mem → Prop} {e : Env} {S : Mem} {fl : Bool} {ops : Array Oper} {K : Env → Mem → Prop}
variable {rest : List Oper} {dst : Option Tmp} {ty : TypeId} {pos : String} {af : Array Edge} {gd : Option (Nat × Bool)}

theorem L.ld {t : TypeId} {x : Operand} {a : Addr} {v : Value} (hc : S.cell a = some v) (hw : awanted ops ⟨dst, .load t x, ty, pos, af, gd⟩ e = true) (hx : e.eval x = .pointer (some a)) (hl : loadOne P t = true)
    (h : L P G Ext fl ops rest (e.put dst v) S K) : L P G Ext fl ops (⟨dst, .load t x, ty, pos, af, gd⟩ :: rest) e S K := by
  refine L.load hw ?_ h
  unfold loadOne at hl
  simp only [aload, hx, aloadAt]
  split at hl
  · rename_i d i hd hi
    have hag : isAggD d = false := by simpa using hl
    simp only [hd, hi, hag, Bool.false_eq_true, if_false]
    exact hc
  · cases hl
theorem L.ldA {t : TypeId} {x : Operand} {a : Addr} {n : Nat} {l : List Value} (hc : S.cellsAt a n = some l) (hw : awanted ops ⟨dst, .load t x, ty, pos, af, gd⟩ e = true) (hx : e.eval x = .pointer (some a)) (hl : aggSize P t = some n)
    (h : L P G Ext fl ops rest (e.put dst (.agg l.toArray)) S K) : L P G Ext fl ops (⟨dst, .load t x, ty, pos, af, gd⟩ :: rest) e S K := by
  refine L.load hw ?_ h
  unfold aggSize at hl
  simp only [aload, hx, aloadAt]
  split at hl
  · rename_i d i hd hi
    split at hl
    · rename_i hag
      cases hl
      simp only [hd, hi, hag, if_true, hc, Option.map_some]
    · cases hl
  · cases hl
theorem L.st {t : TypeId} {a x : Operand} {ad : Addr} {vs : List Value} {S1 : Mem} (hs : S.write ad vs = some S1) (hw : awanted ops ⟨dst, .store t a x, ty, pos, af, gd⟩ e = true) (ha : e.eval a = .pointer (some ad))
    (hx : (e.eval x).cells.toList = vs) (hn : cellsOf' P t = some vs.length) (h : L P G Ext fl ops rest (e.put dst undef) S1 K) : L P G Ext fl ops (⟨dst, .store t a x, ty, pos, af, gd⟩ :: rest) e S K := by
  refine L.eff hw ?_ h
  unfold cellsOf' at hn
  rw [Option.map_eq_some_iff] at hn
  obtain ⟨i, hi, hsz⟩ := hn
  have : (e.eval x).cells.size = i.size := by rw [hsz, ← hx]; simp
  simp only [aeff, ha, hi, this, if_true, hx, hs, Option.map_some]
/-- an index into a slice, into an array behind a pointer -/
theorem L.ix {t : TypeId} {x ix : Operand} {b o n c k sz : Nat} {i : Int} {kd : IntKind} (hk : i = (k : Int)) (hb : k < n) (hw : awanted ops ⟨dst, .indexAddr t x ix, ty, pos, af, gd⟩ e = true) (hx : e.eval x = .slice (some ⟨b, o, none⟩) n c)
    (hi : e.eval ix = .int kd i) (ht : sliceOf P t = some sz) (h : L P G Ext fl ops rest (e.put dst (.pointer (some ⟨b, o + k * sz, none⟩))) S K) : L P G Ext fl ops (⟨dst, .indexAddr t x ix, ty, pos, af, gd⟩ :: rest) e S K := by
  refine L.pure hw ?_ h
  subst hk
  unfold sliceOf at ht
  split at ht
  · rename_i el hu
    rw [Option.map_eq_some_iff] at ht
    obtain ⟨inf, hi', rfl⟩ := ht
    simp only [apure, aindexA, hi, hu, hx]
    rw [if_pos ⟨by omega, by omega, by rw [hi']; rfl⟩]
    simp only [Int.toNat_natCast, Program.cellsOf, hi', Option.map_some, Option.getD_some, Addr.add]
    split
    · rename_i h0; rw [h0]; rfl
    · rfl
  · cases ht
theorem L.ixA {t : TypeId} {x ix : Operand} {b o n k sz : Nat} {i : Int} {kd : IntKind} (hk : i = (k : Int)) (hb : k < n) (hw : awanted ops ⟨dst, .indexAddr t x ix, ty, pos, af, gd⟩ e = true) (hx : e.eval x = .pointer (some ⟨b, o, none⟩))
    (hi : e.eval ix = .int kd i) (ht : arrayOf P t = some (n, sz)) (h : L P G Ext fl ops rest (e.put dst (.pointer (some ⟨b, o + k * sz, none⟩))) S K) : L P G Ext fl ops (⟨dst, .indexAddr t x ix, ty, pos, af, gd⟩ :: rest) e S K := by
  refine L.pure hw ?_ h
  subst hk
  unfold arrayOf at ht
  split at ht
  · rename_i n' el hu
    rw [Option.map_eq_some_iff] at ht
    obtain ⟨inf, hi', h2⟩ := ht
    cases h2
    simp only [apure, aindexA, hi, hu, hx]
    rw [if_pos ⟨by omega, by omega, by rw [hi']; rfl⟩]
    simp only [Int.toNat_natCast, Program.cellsOf, hi', Option.map_some, Option.getD_some, Addr.add]
    split
    · rename_i h0; rw [h0]; rfl
    · rfl
  · cases ht
/-- a pure operation, its value told -/
theorem L.is {op : Op} (v : Value) (hp : apure P ⟨dst, op, ty, pos, af, gd⟩ e.eval = some v) (hw : awanted ops ⟨dst, op, ty, pos, af, gd⟩ e = true) (h : L P G Ext fl ops rest (e.put dst v) S K) :
    L P G Ext fl ops (⟨dst, op, ty, pos, af, gd⟩ :: rest) e S K := L.pure hw hp h
theorem slice_at {P : Program} {o : Oper} {ev : Operand → Value} {t : TypeId} {x : Operand} {lo hi mx : Option Operand} {a : Option Addr} {n c sz : Nat} (ho : o.op = .slice t x lo hi mx) (hx : ev x = .slice a n c) (ht : sliceOf P t = some sz) (hc : a = none → c < UNK) :
    apure P o ev = aslice sz a n c (lo.map ev) (hi.map ev) (mx.map ev) := by
  unfold sliceOf at ht
  split at ht
  · rename_i el hu
    rw [Option.map_eq_some_iff] at ht
    obtain ⟨inf, hi', rfl⟩ := ht
    simp only [apure, ho, hx, hu]
    rw [if_pos (by rw [hi']; rfl)]
    simp only [Program.cellsOf, hi', Option.map_some, Option.getD_some]
  · cases ht
theorem slice_arr {P : Program} {o : Oper} {ev : Operand → Value} {t : TypeId} {x : Operand} {lo hi mx : Option Operand} {a : Addr} {n sz : Nat} (ho : o.op = .slice t x lo hi mx) (hx : ev x = .pointer (some a)) (ht : arrayOf P t = some (n, sz)) (hn : n < UNK) :
    apure P o ev = aslice sz (some a) n n (lo.map ev) (hi.map ev) (mx.map ev) := by
  unfold arrayOf at ht
  split at ht
  · rename_i n' el hu
    rw [Option.map_eq_some_iff] at ht
    obtain ⟨inf, hi', h2⟩ := ht
    cases h2
    simp only [apure, ho, hx, hu]
    rw [if_pos ⟨by rw [hi']; rfl, hn⟩]
    simp only [Program.cellsOf, hi', Option.map_some, Option.getD_some]
  · cases ht
/-- a call, by its contract -/
theorem L.cl {op : Op} {f : FuncId} {args : List Value} {R : Value → Mem → Prop} (hcall : C P G Ext f args S R) (hw : awanted ops ⟨dst, op, ty, pos, af, gd⟩ e = true) (hc : acall ⟨dst, op, ty, pos, af, gd⟩ e.eval = some (f, args))
    (h : ∀ v S1, R v S1 → (fl = true → Cons S S1) ∧ L P G Ext fl ops rest (e.put dst v) S1 K) : L P G Ext fl ops (⟨dst, op, ty, pos, af, gd⟩ :: rest) e S K :=
  L.call hw hc (hcall.mono h)
end
end Go.Proofs.Yteadbbimikcmgaa
