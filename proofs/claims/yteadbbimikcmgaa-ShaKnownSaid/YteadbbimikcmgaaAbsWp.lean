/- Rules for the abstract machine in the form of weakest preconditions. Conditions: none. -/
import Derived.Test.YteadbbimikcmgaaAbsTop
set_option linter.unusedSimpArgs false
set_option linter.unusedVariables false
namespace Go.Proofs.Yteadbbimikcmgaa
open Go

section
variable (P : Program) (G : Nat) (Ext : FuncId → List Value → Mem → Outc → Mem → Prop)
/-- a run of code that ends so -/
def W (c : Code) (e : Env) (S : Mem) (Q : Xit → Env → Mem → Prop) : Prop := ∃ x e' S', Ex P G Ext (.j (.code c e S x e' S')) ∧ Q x e' S'
/-- a run of a region's operations from number i on -/
def O (fl : Bool) (ops : Array Oper) (i : Nat) (e : Env) (S : Mem) (Q : Env → Mem → Prop) : Prop := ∃ e' S', Ex P G Ext (.j (.ops fl ops (List.range' i (ops.size - i)) e S none e' S')) ∧ Q e' S'
/-- a call that returns -/
def C (f : FuncId) (args : List Value) (S : Mem) (R : Value → Mem → Prop) : Prop := ∃ v S', Ex P G Ext (.j (.call f args S (.ret v) S')) ∧ R v S'
end

def Thn (K : Env → Mem → Prop) (Q : Xit → Env → Mem → Prop) : Xit → Env → Mem → Prop
  | .nrm, e, S => K e S
  | x, e, S => Q x e S
def InB (id : Nat) (Q : Xit → Env → Mem → Prop) : Xit → Env → Mem → Prop := fun x e S => Q (x.inBlock id) e S

section
variable {P : Program} {G : Nat} {Ext : FuncId → List Value → Mem → Outc → Mem → Prop} {Q R : Xit → Env → Mem → Prop} {e : Env} {S : Mem}

theorem W.mono {c : Code} (h : W P G Ext c e S R) (hq : ∀ x e S, R x e S → Q x e S) : W P G Ext c e S Q := let ⟨x, e', S', h1, h2⟩ := h; ⟨x, e', S', h1, hq _ _ _ h2⟩
theorem C.mono {f : FuncId} {args : List Value} {R R' : Value → Mem → Prop} (h : C P G Ext f args S R) (hq : ∀ v S, R v S → R' v S) : C P G Ext f args S R' := let ⟨v, S', h1, h2⟩ := h; ⟨v, S', h1, hq _ _ h2⟩

theorem W.seq {a b : Code} (h : W P G Ext a e S (Thn (fun e S => W P G Ext b e S Q) Q)) : W P G Ext (.seq a b) e S Q := by
  obtain ⟨x, e1, S1, h1, h2⟩ := h
  cases x with
  | nrm => obtain ⟨y, e2, S2, h3, h4⟩ := h2; exact ⟨y, e2, S2, .seq h1 h3, h4⟩
  | _ => exact ⟨_, e1, S1, .seqOut h1 (by simp), h2⟩
theorem W.cond {c : Operand} {a b : Code} {t : Bool} (hc : e.eval c = .bool t) (h : W P G Ext (if t then a else b) e S Q) : W P G Ext (.cond c a b) e S Q :=
  let ⟨x, e', S', h1, h2⟩ := h; ⟨x, e', S', .cond hc h1, h2⟩
theorem W.condT {c : Operand} {a b : Code} (hc : e.eval c = .bool true) (h : W P G Ext a e S Q) : W P G Ext (.cond c a b) e S Q := W.cond hc h
theorem W.condF {c : Operand} {a b : Code} (hc : e.eval c = .bool false) (h : W P G Ext b e S Q) : W P G Ext (.cond c a b) e S Q := W.cond hc h
theorem W.block {id : Nat} {c : Code} (h : W P G Ext c e S (InB id Q)) : W P G Ext (.block id c) e S Q :=
  let ⟨x, e', S', h1, h2⟩ := h; ⟨_, e', S', .block h1, h2⟩
theorem W.exit {id : Nat} (h : Q (.exit id) e S) : W P G Ext (.exit id) e S Q := ⟨_, _, _, .exit id e S, h⟩
theorem W.ret (h : Q .ret e S) : W P G Ext .ret e S Q := ⟨_, _, _, .ret e S, h⟩
theorem W.skip (h : Q .nrm e S) : W P G Ext .skip e S Q := ⟨_, _, _, .skipC e S, h⟩
theorem W.loopStep {c : Code} (h : W P G Ext c e S (Thn (fun e S => W P G Ext (.loop c) e S Q) Q)) : W P G Ext (.loop c) e S Q := by
  obtain ⟨x, e1, S1, h1, h2⟩ := h
  cases x with
  | nrm => obtain ⟨y, e2, S2, h3, h4⟩ := h2; exact ⟨y, e2, S2, .loop h1 h3, h4⟩
  | _ => exact ⟨_, e1, S1, .loopOut h1 (by simp), h2⟩
/-- a loop, by what holds at each round's head; the number goes down -/
theorem W.loop {c : Code} (I : Nat → Env → Mem → Prop) (n : Nat) (h0 : I n e S) (step : ∀ k e S, I k e S → W P G Ext c e S (Thn (fun e' S' => ∃ k', k' < k ∧ I k' e' S') Q)) : W P G Ext (.loop c) e S Q := by
  induction n using Nat.strongRecOn generalizing e S with
  | _ n ih =>
    refine W.loopStep ((step n e S h0).mono fun x e1 S1 h => ?_)
    cases x with
    | nrm => obtain ⟨k', hk, hI⟩ := h; exact ih k' hk hI
    | _ => exact h
theorem W.region {id : Nat} {ops : Array Oper} {draw : Bool} (h : O P G Ext (draw && floaty P ops) ops 0 e S (fun e S => Q .nrm e S)) : W P G Ext (.region id ops draw) e S Q := by
  obtain ⟨e', S', h1, h2⟩ := h
  refine ⟨_, e', S', .region ?_, h2⟩
  rw [List.range_eq_range']
  exact h1

variable {fl : Bool} {ops : Array Oper} {i : Nat} {o : Oper} {K : Env → Mem → Prop}
theorem O.done (h : ops.size ≤ i) (hK : K e S) : O P G Ext fl ops i e S K := ⟨e, S, by rw [Nat.sub_eq_zero_of_le h]; exact .nil _ _ _ _, hK⟩
theorem range_step (ho : ops[i]? = some o) : List.range' i (ops.size - i) = i :: List.range' (i + 1) (ops.size - (i + 1)) := by
  have := (Array.getElem?_eq_some_iff.1 ho).1
  rw [show ops.size - i = (ops.size - (i + 1)) + 1 from by omega, List.range'_succ]
theorem O.skip (ho : ops[i]? = some o) (hw : awanted ops o e = false) (h : O P G Ext fl ops (i + 1) (e.put o.dst undef) S K) : O P G Ext fl ops i e S K := by
  obtain ⟨e', S', h1, h2⟩ := h
  exact ⟨e', S', by rw [range_step ho]; exact .skip ho hw h1, h2⟩
theorem O.pure {v : Value} (ho : ops[i]? = some o) (hw : awanted ops o e = true) (hp : apure P o e.eval = some v) (h : O P G Ext fl ops (i + 1) (e.put o.dst v) S K) : O P G Ext fl ops i e S K := by
  obtain ⟨e', S', h1, h2⟩ := h
  exact ⟨e', S', by rw [range_step ho]; exact .pure ho hw hp h1, h2⟩
theorem O.load {v : Value} (ho : ops[i]? = some o) (hw : awanted ops o e = true) (hp : aload P o e.eval S = some v) (h : O P G Ext fl ops (i + 1) (e.put o.dst v) S K) : O P G Ext fl ops i e S K := by
  obtain ⟨e', S', h1, h2⟩ := h
  exact ⟨e', S', by rw [range_step ho]; exact .load ho hw hp h1, h2⟩
theorem O.eff {v : Value} {S1 : Mem} (ho : ops[i]? = some o) (hw : awanted ops o e = true) (hp : aeff P o e.eval S = some (v, S1)) (h : O P G Ext fl ops (i + 1) (e.put o.dst v) S1 K) : O P G Ext fl ops i e S K := by
  obtain ⟨e', S', h1, h2⟩ := h
  exact ⟨e', S', by rw [range_step ho]; exact .eff ho hw hp h1, h2⟩
theorem O.call {f : FuncId} {args : List Value} (ho : ops[i]? = some o) (hw : awanted ops o e = true) (hc : acall o e.eval = some (f, args))
    (hcall : C P G Ext f args S fun v S1 => (fl = true → Cons S S1) ∧ O P G Ext fl ops (i + 1) (e.put o.dst v) S1 K) : O P G Ext fl ops i e S K := by
  obtain ⟨v, S1, h0, hcons, e', S', h1, h2⟩ := hcall
  exact ⟨e', S', by rw [range_step ho]; exact .call ho hw hc h0 hcons h1, h2⟩

/-- a call, by its function's text -/
theorem C.fn {f : FuncId} {fn : Func} {c : Code} {args : List Value} {R : Value → Mem → Prop} (hf : P.funcs[f]? = some fn) (hb : fn.body = some c) (hok : fnOk P G fn c = true) (ha : Nat.ble args.length fn.ntmps = true)
    (h : W P G Ext c (Env.of args) S fun x e' S' => (x = .nrm ∨ x = .ret) ∧ ∃ v, aresults P fn e' S' = some v ∧ R v S') : C P G Ext f args S R := by
  obtain ⟨x, e', S', h1, hx, v, hr, hR⟩ := h
  exact ⟨v, S', .fn hf hb hok (Nat.le_of_ble_eq_true ha) h1 hx hr, hR⟩

/-! ### the operations as a list; values in plain form -/
def force : Value → Option Value
  | .bool b => some (.bool b)
  | .int k n => some (.int k n)
  | .float k b => some (.float k b)
  | .complex k a b => some (.complex k a b)
  | .string s => some (.string s)
  | .pointer a => some (.pointer a)
  | .slice a n c => some (.slice a n c)
  | .func f a b => some (.func f a b)
  | .nilFunc => some .nilFunc
  | .iface t v => some (.iface t v)
  | .nilIface => some .nilIface
  | .agg c => some (.agg c)
  | .tuple c => some (.tuple c)
  | _ => none
theorem force_eq {v u : Value} (h : force v = some u) : v = u := by
  unfold force at h
  split at h <;> first | (injection h) | cases h
variable (P G Ext fl ops) in
def L (rest : List Oper) (e : Env) (S : Mem) (K : Env → Mem → Prop) : Prop := ∀ i, (∀ j, rest[j]? = ops[i + j]?) → O P G Ext fl ops i e S K
theorem W.reg {id : Nat} {l : List Oper} {draw : Bool} (h : L P G Ext (draw && floaty P l.toArray) l.toArray l e S (fun e S => Q .nrm e S)) : W P G Ext (.region id l.toArray draw) e S Q :=
  W.region (h 0 (by simp))
theorem L.nil (h : K e S) : L P G Ext fl ops [] e S K := fun i hi => O.done (by
  have := hi 0
  simp only [List.getElem?_nil, Nat.add_zero] at this
  exact Array.getElem?_eq_none_iff.1 this.symm) h
theorem L.head {rest : List Oper} {i : Nat} (h : ∀ j, (o :: rest)[j]? = ops[i + j]?) : ops[i]? = some o ∧ ∀ j, rest[j]? = ops[i + 1 + j]? :=
  ⟨by simpa using (h 0).symm, fun j => by have := h (j + 1); simpa [Nat.add_assoc, Nat.add_comm 1] using this⟩
theorem L.skip {rest : List Oper} (hw : awanted ops o e = false) (h : L P G Ext fl ops rest (e.put o.dst undef) S K) : L P G Ext fl ops (o :: rest) e S K := fun i hi =>
  O.skip (L.head hi).1 hw (h _ (L.head hi).2)
/-- the value as it is -/
theorem L.pure {v : Value} {rest : List Oper} (hw : awanted ops o e = true) (hp : apure P o e.eval = some v) (h : L P G Ext fl ops rest (e.put o.dst v) S K) : L P G Ext fl ops (o :: rest) e S K := fun i hi =>
  O.pure (L.head hi).1 hw hp (h _ (L.head hi).2)
/-- the value in plain form -/
theorem L.p {v : Value} {rest : List Oper} {dst : Option Tmp} {op : Op} {ty : TypeId} {pos : String} {af : Array Edge} {gd : Option (Nat × Bool)} (hw : awanted ops ⟨dst, op, ty, pos, af, gd⟩ e = true) (hp : (apure P ⟨dst, op, ty, pos, af, gd⟩ e.eval).bind force = some v)
    (h : L P G Ext fl ops rest (e.put dst v) S K) : L P G Ext fl ops (⟨dst, op, ty, pos, af, gd⟩ :: rest) e S K := by
  rw [Option.bind_eq_some_iff] at hp
  obtain ⟨u, hu, hf⟩ := hp
  rw [force_eq hf] at hu
  exact L.pure hw hu h
theorem L.load {v : Value} {rest : List Oper} {dst : Option Tmp} {op : Op} {ty : TypeId} {pos : String} {af : Array Edge} {gd : Option (Nat × Bool)} (hw : awanted ops ⟨dst, op, ty, pos, af, gd⟩ e = true) (hp : aload P ⟨dst, op, ty, pos, af, gd⟩ e.eval S = some v)
    (h : L P G Ext fl ops rest (e.put dst v) S K) : L P G Ext fl ops (⟨dst, op, ty, pos, af, gd⟩ :: rest) e S K := fun i hi =>
  O.load (L.head hi).1 hw hp (h _ (L.head hi).2)
theorem L.eff {v : Value} {S1 : Mem} {rest : List Oper} {dst : Option Tmp} {op : Op} {ty : TypeId} {pos : String} {af : Array Edge} {gd : Option (Nat × Bool)} (hw : awanted ops ⟨dst, op, ty, pos, af, gd⟩ e = true) (hp : aeff P ⟨dst, op, ty, pos, af, gd⟩ e.eval S = some (v, S1))
    (h : L P G Ext fl ops rest (e.put dst v) S1 K) : L P G Ext fl ops (⟨dst, op, ty, pos, af, gd⟩ :: rest) e S K := fun i hi =>
  O.eff (L.head hi).1 hw hp (h _ (L.head hi).2)
theorem L.call {f : FuncId} {args : List Value} {rest : List Oper} {dst : Option Tmp} {op : Op} {ty : TypeId} {pos : String} {af : Array Edge} {gd : Option (Nat × Bool)} (hw : awanted ops ⟨dst, op, ty, pos, af, gd⟩ e = true) (hc : acall ⟨dst, op, ty, pos, af, gd⟩ e.eval = some (f, args))
    (hcall : C P G Ext f args S fun v S1 => (fl = true → Cons S S1) ∧ L P G Ext fl ops rest (e.put dst v) S1 K) : L P G Ext fl ops (⟨dst, op, ty, pos, af, gd⟩ :: rest) e S K := fun i hi =>
  O.call (L.head hi).1 hw hc (hcall.mono fun v S1 h => ⟨h.1, h.2 _ (L.head hi).2⟩)

theorem W.ite {c : Operand} {a b : Code} {t : Bool} (hc : e.eval c = .bool t) (hT : t = true → W P G Ext a e S Q) (hF : t = false → W P G Ext b e S Q) : W P G Ext (.cond c a b) e S Q := by
  cases t with
  | true => exact W.condT hc (hT rfl)
  | false => exact W.condF hc (hF rfl)
end
end Go.Proofs.Yteadbbimikcmgaa
