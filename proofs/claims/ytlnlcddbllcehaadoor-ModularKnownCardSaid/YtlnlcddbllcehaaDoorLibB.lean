/- What several proofs share, part 2: a model of memory, contracts of functions. Conditions: none. -/
import Derived.Test.YtlnlcddbllcehaaDoorLibA
import Derived.Below
import Derived.WalkKit
import Derived.ProofKit
import Derived.OpenShut
import Derived.ShutString
import Derived.ChangeOld
import Derived.Test.YtlnlcddbllcehaaDoorChecked
import Derived.KernelRfl
import Derived.Laws.Strings
import Ieee.Arith

/- The abstract machine's judgement on code and calls; whatever it derives, the real machine does. Conditions: what a program's text must hold ('codeOk'), and contracts of functions that are met by themselves ('Ext'). -/
set_option linter.unusedSimpArgs false
set_option linter.unusedVariables false
namespace Go.Proofs.YtlnlcddbllcehaaDoor
open Go

def codeOk (P : Program) (n G : Nat) : Code → Bool
  | .region _ ops draw => opsOk n G ops && (!draw || orderOk P ops)
  | .seq a b => codeOk P n G a && codeOk P n G b
  | .cond c a b => operandOk G c && codeOk P n G a && codeOk P n G b
  | .block _ b | .loop b | .scope b => codeOk P n G b
  | _ => true
def fnOk (P : Program) (G : Nat) (fn : Func) (c : Code) : Bool := codeOk P fn.ntmps G c && fn.name != "runtime.NumGoroutine" && decide (fn.params.size + fn.nfree ≤ fn.ntmps)

/-- code inside a scope, whose labels may be jumped to -/
inductive Jg where
  | j (j : Jd)
  | scope (body c : Code) (e : Env) (S : Mem) (x : Xit) (e' : Env) (S' : Mem)

inductive Ex (P : Program) (G : Nat) (Ext : FuncId → List Value → Mem → Outc → Mem → Prop) : Jg → Prop
  | nil (fl ops e S) : Ex P G Ext (.j (.ops fl ops [] e S none e S))
  | skip {fl ops i is o e S x e' S'} (ho : ops[i]? = some o) (hw : awanted ops o e = false) (h : Ex P G Ext (.j (.ops fl ops is (e.put o.dst undef) S x e' S'))) : Ex P G Ext (.j (.ops fl ops (i :: is) e S x e' S'))
  | pure {fl ops i is o e S v x e' S'} (ho : ops[i]? = some o) (hw : awanted ops o e = true) (hp : apure P o e.eval = some v) (h : Ex P G Ext (.j (.ops fl ops is (e.put o.dst v) S x e' S'))) : Ex P G Ext (.j (.ops fl ops (i :: is) e S x e' S'))
  | psim {fl ops i is o e S v x e' S'} (ho : ops[i]? = some o) (hw : awanted ops o e = true) (hp : PSim P o e.eval v) (h : Ex P G Ext (.j (.ops fl ops is (e.put o.dst v) S x e' S'))) : Ex P G Ext (.j (.ops fl ops (i :: is) e S x e' S'))
  | sem {fl ops i is o e S v S1 x e' S'} (ho : ops[i]? = some o) (hw : awanted ops o e = true) (hp : OpSim P G o e S v S1) (hk : 2 ≤ opKind P o) (hcons : opKind P o = 2 ∨ (opKind P o = 4 ∧ fl = true) → Cons S S1)
      (h : Ex P G Ext (.j (.ops fl ops is (e.put o.dst v) S1 x e' S'))) : Ex P G Ext (.j (.ops fl ops (i :: is) e S x e' S'))
  | load {fl ops i is o e S v x e' S'} (ho : ops[i]? = some o) (hw : awanted ops o e = true) (hp : aload P o e.eval S = some v) (h : Ex P G Ext (.j (.ops fl ops is (e.put o.dst v) S x e' S'))) : Ex P G Ext (.j (.ops fl ops (i :: is) e S x e' S'))
  | eff {fl ops i is o e S v S1 x e' S'} (ho : ops[i]? = some o) (hw : awanted ops o e = true) (hp : aeff P o e.eval S = some (v, S1)) (h : Ex P G Ext (.j (.ops fl ops is (e.put o.dst v) S1 x e' S'))) : Ex P G Ext (.j (.ops fl ops (i :: is) e S x e' S'))
  | call {fl ops i is o e S f args v S1 x e' S'} (ho : ops[i]? = some o) (hw : awanted ops o e = true) (hc : acall o e.eval = some (f, args)) (hcall : Ex P G Ext (.j (.call f args S (.ret v) S1))) (hcons : fl = true → Cons S S1)
      (h : Ex P G Ext (.j (.ops fl ops is (e.put o.dst v) S1 x e' S'))) : Ex P G Ext (.j (.ops fl ops (i :: is) e S x e' S'))
  | callPan {fl ops i is o e S f args v S1} (ho : ops[i]? = some o) (hw : awanted ops o e = true) (hc : acall o e.eval = some (f, args)) (hcall : Ex P G Ext (.j (.call f args S (.pan v) S1))) :
      Ex P G Ext (.j (.ops fl ops (i :: is) e S (some v) e S1))
  | panicOp {fl ops i is o e S x t u} (ho : ops[i]? = some o) (hw : awanted ops o e = true) (hop : o.op = .panic x) (hx : e.eval x = .iface t u) : Ex P G Ext (.j (.ops fl ops (i :: is) e S (some (.iface t u)) e S))
  | region {id ops draw e S e' S'} (h : Ex P G Ext (.j (.ops (draw && floaty P ops) ops (List.range ops.size) e S none e' S'))) : Ex P G Ext (.j (.code (.region id ops draw) e S .nrm e' S'))
  | regionPan {id ops e S v e' S'} (h : Ex P G Ext (.j (.ops false ops (List.range ops.size) e S (some v) e' S'))) : Ex P G Ext (.j (.code (.region id ops false) e S (.pan v) e' S'))
  | seq {a b e S e1 S1 x e' S'} (h1 : Ex P G Ext (.j (.code a e S .nrm e1 S1))) (h2 : Ex P G Ext (.j (.code b e1 S1 x e' S'))) : Ex P G Ext (.j (.code (.seq a b) e S x e' S'))
  | seqOut {a b e S x e' S'} (h1 : Ex P G Ext (.j (.code a e S x e' S'))) (hx : x ≠ .nrm) : Ex P G Ext (.j (.code (.seq a b) e S x e' S'))
  | cond {c a b t e S x e' S'} (hc : e.eval c = .bool t) (h : Ex P G Ext (.j (.code (if t then a else b) e S x e' S'))) : Ex P G Ext (.j (.code (.cond c a b) e S x e' S'))
  | block {id c e S x e' S'} (h : Ex P G Ext (.j (.code c e S x e' S'))) : Ex P G Ext (.j (.code (.block id c) e S (x.inBlock id) e' S'))
  | loop {c e S e1 S1 x e' S'} (h1 : Ex P G Ext (.j (.code c e S .nrm e1 S1))) (h2 : Ex P G Ext (.j (.code (.loop c) e1 S1 x e' S'))) : Ex P G Ext (.j (.code (.loop c) e S x e' S'))
  | loopOut {c e S x e' S'} (h1 : Ex P G Ext (.j (.code c e S x e' S'))) (hx : x ≠ .nrm) : Ex P G Ext (.j (.code (.loop c) e S x e' S'))
  | exit (id e S) : Ex P G Ext (.j (.code (.exit id) e S (.exit id) e S))
  | goto (l e S) : Ex P G Ext (.j (.code (.goto l) e S (.goto l) e S))
  | ret (e S) : Ex P G Ext (.j (.code .ret e S .ret e S))
  | skipC (e S) : Ex P G Ext (.j (.code .skip e S .nrm e S))
  | label (l e S) : Ex P G Ext (.j (.code (.label l) e S .nrm e S))
  | scope {body e S x e' S'} (h : Ex P G Ext (.scope body body e S x e' S')) : Ex P G Ext (.j (.code (.scope body) e S x e' S'))
  | inScope {body c e S x e' S'} (h : Ex P G Ext (.j (.code c e S x e' S'))) (hx : ∀ l, x = .goto l → findLabel body l = none) : Ex P G Ext (.scope body c e S x e' S')
  | jump {body c e S l rest e1 S1 x e' S'} (h1 : Ex P G Ext (.j (.code c e S (.goto l) e1 S1))) (hl : findLabel body l = some rest) (h2 : Ex P G Ext (.scope body rest e1 S1 x e' S')) : Ex P G Ext (.scope body c e S x e' S')
  | fn {f args fn c S x e' v S'} (hf : P.funcs[f]? = some fn) (hb : fn.body = some c) (hok : fnOk P G fn c = true) (ha : args.length ≤ fn.ntmps) (h : Ex P G Ext (.j (.code c (Env.of args) S x e' S'))) (hx : x = .nrm ∨ x = .ret)
      (hr : aresults P fn e' S' = some v) : Ex P G Ext (.j (.call f args S (.ret v) S'))
  | fnPan {f args fn c S e' v S'} (hf : P.funcs[f]? = some fn) (hb : fn.body = some c) (hok : fnOk P G fn c = true) (ha : args.length ≤ fn.ntmps) (h : Ex P G Ext (.j (.code c (Env.of args) S (.pan v) e' S'))) :
      Ex P G Ext (.j (.call f args S (.pan v) S'))
  | ext {f args S out S'} (h : Ext f args S out S') : Ex P G Ext (.j (.call f args S out S'))

/-- how an exit of the abstract machine stands to one of the real -/
def XR (ρ : Nat → Option Loc) : Xit → Exit → Prop
  | .nrm, .normal => True
  | .exit i, .exit j => i = j
  | .goto i, .goto j => i = j
  | .ret, .ret => True
  | .pan v, .panic c => ∃ v', VR ρ v v' ∧ c = [{ v := v', recovered := false }]
  | _, _ => False
def OR (ρ : Nat → Option Loc) : Outc → Ending → Prop
  | .ret v, .returned v' => VR ρ v v'
  | .pan v, .panicked c => ∃ v', VR ρ v v' ∧ c = [{ v := v', recovered := false }]
  | _, _ => False

def CallSim (P : Program) (G : Nat) (f : FuncId) (args : List Value) (S : Mem) (out : Outc) (S' : Mem) : Prop :=
  (∃ fn, P.funcs[f]? = some fn ∧ fn.name ≠ "runtime.NumGoroutine" ∧ fn.body.isSome = true) ∧
  ∀ (ρ : Nat → Option Loc) (args' : List Value) (w : World), LR ρ args args' → SR ρ S w → Glob G ρ → Calls P f args'.toArray w fun en w' => ∃ ρ', OR ρ' out en ∧ SR ρ' S' w' ∧ Stp ρ S w ρ' S' w'
def After (n : Nat) (ds : List Deferred) (ρ : Nat → Option Loc) (S : Mem) (w : World) (x : Xit) (e' : Env) (S' : Mem) (ex : Exit) (a' : Act) (w' : World) : Prop :=
  ∃ ρ', XR ρ' x ex ∧ ER ρ' e' a' ∧ SR ρ' S' w' ∧ Stp ρ S w ρ' S' w' ∧ a'.tmps.size = n ∧ a'.defers = ds

def Sim (P : Program) (G : Nat) : Jg → Prop
  | .j (.ops fl ops is e S none e' S') => Tr P G fl ops is e S e' S'
  | .j (.ops fl ops is e S (some v) e' S') => ∀ (n : Nat) (ds : List Deferred) (ρ : Nat → Option Loc) (a : Act) (w : World) (Q : Exit → Act → World → Prop), opsOk n G ops = true → ER ρ e a → SR ρ S w → Glob G ρ → a.tmps.size = n → a.defers = ds →
      (∀ v' ρ' a' w', VR ρ' v v' → ER ρ' e' a' → SR ρ' S' w' → Stp ρ S w ρ' S' w' → a'.tmps.size = n → a'.defers = ds → Q (.panic [{ v := v', recovered := false }]) a' w') → wpOps P ops Q is a w
  | .j (.code c e S x e' S') => ∀ (n : Nat) (ρ : Nat → Option Loc) (a : Act) (w : World), codeOk P n G c = true → ER ρ e a → SR ρ S w → Glob G ρ → a.tmps.size = n → c.wp P (After n a.defers ρ S w x e' S') a w ∧
      ∀ c', c = .loop c' → ∀ (b : Frame) (k : List Item) (cs : List Frame), ∃ ex a' w', After n a.defers ρ S w x e' S' ex a' w' ∧ Arrives P (lone (b.at a (.code c' :: .inLoop c' :: k)) cs w) b k cs ex a' w'
  | .j (.call f args S out S') => CallSim P G f args S out S'
  | .scope body c e S x e' S' => ∀ (n : Nat) (ρ : Nat → Option Loc) (a : Act) (w : World), codeOk P n G body = true → codeOk P n G c = true → ER ρ e a → SR ρ S w → Glob G ρ → a.tmps.size = n →
      ∀ (b : Frame) (k : List Item) (cs : List Frame), ∃ ex a' w', After n a.defers ρ S w x e' S' ex a' w' ∧ Arrives P (lone (b.at a (.code c :: .inScope body :: k)) cs w) b k cs ex a' w'

section
variable {P : Program} {G : Nat}

theorem Glob.mono {ρ ρ' : Nat → Option Loc} (h : Glob G ρ) (hs : Sub ρ ρ') : Glob G ρ' := fun g hg => (h g hg).mono hs

theorem call_run {o : Oper} {e : Env} {a : Act} {f : FuncId} {args : List Value} {ρ : Nat → Option Loc} {w : World} (h : acall o e.eval = some (f, args)) (hv : ∀ x ∈ o.op.operands, VR ρ (e.eval x) (a.eval x))
    (hf : ∃ fn, P.funcs[f]? = some fn ∧ fn.name ≠ "runtime.NumGoroutine" ∧ fn.body.isSome = true) : ∃ args', LR ρ args args' ∧ (execOp a.eval o).run P w = .ok (.enter f args'.toArray) w := by
  unfold acall at h
  split at h
  · rename_i c ho
    split at h
    · rename_i fv hcal
      split at h
      · rename_i f' first captured hfv
        cases h
        have m0 := hv fv (by simp [ho, Op.operands, Call.operands, hcal])
        rw [hfv] at m0
        obtain ⟨fn, h1, h2, h3⟩ := hf
        obtain ⟨first', captured', hev, hl1, hl2⟩ : ∃ f2 c2, a.eval fv = .func (.func f) f2 c2 ∧ LR ρ first.toList f2.toList ∧ LR ρ captured.toList c2.toList := by
          generalize a.eval fv = u at m0
          cases m0 with
          | func _ _ f2 _ c2 q1 q2 q3 q4 => exact ⟨f2, c2, rfl, ⟨by simpa using q1, fun i v v' x y => q3 i v v' (by simpa using x) (by simpa using y)⟩, ⟨by simpa using q2, fun i v v' x y => q4 i v v' (by simpa using x) (by simpa using y)⟩⟩
        have hl3 : LR ρ (c.args.toList.map e.eval) (c.args.toList.map a.eval) := by
          refine ⟨by simp, fun i v v' x y => ?_⟩
          rw [List.getElem?_map, Option.map_eq_some_iff] at x y
          obtain ⟨q, hq, rfl⟩ := x
          obtain ⟨q', hq', rfl⟩ := y
          rw [hq] at hq'; cases hq'
          exact hv q (by simp [ho, Op.operands, Call.operands, hcal]; right; exact List.mem_of_getElem? hq |> fun h => by simpa using h)
        refine ⟨first'.toList ++ c.args.toList.map a.eval ++ captured'.toList, (hl1.append hl3).append hl2, ?_⟩
        have hnm : (fn.name == "runtime.NumGoroutine") = false := by simpa using h2
        have hbn : fn.body.isNone = false := by cases hb : fn.body <;> simp [hb] at h3 ⊢
        simp only [execOp, ho, resolve, hcal, Sem.run_bind, Deferred.ofValue, hev, Sem.run_pure, Result.andThen_ok, invoke, callFunc, run_program, h1, hnm, hbn, Bool.false_eq_true, if_false]
        congr 2
        simp [List.append_assoc]
      · cases h
    · cases h
  · cases h

theorem acall_kind {o : Oper} {ev : Operand → Value} {f : FuncId} {args : List Value} (h : acall o ev = some (f, args)) : opKind P o = 4 := by
  unfold acall at h
  split at h
  · rename_i c ho
    split at h
    · rename_i fv hcal; simp [opKind, ho, hcal]
    · cases h
  · cases h
theorem aeff_kind {o : Oper} {ev : Operand → Value} {S S' : Mem} {v : Value} (h : aeff P o ev S = some (v, S')) : (opKind P o = 2 ∨ opKind P o = 3) ∧ (opKind P o = 2 → Cons S S') := by
  unfold aeff at h
  split at h
  · rename_i t ho
    rw [Option.map_eq_some_iff] at h
    obtain ⟨z, _, h⟩ := h
    cases h
    exact ⟨.inl (by simp [opKind, ho]), fun _ => Cons.push _ _⟩
  · rename_i t x ho; cases h; exact ⟨.inl (by simp [opKind, ho]), fun _ => Cons.push _ _⟩
  · rename_i t len parts ho
    refine ⟨.inl (by simp [opKind, ho]), fun _ => ?_⟩
    split at h
    · split at h
      · split at h
        · rw [Option.map_eq_some_iff] at h
          obtain ⟨z, _, h⟩ := h
          cases h
          exact Cons.push _ _
        · cases h
      · cases h
    · cases h
  · rename_i t a x ho; exact ⟨.inr (by simp [opKind, ho]), fun hk => by simp [opKind, ho] at hk⟩
  · rename_i t l c ho
    refine ⟨.inl (by simp [opKind, ho]), fun _ => ?_⟩
    split at h
    · split at h
      · split at h
        · cases h; exact Cons.push _ _
        · cases h
      · cases h
    · cases h
  · rename_i src dst x ho
    split at h
    · rename_i s e hx hs hd
      split at h
      · cases h; exact ⟨.inl (by simp [opKind, ho, hs]), fun _ => Cons.push _ _⟩
      · cases h
    · cases h
  · rename_i c ho
    split at h
    · rename_i hcal; exact ⟨.inr (by simp [opKind, ho, hcal]), fun hk => by simp [opKind, ho, hcal] at hk⟩
    · rename_i hcal; exact ⟨.inr (by simp [opKind, ho, hcal]), fun hk => by simp [opKind, ho, hcal] at hk⟩
    · cases h
  · cases h

theorem sim_call {o : Oper} {e : Env} {f : FuncId} {args : List Value} {S S1 : Mem} {v : Value} (hc : acall o e.eval = some (f, args)) (h : CallSim P G f args S (.ret v) S1) : OpSim P G o e S v S1 := fun ρ a w K Q hv hS hG hK => by
  obtain ⟨args', hl, hrun⟩ := call_run (P := P) (w := w) hc hv h.1
  unfold Oper.wp
  rw [hrun, Oper.upon_enter]
  refine (h.2 ρ args' w hl hS hG).mono fun en w' ⟨ρ', h1, h2, h3⟩ => ?_
  cases en with
  | returned v' => exact hK v' ρ' w' h1 h2 h3
  | panicked c => exact h1.elim
  | outgrown => exact h1.elim

def rvar (tmps : Array Value) : ResultVar → Sem Value
  | .tmp t => pure (tmps.getD t undef)
  | .cell x t => do loadVar t (← asAddr (tmps.getD x undef))
theorem results_unf (fn : Func) (tmps : Array Value) : results fn tmps = (do
    let vs ← fn.results.mapM (rvar tmps)
    pure (if h : vs.size = 1 then vs[0] else .tuple vs)) := rfl
theorem res1_sound {ρ : Nat → Option Loc} {e : Env} {a : Act} {S : Mem} {w : World} {r : ResultVar} {v : Value} (hE : ER ρ e a) (hS : SR ρ S w) (h : ares1 P e S r = some v) :
    ∃ v', VR ρ v v' ∧ (rvar a.tmps r).run P w = .ok v' w := by
  cases r with
  | tmp t => simp only [ares1, Option.some.injEq] at h; subst h; exact ⟨_, hE t, rfl⟩
  | cell x t =>
    simp only [ares1] at h
    obtain ⟨v', a', ha, hr, hrun⟩ := aloadAt_sound (P := P) hS h (hE x)
    exact ⟨v', hr, by simp only [rvar, Sem.run_bind, ha, asAddr, Sem.run_pure, Result.andThen_ok, hrun]⟩
theorem results_sound {fn : Func} {ρ : Nat → Option Loc} {e : Env} {a : Act} {S : Mem} {w : World} {v : Value} (hE : ER ρ e a) (hS : SR ρ S w) (h : aresults P fn e S = some v) :
    ∃ v', VR ρ v v' ∧ (results fn a.tmps).run P w = .ok v' w := by
  obtain ⟨rs, hrs⟩ : ∃ rs, fn.results = rs := ⟨_, rfl⟩
  obtain ⟨l⟩ := rs
  unfold aresults at h
  rw [hrs] at h
  have one : ∀ r v, ares1 P e S r = some v → ∃ v', VR ρ v v' ∧ (rvar a.tmps r).run P w = .ok v' w := fun r v h => res1_sound hE hS h
  rw [results_unf, hrs]
  match l, h with
  | [], h => simp only [Option.some.injEq] at h; subst h; exact ⟨_, flat_VR ρ undef_flat, by simp [undef]⟩
  | [r], h =>
    obtain ⟨v', h1, h2⟩ := one r v h
    exact ⟨v', h1, by simp only [List.mapM_toArray, List.mapM_cons, List.mapM_nil, Sem.run_bind, Sem.run_map, h2, Result.andThen_ok, Sem.run_pure, map_eq_pure_bind]; simp⟩
  | [r, s], h =>
    simp only [Option.bind_eq_some_iff, Option.map_eq_some_iff] at h
    obtain ⟨u1, g1, u2, g2, rfl⟩ := h
    obtain ⟨v1, h1, k1⟩ := one r u1 g1
    obtain ⟨v2, h2, k2⟩ := one s u2 g2
    refine ⟨.tuple #[v1, v2], LR.tuple (LR.cons h1 (LR.cons h2 (LR.nil ρ))), ?_⟩
    simp only [List.mapM_toArray, List.mapM_cons, List.mapM_nil, Sem.run_bind, Sem.run_map, k1, k2, Result.andThen_ok, Sem.run_pure, map_eq_pure_bind]; simp
  | [r, s, t], h =>
    simp only [Option.bind_eq_some_iff, Option.map_eq_some_iff] at h
    obtain ⟨u1, g1, u2, g2, u3, g3, rfl⟩ := h
    obtain ⟨v1, h1, k1⟩ := one r u1 g1
    obtain ⟨v2, h2, k2⟩ := one s u2 g2
    obtain ⟨v3, h3, k3⟩ := one t u3 g3
    refine ⟨.tuple #[v1, v2, v3], LR.tuple (LR.cons h1 (LR.cons h2 (LR.cons h3 (LR.nil ρ)))), ?_⟩
    simp only [List.mapM_toArray, List.mapM_cons, List.mapM_nil, Sem.run_bind, Sem.run_map, k1, k2, k3, Result.andThen_ok, Sem.run_pure, map_eq_pure_bind]; simp
  | [r, s, t, q], h =>
    simp only [Option.bind_eq_some_iff, Option.map_eq_some_iff] at h
    obtain ⟨u1, g1, u2, g2, u3, g3, u4, g4, rfl⟩ := h
    obtain ⟨v1, h1, k1⟩ := one r u1 g1
    obtain ⟨v2, h2, k2⟩ := one s u2 g2
    obtain ⟨v3, h3, k3⟩ := one t u3 g3
    obtain ⟨v4, h4, k4⟩ := one q u4 g4
    refine ⟨.tuple #[v1, v2, v3, v4], LR.tuple (LR.cons h1 (LR.cons h2 (LR.cons h3 (LR.cons h4 (LR.nil ρ))))), ?_⟩
    simp only [List.mapM_toArray, List.mapM_cons, List.mapM_nil, Sem.run_bind, Sem.run_map, k1, k2, k3, k4, Result.andThen_ok, Sem.run_pure, map_eq_pure_bind]; simp
  | _ :: _ :: _ :: _ :: _ :: _, h => simp at h

theorem of_ER {ρ : Nat → Option Loc} {args args' : List Value} (h : LR ρ args args') (n : Nat) : ER ρ (Env.of args) { tmps := args'.toArray ++ Array.replicate n undef, defers := [] } := by
  intro t
  simp only [Env.of, Array.getD_eq_getD_getElem?, List.getD_eq_getElem?_getD]
  by_cases ht : t < args.length
  · have ht' : t < args'.length := h.1 ▸ ht
    rw [Array.getElem?_append_left (by simpa using ht')]
    simp only [List.getElem?_toArray, List.getElem?_eq_getElem ht, List.getElem?_eq_getElem ht', Option.getD_some]
    exact h.2 t _ _ (List.getElem?_eq_getElem ht) (List.getElem?_eq_getElem ht')
  · have ht' : ¬ t < args'.length := h.1 ▸ ht
    rw [List.getElem?_eq_none (by omega), Array.getElem?_append_right (by simpa using ht')]
    simp only [Option.getD_none]
    by_cases h2 : t - args'.toArray.size < n
    · rw [Array.getElem?_replicate, if_pos h2]; exact flat_VR ρ undef_flat
    · rw [Array.getElem?_replicate, if_neg h2]; exact flat_VR ρ undef_flat

theorem After.trans {n : Nat} {ds : List Deferred} {ρ ρ1 : Nat → Option Loc} {S S1 : Mem} {w w1 : World} {x : Xit} {e' : Env} {S' : Mem} {ex : Exit} {a' : Act} {w' : World} (h : Stp ρ S w ρ1 S1 w1) (k : After n ds ρ1 S1 w1 x e' S' ex a' w') :
    After n ds ρ S w x e' S' ex a' w' := by
  obtain ⟨ρ', h1, h2, h3, h4, h5⟩ := k
  exact ⟨ρ', h1, h2, h3, h.trans h4, h5⟩
theorem findLabel_ok {n : Nat} : ∀ (c : Code) (l : Nat) (r : Code), codeOk P n G c = true → findLabel c l = some r → codeOk P n G r = true := by
  intro c
  induction c with
  | seq a b iha ihb =>
    intro l r hc hl
    simp only [codeOk, Bool.and_eq_true] at hc
    simp only [findLabel] at hl
    split at hl
    · rename_i rest hr
      cases hl
      simp only [codeOk, Bool.and_eq_true]
      exact ⟨iha l rest hc.1 hr, hc.2⟩
    · exact ihb l r hc.2 hl
  | label l' =>
    intro l r hc hl
    simp only [findLabel] at hl
    split at hl
    · cases hl; rfl
    · cases hl
  | _ => intro l r hc hl; simp [findLabel] at hl
theorem step_scope' {b : Frame} {a : Act} {k : List Item} {cs : List Frame} {w : World} {c : Code} :
    step P (lone (b.at a (.code (.scope c) :: k)) cs w) = .next (lone (b.at a (.code c :: .inScope c :: k)) cs w) :=
  step_lone_go (by simp [stepG, stepG.exec, Frame.at])
theorem step_inScope' {b : Frame} {a : Act} {k : List Item} {cs : List Frame} {w : World} {c : Code} :
    step P (lone (b.at a (.inScope c :: k)) cs w) = .next (lone (b.at a k) cs w) :=
  step_lone_go (by simp [stepG, stepG.exec, Frame.at])
theorem XR.notNormal {ρ : Nat → Option Loc} {x : Xit} {ex : Exit} (h : XR ρ x ex) (hx : x ≠ .nrm) : ex ≠ .normal := by
  intro e; subst e; cases x <;> first | exact hx rfl | exact h.elim
theorem then_out {next : Act → World → Prop} {Q : Exit → Act → World → Prop} {ex : Exit} {a : Act} {w : World} (hx : ex ≠ .normal) (h : Q ex a w) : Exit.then next Q ex a w := by
  cases ex <;> first | exact h | exact absurd rfl hx

set_option maxHeartbeats 1000000 in
theorem Ex.sim {Ext : FuncId → List Value → Mem → Outc → Mem → Prop} (hm : P.follows .mixedOrders = true) (hext : ∀ f args S out S', Ext f args S out S' → CallSim P G f args S out S') {j : Jg} (h : Ex P G Ext j) : Sim P G j := by
  have lift : ∀ {c : Code} {e : Env} {S : Mem} {x : Xit} {e' : Env} {S' : Mem}, (∀ c', c ≠ .loop c') → (∀ (n : Nat) (ρ : Nat → Option Loc) (a : Act) (w : World), codeOk P n G c = true → ER ρ e a → SR ρ S w → Glob G ρ → a.tmps.size = n → c.wp P (After n a.defers ρ S w x e' S') a w) →
      Sim P G (.j (.code c e S x e' S')) := fun hne h n ρ a w hok hE hS hG hn => ⟨h n ρ a w hok hE hS hG hn, fun c' hc' => absurd hc' (hne c')⟩
  induction h with
  | nil fl ops e S => exact Tr.nil e S
  | @skip fl ops i is o e S x e' S' ho hw h ih =>
    cases x with
    | none => exact Tr.skip ho hw ih
    | some v =>
      intro n ds ρ a w Q hok hE hS hG hn hd hQ
      simp only [wpOps, ho]
      rw [wanted_eq hn hok (fun t _ => hE t), hw]
      simp only [Bool.false_eq_true, if_false]
      exact ih n ds ρ _ w Q hok (put_ER hE (flat_VR ρ undef_flat) (fun d h => by rw [hn]; exact (opsOk_mem hok ho).1 d h)) hS hG (by rw [put_size]; exact hn) (by rw [put_defers']; exact hd) hQ
  | @pure fl ops i is o e S v x e' S' ho hw hp h ih =>
    cases x with
    | none => exact Tr.pure ho hw (apure_psim hp) ih
    | some u =>
      intro n ds ρ a w Q hok hE hS hG hn hd hQ
      simp only [wpOps, ho]
      rw [wanted_eq hn hok (fun t _ => hE t), hw]
      simp only [if_true]
      refine .inl (sim_pure (G := G) (apure_psim hp) _ ρ a w _ _ (fun x hx => eval_VR hG ((opsOk_mem hok ho).2 x hx) (fun t _ => hE t)) hS hG (fun v' ρ' w' h1 h2 h3 => ?_))
      exact ih n ds ρ' _ w' Q hok (put_ER (fun t => (hE t).mono h3.ext) h1 (fun d h => by rw [hn]; exact (opsOk_mem hok ho).1 d h)) h2 (hG.mono h3.ext) (by rw [put_size]; exact hn) (by rw [put_defers']; exact hd)
        (fun v' ρ'' a' w'' q1 q2 q3 q4 => hQ v' ρ'' a' w'' q1 q2 q3 (h3.trans q4))
  | @psim fl ops i is o e S v x e' S' ho hw hp h ih =>
    cases x with
    | none => exact Tr.pure ho hw hp ih
    | some u =>
      intro n ds ρ a w Q hok hE hS hG hn hd hQ
      simp only [wpOps, ho]
      rw [wanted_eq hn hok (fun t _ => hE t), hw]
      simp only [if_true]
      refine .inl (sim_pure (G := G) hp _ ρ a w _ _ (fun x hx => eval_VR hG ((opsOk_mem hok ho).2 x hx) (fun t _ => hE t)) hS hG (fun v' ρ' w' h1 h2 h3 => ?_))
      exact ih n ds ρ' _ w' Q hok (put_ER (fun t => (hE t).mono h3.ext) h1 (fun d h => by rw [hn]; exact (opsOk_mem hok ho).1 d h)) h2 (hG.mono h3.ext) (by rw [put_size]; exact hn) (by rw [put_defers']; exact hd)
        (fun v' ρ'' a' w'' q1 q2 q3 q4 => hQ v' ρ'' a' w'' q1 q2 q3 (h3.trans q4))
  | @load fl ops i is o e S v x e' S' ho hw hp h ih =>
    cases x with
    | none => exact Tr.load ho hw hp ih
    | some u =>
      intro n ds ρ a w Q hok hE hS hG hn hd hQ
      simp only [wpOps, ho]
      rw [wanted_eq hn hok (fun t _ => hE t), hw]
      simp only [if_true]
      refine .inl (sim_load (G := G) hp ρ a w _ _ (fun x hx => eval_VR hG ((opsOk_mem hok ho).2 x hx) (fun t _ => hE t)) hS hG (fun v' ρ' w' h1 h2 h3 => ?_))
      exact ih n ds ρ' _ w' Q hok (put_ER (fun t => (hE t).mono h3.ext) h1 (fun d h => by rw [hn]; exact (opsOk_mem hok ho).1 d h)) h2 (hG.mono h3.ext) (by rw [put_size]; exact hn) (by rw [put_defers']; exact hd)
        (fun v' ρ'' a' w'' q1 q2 q3 q4 => hQ v' ρ'' a' w'' q1 q2 q3 (h3.trans q4))
  | @eff fl ops i is o e S v S1 x e' S' ho hw hp h ih =>
    cases x with
    | none => exact Tr.eff ho hw (sim_eff hp) (by rcases (aeff_kind hp).1 with h | h <;> omega) (fun hk => by
        rcases hk with hk | hk
        · exact (aeff_kind hp).2 hk
        · rcases (aeff_kind (P := P) hp).1 with h | h <;> omega) ih
    | some u =>
      intro n ds ρ a w Q hok hE hS hG hn hd hQ
      simp only [wpOps, ho]
      rw [wanted_eq hn hok (fun t _ => hE t), hw]
      simp only [if_true]
      refine .inl (sim_eff (G := G) hp ρ a w _ _ (fun x hx => eval_VR hG ((opsOk_mem hok ho).2 x hx) (fun t _ => hE t)) hS hG (fun v' ρ' w' h1 h2 h3 => ?_))
      exact ih n ds ρ' _ w' Q hok (put_ER (fun t => (hE t).mono h3.ext) h1 (fun d h => by rw [hn]; exact (opsOk_mem hok ho).1 d h)) h2 (hG.mono h3.ext) (by rw [put_size]; exact hn) (by rw [put_defers']; exact hd)
        (fun v' ρ'' a' w'' q1 q2 q3 q4 => hQ v' ρ'' a' w'' q1 q2 q3 (h3.trans q4))
  | @sem fl ops i is o e S v S1 x e' S' ho hw hp hk hcons h ih =>
    cases x with
    | none => exact Tr.eff ho hw hp hk hcons ih
    | some u =>
      intro n ds ρ a w Q hok hE hS hG hn hd hQ
      simp only [wpOps, ho]
      rw [wanted_eq hn hok (fun t _ => hE t), hw]
      simp only [if_true]
      refine .inl (hp ρ a w _ _ (fun x hx => eval_VR hG ((opsOk_mem hok ho).2 x hx) (fun t _ => hE t)) hS hG (fun v' ρ' w' h1 h2 h3 => ?_))
      exact ih n ds ρ' _ w' Q hok (put_ER (fun t => (hE t).mono h3.ext) h1 (fun d h => by rw [hn]; exact (opsOk_mem hok ho).1 d h)) h2 (hG.mono h3.ext) (by rw [put_size]; exact hn) (by rw [put_defers']; exact hd)
        (fun v' ρ'' a' w'' q1 q2 q3 q4 => hQ v' ρ'' a' w'' q1 q2 q3 (h3.trans q4))
  | @call fl ops i is o e S f args v S1 x e' S' ho hw hc hcall hcons h ihc ih =>
    have hk4 : opKind P o = 4 := acall_kind hc
    cases x with
    | none => exact Tr.eff ho hw (sim_call hc ihc) (by omega) (fun hk => by
        rcases hk with hk | hk
        · omega
        · exact hcons hk.2) ih
    | some u =>
      intro n ds ρ a w Q hok hE hS hG hn hd hQ
      simp only [wpOps, ho]
      rw [wanted_eq hn hok (fun t _ => hE t), hw]
      simp only [if_true]
      refine .inl (sim_call (G := G) hc ihc ρ a w _ _ (fun x hx => eval_VR hG ((opsOk_mem hok ho).2 x hx) (fun t _ => hE t)) hS hG (fun v' ρ' w' h1 h2 h3 => ?_))
      exact ih n ds ρ' _ w' Q hok (put_ER (fun t => (hE t).mono h3.ext) h1 (fun d h => by rw [hn]; exact (opsOk_mem hok ho).1 d h)) h2 (hG.mono h3.ext) (by rw [put_size]; exact hn) (by rw [put_defers']; exact hd)
        (fun v' ρ'' a' w'' q1 q2 q3 q4 => hQ v' ρ'' a' w'' q1 q2 q3 (h3.trans q4))
  | @callPan fl ops i is o e S f args v S1 ho hw hc hcall ihc =>
    intro n ds ρ a w Q hok hE hS hG hn hd hQ
    simp only [wpOps, ho]
    rw [wanted_eq hn hok (fun t _ => hE t), hw]
    simp only [if_true]
    obtain ⟨args', hl, hrun⟩ := call_run (P := P) (w := w) hc (fun x hx => eval_VR hG ((opsOk_mem hok ho).2 x hx) (fun t _ => hE t)) ihc.1
    refine .inl ?_
    unfold Oper.wp
    rw [hrun, Oper.upon_enter]
    refine (ihc.2 ρ args' w hl hS hG).mono fun en w' ⟨ρ', h1, h2, h3⟩ => ?_
    cases en with
    | returned v' => exact h1.elim
    | panicked c =>
      obtain ⟨v', hv', rfl⟩ := h1
      exact hQ v' ρ' a w' hv' (fun t => (hE t).mono h3.ext) h2 h3 hn hd
    | outgrown => exact h1.elim
  | @panicOp fl ops i is o e S x t u ho hw hop hx =>
    intro n ds ρ a w Q hok hE hS hG hn hd hQ
    simp only [wpOps, ho]
    rw [wanted_eq hn hok (fun t _ => hE t), hw]
    simp only [if_true]
    have m0 := eval_VR (e := e) (a := a) hG ((opsOk_mem hok ho).2 x (by simp [hop, Op.operands])) (fun t _ => hE t)
    rw [hx] at m0
    obtain ⟨u', hu', hev⟩ : ∃ u', VR ρ u u' ∧ a.eval x = .iface t u' := by
      generalize a.eval x = z at m0
      cases m0 with
      | iface _ _ u' h => exact ⟨u', h, rfl⟩
    refine .inl ?_
    unfold Oper.wp
    have hrun : (execOp a.eval o).run P w = .halt (.panic (.iface t u')) w := by
      simp only [execOp, hop, hev]
      rfl
    rw [hrun]
    exact hQ (.iface t u') ρ a w (.iface t u u' hu') hE hS (Stp.refl _ _ _) hn hd
  | @region id ops draw e S e' S' h ih =>
    refine lift (fun _ => nofun) fun n ρ a w hok hE hS hG hn => ?_
    simp only [codeOk, Bool.and_eq_true, Bool.or_eq_true, Bool.not_eq_true'] at hok
    have hK : Reach G n a.defers ρ S w e' S' (After n a.defers ρ S w .nrm e' S' .normal) := fun ρ' a' w' q1 q2 q3 q4 q5 => ⟨ρ', trivial, q1, q2, q3, q4, q5⟩
    cases draw with
    | false => exact wp_region (Tr.run hok.1 ih hK ρ a w hE hS hG (Stp.refl _ _ _) hn rfl)
    | true =>
      refine wp_region_any hm ?_
      exact Tr.drawn (order_of (hok.2.resolve_left nofun)) (fun hf => by simpa using hf) hok.1 ih hK hE hS.drew hG (Stp.drew ρ S w) hn rfl
  | @regionPan id ops e S v e' S' h ih =>
    refine lift (fun _ => nofun) fun n ρ a w hok hE hS hG hn => ?_
    simp only [codeOk, Bool.and_eq_true] at hok
    exact wp_region (ih n a.defers ρ a w _ hok.1 hE hS hG hn rfl (fun v' ρ' a' w' q1 q2 q3 q4 q5 q6 => ⟨ρ', ⟨v', q1, rfl⟩, q2, q3, q4, q5, q6⟩))
  | @seq c1 c2 e S e1 S1 x e' S' h1 h2 ih1 ih2 =>
    refine lift (fun _ => nofun) fun n ρ a w hok hE hS hG hn => ?_
    simp only [codeOk, Bool.and_eq_true] at hok
    refine wp_seq (wp_mono (ih1 n ρ a w hok.1 hE hS hG hn).1 fun ex a1 w1 hA => ?_)
    obtain ⟨ρ1, q1, q2, q3, q4, q5, q6⟩ := hA
    cases ex with
    | normal =>
      have := (ih2 n ρ1 a1 w1 hok.2 q2 q3 (hG.mono q4.ext) q5).1
      rw [q6] at this
      exact wp_mono this fun ex a2 w2 hA2 => hA2.trans q4
    | _ => exact q1.elim
  | @seqOut c1 c2 e S x e' S' h1 hx ih1 =>
    refine lift (fun _ => nofun) fun n ρ a w hok hE hS hG hn => ?_
    simp only [codeOk, Bool.and_eq_true] at hok
    refine wp_seq (wp_mono (ih1 n ρ a w hok.1 hE hS hG hn).1 fun ex a1 w1 hA => ?_)
    obtain ⟨ρ1, q1, q2⟩ := hA
    exact then_out (q1.notNormal hx) ⟨ρ1, q1, q2⟩
  | @cond c ca cb t e S x e' S' hc h ih =>
    refine lift (fun _ => nofun) fun n ρ a w hok hE hS hG hn => ?_
    simp only [codeOk, Bool.and_eq_true] at hok
    have hv := eval_VR (e := e) (a := a) hG hok.1.1 (fun t _ => hE t)
    rw [hc] at hv
    have hb := hv.scalar_eq rfl
    refine wp_cond hb (ih n ρ a w ?_ hE hS hG hn).1
    cases t
    · exact hok.2
    · exact hok.1.2
  | @block id c e S x e' S' h ih =>
    refine lift (fun _ => nofun) fun n ρ a w hok hE hS hG hn => ?_
    simp only [codeOk] at hok
    refine wp_block (wp_mono (ih n ρ a w hok hE hS hG hn).1 fun ex a1 w1 hA => ?_)
    obtain ⟨ρ1, q1, q2⟩ := hA
    cases ex <;> cases x <;> first | exact q1.elim | skip
    · exact ⟨ρ1, trivial, q2⟩
    · rename_i i1 i2
      have hi : i2 = i1 := q1
      subst hi
      by_cases hid : i2 = id
      · subst hid
        simp only [Exit.inBlock, if_true]
        exact ⟨ρ1, by simp [Xit.inBlock, XR], q2⟩
      · simp only [Exit.inBlock, hid, if_false]
        exact ⟨ρ1, by simp [Xit.inBlock, hid, XR], q2⟩
    · exact ⟨ρ1, q1, q2⟩
    · exact ⟨ρ1, trivial, q2⟩
    · exact ⟨ρ1, q1, q2⟩
  | @loop c e S e1 S1 x e' S' h1 h2 ih1 ih2 =>
    intro n ρ a w hok hE hS hG hn
    have hok' := hok
    simp only [codeOk] at hok
    have key : ∀ (b : Frame) (k : List Item) (cs : List Frame), ∃ ex a' w', After n a.defers ρ S w x e' S' ex a' w' ∧ Arrives P (lone (b.at a (.code c :: .inLoop c :: k)) cs w) b k cs ex a' w' := by
      intro b k cs
      obtain ⟨ex, a1, w1, ⟨ρ1, q1, q2, q3, q4, q5, q6⟩, harr⟩ := (ih1 n ρ a w hok hE hS hG hn).1 b (.inLoop c :: k) cs
      cases ex with
      | normal =>
        obtain ⟨ex2, a2, w2, hA, harr2⟩ := (ih2 n ρ1 a1 w1 hok' q2 q3 (hG.mono q4.ext) q5).2 c rfl b k cs
        rw [q6] at hA
        exact ⟨ex2, a2, w2, hA.trans q4, .of_steps (Steps.trans harr (.one step_inLoop)) harr2⟩
      | _ => exact q1.elim
    exact ⟨fun b k cs => let ⟨ex, a', w', hA, harr⟩ := key b k cs; ⟨ex, a', w', hA, .of_steps (.one step_loop) harr⟩, fun c' hc' => by cases hc'; exact key⟩
  | @loopOut c e S x e' S' h1 hx ih1 =>
    intro n ρ a w hok hE hS hG hn
    simp only [codeOk] at hok
    have key : ∀ (b : Frame) (k : List Item) (cs : List Frame), ∃ ex a' w', After n a.defers ρ S w x e' S' ex a' w' ∧ Arrives P (lone (b.at a (.code c :: .inLoop c :: k)) cs w) b k cs ex a' w' := by
      intro b k cs
      obtain ⟨ex, a1, w1, ⟨ρ1, q1, q2⟩, harr⟩ := (ih1 n ρ a w hok hE hS hG hn).1 b (.inLoop c :: k) cs
      have hne := q1.notNormal hx
      exact ⟨ex, a1, w1, ⟨ρ1, q1, q2⟩, .pass (x := .inLoop c) rfl (fun _ _ => .inl hne) harr⟩
    exact ⟨fun b k cs => let ⟨ex, a', w', hA, harr⟩ := key b k cs; ⟨ex, a', w', hA, .of_steps (.one step_loop) harr⟩, fun c' hc' => by cases hc'; exact key⟩
  | exit id e S => exact lift (fun _ => nofun) fun n ρ a w hok hE hS hG hn => wp_exit ⟨ρ, rfl, hE, hS, Stp.refl _ _ _, hn, rfl⟩
  | goto l e S => exact lift (fun _ => nofun) fun n ρ a w hok hE hS hG hn => wp_goto ⟨ρ, rfl, hE, hS, Stp.refl _ _ _, hn, rfl⟩
  | ret e S => exact lift (fun _ => nofun) fun n ρ a w hok hE hS hG hn => wp_ret ⟨ρ, trivial, hE, hS, Stp.refl _ _ _, hn, rfl⟩
  | skipC e S => exact lift (fun _ => nofun) fun n ρ a w hok hE hS hG hn => wp_skip ⟨ρ, trivial, hE, hS, Stp.refl _ _ _, hn, rfl⟩
  | label l e S => exact lift (fun _ => nofun) fun n ρ a w hok hE hS hG hn => wp_label ⟨ρ, trivial, hE, hS, Stp.refl _ _ _, hn, rfl⟩
  | @scope body e S x e' S' h ih =>
    refine lift (fun _ => nofun) fun n ρ a w hok hE hS hG hn => ?_
    simp only [codeOk] at hok
    intro b k cs
    obtain ⟨ex, a', w', hA, harr⟩ := ih n ρ a w hok hok hE hS hG hn b k cs
    exact ⟨ex, a', w', hA, .of_steps (.one step_scope') harr⟩
  | @inScope body c e S x e' S' h hx ih =>
    intro n ρ a w hokB hok hE hS hG hn b k cs
    obtain ⟨ex, a1, w1, ⟨ρ1, q1, q2⟩, harr⟩ := (ih n ρ a w hok hE hS hG hn).1 b (.inScope body :: k) cs
    refine ⟨ex, a1, w1, ⟨ρ1, q1, q2⟩, ?_⟩
    cases ex with
    | normal => exact Steps.trans harr (.one step_inScope')
    | exit id => exact fun k' hk => harr k' (by simpa [exitTo] using hk)
    | goto l =>
      refine fun k' hk => harr k' ?_
      cases x with
      | goto l' =>
        have hl : l' = l := q1
        subst hl
        simp [gotoIn, hx l' rfl, hk]
      | _ => exact q1.elim
    | ret => exact harr
    | panic ch => exact harr
    | outgrown => cases x <;> exact q1.elim
  | @jump body c e S l rest e1 S1 x e' S' h1 hl h2 ih1 ih2 =>
    intro n ρ a w hokB hok hE hS hG hn b k cs
    obtain ⟨ex, a1, w1, ⟨ρ1, q1, q2, q3, q4, q5, q6⟩, harr⟩ := (ih1 n ρ a w hok hE hS hG hn).1 b (.inScope body :: k) cs
    cases ex with
    | goto l' =>
      have hll : l = l' := q1
      subst hll
      obtain ⟨ex2, a2, w2, hA, harr2⟩ := ih2 n ρ1 a1 w1 hokB (findLabel_ok body l rest hokB hl) q2 q3 (hG.mono q4.ext) q5 b k cs
      rw [q6] at hA
      exact ⟨ex2, a2, w2, hA.trans q4, .of_steps (harr _ (by simp [gotoIn, hl])) harr2⟩
    | _ => exact q1.elim
  | @fn f args fn c S x e' v S' hf hb hok ha h hx hr ih =>
    simp only [fnOk, Bool.and_eq_true, bne_iff_ne, ne_eq] at hok
    refine ⟨⟨fn, hf, hok.1.2, by rw [hb]; rfl⟩, fun ρ args' w hl hS hG => ?_⟩
    have hsz : ({ tmps := args'.toArray ++ Array.replicate (fn.ntmps - args'.toArray.size) undef, defers := [] } : Act).tmps.size = fn.ntmps := by
      have := hl.1; simp; omega
    refine calls_of_wp hf hb (wp_mono (ih fn.ntmps ρ _ w hok.1.1 (of_ER hl _) hS hG hsz).1 fun ex a1 w1 hA => ?_)
    obtain ⟨ρ1, q1, q2, q3, q4, q5, q6⟩ := hA
    obtain ⟨v', hv', hrun⟩ := results_sound (P := P) q2 q3 hr
    have fin : a1.defers = [] ∧ ∃ v, (results fn a1.tmps).run P w1 = .ok v w1 ∧ ∃ ρ', OR ρ' (.ret _) (.returned v) ∧ SR ρ' S' w1 ∧ Stp ρ S w ρ' S' w1 := ⟨q6, v', hrun, ρ1, hv', q3, q4⟩
    rcases hx with rfl | rfl
    · cases ex <;> first | exact fin | exact q1.elim
    · cases ex <;> first | exact fin | exact q1.elim
  | @fnPan f args fn c S e' v S' hf hb hok ha h ih =>
    simp only [fnOk, Bool.and_eq_true, bne_iff_ne, ne_eq] at hok
    refine ⟨⟨fn, hf, hok.1.2, by rw [hb]; rfl⟩, fun ρ args' w hl hS hG => ?_⟩
    have hsz : ({ tmps := args'.toArray ++ Array.replicate (fn.ntmps - args'.toArray.size) undef, defers := [] } : Act).tmps.size = fn.ntmps := by
      have := hl.1; simp; omega
    refine calls_of_wp hf hb (wp_mono (ih fn.ntmps ρ _ w hok.1.1 (of_ER hl _) hS hG hsz).1 fun ex a1 w1 hA => ?_)
    obtain ⟨ρ1, q1, q2, q3, q4, q5, q6⟩ := hA
    cases ex with
    | panic ch =>
      obtain ⟨v', hv', rfl⟩ := q1
      exact ⟨q6, ρ1, ⟨v', hv', rfl⟩, q3, q4⟩
    | _ => exact q1.elim
  | ext h => exact hext _ _ _ _ _ h
end
end Go.Proofs.YtlnlcddbllcehaaDoor

/- The abstract memory in which a call begins is the world's own; a call that changes nothing there leaves the world below as it was. Conditions: none. -/
set_option linter.unusedSimpArgs false
set_option linter.unusedVariables false
namespace Go.Proofs.YtlnlcddbllcehaaDoor
open Go Go.RowKit

def rho0 (W : World) (N : Nat) : Nat → Option Loc := fun r => if r < W.heap.size + N then some ⟨r, 0, 0⟩ else none
/-- a value that every renaming leaves as it is, if it leaves the first blocks where they are (N block numbers behind the world's own are names too: an empty slice may point there) -/
def Fixed (W : World) (N : Nat) (v : Value) : Prop := VR (rho0 W N) v v ∧ ∀ ρ v', Sub (rho0 W N) ρ → VR ρ v v' → v' = v
open Classical in
noncomputable def seen (W : World) (N : Nat) (v : Value) : Value := if Fixed W N v then v else .tuple #[]
theorem seen_fixed {W : World} {N : Nat} {v : Value} (h : Fixed W N v) : seen W N v = v := if_pos h
theorem seen_not {W : World} {N : Nat} {v : Value} (h : ¬ Fixed W N v) : seen W N v = .tuple #[] := if_neg h
noncomputable def row0 (W : World) (N : Nat) : Obj → Row
  | .cells c e fz => ⟨c.toList.map (seen W N), e, true, 0, .live, some fz, none⟩
  | _ => ⟨[], 0, true, 0, .opq, none, none⟩
noncomputable def mem0 (W : World) (N : Nat := 0) : Mem := W.heap.toList.map (row0 W N) ++ List.replicate N ⟨[], 0, true, 0, .opq, none, none⟩

theorem fixed_scalar (W : World) (N : Nat) {v : Value} (h : scalar v = true) : Fixed W N v := ⟨scalar_VR _ h, fun _ _ _ hv => hv.scalar_eq h⟩
theorem fixed_slice {W : World} {N : Nat} {a : Addr} {n c : Nat} (hb : a.block < W.heap.size + N) (hc : c < UNK) : Fixed W N (.slice (some a) n c) := by
  have hA : At (rho0 W N) a.block a.block := ⟨⟨a.block, 0, 0⟩, if_pos hb, rfl⟩
  refine ⟨.sl _ _ _ _ _ hA rfl rfl ⟨fun _ => rfl, fun h => by omega⟩, fun ρ v' hs hv => ?_⟩
  cases hv with
  | sl _ a' _ _ c' h1 h2 h3 h4 =>
    have e1 := At.inj (hA.mono hs) h1
    obtain ⟨x, y, z⟩ := a
    obtain ⟨x', y', z'⟩ := a'
    simp only at e1 h2 h3
    rw [h4.1 hc, ← e1, h2, h3]
theorem mem0_len (W : World) (N : Nat) : (mem0 W N).length = W.heap.size + N := by simp [mem0]
theorem mem0_get (W : World) (N r : Nat) (h : r < W.heap.size) : (mem0 W N)[r]? = (W.heap[r]?).map (row0 W N) := by
  unfold mem0
  rw [List.getElem?_append_left (by simpa using h)]; simp
/-- a row of the world: what is fixed in it is known -/
theorem mem0_live {W : World} {N b : Nat} {c : Array Value} {e : TypeId} {fz : Nat × Nat} (h : W.heap[b]? = some (.cells c e fz)) : ∃ r, (mem0 W N).row? b = some r ∧ r.cells.length = c.size ∧ ∀ (i : Nat) (v : Value), c[i]? = some v → Fixed W N v → r.cells[i]? = some v := by
  refine ⟨row0 W N (.cells c e fz), Mem.row?_of ?_ rfl, by simp [row0], fun i v hv hf => ?_⟩
  · rw [mem0_get W N b (Array.getElem?_eq_some_iff.1 h).1, h]; rfl
  · have : (c.toList.map (seen W N))[i]? = some v := by
      rw [List.getElem?_map, Array.getElem?_toList, hv, Option.map_some, seen_fixed hf]
    exact this

theorem sr0 (W : World) (N : Nat) : SR (rho0 W N) (mem0 W N) W := by
  have get : ∀ r L, rho0 W N r = some L → r < W.heap.size + N ∧ L = ⟨r, 0, 0⟩ := fun r L h => by
    unfold rho0 at h
    split at h
    · cases h; exact ⟨by assumption, rfl⟩
    · cases h
  have old : ∀ (r : Nat) (x : Row), (mem0 W N)[r]? = some x → x.st ≠ .opq → r < W.heap.size := fun r x hx hl => by
    rcases Nat.lt_or_ge r W.heap.size with h | h
    · exact h
    · unfold mem0 at hx
      rw [List.getElem?_append_right (by simpa using h), List.getElem?_replicate] at hx
      split at hx
      · cases hx; exact absurd rfl hl
      · cases hx
  refine ⟨fun r x hx hl => ?_, fun r L h => ?_, fun r r' x x' b h1 h2 _ _ _ _ => ?_, fun r x s p hx hit => ?_⟩
  · have hr := old r x hx (by rw [hl]; nofun)
    rw [mem0_get W N r hr, Option.map_eq_some_iff] at hx
    obtain ⟨o, ho, rfl⟩ := hx
    cases o with
    | cells c e fz =>
      refine ⟨⟨r, 0, 0⟩, if_pos (by omega), ⟨c, fz, ho, by simp [row0], fun _ => by simp [row0], nofun, fun f h => by cases h; rfl, nofun, fun i v hv => ?_⟩⟩
      simp only [row0, List.getElem?_map, Option.map_eq_some_iff] at hv
      obtain ⟨u, hu, rfl⟩ := hv
      by_cases hf : Fixed W N u
      · rw [seen_fixed hf]; exact .inr ⟨u, by simpa using hu, hf.1⟩
      · rw [seen_not hf]; exact .inl ⟨by simp [row0], rfl⟩
    | _ => simp [row0] at hl
  · obtain ⟨h1, rfl⟩ := get r L h
    exact ⟨by rw [mem0_len]; exact h1, fun x hx hxo => old r x hx hxo⟩
  · obtain ⟨L, a1, a2⟩ := h1
    obtain ⟨M, b1, b2⟩ := h2
    obtain ⟨_, rfl⟩ := get _ _ a1
    obtain ⟨_, rfl⟩ := get _ _ b1
    exact a2.trans b2.symm
  · exfalso
    unfold mem0 at hx
    rw [List.getElem?_append] at hx
    split at hx
    · rw [List.getElem?_map, Option.map_eq_some_iff] at hx
      obtain ⟨o, _, rfl⟩ := hx
      cases o <;> simp [row0] at hit
    · rw [List.getElem?_replicate] at hx
      split at hx
      · cases hx; cases hit
      · cases hx

theorem glob0 {W : World} {N G : Nat} (h : G ≤ W.heap.size) : Glob G (rho0 W N) := fun g hg => ⟨⟨g, 0, 0⟩, if_pos (by omega), rfl⟩

theorem below_of {W w' : World} {N : Nat} {ρ' : Nat → Option Loc} {S' : Mem} (hs : SR ρ' S' w') (hst : Stp (rho0 W N) (mem0 W N) W ρ' S' w') (hc : Cons (mem0 W N) S') : Below W.heap.size W w' := by
  refine ⟨hst.os, hst.tape, hst.output, hst.size, fun b hb => ?_⟩
  obtain ⟨o, ho⟩ : ∃ o, W.heap[b]? = some o := ⟨_, Array.getElem?_eq_getElem hb⟩
  have h0 : (mem0 W N)[b]? = some (row0 W N o) := by rw [mem0_get W N b hb, ho]; rfl
  refine hst.frame b hb fun r hr => ?_
  obtain ⟨L, h1, h2⟩ := hr
  unfold rho0 at h1
  split at h1
  · cases h1
    simp only at h2
    subst h2
    refine ⟨_, h0, ?_⟩
    cases o <;> simp [row0]
  · cases h1

/-- FROM THE ABSTRACT MACHINE TO THE REAL ONE: a call that leaves what was there alone -/
theorem top {P : Program} {G : Nat} {Ext : FuncId → List Value → Mem → Outc → Mem → Prop} (hm : P.follows .mixedOrders = true) (hext : ∀ f args S out S', Ext f args S out S' → CallSim P G f args S out S')
    {W : World} {N : Nat} {f : FuncId} {args : List Value} {v : Value} {S' : Mem} (hG : G ≤ W.heap.size) (hargs : ∀ a ∈ args, VR (rho0 W N) a a) (h : Ex P G Ext (.j (.call f args (mem0 W N) (.ret v) S'))) (hc : Cons (mem0 W N) S') :
    Calls P f args.toArray W fun e w' => ∃ v' ρ', e = .returned v' ∧ VR ρ' v v' ∧ Below W.heap.size W w' := by
  have hs := (h.sim hm hext).2 (rho0 W N) args W ⟨rfl, fun i v v' a b => by rw [a] at b; cases b; exact hargs v (List.mem_of_getElem? a)⟩ (sr0 W N) (glob0 hG)
  refine hs.mono fun e w' ⟨ρ', h1, h2, h3⟩ => ?_
  cases e with
  | returned v' => exact ⟨v', ρ', rfl, h1, below_of h2 h3 hc⟩
  | _ => exact h1.elim
/-- the same for a call that answers true -/
theorem top_true {P : Program} {G : Nat} {Ext : FuncId → List Value → Mem → Outc → Mem → Prop} (hm : P.follows .mixedOrders = true) (hext : ∀ f args S out S', Ext f args S out S' → CallSim P G f args S out S')
    {W : World} {N : Nat} {f : FuncId} {args : List Value} {S' : Mem} (hG : G ≤ W.heap.size) (hargs : ∀ a ∈ args, VR (rho0 W N) a a) (h : Ex P G Ext (.j (.call f args (mem0 W N) (.ret (.bool true)) S'))) (hc : Cons (mem0 W N) S') :
    Calls P f args.toArray W fun e w' => e = .returned (.bool true) ∧ Below W.heap.size W w' :=
  (top hm hext hG hargs h hc).mono fun e w' ⟨v', ρ', h1, h2, h3⟩ => by
    rw [h2.scalar_eq rfl] at h1
    exact ⟨h1, h3⟩
end Go.Proofs.YtlnlcddbllcehaaDoor

/- Rules for the abstract machine in the form of weakest preconditions. Conditions: none. -/
set_option linter.unusedSimpArgs false
set_option linter.unusedVariables false
namespace Go.Proofs.YtlnlcddbllcehaaDoor
open Go

section
variable (P : Program) (G : Nat) (Ext : FuncId → List Value → Mem → Outc → Mem → Prop)
/-- a run of code that ends so -/
def W (c : Code) (e : Env) (S : Mem) (Q : Xit → Env → Mem → Prop) : Prop := ∃ x e' S', Ex P G Ext (.j (.code c e S x e' S')) ∧ Q x e' S'
/-- what is asked behind a region: where it ends; where it panics -/
structure Kont where
  nrm : Env → Mem → Prop
  pan : Value → Env → Mem → Prop
/-- a run of a region's operations from number i on -/
def O (fl : Bool) (ops : Array Oper) (i : Nat) (e : Env) (S : Mem) (K : Kont) : Prop := (∃ e' S', Ex P G Ext (.j (.ops fl ops (List.range' i (ops.size - i)) e S none e' S')) ∧ K.nrm e' S') ∨
  ∃ v e' S', Ex P G Ext (.j (.ops fl ops (List.range' i (ops.size - i)) e S (some v) e' S')) ∧ K.pan v e' S'
/-- a call that returns -/
def C (f : FuncId) (args : List Value) (S : Mem) (R : Value → Mem → Prop) : Prop := ∃ v S', Ex P G Ext (.j (.call f args S (.ret v) S')) ∧ R v S'
/-- a call that panics -/
def CP (f : FuncId) (args : List Value) (S : Mem) (R : Value → Mem → Prop) : Prop := ∃ v S', Ex P G Ext (.j (.call f args S (.pan v) S')) ∧ R v S'
end

def Thn (K : Env → Mem → Prop) (Q : Xit → Env → Mem → Prop) : Xit → Env → Mem → Prop
  | .nrm, e, S => K e S
  | x, e, S => Q x e S
def InB (id : Nat) (Q : Xit → Env → Mem → Prop) : Xit → Env → Mem → Prop := fun x e S => Q (x.inBlock id) e S

section
variable {P : Program} {G : Nat} {Ext : FuncId → List Value → Mem → Outc → Mem → Prop} {Q R : Xit → Env → Mem → Prop} {e : Env} {S : Mem}

theorem W.mono {c : Code} (h : W P G Ext c e S R) (hq : ∀ x e S, R x e S → Q x e S) : W P G Ext c e S Q := let ⟨x, e', S', h1, h2⟩ := h; ⟨x, e', S', h1, hq _ _ _ h2⟩
theorem C.mono {f : FuncId} {args : List Value} {R R' : Value → Mem → Prop} (h : C P G Ext f args S R) (hq : ∀ v S, R v S → R' v S) : C P G Ext f args S R' := let ⟨v, S', h1, h2⟩ := h; ⟨v, S', h1, hq _ _ h2⟩

theorem W.seq {a b : Code} (h : W P G Ext a e S (Thn (fun e S => W P G Ext b e S Q) Q)) : W P G Ext (.seq a b) e S Q := by
  obtain ⟨x, e1, S1, h1, h2⟩ := h
  cases x with
  | nrm => obtain ⟨y, e2, S2, h3, h4⟩ := h2; exact ⟨y, e2, S2, .seq h1 h3, h4⟩
  | _ => exact ⟨_, e1, S1, .seqOut h1 (by simp), h2⟩
theorem W.cond {c : Operand} {a b : Code} {t : Bool} (hc : e.eval c = .bool t) (h : W P G Ext (if t then a else b) e S Q) : W P G Ext (.cond c a b) e S Q :=
  let ⟨x, e', S', h1, h2⟩ := h; ⟨x, e', S', .cond hc h1, h2⟩
theorem W.condT {c : Operand} {a b : Code} (hc : e.eval c = .bool true) (h : W P G Ext a e S Q) : W P G Ext (.cond c a b) e S Q := W.cond hc h
theorem W.condF {c : Operand} {a b : Code} (hc : e.eval c = .bool false) (h : W P G Ext b e S Q) : W P G Ext (.cond c a b) e S Q := W.cond hc h
theorem W.block {id : Nat} {c : Code} (h : W P G Ext c e S (InB id Q)) : W P G Ext (.block id c) e S Q :=
  let ⟨x, e', S', h1, h2⟩ := h; ⟨_, e', S', .block h1, h2⟩
theorem W.exit {id : Nat} (h : Q (.exit id) e S) : W P G Ext (.exit id) e S Q := ⟨_, _, _, .exit id e S, h⟩
theorem W.ret (h : Q .ret e S) : W P G Ext .ret e S Q := ⟨_, _, _, .ret e S, h⟩
theorem W.skip (h : Q .nrm e S) : W P G Ext .skip e S Q := ⟨_, _, _, .skipC e S, h⟩
theorem W.loopStep {c : Code} (h : W P G Ext c e S (Thn (fun e S => W P G Ext (.loop c) e S Q) Q)) : W P G Ext (.loop c) e S Q := by
  obtain ⟨x, e1, S1, h1, h2⟩ := h
  cases x with
  | nrm => obtain ⟨y, e2, S2, h3, h4⟩ := h2; exact ⟨y, e2, S2, .loop h1 h3, h4⟩
  | _ => exact ⟨_, e1, S1, .loopOut h1 (by simp), h2⟩
/-- a loop, by what holds at each round's head; the number goes down -/
theorem W.loop {c : Code} (I : Nat → Env → Mem → Prop) (n : Nat) (h0 : I n e S) (step : ∀ k e S, I k e S → W P G Ext c e S (Thn (fun e' S' => ∃ k', k' < k ∧ I k' e' S') Q)) : W P G Ext (.loop c) e S Q := by
  induction n using Nat.strongRecOn generalizing e S with
  | _ n ih =>
    refine W.loopStep ((step n e S h0).mono fun x e1 S1 h => ?_)
    cases x with
    | nrm => obtain ⟨k', hk, hI⟩ := h; exact ih k' hk hI
    | _ => exact h
theorem W.region {id : Nat} {ops : Array Oper} {draw : Bool} (h : O P G Ext (draw && floaty P ops) ops 0 e S ⟨fun e S => Q .nrm e S, fun v e S => draw = false ∧ Q (.pan v) e S⟩) : W P G Ext (.region id ops draw) e S Q := by
  rcases h with ⟨e', S', h1, h2⟩ | ⟨v, e', S', h1, h2, h3⟩
  · refine ⟨_, e', S', .region ?_, h2⟩
    rw [List.range_eq_range']
    exact h1
  · subst h2
    refine ⟨_, e', S', .regionPan ?_, h3⟩
    rw [List.range_eq_range']
    exact h1

variable {fl : Bool} {ops : Array Oper} {i : Nat} {o : Oper} {K : Kont}
theorem O.done (h : ops.size ≤ i) (hK : K.nrm e S) : O P G Ext fl ops i e S K := .inl ⟨e, S, by rw [Nat.sub_eq_zero_of_le h]; exact .nil _ _ _ _, hK⟩
theorem range_step (ho : ops[i]? = some o) : List.range' i (ops.size - i) = i :: List.range' (i + 1) (ops.size - (i + 1)) := by
  have := (Array.getElem?_eq_some_iff.1 ho).1
  rw [show ops.size - i = (ops.size - (i + 1)) + 1 from by omega, List.range'_succ]
theorem O.skip (ho : ops[i]? = some o) (hw : awanted ops o e = false) (h : O P G Ext fl ops (i + 1) (e.put o.dst undef) S K) : O P G Ext fl ops i e S K := by
  rcases h with ⟨e', S', h1, h2⟩ | ⟨v, e', S', h1, h2⟩
  · exact .inl ⟨e', S', by rw [range_step ho]; exact .skip ho hw h1, h2⟩
  · exact .inr ⟨v, e', S', by rw [range_step ho]; exact .skip ho hw h1, h2⟩
theorem O.pure {v : Value} (ho : ops[i]? = some o) (hw : awanted ops o e = true) (hp : apure P o e.eval = some v) (h : O P G Ext fl ops (i + 1) (e.put o.dst v) S K) : O P G Ext fl ops i e S K := by
  rcases h with ⟨e', S', h1, h2⟩ | ⟨v, e', S', h1, h2⟩
  · exact .inl ⟨e', S', by rw [range_step ho]; exact .pure ho hw hp h1, h2⟩
  · exact .inr ⟨v, e', S', by rw [range_step ho]; exact .pure ho hw hp h1, h2⟩
theorem O.psim {v : Value} (ho : ops[i]? = some o) (hw : awanted ops o e = true) (hp : PSim P o e.eval v) (h : O P G Ext fl ops (i + 1) (e.put o.dst v) S K) : O P G Ext fl ops i e S K := by
  rcases h with ⟨e', S', h1, h2⟩ | ⟨v, e', S', h1, h2⟩
  · exact .inl ⟨e', S', by rw [range_step ho]; exact .psim ho hw hp h1, h2⟩
  · exact .inr ⟨v, e', S', by rw [range_step ho]; exact .psim ho hw hp h1, h2⟩
theorem O.sem {v : Value} {S1 : Mem} (ho : ops[i]? = some o) (hw : awanted ops o e = true) (hp : OpSim P G o e S v S1) (hk : 2 ≤ opKind P o) (hcons : opKind P o = 2 ∨ (opKind P o = 4 ∧ fl = true) → Cons S S1) (h : O P G Ext fl ops (i + 1) (e.put o.dst v) S1 K) : O P G Ext fl ops i e S K := by
  rcases h with ⟨e', S', h1, h2⟩ | ⟨v, e', S', h1, h2⟩
  · exact .inl ⟨e', S', by rw [range_step ho]; exact .sem ho hw hp hk hcons h1, h2⟩
  · exact .inr ⟨v, e', S', by rw [range_step ho]; exact .sem ho hw hp hk hcons h1, h2⟩
theorem O.load {v : Value} (ho : ops[i]? = some o) (hw : awanted ops o e = true) (hp : aload P o e.eval S = some v) (h : O P G Ext fl ops (i + 1) (e.put o.dst v) S K) : O P G Ext fl ops i e S K := by
  rcases h with ⟨e', S', h1, h2⟩ | ⟨v, e', S', h1, h2⟩
  · exact .inl ⟨e', S', by rw [range_step ho]; exact .load ho hw hp h1, h2⟩
  · exact .inr ⟨v, e', S', by rw [range_step ho]; exact .load ho hw hp h1, h2⟩
theorem O.eff {v : Value} {S1 : Mem} (ho : ops[i]? = some o) (hw : awanted ops o e = true) (hp : aeff P o e.eval S = some (v, S1)) (h : O P G Ext fl ops (i + 1) (e.put o.dst v) S1 K) : O P G Ext fl ops i e S K := by
  rcases h with ⟨e', S', h1, h2⟩ | ⟨v, e', S', h1, h2⟩
  · exact .inl ⟨e', S', by rw [range_step ho]; exact .eff ho hw hp h1, h2⟩
  · exact .inr ⟨v, e', S', by rw [range_step ho]; exact .eff ho hw hp h1, h2⟩
theorem O.call {f : FuncId} {args : List Value} (ho : ops[i]? = some o) (hw : awanted ops o e = true) (hc : acall o e.eval = some (f, args))
    (hcall : C P G Ext f args S fun v S1 => (fl = true → Cons S S1) ∧ O P G Ext fl ops (i + 1) (e.put o.dst v) S1 K) : O P G Ext fl ops i e S K := by
  obtain ⟨v, S1, h0, hcons, h⟩ := hcall
  rcases h with ⟨e', S', h1, h2⟩ | ⟨u, e', S', h1, h2⟩
  · exact .inl ⟨e', S', by rw [range_step ho]; exact .call ho hw hc h0 hcons h1, h2⟩
  · exact .inr ⟨u, e', S', by rw [range_step ho]; exact .call ho hw hc h0 hcons h1, h2⟩
theorem O.panic {x : Operand} {t : TypeId} {u : Value} (ho : ops[i]? = some o) (hw : awanted ops o e = true) (hop : o.op = .panic x) (hx : e.eval x = .iface t u) (h : K.pan (.iface t u) e S) : O P G Ext fl ops i e S K :=
  .inr ⟨.iface t u, e, S, by rw [range_step ho]; exact .panicOp ho hw hop hx, h⟩

/-- a call, by its function's text -/
theorem C.fn {f : FuncId} {fn : Func} {c : Code} {args : List Value} {R : Value → Mem → Prop} (hf : P.funcs[f]? = some fn) (hb : fn.body = some c) (hok : fnOk P G fn c = true) (ha : Nat.ble args.length fn.ntmps = true)
    (h : W P G Ext c (Env.of args) S fun x e' S' => (x = .nrm ∨ x = .ret) ∧ ∃ v, aresults P fn e' S' = some v ∧ R v S') : C P G Ext f args S R := by
  obtain ⟨x, e', S', h1, hx, v, hr, hR⟩ := h
  exact ⟨v, S', .fn hf hb hok (Nat.le_of_ble_eq_true ha) h1 hx hr, hR⟩

/-- a call that panics, by its function's text -/
theorem CP.fn {f : FuncId} {fn : Func} {c : Code} {args : List Value} {R : Value → Mem → Prop} (hf : P.funcs[f]? = some fn) (hb : fn.body = some c) (hok : fnOk P G fn c = true) (ha : Nat.ble args.length fn.ntmps = true)
    (h : W P G Ext c (Env.of args) S fun x e' S' => ∃ v, x = .pan v ∧ R v S') : CP P G Ext f args S R := by
  obtain ⟨x, e', S', h1, v, rfl, hR⟩ := h
  exact ⟨v, S', .fnPan hf hb hok (Nat.le_of_ble_eq_true ha) h1, hR⟩
theorem CP.mono {f : FuncId} {args : List Value} {R R' : Value → Mem → Prop} (h : CP P G Ext f args S R) (hq : ∀ v S, R v S → R' v S) : CP P G Ext f args S R' := let ⟨v, S', h1, h2⟩ := h; ⟨v, S', h1, hq _ _ h2⟩

/-! ### the operations as a list; values in plain form -/
def force : Value → Option Value
  | .bool b => some (.bool b)
  | .int k n => some (.int k n)
  | .float k b => some (.float k b)
  | .complex k a b => some (.complex k a b)
  | .string s => some (.string s)
  | .pointer a => some (.pointer a)
  | .slice a n c => some (.slice a n c)
  | .func f a b => some (.func f a b)
  | .nilFunc => some .nilFunc
  | .iface t v => some (.iface t v)
  | .nilIface => some .nilIface
  | .agg c => some (.agg c)
  | .tuple c => some (.tuple c)
  | _ => none
theorem force_eq {v u : Value} (h : force v = some u) : v = u := by
  unfold force at h
  split at h <;> first | (injection h) | cases h
variable (P G Ext fl ops) in
def L (rest : List Oper) (e : Env) (S : Mem) (K : Kont) : Prop := ∀ i, (∀ j, rest[j]? = ops[i + j]?) → O P G Ext fl ops i e S K
theorem W.reg {id : Nat} {l : List Oper} {draw : Bool} (h : L P G Ext (draw && floaty P l.toArray) l.toArray l e S ⟨fun e S => Q .nrm e S, fun v e S => draw = false ∧ Q (.pan v) e S⟩) : W P G Ext (.region id l.toArray draw) e S Q :=
  W.region (h 0 (by simp))
theorem L.nil (h : K.nrm e S) : L P G Ext fl ops [] e S K := fun i hi => O.done (by
  have := hi 0
  simp only [List.getElem?_nil, Nat.add_zero] at this
  exact Array.getElem?_eq_none_iff.1 this.symm) h
theorem L.head {rest : List Oper} {i : Nat} (h : ∀ j, (o :: rest)[j]? = ops[i + j]?) : ops[i]? = some o ∧ ∀ j, rest[j]? = ops[i + 1 + j]? :=
  ⟨by simpa using (h 0).symm, fun j => by have := h (j + 1); simpa [Nat.add_assoc, Nat.add_comm 1] using this⟩
theorem L.skip {rest : List Oper} (hw : awanted ops o e = false) (h : L P G Ext fl ops rest (e.put o.dst undef) S K) : L P G Ext fl ops (o :: rest) e S K := fun i hi =>
  O.skip (L.head hi).1 hw (h _ (L.head hi).2)
/-- the value as it is -/
theorem L.pure {v : Value} {rest : List Oper} (hw : awanted ops o e = true) (hp : apure P o e.eval = some v) (h : L P G Ext fl ops rest (e.put o.dst v) S K) : L P G Ext fl ops (o :: rest) e S K := fun i hi =>
  O.pure (L.head hi).1 hw hp (h _ (L.head hi).2)
theorem L.psim {v : Value} {rest : List Oper} (hw : awanted ops o e = true) (hp : PSim P o e.eval v) (h : L P G Ext fl ops rest (e.put o.dst v) S K) : L P G Ext fl ops (o :: rest) e S K := fun i hi =>
  O.psim (L.head hi).1 hw hp (h _ (L.head hi).2)
/-- an operation by what it does -/
theorem L.sem {v : Value} {S1 : Mem} {rest : List Oper} (hw : awanted ops o e = true) (hp : OpSim P G o e S v S1) (hk : 2 ≤ opKind P o) (hcons : opKind P o = 2 ∨ (opKind P o = 4 ∧ fl = true) → Cons S S1) (h : L P G Ext fl ops rest (e.put o.dst v) S1 K) : L P G Ext fl ops (o :: rest) e S K := fun i hi =>
  O.sem (L.head hi).1 hw hp hk hcons (h _ (L.head hi).2)
/-- the value in plain form -/
theorem L.p {v : Value} {rest : List Oper} {dst : Option Tmp} {op : Op} {ty : TypeId} {pos : String} {af : Array Edge} {gd : Option (Nat × Bool)} (hw : awanted ops ⟨dst, op, ty, pos, af, gd⟩ e = true) (hp : (apure P ⟨dst, op, ty, pos, af, gd⟩ e.eval).bind force = some v)
    (h : L P G Ext fl ops rest (e.put dst v) S K) : L P G Ext fl ops (⟨dst, op, ty, pos, af, gd⟩ :: rest) e S K := by
  rw [Option.bind_eq_some_iff] at hp
  obtain ⟨u, hu, hf⟩ := hp
  rw [force_eq hf] at hu
  exact L.pure hw hu h
theorem L.load {v : Value} {rest : List Oper} {dst : Option Tmp} {op : Op} {ty : TypeId} {pos : String} {af : Array Edge} {gd : Option (Nat × Bool)} (hw : awanted ops ⟨dst, op, ty, pos, af, gd⟩ e = true) (hp : aload P ⟨dst, op, ty, pos, af, gd⟩ e.eval S = some v)
    (h : L P G Ext fl ops rest (e.put dst v) S K) : L P G Ext fl ops (⟨dst, op, ty, pos, af, gd⟩ :: rest) e S K := fun i hi =>
  O.load (L.head hi).1 hw hp (h _ (L.head hi).2)
theorem L.eff {v : Value} {S1 : Mem} {rest : List Oper} {dst : Option Tmp} {op : Op} {ty : TypeId} {pos : String} {af : Array Edge} {gd : Option (Nat × Bool)} (hw : awanted ops ⟨dst, op, ty, pos, af, gd⟩ e = true) (hp : aeff P ⟨dst, op, ty, pos, af, gd⟩ e.eval S = some (v, S1))
    (h : L P G Ext fl ops rest (e.put dst v) S1 K) : L P G Ext fl ops (⟨dst, op, ty, pos, af, gd⟩ :: rest) e S K := fun i hi =>
  O.eff (L.head hi).1 hw hp (h _ (L.head hi).2)
theorem L.call {f : FuncId} {args : List Value} {rest : List Oper} {dst : Option Tmp} {op : Op} {ty : TypeId} {pos : String} {af : Array Edge} {gd : Option (Nat × Bool)} (hw : awanted ops ⟨dst, op, ty, pos, af, gd⟩ e = true) (hc : acall ⟨dst, op, ty, pos, af, gd⟩ e.eval = some (f, args))
    (hcall : C P G Ext f args S fun v S1 => (fl = true → Cons S S1) ∧ L P G Ext fl ops rest (e.put dst v) S1 K) : L P G Ext fl ops (⟨dst, op, ty, pos, af, gd⟩ :: rest) e S K := fun i hi =>
  O.call (L.head hi).1 hw hc (hcall.mono fun v S1 h => ⟨h.1, h.2 _ (L.head hi).2⟩)

theorem L.panic {x : Operand} {t : TypeId} {u : Value} {rest : List Oper} {dst : Option Tmp} {ty : TypeId} {pos : String} {af : Array Edge} {gd : Option (Nat × Bool)} (hx : e.eval x = .iface t u) (hw : awanted ops ⟨dst, .panic x, ty, pos, af, gd⟩ e = true)
    (h : K.pan (.iface t u) e S) : L P G Ext fl ops (⟨dst, .panic x, ty, pos, af, gd⟩ :: rest) e S K := fun i hi =>
  O.panic (L.head hi).1 hw rfl hx h

theorem W.ite {c : Operand} {a b : Code} {t : Bool} (hc : e.eval c = .bool t) (hT : t = true → W P G Ext a e S Q) (hF : t = false → W P G Ext b e S Q) : W P G Ext (.cond c a b) e S Q := by
  cases t with
  | true => exact W.condT hc (hT rfl)
  | false => exact W.condF hc (hF rfl)
/-- a step of a walk that asks nothing -/
class Go1 (P : Program) (G : Nat) (Ext : FuncId → List Value → Mem → Outc → Mem → Prop) (c : Code) (e : Env) (S : Mem) (Q : Xit → Env → Mem → Prop) (p : outParam Prop) : Prop where
  h : p → W P G Ext c e S Q
instance {a b : Code} : Go1 P G Ext (.seq a b) e S Q (W P G Ext a e S (Thn (fun e S => W P G Ext b e S Q) Q)) := ⟨W.seq⟩
instance {id : Nat} {c : Code} : Go1 P G Ext (.block id c) e S Q (W P G Ext c e S (InB id Q)) := ⟨W.block⟩
instance {id : Nat} {l : List Oper} {draw : Bool} : Go1 P G Ext (.region id l.toArray draw) e S Q (L P G Ext (draw && floaty P l.toArray) l.toArray l e S ⟨fun e S => Q .nrm e S, fun v e S => draw = false ∧ Q (.pan v) e S⟩) := ⟨W.reg⟩
instance : Go1 P G Ext .skip e S Q (Q .nrm e S) := ⟨W.skip⟩
instance {id : Nat} : Go1 P G Ext (.exit id) e S Q (Q (.exit id) e S) := ⟨W.exit⟩
instance : Go1 P G Ext .ret e S Q (Q .ret e S) := ⟨W.ret⟩
theorem W.g {c : Code} {p : Prop} [g : Go1 P G Ext c e S Q p] (h : p) : W P G Ext c e S Q := g.h h
end
end Go.Proofs.YtlnlcddbllcehaaDoor

/- Facts on abstract memory, and the rules for loads, stores, indexes, slices with their conditions laid open. Conditions: none. -/
set_option linter.unusedSimpArgs false
set_option linter.unusedVariables false
namespace Go.Proofs.YtlnlcddbllcehaaDoor
open Go

section
variable {S S1 : Mem} {b o n : Nat} {r x : Row} {v : Value} {l : List Value}

/-- rows -/
theorem row_set_same (h : S.row? b = some r) (hl : x.st = .live) : Mem.row? (S.set b x) b = some x :=
  Mem.row?_of (by rw [List.getElem?_set, if_pos rfl, if_pos (row_live_lt (Mem.row?_some h).1)]) hl
theorem row_set_other (c : Nat) (h : b ≠ c) : Mem.row? (S.set b x) c = S.row? c := by simp only [Mem.row?]; rw [List.getElem?_set, if_neg h]
theorem row_lt (h : S.row? b = some r) : b < S.length := row_live_lt (Mem.row?_some h).1
theorem row_push_new (hl : x.st = .live) : Mem.row? (S ++ [x]) S.length = some x := Mem.row?_of (by simp) hl
theorem row_cons (h : Cons S S1) (hb : b < S.length) : S1.row? b = S.row? b := by simp only [Mem.row?]; rw [h b hb]
theorem Cons.row {h : Cons S S1} (hr : S.row? b = some r) : S1.row? b = some r := (row_cons h (row_lt hr)).trans hr
/-- everything but row b is as it was -/
def Keep (b : Nat) (S S1 : Mem) : Prop := S.length ≤ S1.length ∧ ∀ r, r < S.length → r ≠ b → S1[r]? = S[r]?
theorem Keep.refl (b : Nat) (S : Mem) : Keep b S S := ⟨Nat.le_refl _, fun _ _ _ => rfl⟩
theorem Keep.trans {S2 : Mem} (h : Keep b S S1) (k : Keep b S1 S2) : Keep b S S2 := ⟨Nat.le_trans h.1 k.1, fun r hr hb => (k.2 r (Nat.lt_of_lt_of_le hr h.1) hb).trans (h.2 r hr hb)⟩
theorem Keep.set (b : Nat) (S : Mem) (x : Row) : Keep b S (S.set b x) := ⟨by simp, fun r _ hb => by rw [List.getElem?_set, if_neg (fun e => hb e.symm)]⟩
theorem Cons.keep (h : Cons S S1) (b : Nat) : Keep b S S1 := ⟨h.len, fun r hr _ => h r hr⟩
theorem Keep.row {c : Nat} (h : Keep b S S1) (hr : S.row? c = some r) (hne : c ≠ b) : S1.row? c = some r := by
  rw [← hr]; simp only [Mem.row?]; rw [h.2 c (row_lt hr) hne]
theorem Keep.cons (h : Keep b S S1) (hb : S.length ≤ b) : Cons S S1 := fun r hr => h.2 r hr (by omega)
theorem Keep.mono {S0 : Mem} (h : Cons S0 S) (hb : S0.length ≤ b) (k : Keep b S S1) : Cons S0 S1 := fun r hr => (k.2 r (Nat.lt_of_lt_of_le hr h.len) (by omega)).trans (h r hr)

/-- one cell -/
def Mem.cell (S : Mem) (a : Addr) : Option Value := (S.cellsAt a 1).bind (·[0]?)
theorem cell_of (h : S.row? b = some r) (hv : r.cells[o]? = some v) (hk : r.ro = none ∨ known v = true := by exact .inl rfl) : S.cell ⟨b, o, none⟩ = some v := by
  have hlt := (List.getElem?_eq_some_iff.1 hv).1
  unfold Mem.cell Mem.cellsAt
  simp only [h]
  rw [if_pos ⟨trivial, by omega, hk.imp id fun hk => by
    rw [List.all_eq_true]
    intro u hu
    obtain ⟨i, hi⟩ := List.getElem?_of_mem hu
    rw [List.getElem?_take] at hi
    split at hi
    · rw [List.getElem?_drop, show o + i = o by omega, hv] at hi
      cases hi; exact hk
    · cases hi⟩]
  simp only [Option.bind_some]
  rw [List.getElem?_take, if_pos (by omega), List.getElem?_drop]
  simpa using hv
theorem cellsAt_of (h : S.row? b = some r) (hn : o + n ≤ r.cells.length) (hk : r.ro = none ∨ ((r.cells.drop o).take n).all known = true := by exact .inl rfl) : S.cellsAt ⟨b, o, none⟩ n = some ((r.cells.drop o).take n) := by
  unfold Mem.cellsAt
  simp only [h]
  rw [if_pos ⟨trivial, hn, hk⟩]
theorem write_of (h : S.row? b = some r) (hro : r.ro = none) (hn : o + l.length ≤ r.cells.length) (h1 : l.all oneCell = true) :
    S.write ⟨b, o, none⟩ l = some (S.set b { r with cells := putFrom r.cells o l }) := by
  unfold Mem.write
  simp only [h]
  rw [if_pos ⟨trivial, hn, hro, h1⟩]
theorem putFrom_one (l : List Value) (i : Nat) (v : Value) (h : i < l.length) : putFrom l i [v] = l.set i v := by
  rw [putFrom_cons _ _ _ _ h]; simp [putFrom]
end

def loadOne (P : Program) (t : TypeId) : Bool := match P.underlying t, P.info? t with
  | some d, some _ => !isAggD d
  | _, _ => false
def cellsOf' (P : Program) (t : TypeId) : Option Nat := (P.info? t).map (·.size)
def sliceOf (P : Program) (t : TypeId) : Option Nat := match P.underlying t with
  | some (.slice e) => (P.info? e).map (·.size)
  | _ => none
section
variable {P : Program} {G : Nat} {Ext : FuncId → List Value → Mem → Outc → Mem → Prop} {e : Env} {S : Mem} {fl : Bool} {ops : Array Oper} {K : Kont}
variable {rest : List Oper} {dst : Option Tmp} {ty : TypeId} {pos : String} {af : Array Edge} {gd : Option (Nat × Bool)}

theorem L.ld {t : TypeId} {x : Operand} {a : Addr} {v : Value} (hc : S.cell a = some v) (hw : awanted ops ⟨dst, .load t x, ty, pos, af, gd⟩ e = true) (hx : e.eval x = .pointer (some a)) (hl : loadOne P t = true)
    (h : L P G Ext fl ops rest (e.put dst v) S K) : L P G Ext fl ops (⟨dst, .load t x, ty, pos, af, gd⟩ :: rest) e S K := by
  refine L.load hw ?_ h
  unfold loadOne at hl
  simp only [aload, hx, aloadAt]
  split at hl
  · rename_i d i hd hi
    have hag : isAggD d = false := by simpa using hl
    simp only [hd, hi, hag, Bool.false_eq_true, if_false]
    exact hc
  · cases hl
theorem L.st {t : TypeId} {a x : Operand} {ad : Addr} {vs : List Value} {S1 : Mem} (hs : S.write ad vs = some S1) (hw : awanted ops ⟨dst, .store t a x, ty, pos, af, gd⟩ e = true) (ha : e.eval a = .pointer (some ad))
    (hx : (e.eval x).cells.toList = vs) (hn : cellsOf' P t = some vs.length) (h : L P G Ext fl ops rest (e.put dst undef) S1 K) : L P G Ext fl ops (⟨dst, .store t a x, ty, pos, af, gd⟩ :: rest) e S K := by
  refine L.eff hw ?_ h
  unfold cellsOf' at hn
  rw [Option.map_eq_some_iff] at hn
  obtain ⟨i, hi, hsz⟩ := hn
  have : (e.eval x).cells.size = i.size := by rw [hsz, ← hx]; simp
  simp only [aeff, ha, hi, this, if_true, hx, hs, Option.map_some]
/-- an index into a slice, into an array behind a pointer -/
theorem L.ix {t : TypeId} {x ix : Operand} {b o n c k sz : Nat} {i : Int} {kd : IntKind} (hk : i = (k : Int)) (hb : k < n) (hw : awanted ops ⟨dst, .indexAddr t x ix, ty, pos, af, gd⟩ e = true) (hx : e.eval x = .slice (some ⟨b, o, none⟩) n c)
    (hi : e.eval ix = .int kd i) (ht : sliceOf P t = some sz) (h : L P G Ext fl ops rest (e.put dst (.pointer (some ⟨b, o + k * sz, none⟩))) S K) : L P G Ext fl ops (⟨dst, .indexAddr t x ix, ty, pos, af, gd⟩ :: rest) e S K := by
  refine L.pure hw ?_ h
  subst hk
  unfold sliceOf at ht
  split at ht
  · rename_i el hu
    rw [Option.map_eq_some_iff] at ht
    obtain ⟨inf, hi', rfl⟩ := ht
    simp only [apure, aindexA, hi, hu, hx]
    rw [if_pos ⟨by omega, by omega, by rw [hi']; rfl⟩]
    simp only [Int.toNat_natCast, Program.cellsOf, hi', Option.map_some, Option.getD_some, Addr.add]
    split
    · rename_i h0; rw [h0]; rfl
    · rfl
  · cases ht
/-- a pure operation, its value told -/
theorem L.is {op : Op} (v : Value) (hp : apure P ⟨dst, op, ty, pos, af, gd⟩ e.eval = some v) (hw : awanted ops ⟨dst, op, ty, pos, af, gd⟩ e = true) (h : L P G Ext fl ops rest (e.put dst v) S K) :
    L P G Ext fl ops (⟨dst, op, ty, pos, af, gd⟩ :: rest) e S K := L.pure hw hp h
theorem slice_at {P : Program} {o : Oper} {ev : Operand → Value} {t : TypeId} {x : Operand} {lo hi mx : Option Operand} {a : Option Addr} {n c sz : Nat} (ho : o.op = .slice t x lo hi mx) (hx : ev x = .slice a n c) (ht : sliceOf P t = some sz) (hc : a = none → c < UNK) :
    apure P o ev = aslice sz a n c (lo.map ev) (hi.map ev) (mx.map ev) := by
  unfold sliceOf at ht
  split at ht
  · rename_i el hu
    rw [Option.map_eq_some_iff] at ht
    obtain ⟨inf, hi', rfl⟩ := ht
    simp only [apure, ho, hx, hu]
    rw [if_pos (by rw [hi']; rfl)]
    simp only [Program.cellsOf, hi', Option.map_some, Option.getD_some]
  · cases ht
theorem slice_at0 {P : Program} {o : Oper} {ev : Operand → Value} {t : TypeId} {x : Operand} {lo hi mx : Option Operand} {a : Option Addr} {n c sz : Nat} (ho : o.op = .slice t x lo hi mx) (hx : ev x = .slice a n c) (ht : sliceOf P t = some sz) :
    apure P o ev = aslice sz a n c (lo.map ev) (hi.map ev) (mx.map ev) := by
  unfold sliceOf at ht
  split at ht
  · rename_i el hu
    rw [Option.map_eq_some_iff] at ht
    obtain ⟨inf, hi', rfl⟩ := ht
    simp only [apure, ho, hx, hu]
    rw [if_pos (by rw [hi']; rfl)]
    simp only [Program.cellsOf, hi', Option.map_some, Option.getD_some]
  · cases ht
/-- a call, by its contract -/
theorem L.cl {op : Op} {f : FuncId} {args : List Value} {R : Value → Mem → Prop} (hcall : C P G Ext f args S R) (hw : awanted ops ⟨dst, op, ty, pos, af, gd⟩ e = true) (hc : acall ⟨dst, op, ty, pos, af, gd⟩ e.eval = some (f, args))
    (h : ∀ v S1, R v S1 → (fl = true → Cons S S1) ∧ L P G Ext fl ops rest (e.put dst v) S1 K) : L P G Ext fl ops (⟨dst, op, ty, pos, af, gd⟩ :: rest) e S K :=
  L.call hw hc (hcall.mono h)
end
end Go.Proofs.YtlnlcddbllcehaaDoor

/- Numbers of fixed width: the model's wrapped whole numbers as bit vectors. Conditions: none. -/
set_option linter.unusedSimpArgs false
set_option linter.unusedVariables false
namespace Go.Proofs.YtlnlcddbllcehaaDoor
open Go

theorem wrap64 {x : Int} (h : -9223372036854775808 ≤ x) (h' : x < 9223372036854775808) : IntKind.i64.wrap x = x := by
  simp only [IntKind.wrap, IntKind.bits, IntKind.signed, Bool.true_and, decide_eq_true_eq, ge_iff_le]
  split <;> omega
theorem wrapU64 {x : Int} (h : 0 ≤ x) (h' : x < 18446744073709551616) : IntKind.u64.wrap x = x := by
  simp only [IntKind.wrap, IntKind.bits, IntKind.signed, Bool.false_and, Bool.false_eq_true, if_false]
  omega
theorem wrapU8 {x : Int} (h : 0 ≤ x) (h' : x < 256) : IntKind.u8.wrap x = x := by
  simp only [IntKind.wrap, IntKind.bits, IntKind.signed, Bool.false_and, Bool.false_eq_true, if_false]
  omega
theorem wrap_u (k : IntKind) (hk : k.signed = false) (x : Int) : k.wrap x = ((BitVec.ofInt k.bits x).toNat : Int) := by
  simp only [IntKind.wrap, hk, Bool.false_and, Bool.false_eq_true, if_false, BitVec.toNat_ofInt]
  have h2 : (0 : Int) < 2 ^ k.bits := Int.pow_pos (by decide)
  have := Int.emod_nonneg x (Int.ne_of_gt h2)
  rw [Int.toNat_of_nonneg (by simpa using this)]
  simp
theorem wrap_u8 (x : Int) : IntKind.u8.wrap x = ((BitVec.ofInt 8 x).toNat : Int) := wrap_u .u8 rfl x
theorem wrap_u64 (x : Int) : IntKind.u64.wrap x = ((BitVec.ofInt 64 x).toNat : Int) := wrap_u .u64 rfl x
theorem bits_u64 : IntKind.u64.bits = 64 := rfl
theorem ofInt_toNat {w : Nat} (a : BitVec w) : BitVec.ofInt w (a.toNat : Int) = a := by simp
theorem ofInt_shl {w : Nat} (a : BitVec w) (n : Nat) : BitVec.ofInt w ((a.toNat : Int) * 2 ^ n) = a <<< n := by
  apply BitVec.eq_of_toNat_eq
  rw [BitVec.toNat_ofInt, BitVec.toNat_shiftLeft, Nat.shiftLeft_eq]
  rw [show ((a.toNat : Int) * 2 ^ n) = ((a.toNat * 2 ^ n : Nat) : Int) by push_cast; rfl]
  omega
theorem fdiv_shr {w : Nat} (a : BitVec w) (n : Nat) : Int.fdiv (a.toNat : Int) (2 ^ n) = ((a >>> n).toNat : Int) := by
  rw [BitVec.toNat_ushiftRight, Nat.shiftRight_eq_div_pow]
  rw [Int.fdiv_eq_ediv_of_nonneg _ (Int.le_of_lt (Int.pow_pos (by decide)))]
  push_cast; rfl
theorem ofInt_wrap64 (x : Int) : BitVec.ofInt 64 (IntKind.i64.wrap x) = BitVec.ofInt 64 x := by
  apply BitVec.eq_of_toNat_eq
  simp only [BitVec.toNat_ofInt, IntKind.wrap, IntKind.bits, IntKind.signed, Bool.true_and, decide_eq_true_eq]
  split <;> simp <;> omega
theorem natCast_pow2 (n : Nat) : ((2 ^ n : Nat) : Int) = 2 ^ n := by push_cast; rfl

/-- words in plain form -/
abbrev v8 (x : BitVec 8) : Value := .int .u8 (x.toNat : Int)
abbrev v64 (x : BitVec 64) : Value := .int .u64 (x.toNat : Int)
abbrev vi (n : Nat) : Value := .int .i64 (n : Int)

theorem Env.put_self {e : Env} {t : Nat} {v : Value} (h : e t = v) : e.put (some t) v = e := by
  funext s; simp only [Env.put]; split
  · rename_i hs; rw [hs, h]
  · rfl
theorem W.env {P : Program} {G : Nat} {Ext : FuncId → List Value → Mem → Outc → Mem → Prop} {Q : Xit → Env → Mem → Prop} {e : Env} {S : Mem} {c : Code} {t : Nat} {v : Value} (h : e t = v)
    (k : W P G Ext c (e.put (some t) v) S Q) : W P G Ext c e S Q := by rw [Env.put_self h] at k; exact k
theorem W.env2 {P : Program} {G : Nat} {Ext : FuncId → List Value → Mem → Outc → Mem → Prop} {Q : Xit → Env → Mem → Prop} {e : Env} {S : Mem} {c : Code} {t1 : Nat} {v1 : Value} {t2 : Nat} {v2 : Value} (h1 : e t1 = v1) (h2 : e t2 = v2)
    (k : W P G Ext c ((e.put (some t1) v1).put (some t2) v2) S Q) : W P G Ext c e S Q := by rw [Env.put_self h1, Env.put_self h2] at k; exact k
theorem W.env3 {P : Program} {G : Nat} {Ext : FuncId → List Value → Mem → Outc → Mem → Prop} {Q : Xit → Env → Mem → Prop} {e : Env} {S : Mem} {c : Code} {t1 : Nat} {v1 : Value} {t2 : Nat} {v2 : Value} {t3 : Nat} {v3 : Value} (h1 : e t1 = v1) (h2 : e t2 = v2) (h3 : e t3 = v3)
    (k : W P G Ext c (((e.put (some t1) v1).put (some t2) v2).put (some t3) v3) S Q) : W P G Ext c e S Q := by rw [Env.put_self h1, Env.put_self h2, Env.put_self h3] at k; exact k
theorem W.env4 {P : Program} {G : Nat} {Ext : FuncId → List Value → Mem → Outc → Mem → Prop} {Q : Xit → Env → Mem → Prop} {e : Env} {S : Mem} {c : Code} {t1 : Nat} {v1 : Value} {t2 : Nat} {v2 : Value} {t3 : Nat} {v3 : Value} {t4 : Nat} {v4 : Value} (h1 : e t1 = v1) (h2 : e t2 = v2) (h3 : e t3 = v3) (h4 : e t4 = v4)
    (k : W P G Ext c ((((e.put (some t1) v1).put (some t2) v2).put (some t3) v3).put (some t4) v4) S Q) : W P G Ext c e S Q := by rw [Env.put_self h1, Env.put_self h2, Env.put_self h3, Env.put_self h4] at k; exact k
theorem W.env5 {P : Program} {G : Nat} {Ext : FuncId → List Value → Mem → Outc → Mem → Prop} {Q : Xit → Env → Mem → Prop} {e : Env} {S : Mem} {c : Code} {t1 : Nat} {v1 : Value} {t2 : Nat} {v2 : Value} {t3 : Nat} {v3 : Value} {t4 : Nat} {v4 : Value} {t5 : Nat} {v5 : Value} (h1 : e t1 = v1) (h2 : e t2 = v2) (h3 : e t3 = v3) (h4 : e t4 = v4) (h5 : e t5 = v5)
    (k : W P G Ext c (((((e.put (some t1) v1).put (some t2) v2).put (some t3) v3).put (some t4) v4).put (some t5) v5) S Q) : W P G Ext c e S Q := by rw [Env.put_self h1, Env.put_self h2, Env.put_self h3, Env.put_self h4, Env.put_self h5] at k; exact k
theorem W.env6 {P : Program} {G : Nat} {Ext : FuncId → List Value → Mem → Outc → Mem → Prop} {Q : Xit → Env → Mem → Prop} {e : Env} {S : Mem} {c : Code} {t1 : Nat} {v1 : Value} {t2 : Nat} {v2 : Value} {t3 : Nat} {v3 : Value} {t4 : Nat} {v4 : Value} {t5 : Nat} {v5 : Value} {t6 : Nat} {v6 : Value} (h1 : e t1 = v1) (h2 : e t2 = v2) (h3 : e t3 = v3) (h4 : e t4 = v4) (h5 : e t5 = v5) (h6 : e t6 = v6)
    (k : W P G Ext c ((((((e.put (some t1) v1).put (some t2) v2).put (some t3) v3).put (some t4) v4).put (some t5) v5).put (some t6) v6) S Q) : W P G Ext c e S Q := by rw [Env.put_self h1, Env.put_self h2, Env.put_self h3, Env.put_self h4, Env.put_self h5, Env.put_self h6] at k; exact k
theorem W.env7 {P : Program} {G : Nat} {Ext : FuncId → List Value → Mem → Outc → Mem → Prop} {Q : Xit → Env → Mem → Prop} {e : Env} {S : Mem} {c : Code} {t1 : Nat} {v1 : Value} {t2 : Nat} {v2 : Value} {t3 : Nat} {v3 : Value} {t4 : Nat} {v4 : Value} {t5 : Nat} {v5 : Value} {t6 : Nat} {v6 : Value} {t7 : Nat} {v7 : Value} (h1 : e t1 = v1) (h2 : e t2 = v2) (h3 : e t3 = v3) (h4 : e t4 = v4) (h5 : e t5 = v5) (h6 : e t6 = v6) (h7 : e t7 = v7)
    (k : W P G Ext c (((((((e.put (some t1) v1).put (some t2) v2).put (some t3) v3).put (some t4) v4).put (some t5) v5).put (some t6) v6).put (some t7) v7) S Q) : W P G Ext c e S Q := by rw [Env.put_self h1, Env.put_self h2, Env.put_self h3, Env.put_self h4, Env.put_self h5, Env.put_self h6, Env.put_self h7] at k; exact k
theorem W.env8 {P : Program} {G : Nat} {Ext : FuncId → List Value → Mem → Outc → Mem → Prop} {Q : Xit → Env → Mem → Prop} {e : Env} {S : Mem} {c : Code} {t1 : Nat} {v1 : Value} {t2 : Nat} {v2 : Value} {t3 : Nat} {v3 : Value} {t4 : Nat} {v4 : Value} {t5 : Nat} {v5 : Value} {t6 : Nat} {v6 : Value} {t7 : Nat} {v7 : Value} {t8 : Nat} {v8 : Value} (h1 : e t1 = v1) (h2 : e t2 = v2) (h3 : e t3 = v3) (h4 : e t4 = v4) (h5 : e t5 = v5) (h6 : e t6 = v6) (h7 : e t7 = v7) (h8 : e t8 = v8)
    (k : W P G Ext c ((((((((e.put (some t1) v1).put (some t2) v2).put (some t3) v3).put (some t4) v4).put (some t5) v5).put (some t6) v6).put (some t7) v7).put (some t8) v8) S Q) : W P G Ext c e S Q := by rw [Env.put_self h1, Env.put_self h2, Env.put_self h3, Env.put_self h4, Env.put_self h5, Env.put_self h6, Env.put_self h7, Env.put_self h8] at k; exact k
theorem W.env9 {P : Program} {G : Nat} {Ext : FuncId → List Value → Mem → Outc → Mem → Prop} {Q : Xit → Env → Mem → Prop} {e : Env} {S : Mem} {c : Code} {t1 : Nat} {v1 : Value} {t2 : Nat} {v2 : Value} {t3 : Nat} {v3 : Value} {t4 : Nat} {v4 : Value} {t5 : Nat} {v5 : Value} {t6 : Nat} {v6 : Value} {t7 : Nat} {v7 : Value} {t8 : Nat} {v8 : Value} {t9 : Nat} {v9 : Value} (h1 : e t1 = v1) (h2 : e t2 = v2) (h3 : e t3 = v3) (h4 : e t4 = v4) (h5 : e t5 = v5) (h6 : e t6 = v6) (h7 : e t7 = v7) (h8 : e t8 = v8) (h9 : e t9 = v9)
    (k : W P G Ext c (((((((((e.put (some t1) v1).put (some t2) v2).put (some t3) v3).put (some t4) v4).put (some t5) v5).put (some t6) v6).put (some t7) v7).put (some t8) v8).put (some t9) v9) S Q) : W P G Ext c e S Q := by rw [Env.put_self h1, Env.put_self h2, Env.put_self h3, Env.put_self h4, Env.put_self h5, Env.put_self h6, Env.put_self h7, Env.put_self h8, Env.put_self h9] at k; exact k
theorem W.env10 {P : Program} {G : Nat} {Ext : FuncId → List Value → Mem → Outc → Mem → Prop} {Q : Xit → Env → Mem → Prop} {e : Env} {S : Mem} {c : Code} {t1 : Nat} {v1 : Value} {t2 : Nat} {v2 : Value} {t3 : Nat} {v3 : Value} {t4 : Nat} {v4 : Value} {t5 : Nat} {v5 : Value} {t6 : Nat} {v6 : Value} {t7 : Nat} {v7 : Value} {t8 : Nat} {v8 : Value} {t9 : Nat} {v9 : Value} {t10 : Nat} {v10 : Value} (h1 : e t1 = v1) (h2 : e t2 = v2) (h3 : e t3 = v3) (h4 : e t4 = v4) (h5 : e t5 = v5) (h6 : e t6 = v6) (h7 : e t7 = v7) (h8 : e t8 = v8) (h9 : e t9 = v9) (h10 : e t10 = v10)
    (k : W P G Ext c ((((((((((e.put (some t1) v1).put (some t2) v2).put (some t3) v3).put (some t4) v4).put (some t5) v5).put (some t6) v6).put (some t7) v7).put (some t8) v8).put (some t9) v9).put (some t10) v10) S Q) : W P G Ext c e S Q := by rw [Env.put_self h1, Env.put_self h2, Env.put_self h3, Env.put_self h4, Env.put_self h5, Env.put_self h6, Env.put_self h7, Env.put_self h8, Env.put_self h9, Env.put_self h10] at k; exact k
/-- no function is taken as given -/
def NoX : FuncId → List Value → Mem → Outc → Mem → Prop := fun _ _ _ _ _ => False

section
variable {P : Program} {G : Nat} {Ext : FuncId → List Value → Mem → Outc → Mem → Prop} {e : Env} {S : Mem} {fl : Bool} {ops : Array Oper} {K : Kont}
variable {rest : List Oper} {dst : Option Tmp} {ty : TypeId} {pos : String} {af : Array Edge} {gd : Option (Nat × Bool)}
theorem apure_bin {op : BinOp} {xt yt : TypeId} {x y : Operand} {k k' : IntKind} {a b : Int} {v : Value} {ev : Operand → Value} (hx : ev x = .int k a) (hy : ev y = .int k' b)
    (hr : pureRun P (binOp op xt (.int k a) (.int k' b)) = some v) (hf : flat v = true) : apure P ⟨dst, .binOp op xt x y yt, ty, pos, af, gd⟩ ev = some v := by
  have h : aflat P ⟨dst, .binOp op xt x y yt, ty, pos, af, gd⟩ ev = some v := by
    unfold aflat
    rw [if_pos (by simp [Op.operands, hx, hy, flat]; exact ⟨rfl, rfl⟩)]
    have : pureRun P (execOp ev ⟨dst, .binOp op xt x y yt, ty, pos, af, gd⟩) = some (.value v) := by
      simp only [execOp, hx, hy, pureRun_bind]
      have hg : pureRun P (eqGuard op xt x y (.int k a) (.int k' b)) = some () := by unfold eqGuard; split <;> rfl
      simp [hg, hr]
    rw [this]; simp [hf]
  simp only [apure, h]
theorem L.rem {xt yt : TypeId} {x y : Operand} {k : IntKind} {a b : Int} (hx : e.eval x = .int k a) (hy : e.eval y = .int k b) (hb : b ≠ 0) (hw : awanted ops ⟨dst, .binOp .rem xt x y yt, ty, pos, af, gd⟩ e = true)
    (h : L P G Ext fl ops rest (e.put dst (.int k (a.tmod b))) S K) : L P G Ext fl ops (⟨dst, .binOp .rem xt x y yt, ty, pos, af, gd⟩ :: rest) e S K :=
  L.pure hw (apure_bin hx hy (by simp [binOp, Op.intDiv, hb]) rfl) h
theorem L.quo {xt yt : TypeId} {x y : Operand} {k : IntKind} {a b : Int} (hx : e.eval x = .int k a) (hy : e.eval y = .int k b) (hb : b ≠ 0) (hw : awanted ops ⟨dst, .binOp .quo xt x y yt, ty, pos, af, gd⟩ e = true)
    (h : L P G Ext fl ops rest (e.put dst (.int k (k.wrap (a.tdiv b)))) S K) : L P G Ext fl ops (⟨dst, .binOp .quo xt x y yt, ty, pos, af, gd⟩ :: rest) e S K :=
  L.pure hw (apure_bin hx hy (by simp [binOp, Op.intDiv, hb]) rfl) h
theorem L.shl {xt yt : TypeId} {x y : Operand} {k k' : IntKind} {a b : Int} (n : Nat) (hx : e.eval x = .int k a) (hy : e.eval y = .int k' b) (hb : b = n) (hn : n ≤ k.bits) (hw : awanted ops ⟨dst, .binOp .shl xt x y yt, ty, pos, af, gd⟩ e = true)
    (h : L P G Ext fl ops rest (e.put dst (.int k (k.wrap (a * 2 ^ n)))) S K) : L P G Ext fl ops (⟨dst, .binOp .shl xt x y yt, ty, pos, af, gd⟩ :: rest) e S K :=
  L.pure hw (apure_bin hx hy (by simp [binOp, Op.shift, hb, Nat.min_eq_left hn, show ¬ ((n : Int) < 0) from by omega]) rfl) h
theorem L.shr {xt yt : TypeId} {x y : Operand} {k k' : IntKind} {a b : Int} (n : Nat) (hx : e.eval x = .int k a) (hy : e.eval y = .int k' b) (hb : b = n) (hn : n ≤ k.bits) (hw : awanted ops ⟨dst, .binOp .shr xt x y yt, ty, pos, af, gd⟩ e = true)
    (h : L P G Ext fl ops rest (e.put dst (.int k (a.fdiv (2 ^ n)))) S K) : L P G Ext fl ops (⟨dst, .binOp .shr xt x y yt, ty, pos, af, gd⟩ :: rest) e S K :=
  L.pure hw (apure_bin hx hy (by simp [binOp, Op.shift, hb, Nat.min_eq_left hn, show ¬ ((n : Int) < 0) from by omega]) rfl) h
end
end Go.Proofs.YtlnlcddbllcehaaDoor

/- Slices on abstract memory: what they hold, growing ones, and the rules for their operations. Conditions: none. -/
set_option linter.unusedSimpArgs false
set_option linter.unusedVariables false
namespace Go.Proofs.YtlnlcddbllcehaaDoor
open Go

/-- a slice's value and its elements' cells -/
def Slv (S : Mem) (sz : Nat) (v : Value) (n : Nat) (l : List Value) : Prop :=
  l.length = n * sz ∧ ∃ a c, v = .slice a n c ∧ (n * sz = 0 ∨ ∃ b o r, a = some ⟨b, o, none⟩ ∧ S.row? b = some r ∧ o + n * sz ≤ r.cells.length ∧ (r.cells.drop o).take (n * sz) = l ∧ (r.ro = none ∨ l.all known = true))

/-- all rows below N stay -/
def Agree (N : Nat) (S S' : Mem) : Prop := ∀ r, r < N → S'[r]? = S[r]?
theorem Agree.refl (N : Nat) (S : Mem) : Agree N S S := fun _ _ => rfl
theorem Agree.trans {N : Nat} {S S1 S2 : Mem} (h : Agree N S S1) (k : Agree N S1 S2) : Agree N S S2 := fun r hr => (k r hr).trans (h r hr)
theorem Agree.cons {S S' : Mem} (h : Agree S.length S S') : Cons S S' := h
theorem Cons.agree {S S' : Mem} (h : Cons S S') {N : Nat} (hN : N ≤ S.length) : Agree N S S' := fun r hr => h r (Nat.lt_of_lt_of_le hr hN)
theorem Agree.mono {N M : Nat} {S S' : Mem} (h : Agree N S S') (hN : M ≤ N) : Agree M S S' := fun r hr => h r (Nat.lt_of_lt_of_le hr hN)
theorem Agree.row {N : Nat} {S S' : Mem} (h : Agree N S S') {b : Nat} (hb : b < N) : S'.row? b = S.row? b := by simp only [Mem.row?]; rw [h b hb]
theorem Cons.trans' {S S1 S2 : Mem} (h : Cons S S1) (k : Agree S.length S1 S2) : Cons S S2 := fun r hr => (k r hr).trans (h r hr)
theorem Cons.set {S S' : Mem} (h : Cons S S') (b : Nat) (x : Row) (hb : S.length ≤ b) : Cons S (S'.set b x) := fun r hr => by rw [List.getElem?_set, if_neg (by omega)]; exact h r hr
theorem Slv.len {S : Mem} {sz n : Nat} {v : Value} {l : List Value} (h : Slv S sz v n l) : l.length = n * sz := h.1
theorem Slv.nil (S : Mem) (sz c : Nat) (a : Option Addr) : Slv S sz (.slice a 0 c) 0 [] := ⟨by simp, a, c, rfl, .inl (by simp)⟩
theorem Slv.of {S : Mem} {sz n b o c : Nat} {r : Row} (hr : S.row? b = some r) (hn : o + n * sz ≤ r.cells.length) (hk : r.ro = none ∨ ((r.cells.drop o).take (n * sz)).all known = true := by exact .inl rfl) : Slv S sz (.slice (some ⟨b, o, none⟩) n c) n ((r.cells.drop o).take (n * sz)) :=
  ⟨by simp only [List.length_take, List.length_drop]; omega, _, c, rfl, .inr ⟨b, o, r, rfl, hr, hn, rfl, hk⟩⟩
theorem Slv.all {S : Mem} {sz n b c : Nat} {r : Row} {l : List Value} (hr : S.row? b = some r) (hl : r.cells = l) (hn : l.length = n * sz) (hk : r.ro = none := by exact rfl) : Slv S sz (.slice (some ⟨b, 0, none⟩) n c) n l := by
  subst hl
  have := Slv.of (o := 0) (c := c) hr (by omega : 0 + n * sz ≤ r.cells.length) (.inl hk)
  rwa [List.drop_zero, ← hn, List.take_length] at this
theorem Slv.keep {S S' : Mem} {sz n : Nat} {v : Value} {l : List Value} (h : Slv S sz v n l) (hk : ∀ b r, S.row? b = some r → S'.row? b = some r) : Slv S' sz v n l := by
  obtain ⟨h1, a, c, h2, h3⟩ := h
  refine ⟨h1, a, c, h2, h3.imp id ?_⟩
  rintro ⟨b, o, r, e1, e2, e3, e4, e5⟩
  exact ⟨b, o, r, e1, hk _ _ e2, e3, e4, e5⟩
theorem Slv.cons {S S' : Mem} {sz n : Nat} {v : Value} {l : List Value} (h : Slv S sz v n l) (hk : Cons S S') : Slv S' sz v n l := h.keep fun b r hr => Cons.row (h := hk) hr
/-- the cells of the first m elements -/
theorem Slv.first {S : Mem} {sz n m : Nat} {v : Value} {l : List Value} (h : Slv S sz v n l) (hm : m ≤ n) : firstOf S sz m v = some (l.take (m * sz)) := by
  obtain ⟨h1, a, c, rfl, h3⟩ := h
  have hms : m * sz ≤ n * sz := Nat.mul_le_mul_right _ hm
  cases a with
  | none =>
    rcases h3 with h3 | ⟨b, o, r, e, _⟩
    · rw [h3] at h1
      simp [firstOf, List.length_eq_zero_iff.1 h1]
      intro _; omega
    · cases e
  | some a =>
    simp only [firstOf]
    by_cases h0 : m * sz = 0
    · simp [h0]
    · rw [if_neg h0]
      rcases h3 with h3 | ⟨b, o, r, e, e2, e3, e4, e5⟩
      · omega
      · cases e
        have h6 : (r.cells.drop o).take (m * sz) = l.take (m * sz) := by rw [← e4, List.take_take, Nat.min_eq_left hms]
        rw [cellsAt_of e2 (by omega) (e5.imp id fun h => by
          rw [h6, List.all_eq_true]
          exact fun x hx => List.all_eq_true.1 h x (List.mem_of_mem_take hx)), h6]
theorem Slv.get {S : Mem} {n : Nat} {v : Value} {l : List Value} (h : Slv S 1 v n l) {k : Nat} {x : Value} (hk : l[k]? = some x) : ∃ b o c, v = .slice (some ⟨b, o, none⟩) n c ∧ k < n ∧ S.cell ⟨b, o + k, none⟩ = some x := by
  obtain ⟨h1, a, c, rfl, h3⟩ := h
  have hkn : k < n := by have := (List.getElem?_eq_some_iff.1 hk).1; omega
  rcases h3 with h3 | ⟨b, o, r, rfl, e2, e3, e4, e5⟩
  · omega
  · refine ⟨b, o, c, rfl, hkn, cell_of e2 ?_ (e5.imp id fun h => List.all_eq_true.1 h x (List.mem_of_getElem? hk))⟩
    rw [← e4, List.getElem?_take, if_pos (by omega), List.getElem?_drop] at hk
    exact hk

/-! ### rules -/
section
variable {P : Program} {G : Nat} {Ext : FuncId → List Value → Mem → Outc → Mem → Prop} {e : Env} {S : Mem} {fl : Bool} {ops : Array Oper} {K : Kont}
variable {rest : List Oper} {dst dst2 : Option Tmp} {d : Tmp} {ty ty2 : TypeId} {pos pos2 : String} {af af2 : Array Edge} {gd gd2 : Option (Nat × Bool)}

/-- an element is read -/
theorem L.el {t t2 : TypeId} {x ix : Operand} {v w : Value} {n k : Nat} {l : List Value} {i : Int} {kd : IntKind} (hs : Slv S 1 v n l) (hk : i = (k : Int)) (hw : l[k]? = some w)
    (w1 : awanted ops ⟨some d, .indexAddr t x ix, ty, pos, af, gd⟩ e = true) (hx : e.eval x = v) (hi : e.eval ix = .int kd i) (ht : sliceOf P t = some 1)
    (w2 : ∀ p, awanted ops ⟨dst2, .load t2 (.tmp d), ty2, pos2, af2, gd2⟩ (e.put (some d) p) = true) (hl : loadOne P t2 = true)
    (h : ∀ p, L P G Ext fl ops rest ((e.put (some d) p).put dst2 w) S K) :
    L P G Ext fl ops (⟨some d, .indexAddr t x ix, ty, pos, af, gd⟩ :: ⟨dst2, .load t2 (.tmp d), ty2, pos2, af2, gd2⟩ :: rest) e S K := by
  obtain ⟨b, o, c, rfl, hkn, hc⟩ := hs.get hw
  refine L.ix hk hkn w1 hx hi ht ?_
  rw [Nat.mul_one]
  exact L.ld hc (w2 _) (by simp [Env.eval, Env.put]) hl (h _)
/-- an element is written -/
theorem L.elst {t t2 : TypeId} {x ix y : Operand} {b o n c k : Nat} {w : Value} {r : Row} {i : Int} {kd : IntKind} (hr : S.row? b = some r) (hro : r.ro = none) (hlen : o + n ≤ r.cells.length) (hk : i = (k : Int)) (hkn : k < n)
    (w1 : awanted ops ⟨some d, .indexAddr t x ix, ty, pos, af, gd⟩ e = true) (hx : e.eval x = .slice (some ⟨b, o, none⟩) n c) (hi : e.eval ix = .int kd i) (ht : sliceOf P t = some 1)
    (w2 : ∀ p, awanted ops ⟨dst2, .store t2 (.tmp d) y, ty2, pos2, af2, gd2⟩ (e.put (some d) p) = true) (hy : ∀ p, (e.put (some d) p).eval y = w) (h1 : oneCell w = true) (hw1 : w.cells = #[w]) (hn : cellsOf' P t2 = some 1)
    (h : ∀ p, L P G Ext fl ops rest ((e.put (some d) p).put dst2 undef) (S.set b { r with cells := r.cells.set (o + k) w }) K) :
    L P G Ext fl ops (⟨some d, .indexAddr t x ix, ty, pos, af, gd⟩ :: ⟨dst2, .store t2 (.tmp d) y, ty2, pos2, af2, gd2⟩ :: rest) e S K := by
  refine L.ix hk hkn w1 hx hi ht ?_
  rw [Nat.mul_one]
  have hwr := write_of (S := S) (b := b) (o := o + k) (l := [w]) hr hro (by simp; omega) (by simp [h1])
  rw [putFrom_one _ _ _ (by omega)] at hwr
  exact L.st hwr (w2 _) (by simp [Env.eval, Env.put]) (by rw [hy, hw1]) (by rw [hn]; rfl) (h _)
end

/-! ### growing -/
def appOk (P : Program) (ts xs : TypeId) : Option (TypeId × Nat × Nat) := match P.underlying ts, P.underlying xs with
  | some (.slice e), some dx => match P.info? e, (match dx with | .slice _ | .string => some () | _ => none) with
    | some i, some () => match i.zero with
      | some z => if z.cells.size = i.size ∧ z.cells.toList.all scalar = true then some (e, i.size, i.bytes) else none
      | none => none
    | _, _ => none
  | _, _ => none
/-- a slice that appends have made: its block holds just its elements, behind them there may be room -/
def Grow (N : Nat) (S : Mem) (el : TypeId) (sz : Nat) (v : Value) (n : Nat) (l : List Value) : Prop := l.length = n * sz ∧
  ((v = .slice none 0 0 ∧ n = 0) ∨ ∃ b, N ≤ b ∧ v = .slice (some ⟨b, 0, none⟩) n (UNK + n) ∧ S.row? b = some (grownR l el sz))
theorem Grow.slv {N : Nat} {S : Mem} {el : TypeId} {sz : Nat} {v : Value} {n : Nat} {l : List Value} (h : Grow N S el sz v n l) : Slv S sz v n l := by
  obtain ⟨h1, ⟨rfl, rfl⟩ | ⟨b, _, rfl, hr⟩⟩ := h
  · exact ⟨h1, _, _, rfl, .inl (by simp)⟩
  · exact Slv.all hr rfl h1
theorem Grow.shape {N : Nat} {S : Mem} {el : TypeId} {sz : Nat} {v : Value} {n : Nat} {l : List Value} (h : Grow N S el sz v n l) : ∃ a c, v = .slice a n c := by
  obtain ⟨h1, ⟨rfl, rfl⟩ | ⟨b, _, rfl, hr⟩⟩ := h
  · exact ⟨_, _, rfl⟩
  · exact ⟨_, _, rfl⟩
theorem Grow.nil (N : Nat) (S : Mem) (el : TypeId) (sz : Nat) : Grow N S el sz (.slice none 0 0) 0 [] := ⟨by simp, .inl ⟨rfl, rfl⟩⟩
theorem Grow.cons {N : Nat} {S S' : Mem} {el : TypeId} {sz : Nat} {v : Value} {n : Nat} {l : List Value} (h : Grow N S el sz v n l) (k : Cons S S') : Grow N S' el sz v n l := by
  obtain ⟨h1, h2 | ⟨b, hb, hv, hr⟩⟩ := h
  · exact ⟨h1, .inl h2⟩
  · exact ⟨h1, .inr ⟨b, hb, hv, Cons.row (h := k) hr⟩⟩

theorem appOk_some {P : Program} {ts xs : TypeId} {el : TypeId} {sz bytes : Nat} (h : appOk P ts xs = some (el, sz, bytes)) : ∃ dx i z, P.underlying ts = some (.slice el) ∧ P.underlying xs = some dx ∧ P.info? el = some i ∧
    ((∃ e', dx = .slice e') ∨ dx = .string) ∧ i.zero = some z ∧ z.cells.size = i.size ∧ z.cells.toList.all scalar = true ∧ i.size = sz ∧ i.bytes = bytes := by
  unfold appOk at h
  cases hu1 : P.underlying ts with
  | none => simp [hu1] at h
  | some d =>
    cases hu2 : P.underlying xs with
    | none => simp [hu1, hu2] at h
    | some dx =>
      cases d with
      | slice e =>
        have hdx : (∃ e', dx = .slice e') ∨ dx = .string := by
          cases dx with
          | slice e' => exact .inl ⟨e', rfl⟩
          | string => exact .inr rfl
          | _ => simp only [hu1, hu2] at h; split at h <;> simp_all
        cases hi : P.info? e with
        | none => simp [hu1, hu2, hi] at h
        | some i =>
          cases hz : i.zero with
          | none => rcases hdx with ⟨e', rfl⟩ | rfl <;> simp [hu1, hu2, hi, hz] at h
          | some z =>
            have h' : (if z.cells.size = i.size ∧ z.cells.toList.all scalar = true then some (e, i.size, i.bytes) else none) = some (el, sz, bytes) := by
              rcases hdx with ⟨e', rfl⟩ | rfl <;> simpa only [hu1, hu2, hi, hz] using h
            split at h'
            · rename_i hzz
              cases h'
              exact ⟨dx, i, z, rfl, rfl, hi, hdx, hz, hzz.1, hzz.2, rfl, rfl⟩
            · cases h'
      | _ => simp [hu1, hu2] at h
theorem aappend_eq {P : Program} {ts xs el : TypeId} {dx : TypeDesc} {i : TypeInfo} {z : Value} {S : Mem} {base : Option Addr} {n c m : Nat} {x : Value} (hu1 : P.underlying ts = some (.slice el)) (hu2 : P.underlying xs = some dx) (hi : P.info? el = some i)
    (hd : (∃ e', dx = .slice e') ∨ dx = .string) (hz : i.zero = some z) (hm : lenOf' x = some m) : aappend P ts xs (.slice base n c) x S =
      ((firstOf S i.size m x).bind fun news => (firstOf S i.size n (.slice base n c)).bind fun old =>
        if z.cells.size ≠ i.size ∨ ¬ z.cells.toList.all scalar then none else
        if n + m ≤ knownCap c then
          match base with
          | some a => if news = [] then some (.slice base (n + m) c, S) else (S.write (a.add (n * i.size)) news).map fun S' => (.slice base (n + m) c, S')
          | none => if c < UNK ∧ news = [] then some (.slice none (n + m) c, S) else none
        else if roomy (n + m) i.bytes ∧ news.length = m * i.size ∧ old.length = n * i.size then
          if c < UNK then some (.slice (some ⟨S.length, 0, none⟩) (n + m) (UNK + (n + m)), S ++ [grownR (old ++ news) el i.size])
          else match base with
            | some a => if a.off = 0 ∧ a.spot = none then match S.row? a.block with
                | some r => if r.ro = none ∧ r.elem = el ∧ r.exact = false ∧ r.sz = i.size ∧ news.all oneCell = true ∧ n * i.size ≤ r.cells.length then
                    some (.slice (some ⟨S.length, 0, none⟩) (n + m) (UNK + (n + m)), S.set a.block { r with st := .moved } ++ [grownR (old ++ news) el i.size]) else none
                | none => none
              else none
            | none => none
        else none) := by
  rcases hd with ⟨e', rfl⟩ | rfl <;> (simp only [aappend, hu1, hu2, hi, hz, hm]; rfl)
theorem knownCap_unk (n : Nat) : knownCap (UNK + n) = n := by unfold knownCap; rw [if_neg (by omega)]; omega
theorem app_grow {P : Program} {ts xs : TypeId} {el : TypeId} {sz bytes N n m : Nat} {S : Mem} {v x : Value} {l news : List Value} (hok : appOk P ts xs = some (el, sz, bytes)) (hN : N ≤ S.length) (hg : Grow N S el sz v n l)
    (hx : firstOf S sz m x = some news) (hm : lenOf' x = some m) (hnews : news.length = m * sz) (h1 : news.all oneCell = true) (hroom : roomy (n + m) bytes) (hpos : 0 < m) :
    ∃ v' S', aappend P ts xs v x S = some (v', S') ∧ Grow N S' el sz v' (n + m) (l ++ news) ∧ S.length ≤ S'.length ∧ Agree N S S' := by
  obtain ⟨dx, i, z, hu1, hu2, hi, hd, hz, hzz1, hzz2, rfl, rfl⟩ := appOk_some hok
  have hbig : n + m < UNK := by have := hroom.2.2.1; unfold UNK; omega
  obtain ⟨hl, hg⟩ := hg
  have hcond : ¬ (z.cells.size ≠ i.size ∨ ¬ z.cells.toList.all scalar = true) := fun h => h.elim (fun h => h hzz1) (fun h => h hzz2)
  rcases hg with ⟨rfl, rfl⟩ | ⟨b, hb, rfl, hr⟩
  · have hl0 : l = [] := List.length_eq_zero_iff.1 (by omega)
    subst hl0
    refine ⟨.slice (some ⟨S.length, 0, none⟩) (0 + m) (UNK + (0 + m)), S ++ [grownR ([] ++ news) el i.size], ?_, ⟨?_, .inr ⟨S.length, hN, rfl, row_push_new rfl⟩⟩, by simp, fun r hr => List.getElem?_append_left (by omega)⟩
    · rw [aappend_eq hu1 hu2 hi hd hz hm]
      simp only [hx, Option.bind_some]
      rw [firstOf_nil]
      simp only [Option.bind_some]
      rw [if_neg hcond, if_neg (by simp [knownCap, UNK]; omega)]
      rw [if_pos ⟨hroom, hnews, by simp⟩, if_pos (by simp [UNK])]
    · simp [hnews]
  · have hf : firstOf S i.size n (.slice (some ⟨b, 0, none⟩) n (UNK + n)) = some l := by
      have := (Slv.all (c := UNK + n) hr rfl hl).first (Nat.le_refl _)
      rw [← hl] at this
      rw [this]
      exact congrArg some (List.take_length)
    have hlt := row_lt hr
    refine ⟨.slice (some ⟨S.length, 0, none⟩) (n + m) (UNK + (n + m)), S.set b { grownR l el i.size with st := .moved } ++ [grownR (l ++ news) el i.size], ?_, ⟨?_, .inr ⟨S.length, hN, rfl, ?_⟩⟩, by simp, fun r hr => ?_⟩
    · rw [aappend_eq hu1 hu2 hi hd hz hm]
      simp only [hx, hf, Option.bind_some]
      rw [if_neg hcond, if_neg (by rw [knownCap_unk]; omega), if_pos ⟨hroom, hnews, hl⟩, if_neg (by omega)]
      rw [if_pos (by simp)]
      simp only [hr]
      rw [if_pos ⟨rfl, rfl, rfl, rfl, h1, Nat.le_of_eq hl.symm⟩]
    · simp [hnews, hl, Nat.add_mul]
    · have := row_push_new (S := S.set b { grownR l el i.size with st := .moved }) (x := grownR (l ++ news) el i.size) rfl
      simpa using this
    · rw [List.getElem?_append_left (by simp; omega), List.getElem?_set, if_neg (by omega)]
end Go.Proofs.YtlnlcddbllcehaaDoor

/- Rules for appending, copying and cutting slices. Conditions: none. -/
set_option linter.unusedSimpArgs false
set_option linter.unusedVariables false
namespace Go.Proofs.YtlnlcddbllcehaaDoor
open Go

theorem app_zero {P : Program} {ts xs : TypeId} {el : TypeId} {sz bytes N n : Nat} {S : Mem} {v x : Value} {l : List Value} (hok : appOk P ts xs = some (el, sz, bytes)) (hg : Grow N S el sz v n l)
    (hx : firstOf S sz 0 x = some []) (hm : lenOf' x = some 0) : aappend P ts xs v x S = some (v, S) := by
  obtain ⟨dx, i, z, hu1, hu2, hi, hd, hz, hzz1, hzz2, rfl, rfl⟩ := appOk_some hok
  obtain ⟨hl, hg'⟩ := hg
  have hcond : ¬ (z.cells.size ≠ i.size ∨ ¬ z.cells.toList.all scalar = true) := fun h => h.elim (fun h => h hzz1) (fun h => h hzz2)
  rcases hg' with ⟨rfl, rfl⟩ | ⟨b, hb, rfl, hr⟩
  · rw [aappend_eq hu1 hu2 hi hd hz hm]
    simp only [hx, Option.bind_some]
    rw [firstOf_nil]
    simp only [Option.bind_some]
    rw [if_neg hcond, if_pos (by simp), if_pos (by simp [UNK])]
  · have hf : firstOf S i.size n (.slice (some ⟨b, 0, none⟩) n (UNK + n)) = some (l.take (n * i.size)) := (Slv.all (c := UNK + n) hr rfl hl).first (Nat.le_refl _)
    rw [aappend_eq hu1 hu2 hi hd hz hm]
    simp only [hx, hf, Option.bind_some]
    rw [if_neg hcond, if_pos (by rw [knownCap_unk]; omega)]
    simp
theorem app_any {P : Program} {ts xs : TypeId} {el : TypeId} {sz bytes N n m : Nat} {S : Mem} {v x : Value} {l news : List Value} (hok : appOk P ts xs = some (el, sz, bytes)) (hN : N ≤ S.length) (hg : Grow N S el sz v n l)
    (hx : firstOf S sz m x = some news) (hm : lenOf' x = some m) (hnews : news.length = m * sz) (h1 : news.all oneCell = true) (hroom : roomy (n + m) bytes) :
    ∃ v' S', aappend P ts xs v x S = some (v', S') ∧ Grow N S' el sz v' (n + m) (l ++ news) ∧ S.length ≤ S'.length ∧ Agree N S S' := by
  rcases Nat.eq_zero_or_pos m with rfl | hpos
  · have hn0 : news = [] := List.length_eq_zero_iff.1 (by omega)
    subst hn0
    refine ⟨v, S, app_zero hok hg hx hm, ?_, Nat.le_refl _, Agree.refl _ _⟩
    rw [List.append_nil]; exact hg
  · exact app_grow hok hN hg hx hm hnews h1 hroom hpos
/-- appending to a slice whose capacity is known and used up -/
theorem app_full {P : Program} {ts xs : TypeId} {el : TypeId} {sz bytes n m : Nat} {S : Mem} {base : Option Addr} {x : Value} {l news : List Value} (hok : appOk P ts xs = some (el, sz, bytes)) (hv : Slv S sz (.slice base n n) n l)
    (hx : firstOf S sz m x = some news) (hm : lenOf' x = some m) (hnews : news.length = m * sz) (hroom : roomy (n + m) bytes) (hpos : 0 < m) :
    ∃ v', aappend P ts xs (.slice base n n) x S = some (v', S ++ [grownR (l ++ news) el sz]) ∧ Grow S.length (S ++ [grownR (l ++ news) el sz]) el sz v' (n + m) (l ++ news) := by
  obtain ⟨dx, i, z, hu1, hu2, hi, hd, hz, hzz1, hzz2, rfl, rfl⟩ := appOk_some hok
  have hcond : ¬ (z.cells.size ≠ i.size ∨ ¬ z.cells.toList.all scalar = true) := fun h => h.elim (fun h => h hzz1) (fun h => h hzz2)
  have hbig : n + m < UNK := by have := hroom.2.2.1; unfold UNK; omega
  have hf := hv.first (Nat.le_refl n)
  rw [← hv.1, List.take_length] at hf
  refine ⟨.slice (some ⟨S.length, 0, none⟩) (n + m) (UNK + (n + m)), ?_, by simp [hnews, hv.1, Nat.add_mul], .inr ⟨S.length, Nat.le_refl _, rfl, row_push_new rfl⟩⟩
  rw [aappend_eq hu1 hu2 hi hd hz hm]
  simp only [hx, hf, Option.bind_some]
  rw [if_neg hcond, if_neg (by unfold knownCap; rw [if_pos (by omega)]; omega), if_pos ⟨hroom, hnews, hv.1⟩, if_pos (by omega)]

theorem roomy_of {n b : Nat} (h : n ≤ 1099511627776) (hb : (Nat.ble 1 b && Nat.ble b 64) = true) : roomy n b := by
  simp only [Bool.and_eq_true, Nat.ble_eq] at hb
  have := Nat.mul_le_mul h hb.2
  unfold roomy; omega
/-- a slice whose capacity is known and used up -/
def Full (N : Nat) (S : Mem) (sz : Nat) (v : Value) (n : Nat) (l : List Value) : Prop := ∃ b r, N ≤ b ∧ v = .slice (some ⟨b, 0, none⟩) n n ∧ S.row? b = some r ∧ r.cells = l ∧ l.length = n * sz ∧ r.ro = none
def GrowF (N : Nat) (S : Mem) (el : TypeId) (sz : Nat) (v : Value) (n : Nat) (l : List Value) : Prop := Grow N S el sz v n l ∨ Full N S sz v n l
theorem GrowF.slv {N : Nat} {S : Mem} {el : TypeId} {sz : Nat} {v : Value} {n : Nat} {l : List Value} (h : GrowF N S el sz v n l) : Slv S sz v n l := by
  rcases h with h | ⟨b, r, _, rfl, hr, hc, hl, ho⟩
  · exact h.slv
  · exact Slv.all hr hc hl ho
theorem GrowF.cons {N : Nat} {S S' : Mem} {el : TypeId} {sz : Nat} {v : Value} {n : Nat} {l : List Value} (h : GrowF N S el sz v n l) (k : Cons S S') : GrowF N S' el sz v n l := by
  rcases h with h | ⟨b, r, hb, hv, hr, hc, hl, ho⟩
  · exact .inl (h.cons k)
  · exact .inr ⟨b, r, hb, hv, Cons.row (h := k) hr, hc, hl, ho⟩
theorem GrowF.shape {N : Nat} {S : Mem} {el : TypeId} {sz : Nat} {v : Value} {n : Nat} {l : List Value} (h : GrowF N S el sz v n l) : ∃ a c, v = .slice a n c := by
  obtain ⟨_, a, c, h, _⟩ := h.slv; exact ⟨a, c, h⟩
theorem app_growF {P : Program} {ts xs : TypeId} {el : TypeId} {sz bytes N n m : Nat} {S : Mem} {v x : Value} {l news : List Value} (hok : appOk P ts xs = some (el, sz, bytes)) (hN : N ≤ S.length) (hg : GrowF N S el sz v n l)
    (hx : firstOf S sz m x = some news) (hm : lenOf' x = some m) (hnews : news.length = m * sz) (h1 : news.all oneCell = true) (hroom : roomy (n + m) bytes) (hpos : 0 < m) :
    ∃ v' S', aappend P ts xs v x S = some (v', S') ∧ Grow N S' el sz v' (n + m) (l ++ news) ∧ S.length ≤ S'.length ∧ Agree N S S' := by
  rcases hg with hg | ⟨b, r, hb, rfl, hr, hc, hl, ho⟩
  · exact app_grow hok hN hg hx hm hnews h1 hroom hpos
  · obtain ⟨v', h2, h3⟩ := app_full (x := x) hok (Slv.all hr hc hl ho) hx hm hnews hroom hpos
    refine ⟨v', _, h2, ?_, by simp, (Cons.push S _).agree hN⟩
    obtain ⟨h4, ⟨h5, h6⟩ | ⟨b', h5, h6, h7⟩⟩ := h3
    · omega
    · exact ⟨h4, .inr ⟨b', by omega, h6, h7⟩⟩

/-! ### slices of parts -/
theorem cells_one {w : Value} (h : oneCell w = true) : w.cells = #[w] := by cases w <;> first | rfl | cases h
theorem fill_all (ws : List Value) (h : ws.all oneCell = true) : ∀ (i : Nat) (arr : Array Value), arr.size = i + ws.length → Instr.fill (fun i' => some (i' * 1, 1)) arr ((ws.zipIdx i).map fun p => (p.2, p.1)) = some (arr.toList.take i ++ ws).toArray := by
  induction ws with
  | nil => intro i arr ha; simp [Instr.fill]; rw [List.take_of_length_le (by simp at ha ⊢; omega)]
  | cons w ws ih =>
    intro i arr ha
    simp only [List.all_cons, Bool.and_eq_true] at h
    have hc := cells_one h.1
    rw [List.zipIdx_cons, List.map_cons, Instr.fill]
    have hs : w.cells.size = 1 := by rw [hc]; rfl
    simp only [List.length_cons] at ha
    dsimp only
    rw [if_neg (by simp [hs]; omega)]
    have hst : w.cells.zipIdx.foldl (fun cs (c, j) => cs.setIfInBounds (i * 1 + j) c) arr = arr.setIfInBounds i w := by rw [hc]; simp
    rw [hst, ih h.2 (i + 1) _ (by simp; omega)]
    congr 1
    rw [Array.toList_setIfInBounds]
    have hlt : i < arr.toList.length := by simp; omega
    rw [show (arr.toList.set i w).take (i + 1) = arr.toList.take i ++ [w] by
      rw [List.take_add_one, List.getElem?_set_self hlt, List.take_set_of_le (Nat.le_refl i)]; rfl]
    simp
def bldOk (P : Program) (t : TypeId) : Option (TypeId × Nat) := match P.underlying t with
  | some (.slice e) => match P.info? e, zeroOf P e with
    | some i, some z => if 0 < z.cells.size then some (e, i.size) else none
    | _, _ => none
  | _ => none
theorem aeff_build {P : Program} {t el : TypeId} {len : Nat} {parts : Array (Nat × Operand)} {vals : List Value} {ev : Operand → Value} {S : Mem} {dst : Option Tmp} {ty : TypeId} {pos : String} {af : Array Edge} {gd : Option (Nat × Bool)} (hb : bldOk P t = some (el, 1)) (hl : len = vals.length) (hsm : Nat.ble len 16777216 = true)
    (hp : parts.toList.map (fun p => (p.1, ev p.2)) = (vals.zipIdx 0).map fun p => (p.2, p.1)) (h1 : vals.all oneCell = true) :
    aeff P ⟨dst, .buildSlice t len parts, ty, pos, af, gd⟩ ev S = some (.slice (some ⟨S.length, 0, none⟩) len len, S ++ [newR vals el]) := by
  unfold bldOk at hb
  split at hb
  · rename_i e hu
    split at hb
    · rename_i i z hi hz
      split at hb
      · rename_i hpos
        simp only [Option.some.injEq, Prod.mk.injEq] at hb
        obtain ⟨rfl, hsz⟩ := hb
        have hlen : len ≤ 16777216 := Nat.le_of_ble_eq_true hsm
        simp only [aeff, hu, hi, hz]
        rw [if_pos ⟨by rw [hsz]; omega, by unfold UNK; omega, hpos⟩]
        have hpp : (parts.map fun (i, x) => (i, ev x)).toList = (vals.zipIdx 0).map fun p => (p.2, p.1) := by rw [← hp]; simp
        rw [hpp, hsz, fill_all vals h1 0 _ (by simp [zeroList, hl])]
        simp
      · cases hb
    · cases hb
  · cases hb
section
variable {P : Program} {G : Nat} {Ext : FuncId → List Value → Mem → Outc → Mem → Prop} {e : Env} {S : Mem} {fl : Bool} {ops : Array Oper} {K : Kont}
variable {rest : List Oper} {dst dst2 : Option Tmp} {d : Tmp} {ty ty2 : TypeId} {pos pos2 : String} {af af2 : Array Edge} {gd gd2 : Option (Nat × Bool)}
theorem L.bs {t el : TypeId} {len : Nat} {parts : Array (Nat × Operand)} (vals : List Value) (hb : bldOk P t = some (el, 1)) (hl : len = vals.length) (hsm : Nat.ble len 16777216 = true)
    (hp : parts.toList.map (fun p => (p.1, e.eval p.2)) = (vals.zipIdx 0).map fun p => (p.2, p.1)) (h1 : vals.all oneCell = true) (hw : awanted ops ⟨dst, .buildSlice t len parts, ty, pos, af, gd⟩ e = true)
    (h : L P G Ext fl ops rest (e.put dst (.slice (some ⟨S.length, 0, none⟩) len len)) (S ++ [newR vals el]) K) :
    L P G Ext fl ops (⟨dst, .buildSlice t len parts, ty, pos, af, gd⟩ :: rest) e S K := L.eff hw (aeff_build hb hl hsm hp h1) h

theorem aeff_append {ts xs : TypeId} {s x : Operand} {o : Oper} {ev : Operand → Value} {c : Call} {r : Value × Mem} (ho : o.op = .call c) (hc : c = ⟨.builtin .append, #[s, x], #[ts, xs]⟩) (h : aappend P ts xs (ev s) (ev x) S = some r) : aeff P o ev S = some r := by
  subst hc
  simp [aeff, ho, h]
/-- append(s, x...) -/
theorem L.app {ts xs el : TypeId} {s x : Operand} {sz bytes N n m : Nat} {v xv : Value} {l news : List Value} (hok : appOk P ts xs = some (el, sz, bytes)) (hN : N ≤ S.length) (hg : Grow N S el sz v n l) (hs : e.eval s = v) (hxv : e.eval x = xv)
    (hx : Slv S sz xv m news) (h1 : news.all oneCell = true) (hroom : n + m ≤ 1099511627776) (hby : (Nat.ble 1 bytes && Nat.ble bytes 64) = true) (hw : awanted ops ⟨dst, .call ⟨.builtin .append, #[s, x], #[ts, xs]⟩, ty, pos, af, gd⟩ e = true)
    (h : ∀ a c S', Grow N S' el sz (.slice a (n + m) c) (n + m) (l ++ news) → S.length ≤ S'.length → Agree N S S' → L P G Ext fl ops rest (e.put dst (.slice a (n + m) c)) S' K) :
    L P G Ext fl ops (⟨dst, .call ⟨.builtin .append, #[s, x], #[ts, xs]⟩, ty, pos, af, gd⟩ :: rest) e S K := by
  have hf := hx.first (Nat.le_refl m)
  rw [← hx.1, List.take_length] at hf
  have hl : lenOf' xv = some m := by obtain ⟨_, a, c, rfl, _⟩ := hx; rfl
  obtain ⟨v', S', h2, h3, h4, h5⟩ := app_any hok hN hg hf hl hx.1 h1 (roomy_of hroom hby)
  obtain ⟨a, c, rfl⟩ := h3.shape
  exact L.eff hw (aeff_append rfl rfl (by rw [hs, hxv]; exact h2)) (h a c S' h3 h4 h5)
/-- append(s, one) -/
theorem L.push1 {t ts xs el : TypeId} {s y : Operand} {bytes N n : Nat} {v w : Value} {l : List Value} (hok : appOk P ts xs = some (el, 1, bytes)) (hN : N ≤ S.length) (hg : GrowF N S el 1 v n l)
    (hb : bldOk P t = some (el, 1)) (hy : e.eval y = w) (h1 : oneCell w = true)
    (w1 : awanted ops ⟨some d, .buildSlice t 1 #[(0, y)], ty, pos, af, gd⟩ e = true)
    (hs : (e.put (some d) (.slice (some ⟨S.length, 0, none⟩) 1 1)).eval s = v) (hroom : n + 1 ≤ 1099511627776) (hby : (Nat.ble 1 bytes && Nat.ble bytes 64) = true)
    (w2 : ∀ p, awanted ops ⟨dst2, .call ⟨.builtin .append, #[s, .tmp d], #[ts, xs]⟩, ty2, pos2, af2, gd2⟩ (e.put (some d) p) = true)
    (h : ∀ p a c S', Grow N S' el 1 (.slice a (n + 1) c) (n + 1) (l ++ [w]) → S.length ≤ S'.length → Agree N S S' → L P G Ext fl ops rest ((e.put (some d) p).put dst2 (.slice a (n + 1) c)) S' K) :
    L P G Ext fl ops (⟨some d, .buildSlice t 1 #[(0, y)], ty, pos, af, gd⟩ :: ⟨dst2, .call ⟨.builtin .append, #[s, .tmp d], #[ts, xs]⟩, ty2, pos2, af2, gd2⟩ :: rest) e S K := by
  refine L.bs [w] hb rfl rfl (by simp [hy]) (by simp [h1]) w1 ?_
  have hc : Cons S (S ++ [newR [w] el]) := Cons.push _ _
  have hx : Slv (S ++ [newR [w] el]) 1 (.slice (some ⟨S.length, 0, none⟩) 1 1) 1 [w] := Slv.all (row_push_new rfl) rfl (by simp)
  obtain ⟨v', S', h2, h3, h4, h5⟩ := app_growF (x := .slice (some ⟨S.length, 0, none⟩) 1 1) hok (Nat.le_trans hN hc.len) (hg.cons hc) (hx.first (Nat.le_refl 1)) rfl rfl (by simp [h1]) (roomy_of hroom hby) (by omega)
  obtain ⟨a, c, rfl⟩ := h3.shape
  exact L.eff (w2 _) (aeff_append rfl rfl (by rw [hs]; simpa [Env.eval, Env.put] using h2)) (h _ a c S' h3 (by simp at h4; omega) ((hc.agree hN).trans h5))
end

/-! ### making -/
def mkOk (P : Program) (t : TypeId) : Option (TypeId × Nat × Nat × Value) := match P.underlying t with
  | some (.slice e) => match P.info? e, zeroOf P e with
    | some i, some z => match z.cells.toList with
      | [zv] => some (e, i.size, i.bytes, zv)
      | _ => none
    | _, _ => none
  | _ => none
section
variable {P : Program} {G : Nat} {Ext : FuncId → List Value → Mem → Outc → Mem → Prop} {e : Env} {S : Mem} {fl : Bool} {ops : Array Oper} {K : Kont}
variable {rest : List Oper} {dst : Option Tmp} {ty : TypeId} {pos : String} {af : Array Edge} {gd : Option (Nat × Bool)}
theorem L.mk {t el : TypeId} {lo co : Operand} {n m bytes : Nat} {zv : Value} {k k' : IntKind} {i j : Int} (hok : mkOk P t = some (el, 1, bytes, zv)) (hl : e.eval lo = .int k i) (hi : i = n) (hc : e.eval co = .int k' j) (hj : j = m) (hnm : n ≤ m) (hn : m ≤ 1099511627776)
    (hby : (Nat.ble 1 bytes && Nat.ble bytes 64) = true) (hw : awanted ops ⟨dst, .makeSlice t lo co, ty, pos, af, gd⟩ e = true)
    (h : L P G Ext fl ops rest (e.put dst (.slice (some ⟨S.length, 0, none⟩) n m)) (S ++ [newR (List.replicate m zv) el]) K) :
    L P G Ext fl ops (⟨dst, .makeSlice t lo co, ty, pos, af, gd⟩ :: rest) e S K := by
  refine L.eff hw ?_ h
  unfold mkOk at hok
  split at hok
  · rename_i e' hu
    split at hok
    · rename_i inf z hin hz
      split at hok
      · rename_i zv' hzv
        simp only [Option.some.injEq, Prod.mk.injEq] at hok
        obtain ⟨rfl, hs, rfl, rfl⟩ := hok
        simp only [Bool.and_eq_true, Nat.ble_eq] at hby
        have hb := Nat.mul_le_mul hn hby.2
        subst hi; subst hj
        have hzs : z.cells.size = 1 := by rw [← Array.length_toList, hzv]; rfl
        simp only [aeff, hu, hin, hz, hl, hc, intOf']
        rw [if_pos ⟨by omega, by omega, by omega, by simpa using (by omega : m * inf.bytes ≤ 140737488355328), by omega⟩]
        simp only [Int.toNat_natCast, hs, Nat.mul_one]
        have : zeroList z.cells m = List.replicate m zv' := by
          have h0 : z.cells[0]! = zv' := by
            have : z.cells = #[zv'] := by rw [← Array.toList_inj, hzv]
            rw [this]; rfl
          unfold zeroList
          rw [hzs]
          simp only [Nat.mod_one, h0]
          rw [List.map_const', List.length_range]
        rw [this]
      · cases hok
    · cases hok
  · cases hok
end

/-! ### building structs and arrays -/
theorem pureRun_underlying {P : Program} {t : TypeId} {d : TypeDesc} (h : P.underlying t = some d) : pureRun P (underlying t) = some d := by
  simp [underlying, pureRun_bind, h, program, pureRun]
section
variable {P : Program} {G : Nat} {Ext : FuncId → List Value → Mem → Outc → Mem → Prop} {e : Env} {S : Mem} {fl : Bool} {ops : Array Oper} {K : Kont}
variable {rest : List Oper} {dst : Option Tmp} {ty : TypeId} {pos : String} {af : Array Edge} {gd : Option (Nat × Bool)}
end

/-! ### cutting -/
theorem aslice_hi {size : Nat} {b o n c h : Nat} {hv : Value} {kd : IntKind} (hh : hv = .int kd (h : Int)) (hc : h ≤ knownCap c) : aslice size (some ⟨b, o, none⟩) n c none (some hv) none = some (.slice (some ⟨b, o, none⟩) h c) := by
  subst hh
  unfold aslice
  simp only [abound]
  rw [if_pos ⟨by omega, by omega⟩]
  simp only [Option.bind_some, Int.toNat_natCast]
  have e0 : Addr.add ⟨b, o, none⟩ (0 * size) = (⟨b, o, none⟩ : Addr) := by rw [Nat.zero_mul]; rfl
  split
  · rename_i hk
    unfold acut
    simp only [Option.map_some, e0, Nat.sub_zero, ite_self]
  · rename_i hk
    rw [if_pos (.inl (by simp))]
    simp only [e0, Nat.sub_zero]
    rw [show UNK + knownCap c = c from by unfold knownCap; rw [if_neg hk]; omega]
end Go.Proofs.YtlnlcddbllcehaaDoor

/- Rules for arrays. Conditions: none. -/
set_option linter.unusedSimpArgs false
set_option linter.unusedVariables false
namespace Go.Proofs.YtlnlcddbllcehaaDoor
open Go

section
variable {P : Program} {G : Nat} {Ext : FuncId → List Value → Mem → Outc → Mem → Prop} {e : Env} {S : Mem} {fl : Bool} {ops : Array Oper} {K : Kont}
variable {rest : List Oper} {dst dst2 : Option Tmp} {d : Tmp} {ty ty2 : TypeId} {pos pos2 : String} {af af2 : Array Edge} {gd gd2 : Option (Nat × Bool)}
end
/-! ### cutting from the front, copying -/
/-- there is room to cut up to the end -/
def Cut (n c : Nat) : Prop := (c < UNK ∧ n ≤ c) ∨ (UNK ≤ c ∧ n ≤ knownCap c)
theorem Cut.known {n c : Nat} (h : Cut n c) : n ≤ knownCap c := by
  rcases h with ⟨h1, h2⟩ | ⟨h1, h2⟩
  · unfold knownCap; rw [if_pos h1]; exact h2
  · exact h2
theorem Cut.of {n c : Nat} (h : n ≤ knownCap c) : Cut n c := by
  rcases Nat.lt_or_ge c UNK with h1 | h1
  · unfold knownCap at h; rw [if_pos h1] at h; exact .inl ⟨h1, h⟩
  · exact .inr ⟨h1, h⟩
theorem add_one (b o k : Nat) : Addr.add ⟨b, o, none⟩ (k * 1) = ⟨b, o + k, none⟩ := by
  unfold Addr.add
  split
  · rename_i h0; rw [show k = 0 by omega]; rfl
  · rw [Nat.mul_one]
def LoIs (o : Option Value) (k : Nat) : Prop := (o = none ∧ k = 0) ∨ ∃ kd, o = some (.int kd (k : Int))
def HiIs (o : Option Value) (n h : Nat) : Prop := (o = none ∧ h = n) ∨ ∃ kd, o = some (.int kd (h : Int))
theorem aslice_at {size : Nat} {a : Option Addr} {n c k h : Nat} {lo hi : Option Value} (hl : LoIs lo k) (hh : HiIs hi n h) (hk : k ≤ h) (hc : h ≤ knownCap c) : aslice size a n c lo hi none = if c < UNK then some (acut size a k h c)
      else match a with
        | some x => if k = 0 ∨ k < knownCap c then some (.slice (some (Addr.add x (k * size))) (h - k) (UNK + (knownCap c - k))) else if h = k then some (.slice none 0 UNK) else none
        | none => if h = 0 then some (.slice none 0 UNK) else none := by
  have h1 : (k : Int) ≤ (h : Int) := by omega
  have h2 : (h : Int) ≤ (knownCap c : Int) := by omega
  unfold aslice
  rcases hl with ⟨rfl, rfl⟩ | ⟨kd, rfl⟩ <;> rcases hh with ⟨rfl, rfl⟩ | ⟨kd', rfl⟩ <;> simp [abound, hk, h1, h2, hc] <;> rfl
/-- a part of a slice; where it is empty, and the capacity is not known, nobody knows its address -/
theorem slv_part {S : Mem} {a : Option Addr} {n c k h : Nat} {l : List Value} {lo hi : Option Value} (hs : Slv S 1 (.slice a n c) n l) (hl : LoIs lo k) (hh : HiIs hi n h) (hk : k ≤ h) (hn : h ≤ n) (hc : Cut n c) :
    ∃ a' c', aslice 1 a n c lo hi none = some (.slice a' (h - k) c') ∧ Slv S 1 (.slice a' (h - k) c') (h - k) ((l.drop k).take (h - k)) ∧ Cut (h - k) c' ∧ ∀ x, a' = some x → ∃ y, a = some y ∧ y.block = x.block := by
  have hkn := hc.known
  rw [aslice_at hl hh hk (by omega)]
  have hseg : ∀ {b o : Nat} {r : Row} (c' : Nat), S.row? b = some r → o + n * 1 ≤ r.cells.length → (r.cells.drop o).take (n * 1) = l → (r.ro = none ∨ l.all known = true) →
      Slv S 1 (.slice (some ⟨b, o + k, none⟩) (h - k) c') (h - k) ((l.drop k).take (h - k)) := fun {b o r} c' e2 e3 e4 e5 => by
    have hd : ((r.cells.drop (o + k)).take ((h - k) * 1)) = (l.drop k).take (h - k) := by
      rw [← e4, List.drop_take, List.drop_drop, Nat.mul_one, Nat.mul_one, List.take_take, Nat.min_eq_left (by omega)]
    have := Slv.of (sz := 1) (n := h - k) (o := o + k) (c := c') e2 (by omega) (e5.imp id fun h => by
      rw [hd, List.all_eq_true]; exact fun x hx => List.all_eq_true.1 h x (List.mem_of_mem_drop (List.mem_of_mem_take hx)))
    rwa [hd] at this
  have hnil : h = k → ∀ (a : Option Addr) (c' : Nat), Slv S 1 (.slice a (h - k) c') (h - k) ((l.drop k).take (h - k)) := fun e a c' => by
    rw [e, Nat.sub_self, List.take_zero]; exact Slv.nil _ _ _ _
  obtain ⟨h1, a2, c2, hv, h3⟩ := hs
  cases hv
  by_cases hcu : c < UNK
  · rw [if_pos hcu]
    have hkc : knownCap c = c := if_pos hcu
    refine ⟨if c = k then a else a.map (fun x => Addr.add x (k * 1)), c - k, rfl, ?_, .inl ⟨by omega, by omega⟩, ?_⟩
    · rcases Nat.eq_zero_or_pos (h - k) with h0 | hpos
      · exact hnil (by omega) _ _
      · rw [if_neg (by omega)]
        rcases h3 with h3 | ⟨b, o, r, rfl, q2, q3, q4, q5⟩
        · omega
        simp only [Option.map_some, add_one]
        exact hseg _ q2 q3 q4 q5
    · intro x hx
      split at hx
      · exact ⟨x, hx, rfl⟩
      · cases a with
        | none => cases hx
        | some y =>
          refine ⟨y, rfl, ?_⟩
          simp only [Option.map_some, Option.some.injEq] at hx
          rw [← hx]; unfold Addr.add; split <;> rfl
  · rw [if_neg hcu]
    have hE : Cut 0 UNK := .inr ⟨Nat.le_refl _, Nat.zero_le _⟩
    cases a with
    | none =>
      have hh0 : h = 0 := by
        rcases h3 with h3 | ⟨b, o, r, e, _⟩
        · omega
        · cases e
      rw [if_pos hh0]
      have hk0 : k = 0 := by omega
      subst hh0; subst hk0
      exact ⟨none, UNK, rfl, hnil rfl _ _, hE, nofun⟩
    | some x =>
      by_cases hor : k = 0 ∨ k < knownCap c
      · dsimp only
        rw [if_pos hor]
        refine ⟨some (Addr.add x (k * 1)), UNK + (knownCap c - k), rfl, ?_, .inr ⟨by omega, by rw [knownCap_unk]; omega⟩, ?_⟩
        · rcases Nat.eq_zero_or_pos (h - k) with h0 | hpos
          · exact hnil (by omega) _ _
          · rcases h3 with h3 | ⟨b, o, r, e, q2, q3, q4, q5⟩
            · omega
            cases e
            rw [add_one]
            exact hseg _ q2 q3 q4 q5
        · intro y hy
          cases hy
          refine ⟨x, rfl, ?_⟩
          unfold Addr.add; split <;> rfl
      · dsimp only
        rw [if_neg hor, if_pos (by omega)]
        have hhk : h = k := by omega
        refine ⟨none, UNK, by rw [hhk, Nat.sub_self], hnil hhk _ _, by rw [hhk, Nat.sub_self]; exact hE, nofun⟩
theorem Slv.keepb {S S' : Mem} {sz n c b : Nat} {a : Option Addr} {l : List Value} (h : Slv S sz (.slice a n c) n l) (hk : Keep b S S') (hf : ∀ x, a = some x → x.block ≠ b) : Slv S' sz (.slice a n c) n l := by
  obtain ⟨h1, a2, c2, hv, h3⟩ := h
  cases hv
  refine ⟨h1, a, c, rfl, h3.imp id ?_⟩
  rintro ⟨d, o, r, rfl, e2, e3, e4, e5⟩
  exact ⟨d, o, r, rfl, hk.row e2 (hf _ rfl), e3, e4, e5⟩
section
variable {P : Program} {G : Nat} {Ext : FuncId → List Value → Mem → Outc → Mem → Prop} {e : Env} {S : Mem} {fl : Bool} {ops : Array Oper} {K : Kont}
variable {rest : List Oper} {dst : Option Tmp} {ty : TypeId} {pos : String} {af : Array Edge} {gd : Option (Nat × Bool)}
end
end Go.Proofs.YtlnlcddbllcehaaDoor

/- Arguments that came in, on the abstract memory of the world in which a call begins. Conditions: none. -/
set_option linter.unusedSimpArgs false
set_option linter.unusedVariables false
namespace Go.Proofs.YtlnlcddbllcehaaDoor
open Go

/-- a slice of whole numbers that came in: none; or it leads to a row of cap cells, the numbers zs -/
def IsRow (k : IntKind) (w : World) (a : Option Addr) (len cap : Nat) (zs : List Int) : Prop :=
  (a = none ∧ len = 0 ∧ cap = 0 ∧ zs = []) ∨
  ∃ x, a = some x ∧ len ≤ cap ∧ cap ≤ maxLen ∧ zs.length = cap ∧ (∀ i, i < zs.length → w.cell? (x.add i) = some (.int k (zs.getD i 0))) ∧ ∀ n ∈ zs, (Lit.int k n).wf = true
theorem okWide_block {P : Program} {W : World} {base : Nat} {t e : TypeId} {a : Addr} {len cap : Nat} (hu : P.underlying t = some (.slice e)) (h : Value.okWide P W .any base t (.slice (some a) len cap)) : a.block < W.heap.size := by
  unfold Value.okWide at h
  simp only [hu] at h
  unfold Cell.okWide at h
  simp only [hu] at h
  unfold Cell.ok at h
  simp only [hu] at h
  obtain ⟨_, _, _, _, row, cells, hs, _⟩ := h
  unfold World.shape? at hs
  split at hs
  · rename_i c el fz hh
    exact (Array.getElem?_eq_some_iff.1 hh).1
  · cases hs
theorem row_cap {k : IntKind} {W : World} {a : Option Addr} {len cap : Nat} {zs : List Int} (h : IsRow k W a len cap zs) : cap < UNK ∧ len ≤ cap := by
  rcases h with ⟨rfl, rfl, rfl, rfl⟩ | ⟨x, rfl, hlc, hm, hz, hcell, hwf⟩
  · exact ⟨by decide, by decide⟩
  · exact ⟨by unfold maxLen at hm; unfold UNK; omega, hlc⟩
theorem world_ints {k : IntKind} {W : World} {N : Nat} {a : Option Addr} {len cap : Nat} {zs : List Int} (h : IsRow k W a len cap zs) (hb : ∀ x, a = some x → x.block < W.heap.size + N) :
    Slv (mem0 W N) 1 (.slice a len cap) len ((zs.take len).map (Value.int k)) ∧ VR (rho0 W N) (.slice a len cap) (.slice a len cap) ∧ (zs.take len).length = len ∧ Cut len cap ∧ (∀ n ∈ zs, (Lit.int k n).wf = true) := by
  rcases h with ⟨rfl, rfl, rfl, rfl⟩ | ⟨x, rfl, hlc, hm, hz, hcell, hwf⟩
  · exact ⟨Slv.nil _ _ _ _, .slNil _ _, rfl, .inl ⟨by decide, by decide⟩, nofun⟩
  · have hcu : cap < UNK := by unfold maxLen at hm; unfold UNK; omega
    have hlen : (zs.take len).length = len := by rw [List.length_take]; omega
    refine ⟨?_, (fixed_slice (N := N) (hb x rfl) hcu).1, hlen, .inl ⟨hcu, hlc⟩, hwf⟩
    rcases Nat.eq_zero_or_pos len with rfl | hpos
    · rw [List.take_zero]; exact Slv.nil _ _ _ _
    have h0 := hcell 0 (by omega)
    have hx0 : x.add 0 = x := rfl
    rw [hx0] at h0
    unfold World.cell? at h0
    split at h0
    · rename_i c el fz hh
      split at h0
      · cases h0
      · rename_i hsp
        have hsp' : x.spot = none := by cases hxs : x.spot <;> simp_all
        obtain ⟨r, hr, hrl, hrc⟩ := mem0_live (N := N) hh
        have hxa : x = ⟨x.block, x.off, none⟩ := by cases x; simp at hsp'; subst hsp'; rfl
        have hci : ∀ i, i < cap → r.cells[x.off + i]? = some (.int k (zs.getD i 0)) := by
          intro i hi
          have h1 := hcell i (by omega)
          have hadd : x.add i = ⟨x.block, x.off + i, none⟩ := by
            unfold Addr.add
            split
            · rename_i h9; rw [h9]; exact hxa
            · rfl
          rw [hadd] at h1
          simp only [World.cell?, hh] at h1
          exact hrc _ _ (by simpa using h1) (fixed_scalar W N rfl)
        have hbound : x.off + len * 1 ≤ r.cells.length := by
          have := (List.getElem?_eq_some_iff.1 (hci (len - 1) (by omega))).1
          omega
        have hseg : (r.cells.drop x.off).take (len * 1) = (zs.take len).map (Value.int k) := by
          apply List.ext_getElem?
          intro i
          rw [List.getElem?_take, Nat.mul_one]
          split
          · rename_i hi
            rw [List.getElem?_drop, hci i (by omega), List.getElem?_map, List.getElem?_take, if_pos hi, List.getD_eq_getElem?_getD, List.getElem?_eq_getElem (by omega)]
            rfl
          · rename_i hi
            rw [List.getElem?_eq_none (by rw [List.length_map, hlen]; omega)]
        have := Slv.of (sz := 1) (n := len) (c := cap) hr hbound (.inr (by rw [hseg, List.all_map, List.all_eq_true]; intro n _; rfl))
        rw [hseg, ← hxa] at this
        exact this
    · cases h0
end Go.Proofs.YtlnlcddbllcehaaDoor

/- The small functions that statements share: marks, picks. Conditions: none. -/
set_option linter.unusedSimpArgs false
set_option linter.unusedVariables false
set_option maxRecDepth 100000
namespace Go.Proofs.YtlnlcddbllcehaaDoor
open Go
variable {G : Nat} {Ext : FuncId → List Value → Mem → Outc → Mem → Prop}

theorem Cons.row' {S S1 : Mem} {b : Nat} {r : Row} (h : Cons S S1) (hr : S.row? b = some r) : S1.row? b = some r := Cons.row (h := h) hr
def mk (k i : Int) : BitVec 64 := (BitVec.ofInt 64 (k + 1) * 11400714819323198485#64) ^^^ (BitVec.ofInt 64 (i + 1) * 15074714826142052245#64)
theorem mark_C (k i : Int) (S : Mem) : C Tryd.prog G Ext 38 [.int .i64 k, .int .i64 i] S fun v S' => v = v64 (mk k i) ∧ S' = S := by
  refine C.fn Tryd.func38 rfl (by kernel_rfl) rfl ?_
  repeat first|refine W.g ?_|refine L.p rfl rfl ?_|refine L.nil ?_|refine L.skip rfl ?_
  refine ⟨.inr rfl, _, rfl, ?_, rfl⟩
  refine (force_eq rfl).trans ?_
  simp only [v64, Value.int.injEq, true_and, wrap_u64, bits_u64, ofInt_toNat, BitVec.ofInt_mul, ofInt_wrap64, mk]
  rfl
def pick (i n : Int) : Int := if n < 1 then 0 else if i.tmod n < 0 then i.tmod n + n else i.tmod n
end Go.Proofs.YtlnlcddbllcehaaDoor

/- Lists of words lent, kept, compared. Conditions: none. -/
set_option linter.unusedSimpArgs false
set_option linter.unusedVariables false
set_option maxRecDepth 100000
namespace Go.Proofs.YtlnlcddbllcehaaDoor
open Go
variable {G : Nat} {Ext : FuncId → List Value → Mem → Outc → Mem → Prop}

abbrev WL := List (BitVec 64)
def wv (l : WL) : List Value := l.map v64
theorem wv_len (l : WL) : (wv l).length = l.length := List.length_map _
theorem wv_get {l : WL} {k : Nat} {x : BitVec 64} (h : l[k]? = some x) : (wv l)[k]? = some (v64 x) := by simp [wv, h]
theorem wv_get' (l : WL) {k : Nat} (h : k < l.length) : (wv l)[k]? = some (v64 l[k]) := wv_get (List.getElem?_eq_getElem h)
theorem wv_one (l : WL) : (wv l).all oneCell = true := by simp [wv, oneCell]
theorem wv_app (l m : WL) : wv (l ++ m) = wv l ++ wv m := List.map_append
theorem v64_ne (x y : BitVec 64) : ((x.toNat : Int) != (y.toNat : Int)) = (x != y) := by
  have : ((x.toNat : Int) = (y.toNat : Int)) ↔ x = y := by rw [Int.ofNat_inj]; exact BitVec.toNat_inj
  rw [Bool.eq_iff_iff]; simp [this]

/-- same bytes -/
theorem sameW_C (v1 v2 : Value) (l m : WL) (n k : Nat) (S : Mem) (h1 : Slv S 1 v1 n (wv l)) (h2 : Slv S 1 v2 k (wv m)) (hn : n < 1099511627776) (hk : k < 1099511627776) :
    C Tryd.prog G Ext 23 [v1, v2] S fun v S' => v = .bool (l == m) ∧ S' = S := by
  have l1 : l.length = n := by have := h1.1; rw [wv_len] at this; omega
  have l2 : m.length = k := by have := h2.1; rw [wv_len] at this; omega
  obtain ⟨_, a1, c1, rfl, _⟩ := id h1
  obtain ⟨_, a2, c2, rfl, _⟩ := id h2
  refine C.fn Tryd.func23 rfl (by kernel_rfl) rfl ?_
  repeat first|refine W.g ?_|refine L.p rfl rfl ?_|refine L.nil ?_|refine L.skip rfl ?_
  refine W.ite rfl (fun h => ?_) (fun h => ?_)
  · have hne : n ≠ k := by intro e; subst e; simp at h
    repeat first|refine W.g ?_|refine L.p rfl rfl ?_|refine L.nil ?_|refine L.skip rfl ?_
    refine ⟨.inr rfl, _, rfl, (force_eq rfl).trans ?_, rfl⟩
    rw [beq_eq_false_iff_ne.2 (fun e => hne (by rw [← l1, ← l2, e]))]
  · have hnk : n = k := by simp at h; omega
    subst hnk
    repeat first|refine W.g ?_|refine L.p rfl rfl ?_|refine L.nil ?_|refine L.skip rfl ?_
    refine W.loop (fun j e S' => ∃ i, j = n - i ∧ i ≤ n ∧ S' = S ∧ e 0 = .slice a1 n c1 ∧ e 1 = .slice a2 n c2 ∧ e 5 = vi i ∧ ∀ t, t < i → l[t]? = m[t]?) n ⟨0, by omega, by omega, rfl, rfl, rfl, rfl, by omega⟩ ?_
    rintro j e S' ⟨i, rfl, hi, rfl, e0, e1, e5, hle⟩
    refine W.env3 e0 e1 e5 ?_
    repeat first|refine W.g ?_|refine L.p rfl rfl ?_|refine L.nil ?_|refine L.skip rfl ?_
    refine W.ite rfl (fun h => ?_) (fun h => ?_)
    · have hin : i < n := by simp at h; omega
      repeat first|refine W.g ?_|refine L.p rfl rfl ?_|refine L.nil ?_|refine L.skip rfl ?_
      refine L.el h1 rfl (wv_get' l (l1.symm ▸ hin)) rfl rfl rfl rfl (fun _ => rfl) rfl (fun p => ?_)
      repeat first|refine W.g ?_|refine L.p rfl rfl ?_|refine L.nil ?_|refine L.skip rfl ?_
      refine L.el h2 rfl (wv_get' m (l2.symm ▸ hin)) rfl rfl rfl rfl (fun _ => rfl) rfl (fun p => ?_)
      repeat first|refine W.g ?_|refine L.p rfl rfl ?_|refine L.nil ?_|refine L.skip rfl ?_
      refine W.ite rfl (fun h => ?_) (fun h => ?_)
      · have hne : l[i] ≠ m[i] := by rw [v64_ne] at h; simpa using h
        repeat first|refine W.g ?_|refine L.p rfl rfl ?_|refine L.nil ?_|refine L.skip rfl ?_
        refine ⟨.inr rfl, _, rfl, (force_eq rfl).trans ?_, rfl⟩
        rw [beq_eq_false_iff_ne.2 (fun e => hne (by simp [e]))]
      · have heq : l[i] = m[i] := by rw [v64_ne] at h; simpa using h
        repeat first|refine W.g ?_|refine L.p rfl rfl ?_|refine L.nil ?_|refine L.skip rfl ?_
        refine ⟨n - (i + 1), by omega, i + 1, rfl, by omega, rfl, rfl, rfl, ?_, ?_⟩
        · refine (force_eq rfl).trans ?_
          rw [wrap64 (by omega) (by omega)]; rfl
        · intro t ht
          rcases Nat.lt_or_eq_of_le (Nat.le_of_lt_succ ht) with ht | rfl
          · exact hle t ht
          · rw [List.getElem?_eq_getElem (by omega), List.getElem?_eq_getElem (by omega), heq]
    · have hin : i = n := by simp at h; omega
      subst hin
      repeat first|refine W.g ?_|refine L.p rfl rfl ?_|refine L.nil ?_|refine L.skip rfl ?_
      refine ⟨.inr rfl, _, rfl, (force_eq rfl).trans ?_, rfl⟩
      rw [beq_iff_eq.2 (List.ext_getElem? fun t => ?_)]
      rcases Nat.lt_or_ge t i with ht | ht
      · exact hle t ht
      · rw [List.getElem?_eq_none (by omega), List.getElem?_eq_none (by omega)]

/-- the marksW behind a list that is lent -/
def marksW (k : Nat) : WL := (List.range k).map fun (i : Nat) => mk 90 i
theorem marksW_len (k : Nat) : (marksW k).length = k := by simp [marksW]
theorem lentW_C (v1 : Value) (l : WL) (S : Mem) (h1 : Slv S 1 v1 l.length (wv l)) (hn : l.length < 4294967296) :
    C Tryd.prog G Ext 10 [v1] S fun v S' => Cons S S' ∧ ∃ b, S.length ≤ b ∧ v = .slice (some ⟨b, 0, none⟩) l.length (UNK + (l.length + 16)) ∧ S'.row? b = some (grownR (wv (l ++ marksW 16)) 39 1) := by
  obtain ⟨_, a1, c1, rfl, _⟩ := id h1
  refine C.fn Tryd.func10 rfl (by kernel_rfl) rfl ?_
  repeat first|refine W.g ?_|refine L.p rfl rfl ?_|refine L.nil ?_|refine L.skip rfl ?_
  refine W.loop (fun j e S' => ∃ i a c, j = l.length - i ∧ i ≤ l.length ∧ Cons S S' ∧ e 0 = .slice a1 l.length c1 ∧ e 3 = .slice a i c ∧ e 4 = vi i ∧ Grow S.length S' 39 1 (.slice a i c) i (wv (l.take i))) l.length ⟨0, _, _, by omega, by omega, Cons.refl _, rfl, rfl, rfl, Grow.nil _ _ _ _⟩ ?_
  rintro j e S' ⟨i, a, c, rfl, hi, hc, e0, e3, e4, hg⟩
  refine W.env3 e0 e3 e4 ?_
  repeat first|refine W.g ?_|refine L.p rfl rfl ?_|refine L.nil ?_|refine L.skip rfl ?_
  refine W.ite rfl (fun h => ?_) (fun h => ?_)
  · have hin : i < l.length := by simp at h; omega
    repeat first|refine W.g ?_|refine L.p rfl rfl ?_|refine L.nil ?_|refine L.skip rfl ?_
    refine L.el (h1.cons hc) rfl (wv_get' l hin) rfl rfl rfl rfl (fun _ => rfl) rfl (fun p => ?_)
    refine L.push1 rfl hc.len (.inl hg) rfl rfl rfl rfl rfl (by omega) rfl (fun _ => rfl) (fun p a c S1 h2 h3 h4 => ?_)
    repeat first|refine W.g ?_|refine L.p rfl rfl ?_|refine L.nil ?_|refine L.skip rfl ?_
    refine ⟨l.length - (i + 1), by omega, i + 1, a, c, rfl, by omega, hc.trans' h4, rfl, rfl, ?_, ?_⟩
    · refine (force_eq rfl).trans ?_
      rw [wrap64 (by omega) (by omega)]; rfl
    · rw [List.take_add_one, wv_app, List.getElem?_eq_getElem hin]; exact h2
  · have hin : i = l.length := by simp at h; omega
    subst hin
    rw [List.take_length] at hg
    repeat first|refine W.g ?_|refine L.p rfl rfl ?_|refine L.nil ?_|refine L.skip rfl ?_
    refine W.loop (fun j e S' => ∃ i a c, j = 16 - i ∧ i ≤ 16 ∧ Cons S S' ∧ e 0 = .slice a1 l.length c1 ∧ e 3 = .slice a (l.length + i) c ∧ e 5 = vi i ∧ Grow S.length S' 39 1 (.slice a (l.length + i) c) (l.length + i) (wv (l ++ marksW i))) 16 ⟨0, a, c, by omega, by omega, hc, rfl, rfl, rfl, by simpa [marksW] using hg⟩ ?_
    clear hg hc S' e3 e0 e4 hi e a c h
    rintro j e S' ⟨i, a, c, rfl, hi, hc, e0, e3, e5, hg⟩
    refine W.env3 e0 e3 e5 ?_
    repeat first|refine W.g ?_|refine L.p rfl rfl ?_|refine L.nil ?_|refine L.skip rfl ?_
    refine W.ite rfl (fun h => ?_) (fun h => ?_)
    · have hin : i < 16 := by simp at h; omega
      repeat first|refine W.g ?_|refine L.p rfl rfl ?_|refine L.nil ?_|refine L.skip rfl ?_
      refine L.cl (mark_C _ _ _) rfl rfl ?_
      rintro _ _ ⟨rfl, rfl⟩
      refine ⟨fun _ => Cons.refl _, ?_⟩
      repeat first|refine W.g ?_|refine L.p rfl rfl ?_|refine L.nil ?_|refine L.skip rfl ?_
      refine L.push1 rfl hc.len (.inl hg) rfl rfl rfl rfl rfl (by omega) rfl (fun _ => rfl) (fun p a c S1 h2 h3 h4 => ?_)
      repeat first|refine W.g ?_|refine L.p rfl rfl ?_|refine L.nil ?_|refine L.skip rfl ?_
      refine ⟨16 - (i + 1), by omega, i + 1, a, c, rfl, by omega, hc.trans' h4, rfl, rfl, ?_, ?_⟩
      · refine (force_eq rfl).trans ?_
        rw [wrap64 (by omega) (by omega)]; rfl
      · rw [marksW, List.range_succ, List.map_append, ← List.append_assoc, wv_app]; exact h2
    · have hin : i = 16 := by simp at h; omega
      subst hin
      repeat first|refine W.g ?_|refine L.p rfl rfl ?_|refine L.nil ?_|refine L.skip rfl ?_
      obtain ⟨hgl, ⟨hv, h0⟩ | ⟨b, hb, hv, hr⟩⟩ := hg
      · omega
      · cases hv
        refine L.is (.slice (some ⟨b, 0, none⟩) l.length (UNK + (l.length + 16))) ?_ rfl ?_
        · rw [slice_at rfl rfl rfl (by simp)]
          exact aslice_hi rfl (by rw [knownCap_unk]; omega)
        · repeat first|refine W.g ?_|refine L.p rfl rfl ?_|refine L.nil ?_|refine L.skip rfl ?_
          exact ⟨.inr rfl, _, rfl, hc, b, hb, rfl, hr⟩
theorem keptW_C (v2 : Value) (l : WL) (b : Nat) (r : Row) (S : Mem) (hr : S.row? b = some r) (hro : r.ro = none) (hcells : r.cells = wv (l ++ marksW 16)) (h2 : Slv S 1 v2 l.length (wv l)) (hn : l.length < 4294967296) :
    C Tryd.prog G Ext 16 [.slice (some ⟨b, 0, none⟩) l.length (UNK + (l.length + 16)), v2] S fun v S' => v = .bool true ∧ S' = S := by
  obtain ⟨_, a2, c2, rfl, _⟩ := id h2
  refine C.fn Tryd.func16 rfl (by kernel_rfl) rfl ?_
  repeat first|refine W.g ?_|refine L.p rfl rfl ?_|refine L.nil ?_|refine L.skip rfl ?_
  refine W.ite rfl (fun h => ?_) (fun h => ?_)
  · simp at h
  repeat first|refine W.g ?_|refine L.p rfl rfl ?_|refine L.nil ?_|refine L.skip rfl ?_
  refine L.is (.slice (some ⟨b, 0, none⟩) (l.length + 16) (UNK + (l.length + 16))) ?_ rfl ?_
  · rw [slice_at rfl rfl rfl (by simp)]
    refine aslice_hi (kd := .i64) ?_ (by rw [knownCap_unk]; omega)
    refine (force_eq rfl).trans ?_
    rw [wrap64 (by omega) (by omega)]; rfl
  have hall : Slv S 1 (.slice (some ⟨b, 0, none⟩) (l.length + 16) (UNK + (l.length + 16))) (l.length + 16) (wv (l ++ marksW 16)) := Slv.all hr hcells (by rw [wv_len]; simp [marksW_len]) hro
  repeat first|refine W.g ?_|refine L.p rfl rfl ?_|refine L.nil ?_|refine L.skip rfl ?_
  refine W.loop (fun j e S' => ∃ i, j = l.length + 16 - i ∧ i ≤ l.length + 16 ∧ S' = S ∧ e 1 = .slice a2 l.length c2 ∧ e 5 = .slice (some ⟨b, 0, none⟩) (l.length + 16) (UNK + (l.length + 16)) ∧ e 6 = vi i) (l.length + 16) ⟨0, by omega, by omega, rfl, rfl, rfl, rfl⟩ ?_
  rintro j e S' ⟨i, rfl, hi, rfl, e1, e5, e6⟩
  refine W.env3 e1 e5 e6 ?_
  repeat first|refine W.g ?_|refine L.p rfl rfl ?_|refine L.nil ?_|refine L.skip rfl ?_
  refine W.ite rfl (fun h => ?_) (fun h => ?_)
  · have hin : i < l.length + 16 := by simp at h; omega
    repeat first|refine W.g ?_|refine L.p rfl rfl ?_|refine L.nil ?_|refine L.skip rfl ?_
    refine L.cl (mark_C _ _ _) rfl rfl ?_
    rintro _ _ ⟨rfl, rfl⟩
    refine ⟨fun _ => Cons.refl _, ?_⟩
    repeat first|refine W.g ?_|refine L.p rfl rfl ?_|refine L.nil ?_|refine L.skip rfl ?_
    refine W.ite rfl (fun h => ?_) (fun h => ?_)
    · have hil : i < l.length := by simp at h; omega
      have hal : (wv (l ++ marksW 16))[i]? = some (v64 l[i]) := by rw [wv_app, List.getElem?_append_left (by rw [wv_len]; exact hil)]; exact wv_get' l hil
      repeat first|refine W.g ?_|refine L.p rfl rfl ?_|refine L.nil ?_|refine L.skip rfl ?_
      refine L.el h2 rfl (wv_get' l hil) rfl rfl rfl rfl (fun _ => rfl) rfl (fun p => ?_)
      repeat first|refine W.g ?_|refine L.p rfl rfl ?_|refine L.nil ?_|refine L.skip rfl ?_
      refine L.el hall rfl hal rfl rfl rfl rfl (fun _ => rfl) rfl (fun p => ?_)
      repeat first|refine W.g ?_|refine L.p rfl rfl ?_|refine L.nil ?_|refine L.skip rfl ?_
      refine W.ite rfl (fun h => ?_) (fun h => ?_)
      · simp at h
      · repeat first|refine W.g ?_|refine L.p rfl rfl ?_|refine L.nil ?_|refine L.skip rfl ?_
        refine ⟨l.length + 16 - (i + 1), by omega, i + 1, rfl, by omega, rfl, rfl, rfl, ?_⟩
        refine (force_eq rfl).trans ?_
        rw [wrap64 (by omega) (by omega)]; rfl
    · have hil : ¬ i < l.length := by simp at h; omega
      have hal : (wv (l ++ marksW 16))[i]? = some (v64 (mk 90 ((i - l.length : Nat) : Int))) := by
        rw [wv_app, List.getElem?_append_right (by rw [wv_len]; omega), wv_len]
        exact wv_get (by simp [marksW, show i - l.length < 16 from by omega])
      repeat first|refine W.g ?_|refine L.p rfl rfl ?_|refine L.nil ?_|refine L.skip rfl ?_
      refine L.el hall rfl hal rfl rfl rfl rfl (fun _ => rfl) rfl (fun p => ?_)
      repeat first|refine W.g ?_|refine L.p rfl rfl ?_|refine L.nil ?_|refine L.skip rfl ?_
      refine W.ite rfl (fun h => ?_) (fun h => ?_)
      · rw [wrap64 (by omega) (by omega), show ((i : Int) - (l.length : Int)) = ((i - l.length : Nat) : Int) by omega] at h
        simp at h
      · repeat first|refine W.g ?_|refine L.p rfl rfl ?_|refine L.nil ?_|refine L.skip rfl ?_
        refine ⟨l.length + 16 - (i + 1), by omega, i + 1, rfl, by omega, rfl, rfl, rfl, ?_⟩
        refine (force_eq rfl).trans ?_
        rw [wrap64 (by omega) (by omega)]; rfl
  · repeat first|refine W.g ?_|refine L.p rfl rfl ?_|refine L.nil ?_|refine L.skip rfl ?_
    exact ⟨.inr rfl, _, rfl, rfl, rfl⟩
end Go.Proofs.YtlnlcddbllcehaaDoor

/- Lists of bytes lent, kept, compared. Conditions: none. -/
set_option linter.unusedSimpArgs false
set_option linter.unusedVariables false
set_option maxRecDepth 100000
namespace Go.Proofs.YtlnlcddbllcehaaDoor
open Go
variable {G : Nat} {Ext : FuncId → List Value → Mem → Outc → Mem → Prop}

abbrev BL := List (BitVec 8)
def bv (l : BL) : List Value := l.map v8
theorem u8_of_v64 (x : BitVec 64) : IntKind.u8.wrap (x.toNat : Int) = ((x.setWidth 8).toNat : Int) := by
  rw [wrap_u8, show BitVec.ofInt 8 (x.toNat : Int) = x.setWidth 8 by apply BitVec.eq_of_toNat_eq; simp [BitVec.toNat_ofInt]]
end Go.Proofs.YtlnlcddbllcehaaDoor

/- Numbers as lists of limbs, of bytes. Conditions: none. -/
set_option linter.unusedSimpArgs false
set_option linter.unusedVariables false
namespace Go.Proofs.YtlnlcddbllcehaaDoor
open Go

/-- the number of a list of limbs, the least first -/
def wnum : WL → Nat
  | [] => 0
  | x :: l => x.toNat + 18446744073709551616 * wnum l
/-- a number's limbs, without noughts at the end -/
def toW (n : Nat) : WL := if h : n = 0 then [] else BitVec.ofNat 64 n :: toW (n / 18446744073709551616)
termination_by n
decreasing_by omega
theorem toW_zero : toW 0 = [] := by rw [toW]; simp
theorem toW_pos {n : Nat} (h : n ≠ 0) : toW n = BitVec.ofNat 64 n :: toW (n / 18446744073709551616) := by rw [toW]; simp [h]
theorem wnum_toW (n : Nat) : wnum (toW n) = n := by
  induction n using Nat.strongRecOn with
  | _ n ih =>
    by_cases h : n = 0
    · subst h; rw [toW_zero]; rfl
    · rw [toW_pos h, wnum, ih _ (by omega), BitVec.toNat_ofNat]
      omega
theorem wnum_lt (l : WL) : wnum l < 2 ^ (64 * l.length) := by
  induction l with
  | nil => simp [wnum]
  | cons x l ih =>
    have hx := x.isLt
    rw [wnum, List.length_cons, Nat.mul_succ, Nat.pow_add]
    have : 18446744073709551616 * wnum l + 18446744073709551616 ≤ 2 ^ (64 * l.length) * 2 ^ 64 := by
      have := Nat.mul_le_mul_left 18446744073709551616 (Nat.succ_le_of_lt ih)
      rw [Nat.mul_comm (2 ^ (64 * l.length))]
      have e : (2 : Nat) ^ 64 = 18446744073709551616 := by decide
      rw [e]
      omega
    omega
theorem wnum_append (l m : WL) : wnum (l ++ m) = wnum l + 2 ^ (64 * l.length) * wnum m := by
  induction l with
  | nil => simp [wnum]
  | cons x l ih =>
    rw [List.cons_append, wnum, wnum, ih, List.length_cons, Nat.mul_succ, Nat.pow_add, Nat.mul_add, ← Nat.mul_assoc, Nat.mul_comm (2 ^ (64 * l.length)) (2 ^ 64)]
    have e : (2 : Nat) ^ 64 = 18446744073709551616 := by decide
    rw [e]
    omega
/-- the last limb is not nought -/
def Canon (l : WL) : Prop := l.getLast? ≠ some 0#64
theorem canon_nil : Canon [] := by simp [Canon]
theorem toW_wnum {l : WL} (h : Canon l) : toW (wnum l) = l := by
  induction l with
  | nil => exact toW_zero
  | cons x l ih =>
    have hl : Canon l := by
      intro h2
      cases l with
      | nil => simp at h2
      | cons y l => exact h (by rw [List.getLast?_cons_cons]; exact h2)
    have hx := x.isLt
    have hne : wnum (x :: l) ≠ 0 := by
      intro h0
      rw [wnum] at h0
      have hx0 : x.toNat = 0 := by omega
      have hl0 : wnum l = 0 := by omega
      have := ih hl
      rw [hl0, toW_zero] at this
      subst this
      exact h (by simp [BitVec.eq_of_toNat_eq (y := 0#64) (by simpa using hx0)])
    rw [toW_pos hne, wnum]
    have e1 : (x.toNat + 18446744073709551616 * wnum l) / 18446744073709551616 = wnum l := by omega
    rw [e1, ih hl]
    congr 1
    apply BitVec.eq_of_toNat_eq
    rw [BitVec.toNat_ofNat]
    omega
theorem canon_toW (n : Nat) : Canon (toW n) := by
  induction n using Nat.strongRecOn with
  | _ n ih =>
    by_cases h : n = 0
    · subst h; rw [toW_zero]; exact canon_nil
    · rw [toW_pos h]
      have h2 := ih (n / 18446744073709551616) (by omega)
      unfold Canon at h2 ⊢
      cases hq : toW (n / 18446744073709551616) with
      | nil =>
        have h0 := wnum_toW (n / 18446744073709551616)
        rw [hq] at h0
        simp only [wnum] at h0
        simp only [List.getLast?_singleton, ne_eq, Option.some.injEq]
        intro h3
        have := congrArg BitVec.toNat h3
        rw [BitVec.toNat_ofNat] at this
        simp at this
        omega
      | cons y l => rw [List.getLast?_cons_cons, ← hq]; exact h2
theorem wnum_zeros (k : Nat) : wnum (List.replicate k 0#64) = 0 := by
  induction k with
  | zero => rfl
  | succ k ih => rw [List.replicate_succ, wnum, ih]; rfl
/-- noughts at the end cut off -/
theorem take_canon {l : WL} {k : Nat} (hk : k ≤ l.length) (h0 : ∀ i, k ≤ i → i < l.length → l[i]? = some 0#64) (hc : k = 0 ∨ l[k - 1]? ≠ some 0#64) : l.take k = toW (wnum l) := by
  have hd : l.drop k = List.replicate (l.length - k) 0#64 := by
    apply List.ext_getElem?
    intro i
    rw [List.getElem?_drop, List.getElem?_replicate]
    split
    · exact h0 _ (by omega) (by omega)
    · exact List.getElem?_eq_none (by omega)
  have hn : wnum l = wnum (l.take k) := by
    conv => lhs; rw [← List.take_append_drop k l, hd, wnum_append, wnum_zeros]
    simp
  rw [hn, toW_wnum]
  unfold Canon
  rcases hc with rfl | hc
  · simp
  · by_cases hk0 : k = 0
    · subst hk0; simp
    · rw [List.getLast?_eq_getElem?, List.length_take, Nat.min_eq_left hk, List.getElem?_take, if_pos (by omega)]
      exact hc
theorem toW_len_le (l : WL) : (toW (wnum l)).length ≤ l.length := by
  rcases Nat.lt_or_ge l.length (toW (wnum l)).length with h | h
  · exfalso
    have hc := canon_toW (wnum l)
    have hn := wnum_toW (wnum l)
    have hl := wnum_lt l
    have hne : toW (wnum l) ≠ [] := by intro e; rw [e] at h; simp at h
    have hs := List.dropLast_concat_getLast hne
    have hw := wnum_append (toW (wnum l)).dropLast [(toW (wnum l)).getLast hne]
    rw [hs, hn] at hw
    have hlast : (toW (wnum l)).getLast hne ≠ 0#64 := by
      intro e
      exact hc (by rw [List.getLast?_eq_some_getLast hne, e])
    have hpos : 1 ≤ wnum [(toW (wnum l)).getLast hne] := by
      rw [wnum, wnum]
      have : ((toW (wnum l)).getLast hne).toNat ≠ 0 := fun e => hlast (BitVec.eq_of_toNat_eq (by simpa using e))
      omega
    rw [List.length_dropLast] at hw
    have h1 : 2 ^ (64 * l.length) ≤ 2 ^ (64 * ((toW (wnum l)).length - 1)) := Nat.pow_le_pow_right (by decide) (by omega)
    have h2 : 2 ^ (64 * ((toW (wnum l)).length - 1)) ≤ 2 ^ (64 * ((toW (wnum l)).length - 1)) * wnum [(toW (wnum l)).getLast hne] := Nat.le_mul_of_pos_right _ hpos
    omega
  · exact h
theorem toW_take (l : WL) : l.take (toW (wnum l)).length = toW (wnum l) := by
  have hn := wnum_toW (wnum l)
  have hlen := toW_len_le l
  -- the canonical list is a prefix: cut noughts off one by one
  have key : ∀ k, k ≤ l.length → (∀ i, k ≤ i → i < l.length → l[i]? = some 0#64) → ∃ j, j ≤ l.length ∧ l.take j = toW (wnum l) := by
    intro k
    induction k with
    | zero => intro hk h0; exact ⟨0, by omega, take_canon hk h0 (.inl rfl)⟩
    | succ k ih =>
      intro hk h0
      by_cases hc : l[k]? = some 0#64
      · refine ih (by omega) (fun i h1 h2 => ?_)
        rcases Nat.eq_or_lt_of_le h1 with rfl | h1
        · exact hc
        · exact h0 i h1 h2
      · exact ⟨k + 1, hk, take_canon hk h0 (.inr (by simpa using hc))⟩
  obtain ⟨j, hj, he⟩ := key l.length (Nat.le_refl _) (fun i h1 h2 => by omega)
  have : (toW (wnum l)).length = j := by rw [← he, List.length_take]; omega
  rw [this]; exact he
/-- the form of a list -/
abbrev fm (l : WL) : WL := toW (wnum l)
theorem toW_len (n k : Nat) : (toW n).length ≤ k ↔ n < 2 ^ (64 * k) := by
  constructor
  · intro h
    have := wnum_lt (toW n)
    rw [wnum_toW] at this
    exact Nat.lt_of_lt_of_le this (Nat.pow_le_pow_right (by decide) (by omega))
  · intro h
    induction k generalizing n with
    | zero =>
      have : n = 0 := by simp at h; omega
      subst this; rw [toW_zero]; simp
    | succ k ih =>
      by_cases h0 : n = 0
      · subst h0; rw [toW_zero]; simp
      · rw [toW_pos h0, List.length_cons]
        refine Nat.succ_le_succ (ih _ ?_)
        rw [Nat.mul_succ, Nat.pow_add] at h
        have e : (2 : Nat) ^ 64 = 18446744073709551616 := by decide
        rw [e] at h
        exact Nat.div_lt_of_lt_mul (by rw [Nat.mul_comm]; exact h)
/-- how many bits -/
def blen (n : Nat) : Nat := if n = 0 then 0 else n.log2 + 1
theorem blen_le {n k : Nat} : blen n ≤ k ↔ n < 2 ^ k := by
  unfold blen
  split
  · rename_i h; subst h; simp [Nat.pow_pos]
  · rename_i h
    rw [← Nat.log2_lt h]; omega
theorem blen_unique {n k : Nat} (h1 : n < 2 ^ k) (h2 : k = 0 ∨ 2 ^ (k - 1) ≤ n) : blen n = k := by
  have ha := blen_le.2 h1
  rcases h2 with rfl | h2
  · omega
  · rcases Nat.lt_or_ge (blen n) k with h | h
    · have := blen_le.1 (show blen n ≤ k - 1 by omega); omega
    · omega
theorem blen_shift {x y k : Nat} (hx : x < 2 ^ k) (hy : y ≠ 0) : blen (x + 2 ^ k * y) = k + blen y := by
  have h1 := blen_le.1 (Nat.le_refl (blen y))
  have hb : blen y ≠ 0 := by unfold blen; rw [if_neg hy]; omega
  have h2 : ¬ y < 2 ^ (blen y - 1) := fun h => by have := blen_le.2 h; omega
  refine blen_unique ?_ (.inr ?_)
  · have : 2 ^ k * (y + 1) ≤ 2 ^ k * 2 ^ blen y := Nat.mul_le_mul_left _ h1
    rw [Nat.pow_add]
    rw [Nat.mul_add] at this
    omega
  · rw [show k + blen y - 1 = k + (blen y - 1) by omega, Nat.pow_add]
    have : 2 ^ k * 2 ^ (blen y - 1) ≤ 2 ^ k * y := Nat.mul_le_mul_left _ (by omega)
    omega
/-- the bits of a list, by its highest limb -/
theorem blen_top {l : WL} {x : BitVec 64} (h : l.getLast? = some x) (hx : x ≠ 0#64) : blen (wnum l) = 64 * (l.length - 1) + blen x.toNat := by
  have hne : l ≠ [] := by intro e; subst e; simp at h
  have hs := List.dropLast_concat_getLast hne
  have he : l.getLast hne = x := by rw [List.getLast?_eq_some_getLast hne] at h; simpa using h
  have hw := wnum_append l.dropLast [l.getLast hne]
  rw [hs, he] at hw
  have hx0 : x.toNat ≠ 0 := fun e => hx (BitVec.eq_of_toNat_eq (by simpa using e))
  rw [hw]
  simp only [wnum, Nat.mul_zero, Nat.add_zero, List.length_dropLast]
  have hl := wnum_lt l.dropLast
  rw [List.length_dropLast] at hl
  exact blen_shift hl hx0
end Go.Proofs.YtlnlcddbllcehaaDoor

/- Lists that were handed out, each with a block of its own; appending to them. Conditions: none. -/
set_option linter.unusedSimpArgs false
set_option linter.unusedVariables false
namespace Go.Proofs.YtlnlcddbllcehaaDoor
open Go

/-- a list that was handed out: its block (if it has one), its length, its capacity -/
structure Hd where
  a : Option Nat
  n : Nat
  c : Nat
def Hd.v (h : Hd) : Value := .slice (h.a.map fun b => ⟨b, 0, none⟩) h.n h.c
/-- it holds l, and may be written and appended to -/
def HdOk (S : Mem) (el : TypeId) (h : Hd) (l : List Value) : Prop :=
  l.length = h.n ∧ ((h.a = none ∧ h.n = 0 ∧ h.c = 0) ∨ ∃ b r, h.a = some b ∧ S.row? b = some r ∧ r.ro = none ∧ h.n ≤ r.cells.length ∧ r.cells.take h.n = l ∧ ((h.c = h.n ∧ h.n < UNK) ∨ (h.c = UNK + h.n ∧ r = grownR l el 1)))
/-- everything but these rows is as it was -/
def KeepL (bs : List Nat) (S S1 : Mem) : Prop := S.length ≤ S1.length ∧ ∀ r, r < S.length → r ∉ bs → S1[r]? = S[r]?
theorem KeepL.refl (bs : List Nat) (S : Mem) : KeepL bs S S := ⟨Nat.le_refl _, fun _ _ _ => rfl⟩
theorem KeepL.trans {bs : List Nat} {S S1 S2 : Mem} (h : KeepL bs S S1) (k : KeepL bs S1 S2) : KeepL bs S S2 := ⟨Nat.le_trans h.1 k.1, fun r hr hb => (k.2 r (Nat.lt_of_lt_of_le hr h.1) hb).trans (h.2 r hr hb)⟩
/-- the second step may touch what is new, too -/
theorem KeepL.then {bs cs : List Nat} {S S1 S2 : Mem} (h : KeepL bs S S1) (k : KeepL cs S1 S2) (hc : ∀ r ∈ cs, r ∈ bs ∨ S.length ≤ r) : KeepL bs S S2 :=
  ⟨Nat.le_trans h.1 k.1, fun r hr hb => (k.2 r (Nat.lt_of_lt_of_le hr h.1) (fun hm => (hc r hm).elim hb (by omega))).trans (h.2 r hr hb)⟩
theorem KeepL.mono {bs cs : List Nat} {S S1 : Mem} (h : KeepL bs S S1) (hc : ∀ r ∈ bs, r ∈ cs) : KeepL cs S S1 := ⟨h.1, fun r hr hb => h.2 r hr (fun hm => hb (hc r hm))⟩
theorem KeepL.row {bs : List Nat} {S S1 : Mem} {c : Nat} {r : Row} (h : KeepL bs S S1) (hr : S.row? c = some r) (hne : c ∉ bs) : S1.row? c = some r := by
  rw [← hr]; simp only [Mem.row?]; rw [h.2 c (row_lt hr) hne]
theorem KeepL.nil {S S1 : Mem} (h : KeepL [] S S1) : Cons S S1 := fun r hr => h.2 r hr (by simp)
theorem Cons.keepL {S S1 : Mem} (h : Cons S S1) (bs : List Nat) : KeepL bs S S1 := ⟨h.len, fun r hr _ => h r hr⟩
theorem Keep.keepL {S S1 : Mem} {b : Nat} {bs : List Nat} (h : Keep b S S1) (hb : b ∈ bs) : KeepL bs S S1 := ⟨h.1, fun r hr hn => h.2 r hr (fun e => hn (e ▸ hb))⟩
theorem KeepL.cons0 {S S1 S0 : Mem} {bs : List Nat} (h : KeepL bs S S1) (h0 : Cons S0 S) (hb : ∀ b ∈ bs, S0.length ≤ b) : Cons S0 S1 := fun r hr =>
  (h.2 r (Nat.lt_of_lt_of_le hr h0.len) (fun hm => by have := hb r hm; omega)).trans (h0 r hr)

theorem HdOk.len {S : Mem} {el : TypeId} {h : Hd} {l : List Value} (k : HdOk S el h l) : l.length = h.n := k.1
theorem HdOk.slv {S : Mem} {el : TypeId} {h : Hd} {l : List Value} (k : HdOk S el h l) : Slv S 1 h.v h.n l := by
  obtain ⟨h1, ⟨h2, h3, h4⟩ | ⟨b, r, h2, h3, h4, h5, h6, h7⟩⟩ := k
  · exact ⟨by omega, _, _, rfl, .inl (by omega)⟩
  · refine ⟨by omega, _, _, rfl, .inr ⟨b, 0, r, by rw [h2]; rfl, h3, by omega, by rw [List.drop_zero, Nat.mul_one]; exact h6, .inl h4⟩⟩
theorem HdOk.keep {S S1 : Mem} {el : TypeId} {h : Hd} {l : List Value} {bs : List Nat} (k : HdOk S el h l) (hk : KeepL bs S S1) (hn : ∀ b, h.a = some b → b ∉ bs) : HdOk S1 el h l := by
  obtain ⟨h1, h2 | ⟨b, r, h2, h3, h4⟩⟩ := k
  · exact ⟨h1, .inl h2⟩
  · exact ⟨h1, .inr ⟨b, r, h2, hk.row h3 (hn b h2), h4⟩⟩
theorem HdOk.cons {S S1 : Mem} {el : TypeId} {h : Hd} {l : List Value} (k : HdOk S el h l) (hk : Cons S S1) : HdOk S1 el h l := k.keep (hk.keepL []) (by simp)
theorem HdOk.lt {S : Mem} {el : TypeId} {h : Hd} {l : List Value} (k : HdOk S el h l) {b : Nat} (hb : h.a = some b) : b < S.length := by
  obtain ⟨h1, ⟨h2, h3, h4⟩ | ⟨b', r, h2, h3, h4⟩⟩ := k
  · rw [h2] at hb; cases hb
  · rw [h2] at hb; cases hb; exact row_lt h3
theorem HdOk.nil (S : Mem) (el : TypeId) : HdOk S el ⟨none, 0, 0⟩ [] := ⟨rfl, .inl ⟨rfl, rfl, rfl⟩⟩
/-- a list of known capacity, at a row's beginning -/
theorem HdOk.full {S : Mem} {el : TypeId} {b n : Nat} {r : Row} {l : List Value} (hr : S.row? b = some r) (hro : r.ro = none) (hl : l.length = n) (ht : r.cells.take n = l) (hn : n < UNK) : HdOk S el ⟨some b, n, n⟩ l := by
  refine ⟨hl, .inr ⟨b, r, rfl, hr, hro, ?_, ht, .inl ⟨rfl, hn⟩⟩⟩
  show n ≤ _
  have := congrArg List.length ht
  rw [List.length_take] at this
  omega
theorem HdOk.grown {S : Mem} {el : TypeId} {b n : Nat} {l : List Value} (hr : S.row? b = some (grownR l el 1)) (hl : l.length = n) : HdOk S el ⟨some b, n, UNK + n⟩ l :=
  ⟨hl, .inr ⟨b, _, rfl, hr, rfl, by show n ≤ l.length; omega, by show l.take n = l; exact List.take_of_length_le (by omega), .inr ⟨rfl, rfl⟩⟩⟩
/-- an element is written -/
theorem HdOk.set {S : Mem} {el : TypeId} {b n c i : Nat} {r : Row} {l : List Value} (w : Value) (k : HdOk S el ⟨some b, n, c⟩ l) (hr : S.row? b = some r) : HdOk (S.set b { r with cells := r.cells.set i w }) el ⟨some b, n, c⟩ (l.set i w) := by
  obtain ⟨h1, ⟨h2, _⟩ | ⟨b', r', h2, h3, h4, h5, h6, h7⟩⟩ := k
  · cases h2
  · cases h2
    rw [hr] at h3; cases h3
    refine ⟨by rw [List.length_set]; exact h1, .inr ⟨b, _, rfl, row_set_same hr (Mem.row?_some hr).2, h4, by simpa using h5, ?_, ?_⟩⟩
    · show (r.cells.set i w).take n = _
      rw [← h6, ← List.take_set]
    · rcases h7 with h7 | ⟨h7, h8⟩
      · exact .inl h7
      · refine .inr ⟨h7, ?_⟩
        subst h8; rfl
theorem HdOk.row {S : Mem} {el : TypeId} {b n c : Nat} {l : List Value} (k : HdOk S el ⟨some b, n, c⟩ l) : ∃ r, S.row? b = some r ∧ r.ro = none ∧ n ≤ r.cells.length ∧ r.cells.take n = l := by
  obtain ⟨h1, ⟨h2, _⟩ | ⟨b', r', h2, h3, h4, h5, h6, h7⟩⟩ := k
  · cases h2
  · cases h2
    exact ⟨r', h3, h4, h5, h6⟩
theorem app_hd {P : Program} {ts xs : TypeId} {el : TypeId} {bytes m : Nat} {S : Mem} {h : Hd} {x : Value} {l news : List Value} (hok : appOk P ts xs = some (el, 1, bytes)) (hg : HdOk S el h l)
    (hx : firstOf S 1 m x = some news) (hm : lenOf' x = some m) (hnews : news.length = m) (h1 : news.all oneCell = true) (hroom : roomy (h.n + m) bytes) (hpos : 0 < m) :
    ∃ h' S', aappend P ts xs h.v x S = some (Hd.v h', S') ∧ HdOk S' el h' (l ++ news) ∧ h'.n = h.n + m ∧ h'.c = UNK + h'.n ∧ (∃ b, h'.a = some b ∧ S.length ≤ b) ∧ KeepL h.a.toList S S' := by
  obtain ⟨a, n, c⟩ := h
  obtain ⟨hl, ⟨h2, h3, h4⟩ | ⟨b, r, h2, h3, h4, h5, h6, h7⟩⟩ := hg
  · dsimp only at h2 h3 h4 hl hroom
    subst h2; subst h3; subst h4
    have hl0 : l = [] := List.length_eq_zero_iff.1 hl
    subst hl0
    obtain ⟨v', S', q1, q2, q3, q4⟩ := app_grow (N := S.length) hok (Nat.le_refl _) (Grow.nil S.length S el 1) hx hm (by omega) h1 hroom hpos
    obtain ⟨q5, ⟨_, q6⟩ | ⟨b', q6, q7, q8⟩⟩ := q2
    · omega
    · subst q7
      exact ⟨⟨some b', 0 + m, UNK + (0 + m)⟩, S', q1, HdOk.grown q8 (by omega), rfl, rfl, ⟨b', rfl, q6⟩, ⟨q3, fun r hr _ => q4 r hr⟩⟩
  · dsimp only at h2 h5 h6 h7 hl hroom
    subst h2
    rcases h7 with ⟨rfl, h8⟩ | ⟨rfl, rfl⟩
    · have hv : Slv S 1 (.slice (some ⟨b, 0, none⟩) c c) c l := by
        have := Slv.of (sz := 1) (n := c) (o := 0) (c := c) h3 (by omega) (.inl h4)
        rwa [List.drop_zero, Nat.mul_one, h6] at this
      obtain ⟨v', q1, q2⟩ := app_full hok hv hx hm (by omega) hroom hpos
      obtain ⟨q5, ⟨_, q6⟩ | ⟨b', q6, q7, q8⟩⟩ := q2
      · omega
      · subst q7
        exact ⟨⟨some b', c + m, UNK + (c + m)⟩, _, q1, HdOk.grown q8 (by simp; omega), rfl, rfl, ⟨b', rfl, q6⟩, (Cons.push S _).keepL _⟩
    · obtain ⟨dx, i, z, hu1, hu2, hi, hd, hz, hzz1, hzz2, hsz, rfl⟩ := appOk_some hok
      have hbig : n + m < UNK := by have := hroom.2.2.1; unfold UNK; omega
      have hcond : ¬ (z.cells.size ≠ i.size ∨ ¬ z.cells.toList.all scalar = true) := fun h => h.elim (fun h => h hzz1) (fun h => h hzz2)
      have hf : firstOf S i.size n (.slice (some ⟨b, 0, none⟩) n (UNK + n)) = some l := by
        have := (Slv.all (c := UNK + n) h3 rfl (show l.length = n * 1 by omega)).first (Nat.le_refl _)
        rw [hsz, this]
        show some (l.take (n * 1)) = some l
        rw [List.take_of_length_le (by omega)]
      have hlt := row_lt h3
      refine ⟨⟨some S.length, n + m, UNK + (n + m)⟩, S.set b { grownR l el 1 with st := .moved } ++ [grownR (l ++ news) el 1], ?_, HdOk.grown ?_ (by simp; omega), rfl, rfl, ⟨_, rfl, Nat.le_refl _⟩, by simp, fun r hr hne => ?_⟩
      · show aappend P ts xs (.slice (some ⟨b, 0, none⟩) n (UNK + n)) x S = _
        rw [aappend_eq hu1 hu2 hi hd hz hm, hf, hsz]
        simp only [hx, Option.bind_some]
        rw [← hsz, if_neg hcond, if_neg (by rw [knownCap_unk]; omega), if_pos ⟨hroom, by rw [hsz]; omega, by rw [hsz]; omega⟩, if_neg (by omega)]
        rw [if_pos (by simp)]
        simp only [h3]
        rw [if_pos ⟨rfl, rfl, rfl, hsz.symm, h1, by rw [hsz]; show n * 1 ≤ l.length; omega⟩]
        rw [hsz]; rfl
      · have := row_push_new (S := S.set b { grownR l el 1 with st := .moved }) (x := grownR (l ++ news) el 1) rfl
        rwa [List.length_set] at this
      · simp at hne
        rw [List.getElem?_append_left (by simpa using hr), List.getElem?_set, if_neg (fun e => hne e.symm)]
theorem app_hd0 {P : Program} {ts xs : TypeId} {el : TypeId} {bytes : Nat} {S : Mem} {h : Hd} {x : Value} {l : List Value} (hok : appOk P ts xs = some (el, 1, bytes)) (hg : HdOk S el h l)
    (hx : firstOf S 1 0 x = some []) (hm : lenOf' x = some 0) : aappend P ts xs h.v x S = some (h.v, S) := by
  obtain ⟨dx, i, z, hu1, hu2, hi, hd, hz, hzz1, hzz2, hsz, rfl⟩ := appOk_some hok
  have hcond : ¬ (z.cells.size ≠ i.size ∨ ¬ z.cells.toList.all scalar = true) := fun h => h.elim (fun h => h hzz1) (fun h => h hzz2)
  have hf := hg.slv.first (Nat.le_refl _)
  obtain ⟨a, n, c⟩ := h
  dsimp only [Hd.v] at hf ⊢
  rw [aappend_eq hu1 hu2 hi hd hz hm, hsz, hx, hf]
  simp only [Option.bind_some]
  rw [if_neg (by rw [← hsz]; exact hcond)]
  obtain ⟨hl, ⟨h2, h3, h4⟩ | ⟨b, r, h2, h3, h4, h5, h6, h7⟩⟩ := hg
  · dsimp only at h2 h3 h4
    subst h2; subst h3; subst h4
    simp [knownCap, UNK]
  · dsimp only at h2 h7
    subst h2
    have hk : n + 0 ≤ knownCap c := by
      rcases h7 with ⟨rfl, h8⟩ | ⟨rfl, _⟩
      · unfold knownCap; rw [if_pos h8]; omega
      · rw [knownCap_unk]; omega
    rw [if_pos hk]
    simp
section
variable {P : Program} {G : Nat} {Ext : FuncId → List Value → Mem → Outc → Mem → Prop} {e : Env} {S : Mem} {fl : Bool} {ops : Array Oper} {K : Kont}
variable {rest : List Oper} {dst dst2 : Option Tmp} {d : Tmp} {ty ty2 : TypeId} {pos pos2 : String} {af af2 : Array Edge} {gd gd2 : Option (Nat × Bool)}
/-- append(s, one), s a list that was handed out -/
theorem L.pushH {t ts xs el : TypeId} {s y : Operand} {bytes : Nat} {h : Hd} {w : Value} {l : List Value} (hok : appOk P ts xs = some (el, 1, bytes)) (hg : HdOk S el h l)
    (hb : bldOk P t = some (el, 1)) (hy : e.eval y = w) (h1 : oneCell w = true)
    (w1 : awanted ops ⟨some d, .buildSlice t 1 #[(0, y)], ty, pos, af, gd⟩ e = true)
    (hs : (e.put (some d) (.slice (some ⟨S.length, 0, none⟩) 1 1)).eval s = h.v) (hroom : h.n + 1 ≤ 1099511627776) (hby : (Nat.ble 1 bytes && Nat.ble bytes 64) = true)
    (w2 : ∀ p, awanted ops ⟨dst2, .call ⟨.builtin .append, #[s, .tmp d], #[ts, xs]⟩, ty2, pos2, af2, gd2⟩ (e.put (some d) p) = true)
    (k : ∀ p h' S', HdOk S' el h' (l ++ [w]) → h'.n = h.n + 1 → (∃ b, h'.a = some b ∧ S.length ≤ b) → KeepL h.a.toList S S' → L P G Ext fl ops rest ((e.put (some d) p).put dst2 (Hd.v h')) S' K) :
    L P G Ext fl ops (⟨some d, .buildSlice t 1 #[(0, y)], ty, pos, af, gd⟩ :: ⟨dst2, .call ⟨.builtin .append, #[s, .tmp d], #[ts, xs]⟩, ty2, pos2, af2, gd2⟩ :: rest) e S K := by
  refine L.bs [w] hb rfl rfl (by simp [hy]) (by simp [h1]) w1 ?_
  have hc : Cons S (S ++ [newR [w] el]) := Cons.push _ _
  have hx : Slv (S ++ [newR [w] el]) 1 (.slice (some ⟨S.length, 0, none⟩) 1 1) 1 [w] := Slv.all (row_push_new rfl) rfl (by simp)
  obtain ⟨h', S', q1, q2, q3, q4, ⟨b, q5, q6⟩, q7⟩ := app_hd (x := .slice (some ⟨S.length, 0, none⟩) 1 1) hok (hg.cons hc) (hx.first (Nat.le_refl 1)) rfl rfl (by simp [h1]) (roomy_of hroom hby) (by omega)
  exact L.eff (w2 _) (aeff_append rfl rfl (by rw [hs]; simpa [Env.eval, Env.put] using q1)) (k _ h' S' q2 q3 ⟨b, q5, by simp at q6; omega⟩ ((hc.keepL _).trans q7))
/-- append(s, x...), s a list that was handed out -/
theorem L.appH {ts xs el : TypeId} {s x : Operand} {bytes m : Nat} {h : Hd} {xv : Value} {l news : List Value} (hok : appOk P ts xs = some (el, 1, bytes)) (hg : HdOk S el h l) (hs : e.eval s = h.v) (hxv : e.eval x = xv)
    (hx : Slv S 1 xv m news) (h1 : news.all oneCell = true) (hroom : h.n + m ≤ 1099511627776) (hby : (Nat.ble 1 bytes && Nat.ble bytes 64) = true) (hw : awanted ops ⟨dst, .call ⟨.builtin .append, #[s, x], #[ts, xs]⟩, ty, pos, af, gd⟩ e = true)
    (k : ∀ h' S', HdOk S' el h' (l ++ news) → h'.n = h.n + m → (h'.a = h.a ∧ m = 0 ∨ ∃ b, h'.a = some b ∧ S.length ≤ b) → KeepL h.a.toList S S' → L P G Ext fl ops rest (e.put dst (Hd.v h')) S' K) :
    L P G Ext fl ops (⟨dst, .call ⟨.builtin .append, #[s, x], #[ts, xs]⟩, ty, pos, af, gd⟩ :: rest) e S K := by
  have hf := hx.first (Nat.le_refl m)
  rw [← hx.1, List.take_length] at hf
  have hl : lenOf' xv = some m := by obtain ⟨_, a, c, rfl, _⟩ := hx; rfl
  have hnl : news.length = m := by have := hx.1; omega
  rcases Nat.eq_zero_or_pos m with rfl | hpos
  · have hn0 : news = [] := List.length_eq_zero_iff.1 hnl
    subst hn0
    exact L.eff hw (aeff_append rfl rfl (by rw [hs, hxv]; exact app_hd0 hok hg hf hl)) (k h S (by rw [List.append_nil]; exact hg) rfl (.inl ⟨rfl, rfl⟩) (KeepL.refl _ _))
  · obtain ⟨h', S', q1, q2, q3, q4, ⟨b, q5, q6⟩, q7⟩ := app_hd hok hg hf hl hnl h1 (roomy_of hroom hby) hpos
    exact L.eff hw (aeff_append rfl rfl (by rw [hs, hxv]; exact q1)) (k h' S' q2 q3 (.inr ⟨b, q5, q6⟩) q7)
end
end Go.Proofs.YtlnlcddbllcehaaDoor

/- Rules for strings. Conditions: none. -/
set_option linter.unusedSimpArgs false
set_option linter.unusedVariables false
namespace Go.Proofs.YtlnlcddbllcehaaDoor
open Go
section
variable {P : Program} {G : Nat} {Ext : FuncId → List Value → Mem → Outc → Mem → Prop} {e : Env} {S : Mem} {fl : Bool} {ops : Array Oper} {K : Kont}
variable {rest : List Oper} {dst : Option Tmp} {ty : TypeId} {pos : String} {af : Array Edge} {gd : Option (Nat × Bool)}
theorem apure_strix {t : TypeId} {x ix : Operand} {s : ByteArray} {k : IntKind} {i : Nat} {b : UInt8} {ev : Operand → Value} (hx : ev x = .string s) (hi : ev ix = .int k (i : Int)) (hb : s[i]? = some b) (hu : P.underlying t = some .string) :
    apure P ⟨dst, .index t x ix, ty, pos, af, gd⟩ ev = some (.int .u8 b.toNat) := by
  have h : aflat P ⟨dst, .index t x ix, ty, pos, af, gd⟩ ev = some (.int .u8 b.toNat) := by
    unfold aflat
    rw [if_pos (by simp [Op.operands, hx, hi, flat]; exact ⟨rfl, rfl⟩)]
    have : pureRun P (execOp ev ⟨dst, .index t x ix, ty, pos, af, gd⟩) = some (.value (.int .u8 b.toNat)) := by
      have h0 : (0 : Int) ≤ (i : Int) := by omega
      simp only [execOp, hx, hi, pureRun_bind, Instr.index, asIntOf, pureRun_pure, Option.bind_some, pureRun_underlying hu, h0, if_true, Int.toNat_natCast, hb]
    rw [this]; simp [flat, flat1, scalar]
  simp only [apure, hx, hi, h]
/-- a text's byte -/
theorem L.sx {t : TypeId} {x ix : Operand} {s : ByteArray} {k : IntKind} {i : Nat} {b : UInt8} (hx : e.eval x = .string s) (hi : e.eval ix = .int k (i : Int)) (hb : s[i]? = some b) (hu : P.underlying t = some .string)
    (hw : awanted ops ⟨dst, .index t x ix, ty, pos, af, gd⟩ e = true) (h : L P G Ext fl ops rest (e.put dst (.int .u8 b.toNat)) S K) : L P G Ext fl ops (⟨dst, .index t x ix, ty, pos, af, gd⟩ :: rest) e S K :=
  L.pure hw (apure_strix hx hi hb hu) h
end
/-- a slice asked whether it is nil -/
theorem apure_nil {P : Program} {t : TypeId} {x y : Operand} {a : Option Addr} {n c : Nat} {ev : Operand → Value} {yt : TypeId} {dst : Option Tmp} {ty : TypeId} {pos : String} {af : Array Edge} {gd : Option (Nat × Bool)} {e : TypeId} (hx : ev x = .slice a n c) (hy : ev y = .slice none 0 0) (hu : P.underlying t = some (.slice e)) (hc : a = none → c = 0 ∧ n = 0) :
    apure P ⟨dst, .binOp .eql t x y yt, ty, pos, af, gd⟩ ev = some (.bool a.isNone) := by
  cases a with
  | none =>
    obtain ⟨rfl, rfl⟩ := hc rfl
    simp only [apure]
    split
    · rename_i v hv
      have h2 : aflat P ⟨dst, .binOp .eql t x y yt, ty, pos, af, gd⟩ ev = some (.bool true) := by
        unfold aflat
        rw [if_pos (by simp [Op.operands, hx, hy, flat]; rfl)]
        have : pureRun P (execOp ev ⟨dst, .binOp .eql t x y yt, ty, pos, af, gd⟩) = some (.value (.bool true)) := by
          have he : pureRun P (Op.equal t (.slice none 0 0) (.slice none 0 0)) = some true := by
            rw [equal_unf]; unfold Op.equalIn
            rw [pureRun_bind, pureRun_underlying hu]; rfl
          simp only [execOp, hx, hy, pureRun_bind]
          have hg : pureRun P (eqGuard .eql t x y (.slice none 0 0) (.slice none 0 0)) = some () := rfl
          have hb : binOp .eql t (.slice none 0 0) (.slice none 0 0) = (do pure (.bool (← Op.equal t (.slice none 0 0) (.slice none 0 0)))) := rfl
          simp only [hg, hb, pureRun_bind, he, Option.bind_some, pureRun_pure]
        rw [this]; simp [flat, flat1, scalar]
      rw [h2] at hv; cases hv; rfl
    · simp only [hx, hy, anil, anilB, hu, Option.isNone]
      rw [if_pos ⟨by decide, fun _ => by decide⟩]; rfl
  | some a =>
    have h2 : aflat P ⟨dst, .binOp .eql t x y yt, ty, pos, af, gd⟩ ev = none := by
      unfold aflat
      rw [if_neg (by simp [Op.operands, hx, hy, flat, flat1, scalar])]
    simp only [apure, h2, hx, hy, anil, anilB, hu]
    rw [if_pos (by decide)]; rfl
end Go.Proofs.YtlnlcddbllcehaaDoor

/- Layer 1: what brings numbers into their form. Conditions: none. -/
set_option linter.unusedSimpArgs false
set_option linter.unusedVariables false
set_option maxRecDepth 100000
namespace Go.Proofs.YtlnlcddbllcehaaDoor
open Go
variable {G : Nat} {Ext : FuncId → List Value → Mem → Outc → Mem → Prop}

/-- a list of words that may be read, and cut -/
def WIn (S : Mem) (a : Option Addr) (c : Nat) (l : WL) : Prop := Slv S 1 (.slice a l.length c) l.length (wv l) ∧ l.length ≤ knownCap c ∧ (a = none → c = 0) ∧ l.length < 1099511627776
theorem WIn.cons {S S' : Mem} {a : Option Addr} {c : Nat} {l : WL} (h : WIn S a c l) (k : Cons S S') : WIn S' a c l := ⟨h.1.cons k, h.2⟩
theorem aslice_to {size n c h : Nat} {a : Option Addr} {hv : Value} {kd : IntKind} (hh : hv = .int kd (h : Int)) (hc : h ≤ knownCap c) (ha : a = none → c = 0) : aslice size a n c none (some hv) none = some (.slice a h c) := by
  cases a with
  | some x =>
    subst hh
    rw [aslice_at (k := 0) (h := h) (.inl ⟨rfl, rfl⟩) (.inr ⟨kd, rfl⟩) (Nat.zero_le _) hc]
    have e0 : Addr.add x (0 * size) = x := by rw [Nat.zero_mul]; rfl
    split
    · unfold acut
      simp only [Option.map_some, e0, Nat.sub_zero, ite_self]
    · rename_i hk
      dsimp only
      rw [if_pos (.inl rfl), e0, Nat.sub_zero]
      congr 2
      unfold knownCap; rw [if_neg hk]; omega
  | none =>
    subst hh
    have hc0 := ha rfl
    subst hc0
    have h0 : h = 0 := by simpa [knownCap, UNK] using hc
    subst h0
    rfl
theorem Slv.cut0 {S : Mem} {a : Option Addr} {n c m : Nat} {l : List Value} (h : Slv S 1 (.slice a n c) n l) (hm : m ≤ n) : Slv S 1 (.slice a m c) m (l.take m) := by
  obtain ⟨h1, a2, c2, hv, h3⟩ := h
  cases hv
  refine ⟨by rw [List.length_take]; omega, a, c, rfl, ?_⟩
  rcases h3 with h3 | ⟨b, o, r, rfl, q2, q3, q4, q5⟩
  · exact .inl (by omega)
  · refine .inr ⟨b, o, r, rfl, q2, by omega, ?_, q5.imp id fun h => ?_⟩
    · rw [← q4, List.take_take]; congr 1; omega
    · rw [List.all_eq_true] at h ⊢; exact fun x hx => h x (List.mem_of_mem_take hx)


theorem WIn.form {S : Mem} {a : Option Addr} {c : Nat} {l : WL} (h : WIn S a c l) : WIn S a c (fm l) := by
  have hl : (fm l).length ≤ l.length := toW_len_le l
  refine ⟨?_, by have := h.2.1; omega, h.2.2.1, by have := h.2.2.2; omega⟩
  have := h.1.cut0 hl
  rwa [show (wv l).take (fm l).length = wv (fm l) by rw [wv, ← List.map_take, toW_take]; rfl] at this

theorem trim_C (a : Option Addr) (c : Nat) (l : WL) (S : Mem) (h : WIn S a c l) : C Tryd.prog G Ext 44 [.slice a l.length c] S fun v S' => v = .slice a (fm l).length c ∧ S' = S := by
  refine C.fn Tryd.func44 rfl (by kernel_rfl) rfl ?_
  obtain ⟨hs, hc, ha, hlen⟩ := h
  repeat first|refine W.g ?_|refine L.p rfl rfl ?_|refine L.nil ?_|refine L.skip rfl ?_
  refine W.loop (fun j e S' => ∃ k : Nat, j = k ∧ k ≤ l.length ∧ S' = S ∧ e 0 = .slice a k c ∧ ∀ i, k ≤ i → i < l.length → l[i]? = some 0#64) l.length ⟨l.length, rfl, Nat.le_refl _, rfl, rfl, fun i h1 h2 => by omega⟩ ?_
  rintro k e S' ⟨_, rfl, hk, rfl, e0, hz⟩
  refine W.env e0 ?_
  have fin : (k = 0 ∨ l[k - 1]? ≠ some 0#64) → k = (fm l).length := fun h => by
    have := take_canon hk hz h
    unfold fm
    rw [← this, List.length_take]; omega
  repeat first|refine W.g ?_|refine L.p rfl rfl ?_|refine L.nil ?_|refine L.skip rfl ?_
  cases hb : decide ((k : Int) > 0)
  · have hk0 : k = 0 := by simp at hb; omega
    clear hb
    repeat first|refine W.g ?_|refine L.p rfl rfl ?_|refine L.nil ?_|refine L.skip rfl ?_
    refine W.ite rfl (fun h => ?_) (fun h => ?_)
    · cases h
    repeat first|refine W.g ?_|refine L.p rfl rfl ?_|refine L.nil ?_|refine L.skip rfl ?_
    exact ⟨.inr rfl, _, rfl, by rw [← fin (.inl hk0)]; rfl, rfl⟩
  have hk0 : 0 < k := by simp at hb; omega
  clear hb
  repeat first|refine W.g ?_|refine L.p rfl rfl ?_|refine L.nil ?_|refine L.skip rfl ?_
  have hkl : k - 1 < l.length := by omega
  have hget : l[k - 1]? = some l[k - 1] := List.getElem?_eq_getElem hkl
  have hs' : Slv S' 1 (.slice a k c) k ((wv l).take k) := hs.cut0 hk
  refine L.el hs' (k := k - 1) (by rw [wrap64 (by omega) (by omega)]; omega) (by rw [List.getElem?_take, if_pos (by omega)]; exact wv_get hget) rfl rfl rfl rfl (fun _ => rfl) rfl (fun p => ?_)
  repeat first|refine W.g ?_|refine L.p rfl rfl ?_|refine L.nil ?_|refine L.skip rfl ?_
  cases hz0 : (l[k - 1] == 0#64)
  · have hne : l[k - 1] ≠ 0#64 := by simpa using hz0
    have hv : ((l[k - 1].toNat : Int) == 0) = false := by
      rw [beq_eq_false_iff_ne]
      intro e; exact hne (BitVec.eq_of_toNat_eq (by simpa using e))
    rw [hv]
    repeat first|refine W.g ?_|refine L.p rfl rfl ?_|refine L.nil ?_|refine L.skip rfl ?_
    refine W.ite rfl (fun h => ?_) (fun h => ?_)
    · cases h
    repeat first|refine W.g ?_|refine L.p rfl rfl ?_|refine L.nil ?_|refine L.skip rfl ?_
    exact ⟨.inr rfl, _, rfl, by rw [← fin (.inr (by rw [hget]; simpa using hne))]; rfl, rfl⟩
  · have he : l[k - 1] = 0#64 := by simpa using hz0
    rw [show ((l[k - 1].toNat : Int) == 0) = true by rw [he]; rfl]
    repeat first|refine W.g ?_|refine L.p rfl rfl ?_|refine L.nil ?_|refine L.skip rfl ?_
    refine W.ite rfl (fun h => ?_) (fun h => ?_)
    rotate_left
    · cases h
    repeat first|refine W.g ?_|refine L.p rfl rfl ?_|refine L.nil ?_|refine L.skip rfl ?_
    refine L.is (.slice a (k - 1) c) ?_ rfl ?_
    · rw [slice_at (a := a) (n := k) (c := c) rfl rfl rfl (fun e => by rw [ha e]; decide)]
      refine aslice_to (kd := .i64) ?_ (by omega) ha
      refine (force_eq rfl).trans ?_
      rw [wrap64 (by omega) (by omega)]
      congr 1; omega
    repeat first|refine W.g ?_|refine L.p rfl rfl ?_|refine L.nil ?_|refine L.skip rfl ?_
    refine ⟨k - 1, by omega, k - 1, rfl, by omega, rfl, rfl, fun i h1 h2 => ?_⟩
    rcases Nat.eq_or_lt_of_le h1 with h3 | h3
    · rw [← h3, hget, he]
    · exact hz i (by omega) h2

/-! ### whether numbers are small enough -/
def small (l : WL) : Bool := decide ((fm l).length ≤ 128)
theorem small_len (l : WL) : (decide (((fm l).length : Int) > 128)) = !small l := by
  unfold small
  by_cases h : (fm l).length ≤ 128
  · simp only [h, decide_true, Bool.not_true, decide_eq_false_iff_not]
    omega
  · simp only [h, decide_false, Bool.not_false, decide_eq_true_eq]
    omega
structure WS where
  a : Option Addr
  c : Nat
  l : WL
def WS.v (w : WS) : Value := .slice w.a w.l.length w.c
theorem fit1_C (a : Option Addr) (c : Nat) (l : WL) (S : Mem) (h : WIn S a c l) : C Tryd.prog G Ext 70 [.slice a l.length c] S fun v S' => v = .bool (!small l) ∧ S' = S := by
  refine C.fn Tryd.func70 rfl (by kernel_rfl) rfl ?_
  repeat first|refine W.g ?_|refine L.p rfl rfl ?_|refine L.nil ?_|refine L.skip rfl ?_
  refine L.cl (trim_C a c l S h) rfl rfl ?_
  rintro _ _ ⟨rfl, rfl⟩
  refine ⟨nofun, ?_⟩
  repeat first|refine W.g ?_|refine L.p rfl rfl ?_|refine L.nil ?_|refine L.skip rfl ?_
  exact ⟨.inr rfl, _, rfl, congrArg Value.bool (small_len l), rfl⟩
/-- the place of the first that is not small enough -/
def bad1 (ws : List WS) : Int := match ws.findIdx? (fun w => !small w.l) with
  | some i => i
  | none => -1
theorem index_C (v : Value) (ws : List WS) (S : Mem) (hv : Slv S 1 v ws.length (ws.map WS.v)) (hw : ∀ w ∈ ws, WIn S w.a w.c w.l) (hn : ws.length < 1000000) :
    C Tryd.prog G Ext 88 [v, .func (.func 70) #[] #[]] S fun v S' => v = .int .i64 (bad1 ws) ∧ S' = S := by
  obtain ⟨_, a, c, rfl, _⟩ := id hv
  refine C.fn Tryd.func88 rfl (by kernel_rfl) rfl ?_
  repeat first|refine W.g ?_|refine L.p rfl rfl ?_|refine L.nil ?_|refine L.skip rfl ?_
  refine W.loop (fun j e S' => ∃ i : Nat, j = ws.length - i ∧ i ≤ ws.length ∧ S' = S ∧ e 0 = .slice a ws.length c ∧ e 1 = .func (.func 70) #[] #[] ∧ e 7 = vi ws.length ∧ e 8 = vi i ∧ ∀ k w, k < i → ws[k]? = some w → small w.l = true) ws.length
    ⟨0, by omega, by omega, rfl, rfl, rfl, rfl, rfl, fun k w hk => by omega⟩ ?_
  rintro j e S' ⟨i, rfl, hi, rfl, e0, e1, e7, e8, hs⟩
  refine W.env4 e0 e1 e7 e8 ?_
  repeat first|refine W.g ?_|refine L.p rfl rfl ?_|refine L.nil ?_|refine L.skip rfl ?_
  refine W.ite rfl (fun h => ?_) (fun h => ?_)
  · have hin : i < ws.length := by simp at h; omega
    obtain ⟨w, hwi⟩ : ∃ w, ws[i]? = some w := ⟨_, List.getElem?_eq_getElem hin⟩
    clear h
    repeat first|refine W.g ?_|refine L.p rfl rfl ?_|refine L.nil ?_|refine L.skip rfl ?_
    refine L.el hv rfl (show (ws.map WS.v)[i]? = some (.slice w.a w.l.length w.c) by rw [List.getElem?_map, hwi]; rfl) rfl rfl rfl rfl (fun _ => rfl) rfl (fun p => ?_)
    refine L.cl (fit1_C w.a w.c w.l _ (hw w (List.mem_of_getElem? hwi))) rfl rfl ?_
    rintro _ _ ⟨rfl, rfl⟩
    refine ⟨nofun, ?_⟩
    repeat first|refine W.g ?_|refine L.p rfl rfl ?_|refine L.nil ?_|refine L.skip rfl ?_
    refine W.ite rfl (fun h => ?_) (fun h => ?_)
    · have hb : small w.l = false := by simpa using h
      repeat first|refine W.g ?_|refine L.p rfl rfl ?_|refine L.nil ?_|refine L.skip rfl ?_
      refine ⟨.inr rfl, _, rfl, (force_eq rfl).trans ?_, rfl⟩
      have : ws.findIdx? (fun w => !small w.l) = some i := by
        rw [List.findIdx?_eq_some_iff_getElem]
        refine ⟨hin, ?_, fun j hj => ?_⟩
        · have : ws[i] = w := by rw [List.getElem?_eq_getElem hin] at hwi; simpa using hwi
          rw [this, hb]; rfl
        · have := hs j ws[j] hj (List.getElem?_eq_getElem (by omega))
          simp [this]
      unfold bad1; rw [this]
    · have hb : small w.l = true := by simpa using h
      repeat first|refine W.g ?_|refine L.p rfl rfl ?_|refine L.nil ?_|refine L.skip rfl ?_
      refine ⟨ws.length - (i + 1), by omega, i + 1, rfl, by omega, rfl, rfl, rfl, rfl, ?_, fun k w' hk hk' => ?_⟩
      · refine (force_eq rfl).trans ?_
        rw [wrap64 (by omega) (by omega)]; rfl
      · rcases Nat.lt_or_eq_of_le (Nat.le_of_lt_succ hk) with h1 | rfl
        · exact hs k w' h1 hk'
        · rw [hwi] at hk'; cases hk'; exact hb
  · have hin : i = ws.length := by simp at h; omega
    subst hin
    repeat first|refine W.g ?_|refine L.p rfl rfl ?_|refine L.nil ?_|refine L.skip rfl ?_
    refine ⟨.inr rfl, _, rfl, (force_eq rfl).trans ?_, rfl⟩
    have : ws.findIdx? (fun w => !small w.l) = none := by
      rw [List.findIdx?_eq_none_iff]
      intro w hw'
      obtain ⟨k, hk⟩ := List.getElem?_of_mem hw'
      have := hs k w (List.getElem?_eq_some_iff.1 hk).1 hk
      simp [this]
    unfold bad1; rw [this]
theorem fit_C (v : Value) (ws : List WS) (S : Mem) (hv : Slv S 1 v ws.length (ws.map WS.v)) (hw : ∀ w ∈ ws, WIn S w.a w.c w.l) (hn : ws.length < 1000000) :
    C Tryd.prog G Ext 46 [v] S fun v S' => v = .bool (ws.all fun w => small w.l) ∧ S' = S := by
  obtain ⟨_, a, c, rfl, _⟩ := id hv
  refine C.fn Tryd.func46 rfl (by kernel_rfl) rfl ?_
  repeat first|refine W.g ?_|refine L.p rfl rfl ?_|refine L.nil ?_|refine L.skip rfl ?_
  refine L.cl (R := fun v S' => v = .bool (!ws.all fun w => small w.l) ∧ S' = S) ?_ rfl rfl ?_
  · refine C.fn Tryd.func69 rfl (by kernel_rfl) rfl ?_
    repeat first|refine W.g ?_|refine L.p rfl rfl ?_|refine L.nil ?_|refine L.skip rfl ?_
    refine L.cl (index_C _ ws S hv hw hn) rfl rfl ?_
    rintro _ _ ⟨rfl, rfl⟩
    refine ⟨nofun, ?_⟩
    repeat first|refine W.g ?_|refine L.p rfl rfl ?_|refine L.nil ?_|refine L.skip rfl ?_
    refine ⟨.inr rfl, _, rfl, (force_eq rfl).trans ?_, rfl⟩
    congr 1
    unfold bad1
    cases hf : ws.findIdx? (fun w => !small w.l) with
    | none =>
      rw [List.findIdx?_eq_none_iff] at hf
      have : (ws.all fun w => small w.l) = true := by rw [List.all_eq_true]; intro w hw'; simpa using hf w hw'
      rw [this]; rfl
    | some i =>
      rw [List.findIdx?_eq_some_iff_getElem] at hf
      obtain ⟨h1, h2, _⟩ := hf
      have : (ws.all fun w => small w.l) = false := by
        rw [List.all_eq_false]
        exact ⟨_, List.getElem_mem h1, by simpa using h2⟩
      rw [this]
      simp
  rintro _ _ ⟨rfl, rfl⟩
  refine ⟨nofun, ?_⟩
  repeat first|refine W.g ?_|refine L.p rfl rfl ?_|refine L.nil ?_|refine L.skip rfl ?_
  refine ⟨.inr rfl, _, rfl, (force_eq rfl).trans ?_, rfl⟩
  rw [Bool.not_not]
end Go.Proofs.YtlnlcddbllcehaaDoor

/- Lists of limbs that are handed out to be read. Conditions: none. -/
set_option linter.unusedSimpArgs false
set_option linter.unusedVariables false
set_option maxRecDepth 100000
namespace Go.Proofs.YtlnlcddbllcehaaDoor
open Go
/-- a list that comes in, of any length -/
def WPre (S : Mem) (a : Option Addr) (c : Nat) (l : WL) : Prop := Slv S 1 (.slice a l.length c) l.length (wv l) ∧ l.length ≤ knownCap c ∧ (a = none → c = 0)
theorem WPre.win {S : Mem} {a : Option Addr} {c : Nat} {l : WL} (h : WPre S a c l) (hl : l.length < 1099511627776) : WIn S a c l := ⟨h.1, h.2.1, h.2.2, hl⟩
/-- a list that a reference hands out -/
def RefW (S S' : Mem) (v : Value) (l : WL) : Prop := Cons S S' ∧ ∃ a c, v = .slice a l.length c ∧ WIn S' a c l
theorem grow_win {N : Nat} {S : Mem} {el : TypeId} {a : Option Addr} {c : Nat} {l : WL} (h : Grow N S el 1 (.slice a l.length c) l.length (wv l)) (hl : l.length < 1099511627776) : WIn S a c l := by
  refine ⟨h.slv, ?_, ?_, hl⟩
  · obtain ⟨h1, ⟨hv, h0⟩ | ⟨b, hb, hv, hr⟩⟩ := h
    · rw [h0]; exact Nat.zero_le _
    · cases hv; rw [knownCap_unk]; exact Nat.le_refl _
  · intro ha
    obtain ⟨h1, ⟨hv, h0⟩ | ⟨b, hb, hv, hr⟩⟩ := h
    · injection hv
    · rw [ha] at hv; injection hv with e1; cases e1
section
variable {P : Program} {G : Nat} {Ext : FuncId → List Value → Mem → Outc → Mem → Prop} {e : Env} {S : Mem} {fl : Bool} {ops : Array Oper} {K : Kont}
variable {rest : List Oper} {dst : Option Tmp} {ty : TypeId} {pos : String} {af : Array Edge} {gd : Option (Nat × Bool)}
/-- limbs written down -/
theorem L.bsW {t : TypeId} {len : Nat} {parts : Array (Nat × Operand)} (l : WL) (hb : bldOk P t = some (39, 1)) (hl : len = l.length) (hsm : Nat.ble len 16777216 = true)
    (hp : parts.toList.map (fun p => (p.1, e.eval p.2)) = ((wv l).zipIdx 0).map fun p => (p.2, p.1)) (hlen : Nat.ble l.length 1000 = true) (hw : awanted ops ⟨dst, .buildSlice t len parts, ty, pos, af, gd⟩ e = true)
    (h : ∀ b T, Cons S T → WIn T (some ⟨b, 0, none⟩) l.length l → L P G Ext fl ops rest (e.put dst (.slice (some ⟨b, 0, none⟩) l.length l.length)) T K) :
    L P G Ext fl ops (⟨dst, .buildSlice t len parts, ty, pos, af, gd⟩ :: rest) e S K := by
  subst hl
  have hlen := Nat.le_of_ble_eq_true hlen
  have hr : Mem.row? (S ++ [newR (wv l) 39]) S.length = some (newR (wv l) 39) := row_push_new rfl
  refine L.bs (wv l) hb (wv_len l).symm hsm hp (wv_one l) hw (h S.length _ (Cons.push _ _) ⟨Slv.all hr rfl (by rw [wv_len, Nat.mul_one]), ?_, nofun, by omega⟩)
  unfold knownCap
  rw [if_pos (by unfold UNK; omega)]
  exact Nat.le_refl _
end
end Go.Proofs.YtlnlcddbllcehaaDoor

/- Walking along a text. Conditions: none. -/
set_option linter.unusedSimpArgs false
set_option linter.unusedVariables false
namespace Go.Proofs.YtlnlcddbllcehaaDoor
open Go
section
variable {P : Program} {G : Nat} {Ext : FuncId → List Value → Mem → Outc → Mem → Prop} {e : Env} {S : Mem} {fl : Bool} {ops : Array Oper} {K : Kont}
variable {rest : List Oper} {dst : Option Tmp} {ty : TypeId} {pos : String} {af : Array Edge} {gd : Option (Nat × Bool)}
theorem string_eq {ρ : Nat → Option Loc} {s : ByteArray} {v' : Value} (h : VR ρ (.string s) v') : v' = .string s := by cases h; rfl
theorem sim_range {t : TypeId} {x : Operand} {s : ByteArray} (hx : e.eval x = .string s) (hu : P.underlying t = some .string) : OpSim P G ⟨dst, .range t x, ty, pos, af, gd⟩ e S (.pointer (some ⟨S.length, 0, none⟩)) (S ++ [itR s 0]) := fun ρ a w K Q hv hS hG hK => by
  have h1 := hv x (by simp [Op.operands])
  rw [hx] at h1
  have h1 := string_eq h1
  obtain ⟨ρ', q1, q2, q3⟩ := hS.pushIt s 0
  have hrun : (execOp a.eval ⟨dst, .range t x, ty, pos, af, gd⟩).run P w = .ok (.value (.pointer (some ⟨w.heap.size, 0, none⟩))) (w.alloc (.stringIter s 0)) := by
    simp [execOp, Instr.range, h1, underlying, hu]
  exact wp_value hrun (hK _ ρ' _ (.ptr _ _ ⟨_, q1, rfl⟩ rfl rfl) q2 q3)
theorem L.range {t : TypeId} {x : Operand} {s : ByteArray} (hw : awanted ops ⟨dst, .range t x, ty, pos, af, gd⟩ e = true) (hx : e.eval x = .string s) (hu : P.underlying t = some .string)
    (h : L P G Ext fl ops rest (e.put dst (.pointer (some ⟨S.length, 0, none⟩))) (S ++ [itR s 0]) K) : L P G Ext fl ops (⟨dst, .range t x, ty, pos, af, gd⟩ :: rest) e S K :=
  L.sem hw (sim_range hx hu) (Nat.le_refl 2) (fun _ => Cons.push _ _) h
/-- a function without a body: what stands for it -/
def ExternFn (P : Program) (f : FuncId) (ex : Array Value → Sem Value) : Prop := ∃ fn, P.funcs[f]? = some fn ∧ (fn.name == "runtime.NumGoroutine") = false ∧ fn.body = none ∧ Extern.findNext fn = none ∧ Extern.find fn = some ex
theorem extern_run {o : Oper} {a : Act} {f : FuncId} {args : List Value} {ρ : Nat → Option Loc} {w : World} {ex : Array Value → Sem Value} (h : acall o e.eval = some (f, args)) (hv : ∀ x ∈ o.op.operands, VR ρ (e.eval x) (a.eval x))
    (hf : ExternFn P f ex) : ∃ args', LR ρ args args' ∧ ∀ v w', (ex args'.toArray).run P w = .ok v w' → (execOp a.eval o).run P w = .ok (.value v) w' := by
  unfold acall at h
  split at h
  · rename_i c ho
    split at h
    · rename_i fv hcal
      split at h
      · rename_i f' first captured hfv
        cases h
        have m0 := hv fv (by simp [ho, Op.operands, Call.operands, hcal])
        rw [hfv] at m0
        obtain ⟨fn, h1, h2, h3, h4, h5⟩ := hf
        obtain ⟨first', captured', hev, hl1, hl2⟩ : ∃ f2 c2, a.eval fv = .func (.func f) f2 c2 ∧ LR ρ first.toList f2.toList ∧ LR ρ captured.toList c2.toList := by
          generalize a.eval fv = u at m0
          cases m0 with
          | func _ _ f2 _ c2 q1 q2 q3 q4 => exact ⟨f2, c2, rfl, ⟨by simpa using q1, fun i v v' x y => q3 i v v' (by simpa using x) (by simpa using y)⟩, ⟨by simpa using q2, fun i v v' x y => q4 i v v' (by simpa using x) (by simpa using y)⟩⟩
        have hl3 : LR ρ (c.args.toList.map e.eval) (c.args.toList.map a.eval) := by
          refine ⟨by simp, fun i v v' x y => ?_⟩
          rw [List.getElem?_map, Option.map_eq_some_iff] at x y
          obtain ⟨q, hq, rfl⟩ := x
          obtain ⟨q', hq', rfl⟩ := y
          rw [hq] at hq'; cases hq'
          exact hv q (by simp [ho, Op.operands, Call.operands, hcal]; right; exact List.mem_of_getElem? hq |> fun h => by simpa using h)
        refine ⟨first'.toList ++ c.args.toList.map a.eval ++ captured'.toList, (hl1.append hl3).append hl2, fun v w' hr => ?_⟩
        have harr : (first' ++ c.args.map a.eval ++ captured') = (first'.toList ++ c.args.toList.map a.eval ++ captured'.toList).toArray := by simp [List.append_assoc]
        have hbn : fn.body.isNone = true := by rw [h3]; rfl
        simp only [execOp, ho, resolve, hcal, Sem.run_bind, Deferred.ofValue, hev, Sem.run_pure, Result.andThen_ok, invoke, callFunc, run_program, h1, h2, hbn, Bool.false_eq_true, if_false, if_true, run_mark, h4, h5, harr, hr]
      · cases h
    · cases h
  · cases h
/-- a call of a function without a body, that leaves the world alone -/
theorem L.ext {o : Oper} {f : FuncId} {args : List Value} {v : Value} {ex : Array Value → Sem Value} (hw : awanted ops o e = true) (hc : acall o e.eval = some (f, args)) (hf : ExternFn P f ex)
    (hex : ∀ ρ args', LR ρ args args' → ∃ v', VR ρ v v' ∧ ∀ w, (ex args'.toArray).run P w = .ok v' w) (h : L P G Ext fl ops rest (e.put o.dst v) S K) : L P G Ext fl ops (o :: rest) e S K := by
  have hk : opKind P o = 4 := acall_kind hc
  refine L.sem hw (fun ρ a w K Q hv hS hG hK => ?_) (by omega) (fun _ => Cons.refl _) h
  obtain ⟨args', h1, h2⟩ := extern_run (w := w) hc hv hf
  obtain ⟨v', h3, h4⟩ := hex ρ args' h1
  exact wp_value (h2 v' w (h4 w)) (hK v' ρ w h3 hS (Stp.refl _ _ _))
end
end Go.Proofs.YtlnlcddbllcehaaDoor

/- Pointers without a type; texts made of bytes that stay where they are. Conditions: none. -/
set_option linter.unusedSimpArgs false
set_option linter.unusedVariables false
namespace Go.Proofs.YtlnlcddbllcehaaDoor
open Go
section
variable {P : Program} {G : Nat} {Ext : FuncId → List Value → Mem → Outc → Mem → Prop} {e : Env} {S : Mem} {fl : Bool} {ops : Array Oper} {K : Kont}
variable {rest : List Oper} {dst : Option Tmp} {ty : TypeId} {pos : String} {af : Array Edge} {gd : Option (Nat × Bool)}
/-- an address in a row of ours, in the real memory -/
theorem addr_real {ρ : Nat → Option Loc} {w : World} {b : Nat} {r : Row} {v' : Value} (hS : SR ρ S w) (hr : S.row? b = some r) (h : VR ρ (.pointer (some ⟨b, 0, none⟩)) v') :
    ∃ L c fz, ρ b = some L ∧ v' = .pointer (some ⟨L.b, 0, none⟩) ∧ w.heap[L.b]? = some (.cells c r.elem fz) ∧ r.cells.length ≤ c.size ∧ (r.exact = true → c.size = r.cells.length) := by
  obtain ⟨hr1, hr2⟩ := Mem.row?_some hr
  obtain ⟨L, hL, ⟨c, fz, h1, h2, h3, _⟩⟩ := hS.live _ _ hr1 hr2
  cases h with
  | ptr _ a' k1 k2 k3 =>
    obtain ⟨L', l1, l2⟩ := k1
    dsimp only at l1
    rw [hL] at l1; cases l1
    refine ⟨L, c, fz, hL, ?_, h1, h2, h3⟩
    cases a' with
    | mk blk off spot => dsimp only at k2 k3 l2; subst k2 k3 l2; rfl
theorem shape_real {w : World} {b : Nat} {c : Array Value} {el : TypeId} {fz : Nat × Nat} (h : w.heap[b]? = some (.cells c el fz)) : w.shape? b = some (el, c.size) := by unfold World.shape?; rw [h]
/-- a block that no row of ours reads any more may change -/
theorem SR.dead {ρ : Nat → Option Loc} {w w' : World} (h : SR ρ S w) {r : Nat} {x : Row} {L : Loc} (hx : S[r]? = some x) (hm : x.st = .moved) (hron : x.ro = none) (hL : ρ r = some L)
    (hfree : ∀ (q : Nat) (y : Row), At ρ q L.b → S[q]? = some y → y.st ≠ .live) (hcl : ∃ c e fz, w.heap[L.b]? = some (.cells c e fz))
    (hw : ∀ k, k ≠ L.b → w'.heap[k]? = w.heap[k]?) (hsz : w'.heap.size = w.heap.size) (htape : w'.tape = w.tape) (hos : w'.os = w.os) (hout : w'.output = w.output) : SR ρ S w' ∧ Stp ρ S w ρ S w' := by
  refine ⟨⟨fun q y hy hl => ?_, fun q M hM => ?_, h.inj, fun q y s p hy hit => ?_⟩, ⟨Sub.refl _, htape, hos, hout, by omega, fun b hb hq => hw b fun e => ?_, fun b hb hq => hq, fun b hb hq => hq⟩⟩
  · obtain ⟨M, m1, m2⟩ := h.live q y hy hl
    exact ⟨M, m1, m2.mono (Sub.refl _) (hw _ fun e => hfree q y ⟨M, m1, e⟩ hy hl)⟩
  · rw [hsz]; exact h.dom q M hM
  · obtain ⟨M, m1, m2, m3⟩ := h.iter q y s p hy hit
    obtain ⟨c, el, fz, hc⟩ := hcl
    exact ⟨M, m1, by rw [hw _ (fun e' => by rw [e', hc] at m2; cases m2)]; exact m2, m3⟩
  · obtain ⟨y, hy, hyo⟩ := hq r ⟨L, hL, e.symm⟩
    rw [hx] at hy; cases hy
    rw [hm, hron] at hyo
    exact hyo.elim nofun fun h => h rfl
/-- a text of these bytes -/
def strB (l : List (BitVec 8)) : ByteArray := ⟨(l.map fun x => UInt8.ofNat x.toNat).toArray⟩
theorem run_loadBytes {P : Program} {w : World} {b : Nat} : ∀ (l : List (BitVec 8)) (off : Nat) (acc : ByteArray), (∀ j x, l[j]? = some x → w.cell? ⟨b, off + j, none⟩ = some (.int .u8 x.toNat)) →
    (loadBytes ⟨b, off, none⟩ acc l.length).run P w = .ok ⟨acc.data ++ (l.map fun x => UInt8.ofNat x.toNat).toArray⟩ w
  | [], off, acc, _ => by simp [loadBytes]
  | x :: l, off, acc, h => by
    have h0 := h 0 x rfl
    rw [Nat.add_zero] at h0
    have ih := run_loadBytes (P := P) (w := w) (b := b) l (off + 1) (acc.push (UInt8.ofNat x.toNat)) (fun j y hj => by
      have := h (j + 1) y (by simpa using hj)
      rw [Nat.add_assoc, Nat.add_comm 1]; exact this)
    have hadd : Addr.add ⟨b, off, none⟩ 1 = ⟨b, off + 1, none⟩ := by simp [Addr.add]
    simp only [List.length_cons, loadBytes, Sem.run_bind, hadd]
    have hl : (load ⟨b, off, none⟩).run P w = .ok (.int .u8 x.toNat) w := by simp [h0]
    rw [hl]
    simp only [Result.andThen_ok, Int.toNat_natCast]
    have hu : x.toNat.toUInt8 = UInt8.ofNat x.toNat := rfl
    rw [hu, ih]
    simp [ByteArray.push]
theorem sim_string {x y : Operand} {ts : Array TypeId} {b pt u d : Nat} {r : Row} {l : List (BitVec 8)} {k : IntKind} (hx : e.eval x = .pointer (some ⟨b, 0, none⟩)) (hy : e.eval y = .int k (l.length : Int)) (hr : S.row? b = some r) (hro : r.ro = none) (hc : r.cells.take l.length = l.map fun x => Value.int .u8 x.toNat)
    (hn : 0 < l.length) (hn2 : l.length < 9223372036854775807) (hlen : l.length ≤ r.cells.length) (hit : r.it = none) (hts : ts[0]? = some pt) (hpt : P.underlying pt = some (.pointer u)) (hd : P.depth = d + 1) (hs : sameLayout P P.depth r.elem u = true) (h1 : P.cellsOf r.elem = 1) :
    OpSim P G ⟨dst, .call ⟨.builtin .unsafeString, #[x, y], ts⟩, ty, pos, af, gd⟩ e S (.string (strB l)) (S.set b { r with st := .moved }) := fun ρ a w K Q hv hS hG hK => by
  have m1 := hv x (by simp [Op.operands, Call.operands])
  have m2 := hv y (by simp [Op.operands, Call.operands])
  rw [hx] at m1
  rw [hy] at m2
  have m2 : a.eval y = .int k (l.length : Int) := m2.scalar_eq rfl
  obtain ⟨hr1, hr2⟩ := Mem.row?_some hr
  obtain ⟨L, c, fz, hL, g1, g2, g3, g4⟩ := addr_real hS hr m1
  obtain ⟨L', hL', ⟨c', fz', f1, f2, f3, f4, f5, f6, f7⟩⟩ := hS.live _ _ hr1 hr2
  rw [hL] at hL'; cases hL'
  rw [g2] at f1; cases f1
  have hsh := shape_real g2
  obtain ⟨kS, kT⟩ := hS.kill hr1 hr2 hro
  have hbl : b < S.length := row_live_lt hr1
  have hfree : ∀ (q : Nat) (y : Row), At ρ q L.b → (S.set b { r with st := .moved })[q]? = some y → y.st ≠ .live := fun q y hq hy hyl => by
    rw [List.getElem?_set] at hy
    by_cases e1 : b = q
    · subst e1; rw [if_pos rfl, if_pos hbl] at hy; cases hy; cases hyl
    · rw [if_neg e1] at hy
      exact e1 (hS.inj b q r y L.b ⟨L, hL, rfl⟩ hq hr1 hy hr2 hyl)
  have hmod : ∀ k, k ≠ L.b → (w.freeze ⟨L.b, 0, none⟩ l.length).heap[k]? = w.heap[k]? := fun k hk => by
    unfold World.freeze
    split
    · rfl
    · show (w.heap.modify _ _)[k]? = _
      rw [Array.getElem?_modify, if_neg (Ne.symm hk)]
  have hsz : (w.freeze ⟨L.b, 0, none⟩ l.length).heap.size = w.heap.size := by
    unfold World.freeze
    split
    · rfl
    · show (w.heap.modify _ _).size = _; simp
  have hrest : (w.freeze ⟨L.b, 0, none⟩ l.length).tape = w.tape ∧ (w.freeze ⟨L.b, 0, none⟩ l.length).os = w.os ∧ (w.freeze ⟨L.b, 0, none⟩ l.length).output = w.output := by
    unfold World.freeze
    split <;> exact ⟨rfl, rfl, rfl⟩
  obtain ⟨dS, dT⟩ := kS.dead (r := b) (x := { r with st := .moved }) (w' := w.freeze ⟨L.b, 0, none⟩ l.length) (by rw [List.getElem?_set, if_pos rfl, if_pos hbl]) rfl hro hL hfree ⟨_, _, _, g2⟩ hmod hsz hrest.1 hrest.2.1 hrest.2.2
  have hload := run_loadBytes (P := P) (w := w) (b := L.b) l 0 .empty (fun j z hj => by
    have hj1 : j < l.length := (List.getElem?_eq_some_iff.1 hj).1
    have : r.cells[j]? = some (.int .u8 z.toNat) := by
      have := congrArg (·[j]?) hc
      simp only [List.getElem?_take, if_pos hj1, List.getElem?_map, hj, Option.map_some] at this
      exact this
    rw [Nat.zero_add, cell_of_row w _ _ c r.elem fz g2]
    rcases f7 j _ this with ⟨q0, _⟩ | ⟨v', q1, q2⟩
    · exact absurd hro q0
    · rw [q1, q2.scalar_eq rfl])
  have hlies : liesAt P P.depth r.elem c.size 0 u l.length = true := by
    rw [hd, liesAt, hd, rowAt, ← hd]
    simp only [h1]
    rw [hs]
    have : l.length ≤ c.size := by omega
    simp [this]
  have hrun : (execOp a.eval ⟨dst, .call ⟨.builtin .unsafeString, #[x, y], ts⟩, ty, pos, af, gd⟩).run P w = .ok (.value (.string (strB l))) (w.freeze ⟨L.b, 0, none⟩ l.length) := by
    have hb : (Builtin.unsafeString_ ts ty #[.pointer (some ⟨L.b, 0, none⟩), .int k (l.length : Int)]).run P w = .ok (.string (strB l)) (w.freeze ⟨L.b, 0, none⟩ l.length) := by
      have e1 : ¬ ((l.length : Int) < 0) := by omega
      have e2 : ¬ ((l.length : Int) > IntKind.i64.max) := by show ¬ ((l.length : Int) > 9223372036854775807); omega
      have e3 : ¬ ((l.length : Int) = 0) := by omega
      have hld : (loadBytes ⟨L.b, 0, none⟩ .empty l.length).run P w = .ok (strB l) w := by
        rw [hload]
        have he : ByteArray.empty.data = #[] := rfl
        simp only [strB, he, Array.empty_append]
      have hva : (variablesAt ⟨L.b, 0, none⟩ u l.length).run P w = .ok true w := by
        simp [variablesAt, shape, Sem.run, hsh, h1, hlies]
      show Sem.run P (asInt (.int k (l.length : Int)) >>= _) w = _
      rw [Sem.run_bind]
      have ha : (asInt (.int k (l.length : Int))).run P w = .ok (l.length : Int) w := rfl
      rw [ha, Result.andThen_ok]
      simp only [hts]
      rw [if_neg e1, if_neg e2]
      show Sem.run P (if (l.length : Int) = 0 then _ else _) w = _
      rw [if_neg e3]
      have hel : (elemOf pt).run P w = .ok u w := by simp [elemOf, underlying, hpt]
      simp only [Sem.run_bind, hel, Result.andThen_ok, Int.toNat_natCast, hva, if_true, hld, run_freeze, Sem.run_pure]
    simp [execOp, resolve, g1, m2, invoke, builtin, hb]
  exact wp_value hrun (hK _ ρ _ (.string _) dS (kT.trans dT))
/-- a text of the bytes of a row that nobody asks any more -/
theorem L.string {x y : Operand} {ts : Array TypeId} {b pt u d : Nat} {r : Row} (l : List (BitVec 8)) {k : IntKind} (hw : awanted ops ⟨dst, .call ⟨.builtin .unsafeString, #[x, y], ts⟩, ty, pos, af, gd⟩ e = true) (hx : e.eval x = .pointer (some ⟨b, 0, none⟩)) (hy : e.eval y = .int k (l.length : Int)) (hr : S.row? b = some r) (hro : r.ro = none) (hc : r.cells.take l.length = l.map fun x => Value.int .u8 x.toNat)
    (hn : 0 < l.length) (hn2 : l.length < 9223372036854775807) (hlen : l.length ≤ r.cells.length) (hit : r.it = none) (hts : ts[0]? = some pt) (hpt : P.underlying pt = some (.pointer u)) (hd : P.depth = d + 1) (hs : sameLayout P P.depth r.elem u = true) (h1 : P.cellsOf r.elem = 1)
    (h : L P G Ext fl ops rest (e.put dst (.string (strB l))) (S.set b { r with st := .moved }) K) : L P G Ext fl ops (⟨dst, .call ⟨.builtin .unsafeString, #[x, y], ts⟩, ty, pos, af, gd⟩ :: rest) e S K :=
  L.sem hw (sim_string hx hy hr hro hc hn hn2 hlen hit hts hpt hd hs h1) (Nat.le_succ 2) (fun h => by rcases h with h | ⟨h, _⟩ <;> cases h) h
end
end Go.Proofs.YtlnlcddbllcehaaDoor

/- Texts as lists of bytes. Conditions: none. -/
set_option linter.unusedSimpArgs false
set_option linter.unusedVariables false
set_option maxRecDepth 100000
namespace Go.Proofs.YtlnlcddbllcehaaDoor
open Go
section
variable {P : Program} {G : Nat} {Ext : FuncId → List Value → Mem → Outc → Mem → Prop} {e : Env} {S : Mem} {fl : Bool} {ops : Array Oper} {K : Kont}
variable {rest : List Oper} {dst : Option Tmp} {ty : TypeId} {pos : String} {af : Array Edge} {gd : Option (Nat × Bool)}
end
end Go.Proofs.YtlnlcddbllcehaaDoor

/- Texts: parts, comparing, joining; code inside a scope. Conditions: none. -/
set_option linter.unusedSimpArgs false
set_option linter.unusedVariables false
set_option maxRecDepth 100000
namespace Go.Proofs.YtlnlcddbllcehaaDoor
open Go
section
variable {P : Program} {G : Nat} {Ext : FuncId → List Value → Mem → Outc → Mem → Prop} {e : Env} {S : Mem} {fl : Bool} {ops : Array Oper} {K : Kont}
variable {rest : List Oper} {dst : Option Tmp} {ty : TypeId} {pos : String} {af : Array Edge} {gd : Option (Nat × Bool)}
theorem W.scope {c : Code} {Q : Xit → Env → Mem → Prop} (h : W P G Ext c e S fun x e' S' => (∀ l, x ≠ .goto l) ∧ Q x e' S') : W P G Ext (.scope c) e S Q := by
  obtain ⟨x, e', S', h1, h2, h3⟩ := h
  exact ⟨x, e', S', .scope (.inScope h1 fun l hl => absurd hl (h2 l)), h3⟩
theorem L.flat {op : Op} {v : Value} (hf : op.operands.toList.all (fun x => flat (e.eval x)) = true) (hv : flat v = true) (hs : ∀ cs b, op ≠ .select cs b) (hp : pureRun P (execOp e.eval ⟨dst, op, ty, pos, af, gd⟩) = some (.value v)) (hw : awanted ops ⟨dst, op, ty, pos, af, gd⟩ e = true)
    (k : L P G Ext fl ops rest (e.put dst v) S K) : L P G Ext fl ops (⟨dst, op, ty, pos, af, gd⟩ :: rest) e S K := by
  refine L.psim hw (fun ρ ev' h => ?_) k
  refine aflat_sound hs ?_ h
  unfold aflat
  dsimp only
  rw [if_pos hf, hp]
  dsimp only
  rw [if_pos hv]
end
end Go.Proofs.YtlnlcddbllcehaaDoor

/- Doubles: the number that a word stands for; rounding. Conditions: none. -/
set_option linter.unusedSimpArgs false
set_option linter.unusedVariables false
namespace Go.Proofs.YtlnlcddbllcehaaDoor.Ie
open Ieee

/-- the number that a sign, a magnitude and a place stand for -/
def numR (s : Bool) (m : Nat) (p : Int) : Rat := (if s then -1 else 1) * ((m : Rat) * (2 : Rat) ^ p)
/-- a word stands for a number -/
def FV (w : Nat) (x : Rat) : Prop := ∃ s m p, double.read w = .number s m p ∧ x = numR s m p
/-- at most so far away -/
def Near (x v e : Rat) : Prop := v - e ≤ x ∧ x ≤ v + e
theorem two_pos (p : Int) : (0 : Rat) < (2 : Rat) ^ p := Rat.zpow_pos (by decide)
theorem two_add (p q : Int) : (2 : Rat) ^ (p + q) = 2 ^ p * 2 ^ q := Rat.zpow_add (by decide) p q
theorem two_nat (n : Nat) : (2 : Rat) ^ (n : Int) = ((2 ^ n : Nat) : Rat) := by
  rw [Rat.zpow_natCast, Rat.natCast_pow]; rfl
theorem dbl_binade : double.binade = 4503599627370496 := rfl
theorem dbl_inf : double.infRung = 9218868437227405312 := rfl
theorem dbl_sign : double.signWeight = 9223372036854775808 := rfl
theorem dbl_least : double.leastPlace = -1074 := rfl
theorem read_rung (s : Bool) {r : Nat} (h : r < 9218868437227405312) : double.read (double.word s r) = if r < 4503599627370496 then .number s r (-1074) else .number s (4503599627370496 + r % 4503599627370496) (-1074 + ((r / 4503599627370496 - 1 : Nat) : Int)) := by
  have h1 : double.word s r / 9223372036854775808 % 2 = if s then 1 else 0 := by
    unfold Format.word; rw [dbl_sign]
    cases s
    · show r / _ % 2 = 0; omega
    · show (9223372036854775808 + r) / _ % 2 = 1; omega
  have h2 : double.word s r % 9223372036854775808 = r := by
    unfold Format.word; rw [dbl_sign]
    cases s
    · show r % _ = r; omega
    · show (9223372036854775808 + r) % _ = r; omega
  unfold Format.read
  rw [dbl_sign, dbl_binade, dbl_inf, dbl_least, h1, h2]
  have h3 : ((if s = true then 1 else 0 : Nat) == 1) = s := by cases s <;> rfl
  rw [h3]
  by_cases h4 : r < 4503599627370496
  · rw [if_pos h4, if_pos h4]
  · rw [if_neg h4, if_neg h4, if_pos h]
theorem read_word (s : Bool) {e k : Nat} (hk : k ≤ 9007199254740992) (he : e ≤ 2044) (h0 : e = 0 ∨ 4503599627370496 ≤ k) :
    FV (double.word s (min (e * double.binade + k) double.infRung)) (numR s k ((e : Int) - 1074)) := by
  rw [dbl_binade, dbl_inf, Nat.min_eq_left (by omega)]
  have hr := read_rung s (r := e * 4503599627370496 + k) (by omega)
  by_cases h1 : e * 4503599627370496 + k < 4503599627370496
  · rw [if_pos h1] at hr
    have he0 : e = 0 := by omega
    subst he0
    refine ⟨s, _, _, hr, ?_⟩
    rw [Nat.zero_mul, Nat.zero_add]; rfl
  · rw [if_neg h1] at hr
    refine ⟨s, _, _, hr, ?_⟩
    by_cases h2 : k < 9007199254740992
    · rcases h0 with rfl | h0
      · rw [show (4503599627370496 + (0 * 4503599627370496 + k) % 4503599627370496) = k by omega, show (((0 * 4503599627370496 + k) / 4503599627370496 - 1 : Nat) : Int) = 0 by omega]; rfl
      · rw [show 4503599627370496 + (e * 4503599627370496 + k) % 4503599627370496 = k by omega, show (((e * 4503599627370496 + k) / 4503599627370496 - 1 : Nat) : Int) = e by omega, show (-1074 + (e : Int)) = (e : Int) - 1074 by omega]
    · have hk2 : k = 9007199254740992 := by omega
      subst hk2
      rw [show 4503599627370496 + (e * 4503599627370496 + 9007199254740992) % 4503599627370496 = 4503599627370496 by omega, show (((e * 4503599627370496 + 9007199254740992) / 4503599627370496 - 1 : Nat) : Int) = (e : Int) + 1 by omega, show (-1074 + ((e : Int) + 1)) = ((e : Int) - 1074) + 1 by omega]
      unfold numR
      rw [two_add ((e : Int) - 1074) 1]
      have : ((9007199254740992 : Nat) : Rat) = ((4503599627370496 : Nat) : Rat) * 2 := by decide +kernel
      rw [this, show (2 : Rat) ^ (1 : Int) = 2 from Rat.zpow_one 2]
      grind
/-- cutting is rounding -/
theorem cut_near (s : Bool) (n d : Nat) : 2 * (Toward.even.cut s n d * 2 ^ d) ≤ 2 * n + 2 ^ d ∧ 2 * n ≤ 2 * (Toward.even.cut s n d * 2 ^ d) + 2 ^ d := by
  unfold Toward.cut
  by_cases h : d ≤ n.log2 + 2
  · rw [Nat.min_eq_left h, Nat.one_shiftLeft]
    have hG : 0 < 2 ^ d := Nat.two_pow_pos d
    have h1 := Nat.div_add_mod n (2 ^ d)
    have h2 := Nat.mod_lt n hG
    generalize 2 ^ d = G at *
    dsimp only
    generalize n % G = R at *
    generalize n / G = Q at *
    rw [Nat.add_mul, Nat.mul_comm Q G]
    generalize G * Q = A at *
    cases hb : (decide (G < 2 * R) || (G == 2 * R && Q % 2 == 1)) with
    | true =>
      have : G ≤ 2 * R := by
        simp at hb; omega
      show 2 * (A + 1 * G) ≤ _ ∧ _ ≤ 2 * (A + 1 * G) + _
      omega
    | false =>
      have : 2 * R ≤ G := by
        simp at hb; omega
      show 2 * (A + 0 * G) ≤ _ ∧ _ ≤ 2 * (A + 0 * G) + _
      omega
  · rw [Nat.min_eq_right (by omega), Nat.one_shiftLeft]
    have h1 : n < 2 ^ (n.log2 + 1) := Nat.lt_log2_self
    have h2 : 2 ^ (n.log2 + 2) = 2 * 2 ^ (n.log2 + 1) := by rw [Nat.pow_succ]; omega
    have h3 : 2 ^ (n.log2 + 2) ≤ 2 ^ d := Nat.pow_le_pow_right (by omega) (by omega)
    dsimp only
    rw [Nat.div_eq_of_lt (by omega), Nat.mod_eq_of_lt (by omega)]
    cases hb : (decide (2 ^ (n.log2 + 2) < 2 * n) || (2 ^ (n.log2 + 2) == 2 * n && 0 % 2 == 1)) with
    | true => simp at hb; omega
    | false =>
      show 2 * ((0 + 0) * 2 ^ d) ≤ _ ∧ _ ≤ 2 * ((0 + 0) * 2 ^ d) + _
      omega
/-- half a unit of the last digit, in parts of the number -/
def eps : Rat := 1 / 9007199254740992
/-- a number that nothing here is near to -/
def tiny : Rat := 1 / 1606938044258990275541962092341162602522202993782792835301376
theorem eps_eq : (2 : Rat) ^ (-53 : Int) = eps := by decide +kernel
theorem tiny_le : (2 : Rat) ^ (-1075 : Int) ≤ tiny := by decide +kernel
theorem two_mono {p q : Int} (h : p ≤ q) : (2 : Rat) ^ p ≤ 2 ^ q := by
  obtain ⟨n, rfl⟩ : ∃ n : Nat, q = p + n := ⟨(q - p).toNat, by omega⟩
  rw [two_add, two_nat]
  have h1 : (1 : Rat) ≤ ((2 ^ n : Nat) : Rat) := by
    have : ((1 : Nat) : Rat) ≤ ((2 ^ n : Nat) : Rat) := Rat.natCast_le_natCast.2 Nat.one_le_two_pow
    exact this
  have h2 := two_pos p
  have := Rat.mul_le_mul_of_nonneg_left h1 (Rat.le_of_lt h2)
  rwa [Rat.mul_one] at this
theorem two_lt {p q : Int} (h : (2 : Rat) ^ p < 2 ^ q) : p < q := by
  refine Classical.byContradiction fun hc => ?_
  have := two_mono (p := q) (q := p) (by omega)
  exact Rat.not_le.2 h this
theorem numR_near {s : Bool} {x y e : Rat} (h : Near x y e) : Near ((if s then -1 else 1) * x) ((if s then -1 else 1) * y) e := by
  obtain ⟨h1, h2⟩ := h
  cases s
  · simp only [Bool.false_eq_true, if_false]; exact ⟨by grind, by grind⟩
  · simp only [if_true]; exact ⟨by grind, by grind⟩
theorem cast_le {a b : Nat} (h : a ≤ b) : (a : Rat) ≤ (b : Rat) := Rat.natCast_le_natCast.2 h
theorem nearest_near (s : Bool) (m : Nat) (p : Int) (h : (m : Rat) * 2 ^ p < 2 ^ (1023 : Int)) : ∃ x, FV (double.nearest s m p) x ∧ Near x (numR s m p) ((m : Rat) * 2 ^ p * eps + tiny) := by
  unfold Format.nearest
  by_cases hm : m = 0
  · subst hm
    rw [if_pos rfl]
    refine ⟨0, ⟨s, 0, -1074, ?_, ?_⟩, ?_⟩
    · have := read_rung s (r := 0) (by omega)
      rwa [if_pos (by omega)] at this
    · unfold numR; cases s <;> decide +kernel
    · unfold numR Near
      rw [show ((0 : Nat) : Rat) * (2 : Rat) ^ p = 0 from Rat.zero_mul _]
      have : (0 : Rat) ≤ tiny := by decide +kernel
      exact ⟨by grind, by grind⟩
  rw [if_neg hm]
  have hL1 := Nat.log2_self_le hm
  have hL2 : m < 2 ^ (m.log2 + 1) := Nat.lt_log2_self
  generalize m.log2 = L at *
  have hLp : (L : Int) + p < 1023 := by
    apply two_lt
    rw [two_add, two_nat]
    have := Rat.mul_le_mul_of_nonneg_right (cast_le hL1) (Rat.le_of_lt (two_pos p))
    grind
  rw [show (double.fractionBits : Int) = 52 from rfl, dbl_least]
  obtain ⟨e, he⟩ : ∃ e : Nat, max (p + (L : Int) - 52) (-1074) = (e : Int) - 1074 := ⟨(max (p + (L : Int) - 52) (-1074) + 1074).toNat, by omega⟩
  rw [he]
  dsimp only
  rw [show ((e : Int) - 1074 - -1074).toNat = e by omega]
  have he2 : e ≤ 2044 := by omega
  have he3 : e = 0 ∨ (e : Int) - 1074 = p + L - 52 := by omega
  have he4 : p + (L : Int) - 52 ≤ (e : Int) - 1074 := by omega
  by_cases hp : (e : Int) - 1074 ≤ p
  · obtain ⟨a, ha⟩ : ∃ a : Nat, p = (e : Int) - 1074 + a := ⟨(p - ((e : Int) - 1074)).toNat, by omega⟩
    rw [show (p - ((e : Int) - 1074)).toNat = a by omega, show ((e : Int) - 1074 - p).toNat = 0 by omega]
    obtain ⟨c1, c2⟩ := cut_near s (m <<< a) 0
    obtain ⟨k, hk⟩ : ∃ k, k = Toward.even.cut s (m <<< a) 0 := ⟨_, rfl⟩
    rw [← hk] at c1 c2 ⊢
    rw [Nat.pow_zero, Nat.mul_one] at c1 c2
    have hkm : k = m * 2 ^ a := by rw [← Nat.shiftLeft_eq]; omega
    have hb1 : k ≤ 9007199254740992 := by
      have h1 : m * 2 ^ a < 2 ^ (L + 1) * 2 ^ a := Nat.mul_lt_mul_of_pos_right hL2 (Nat.two_pow_pos a)
      rw [← Nat.pow_add] at h1
      have h2 : 2 ^ (L + 1 + a) ≤ 2 ^ 53 := Nat.pow_le_pow_right (by omega) (by omega)
      omega
    have hb2 : e = 0 ∨ 4503599627370496 ≤ k := by
      rcases he3 with h0 | h0
      · exact .inl h0
      · right
        have h1 : 2 ^ L * 2 ^ a ≤ m * 2 ^ a := Nat.mul_le_mul_right _ hL1
        rw [← Nat.pow_add, show L + a = 52 by omega] at h1
        omega
    refine ⟨_, read_word s hb1 he2 hb2, ?_⟩
    unfold numR
    refine numR_near ?_
    have hv : (k : Rat) * 2 ^ ((e : Int) - 1074) = (m : Rat) * 2 ^ p := by
      rw [hkm, ha, two_add, two_nat, Rat.natCast_mul]
      grind
    rw [hv]
    have h1 : (0 : Rat) ≤ (m : Rat) * 2 ^ p := Rat.mul_nonneg Rat.natCast_nonneg (Rat.le_of_lt (two_pos p))
    have h2 : (0 : Rat) ≤ (m : Rat) * 2 ^ p * eps := Rat.mul_nonneg h1 (by decide +kernel)
    have h3 : (0 : Rat) ≤ tiny := by decide +kernel
    exact ⟨by grind, by grind⟩
  · obtain ⟨d, hd⟩ : ∃ d : Nat, (e : Int) - 1074 = p + d := ⟨((e : Int) - 1074 - p).toNat, by omega⟩
    rw [show (p - ((e : Int) - 1074)).toNat = 0 by omega, show ((e : Int) - 1074 - p).toNat = d by omega, Nat.shiftLeft_zero]
    obtain ⟨c1, c2⟩ := cut_near s m d
    obtain ⟨k, hk⟩ : ∃ k, k = Toward.even.cut s m d := ⟨_, rfl⟩
    rw [← hk] at c1 c2 ⊢
    have hG := Nat.two_pow_pos d
    have hb1 : k ≤ 9007199254740992 := by
      have h2 : 2 ^ (L + 1) ≤ 2 ^ (53 + d) := Nat.pow_le_pow_right (by omega) (by omega)
      rw [Nat.pow_add 2 53 d] at h2
      refine Classical.byContradiction fun hc => ?_
      have h3 : 9007199254740993 * 2 ^ d ≤ k * 2 ^ d := Nat.mul_le_mul_right _ (by omega)
      generalize k * 2 ^ d = A at *
      generalize 2 ^ d = G at *
      omega
    have hb2 : e = 0 ∨ 4503599627370496 ≤ k := by
      rcases he3 with h0 | h0
      · exact .inl h0
      · right
        have h1 : 2 ^ L = 2 ^ (52 + d) := by congr 1; omega
        rw [Nat.pow_add 2 52 d] at h1
        refine Classical.byContradiction fun hc => ?_
        have h3 : k * 2 ^ d ≤ 4503599627370495 * 2 ^ d := Nat.mul_le_mul_right _ (by omega)
        generalize k * 2 ^ d = A at *
        generalize 2 ^ d = G at *
        omega
    refine ⟨_, read_word s hb1 he2 hb2, ?_⟩
    unfold numR
    refine numR_near ?_
    have hv : (k : Rat) * 2 ^ ((e : Int) - 1074) = ((k * 2 ^ d : Nat) : Rat) * 2 ^ p := by
      rw [hd, two_add, two_nat, Rat.natCast_mul]
      grind
    have hu : (2 : Rat) ^ ((e : Int) - 1074) = ((2 ^ d : Nat) : Rat) * 2 ^ p := by
      rw [hd, two_add, two_nat]
      grind
    have hm0 : (0 : Rat) ≤ (m : Rat) * 2 ^ p := Rat.mul_nonneg Rat.natCast_nonneg (Rat.le_of_lt (two_pos p))
    have he0 : (0 : Rat) ≤ (m : Rat) * 2 ^ p * eps := Rat.mul_nonneg hm0 (by decide +kernel)
    have ht0 : (0 : Rat) ≤ tiny := by decide +kernel
    have herr : (2 : Rat) ^ ((e : Int) - 1074) ≤ 2 * ((m : Rat) * 2 ^ p * eps + tiny) := by
      rcases he3 with h0 | h0
      · subst h0
        have h1 := tiny_le
        have h2 : (2 : Rat) ^ (((0 : Nat) : Int) - 1074) = 2 ^ (-1075 : Int) * 2 := by
          rw [show (((0 : Nat) : Int) - 1074) = -1075 + 1 by omega, two_add, show (2 : Rat) ^ (1 : Int) = 2 from Rat.zpow_one 2]
        rw [h2]; grind
      · rw [h0, show p + (L : Int) - 52 = ((L : Int) + p) + (-53) + 1 by omega, two_add, two_add, two_add, two_nat, show (2 : Rat) ^ (1 : Int) = 2 from Rat.zpow_one 2, eps_eq]
        have h1 := Rat.mul_le_mul_of_nonneg_right (cast_le hL1) (Rat.le_of_lt (two_pos p))
        have h2 := Rat.mul_le_mul_of_nonneg_right h1 (show (0 : Rat) ≤ eps by decide +kernel)
        grind
    rw [hv]
    have c1' := Rat.mul_le_mul_of_nonneg_right (cast_le c1) (Rat.le_of_lt (two_pos p))
    have c2' := Rat.mul_le_mul_of_nonneg_right (cast_le c2) (Rat.le_of_lt (two_pos p))
    rw [Rat.natCast_add, Rat.natCast_mul 2, Rat.natCast_mul 2] at c1' c2'
    rw [hu] at herr
    generalize ((k * 2 ^ d : Nat) : Rat) = A at *
    generalize ((2 ^ d : Nat) : Rat) = D at *
    generalize (2 : Rat) ^ p = T at *
    generalize (m : Rat) = M at *
    have e2 : ((2 : Nat) : Rat) = 2 := rfl
    rw [e2] at c1' c2'
    exact ⟨by grind, by grind⟩
end Go.Proofs.YtlnlcddbllcehaaDoor.Ie

/- Doubles: sums, products, near to what they should be. Conditions: none. -/
set_option linter.unusedSimpArgs false
set_option linter.unusedVariables false
namespace Go.Proofs.YtlnlcddbllcehaaDoor.Ie
open Ieee

theorem signed_val (s : Bool) (m up : Nat) : ((signed s m up : Int) : Rat) = (if s then -1 else 1) * ((m : Rat) * ((2 ^ up : Nat) : Rat)) := by
  unfold signed
  rw [Nat.shiftLeft_eq]
  cases s
  · simp only [Bool.false_eq_true, if_false]
    rw [Rat.intCast_natCast, Rat.natCast_mul]; grind
  · simp only [if_true]
    rw [Rat.intCast_neg, Rat.intCast_natCast, Rat.natCast_mul]; grind
theorem numR_up {s : Bool} {m : Nat} {p b : Int} (h : b ≤ p) : numR s m p = ((signed s m (p - b).toNat : Int) : Rat) * 2 ^ b := by
  rw [signed_val]
  obtain ⟨d, hd⟩ : ∃ d : Nat, p = b + d := ⟨(p - b).toNat, by omega⟩
  rw [show (p - b).toNat = d by omega, hd]
  unfold numR
  rw [two_add, two_nat]; grind
theorem abs_val (x : Int) : (if decide (x < 0) then -1 else 1 : Rat) * (x.natAbs : Rat) = (x : Rat) := by
  by_cases h : x < 0
  · rw [decide_eq_true h, if_pos rfl]
    have : x = -(x.natAbs : Int) := by omega
    conv => rhs; rw [this]
    rw [Rat.intCast_neg, Rat.intCast_natCast]; grind
  · rw [decide_eq_false h]
    simp only [Bool.false_eq_true, if_false]
    have : x = (x.natAbs : Int) := by omega
    conv => rhs; rw [this]
    rw [Rat.intCast_natCast]; grind
theorem sum_val (s t : Bool) (m n : Nat) (i j : Int) : ∃ u k b, (Datum.number s m i).sum (.number t n j) = some (.number u k b) ∧ numR u k b = numR s m i + numR t n j := by
  refine ⟨_, _, _, rfl, ?_⟩
  rw [numR_up (s := s) (m := m) (p := i) (b := min i j) (by omega), numR_up (s := t) (m := n) (p := j) (b := min i j) (by omega)]
  generalize signed s m (i - min i j).toNat = x
  generalize signed t n (j - min i j).toNat = y
  have h2 := abs_val (x + y)
  rw [Rat.intCast_add] at h2
  unfold numR
  by_cases h0 : x + y = 0
  · rw [if_pos h0, h0]
    have h3 : (x : Rat) + (y : Rat) = 0 := by rw [← Rat.intCast_add, h0]; rfl
    show _ * (((0 : Nat) : Rat) * _) = _
    have : ((0 : Nat) : Rat) = 0 := rfl
    rw [this]; grind
  · rw [if_neg h0]
    grind
theorem opp_val (s : Bool) (m : Nat) (p : Int) : numR (!s) m p = - numR s m p := by
  unfold numR; cases s
  · simp only [Bool.not_false, if_true, Bool.false_eq_true, if_false]; grind
  · simp only [Bool.not_true, if_true, Bool.false_eq_true, if_false]; grind
theorem mul_val (s t : Bool) (m n : Nat) (i j : Int) : numR (s ^^ t) (m * n) (i + j) = numR s m i * numR t n j := by
  unfold numR
  rw [two_add, Rat.natCast_mul]
  cases s <;> cases t <;> simp <;> grind
/-- a magnitude is the number without its sign -/
theorem mag_val {s : Bool} {m : Nat} {p : Int} {x B : Rat} (h : numR s m p = x) (h1 : -B ≤ x) (h2 : x ≤ B) : (m : Rat) * 2 ^ p ≤ B := by
  unfold numR at h
  cases s
  · simp only [Bool.false_eq_true, if_false] at h; grind
  · simp only [if_true] at h; grind
/-- greater numbers are not asked -/
def top : Rat := 1606938044258990275541962092341162602522202993782792835301376
theorem top_lt : top < (2 : Rat) ^ (1023 : Int) := by decide +kernel
theorem Near.mono {x v e e' : Rat} (h : Near x v e) (he : e ≤ e') : Near x v e' := by
  obtain ⟨h1, h2⟩ := h
  exact ⟨by grind, by grind⟩
theorem write_near {s : Bool} {m : Nat} {p : Int} {v B : Rat} (h : numR s m p = v) (h1 : -B ≤ v) (h2 : v ≤ B) (hB : B ≤ top) : ∃ x, FV (double.write (.number s m p)) x ∧ Near x v (B * eps + tiny) := by
  have hm := mag_val h h1 h2
  have ht := top_lt
  obtain ⟨x, hx, hn⟩ := nearest_near s m p (by grind)
  refine ⟨x, hx, ?_⟩
  rw [h] at hn
  refine hn.mono ?_
  have := Rat.mul_le_mul_of_nonneg_right hm (show (0 : Rat) ≤ eps by decide +kernel)
  grind
theorem add_near {a b : Nat} {x y B : Rat} (ha : FV a x) (hb : FV b y) (h1 : -B ≤ x + y) (h2 : x + y ≤ B) (hB : B ≤ top) : ∃ r z, double.add a b = some r ∧ FV r z ∧ Near z (x + y) (B * eps + tiny) := by
  obtain ⟨s, m, p, hr, rfl⟩ := ha
  obtain ⟨t, n, q, hq, rfl⟩ := hb
  obtain ⟨u, k, c, hs, hv⟩ := sum_val s t m n p q
  obtain ⟨z, hz, hn⟩ := write_near hv h1 h2 hB
  refine ⟨_, z, ?_, hz, hn⟩
  unfold Format.add
  rw [hr, hq, hs]; rfl
theorem sub_near {a b : Nat} {x y B : Rat} (ha : FV a x) (hb : FV b y) (h1 : -B ≤ x - y) (h2 : x - y ≤ B) (hB : B ≤ top) : ∃ r z, double.sub a b = some r ∧ FV r z ∧ Near z (x - y) (B * eps + tiny) := by
  obtain ⟨s, m, p, hr, rfl⟩ := ha
  obtain ⟨t, n, q, hq, rfl⟩ := hb
  obtain ⟨u, k, c, hs, hv⟩ := sum_val s (!t) m n p q
  rw [opp_val] at hv
  obtain ⟨z, hz, hn⟩ := write_near (v := numR s m p - numR t n q) (B := B) (by rw [hv]; grind) h1 h2 hB
  refine ⟨_, z, ?_, hz, hn⟩
  unfold Format.sub
  rw [hr, hq]
  show ((Datum.number s m p).sum (.number (!t) n q)).map _ = _
  rw [hs]; rfl
theorem mul_near {a b : Nat} {x y B : Rat} (ha : FV a x) (hb : FV b y) (h1 : -B ≤ x * y) (h2 : x * y ≤ B) (hB : B ≤ top) : ∃ r z, double.mul a b = some r ∧ FV r z ∧ Near z (x * y) (B * eps + tiny) := by
  obtain ⟨s, m, p, hr, rfl⟩ := ha
  obtain ⟨t, n, q, hq, rfl⟩ := hb
  obtain ⟨z, hz, hn⟩ := write_near (mul_val s t m n p q) h1 h2 hB
  refine ⟨_, z, ?_, hz, hn⟩
  unfold Format.mul
  rw [hr, hq]; rfl
end Go.Proofs.YtlnlcddbllcehaaDoor.Ie

/- Complex numbers of two fractions; of two doubles. Conditions: none. -/
set_option linter.unusedSimpArgs false
set_option linter.unusedVariables false
namespace Go.Proofs.YtlnlcddbllcehaaDoor.Ie
open Ieee

/-- a complex number -/
@[ext] structure Cx where
  re : Rat
  im : Rat
namespace Cx
def add (z w : Cx) : Cx := ⟨z.re + w.re, z.im + w.im⟩
def sub (z w : Cx) : Cx := ⟨z.re - w.re, z.im - w.im⟩
def mul (z w : Cx) : Cx := ⟨z.re * w.re - z.im * w.im, z.re * w.im + z.im * w.re⟩
def neg (z : Cx) : Cx := ⟨-z.re, -z.im⟩
/-- its magnitude is at most A -/
def M (z : Cx) (A : Rat) : Prop := 0 ≤ A ∧ z.re * z.re + z.im * z.im ≤ A * A
theorem sq_nonneg (x : Rat) : 0 ≤ x * x := by
  rcases Rat.le_total (a := 0) (b := x) with h | h
  · exact Rat.mul_nonneg h h
  · have := Rat.mul_nonneg (a := -x) (b := -x) (by grind) (by grind)
    grind
/-- of numbers that are not negative, the one with the lesser square is the lesser one -/
theorem le_of_sq {x A : Rat} (hA : 0 ≤ A) (h : x * x ≤ A * A) : x ≤ A := by
  refine Classical.byContradiction fun hc => ?_
  have hc : A < x := Rat.not_le.1 hc
  have h1 := Rat.mul_le_mul_of_nonneg_left (Rat.le_of_lt hc) hA
  have h2 := Rat.mul_lt_mul_of_pos_right hc (show 0 < x by grind)
  grind
theorem sq_mono {A B : Rat} (hA : 0 ≤ A) (h : A ≤ B) : A * A ≤ B * B := by
  have h1 := Rat.mul_le_mul_of_nonneg_left h hA
  have h2 := Rat.mul_le_mul_of_nonneg_right h (show 0 ≤ B by grind)
  grind
theorem M.mono {z : Cx} {A B : Rat} (h : z.M A) (hB : A ≤ B) : z.M B := ⟨by have := h.1; grind, by have := sq_mono h.1 hB; have := h.2; grind⟩
theorem M.re_le {z : Cx} {A : Rat} (h : z.M A) : -A ≤ z.re ∧ z.re ≤ A := by
  obtain ⟨h1, h2⟩ := h
  have h3 := sq_nonneg z.im
  have h4 := le_of_sq (x := z.re) h1 (by grind)
  have h5 := le_of_sq (x := -z.re) h1 (by grind)
  exact ⟨by grind, h4⟩
theorem M.im_le {z : Cx} {A : Rat} (h : z.M A) : -A ≤ z.im ∧ z.im ≤ A := by
  obtain ⟨h1, h2⟩ := h
  have h3 := sq_nonneg z.re
  have h4 := le_of_sq (x := z.im) h1 (by grind)
  have h5 := le_of_sq (x := -z.im) h1 (by grind)
  exact ⟨by grind, h4⟩
theorem M.add {z w : Cx} {A B : Rat} (h : z.M A) (k : w.M B) : (z.add w).M (A + B) := by
  obtain ⟨h1, h2⟩ := h
  obtain ⟨k1, k2⟩ := k
  refine ⟨by grind, ?_⟩
  have hAB := Rat.mul_nonneg h1 k1
  have hz : 0 ≤ z.re * z.re + z.im * z.im := by have := sq_nonneg z.re; have := sq_nonneg z.im; grind
  have hm : (z.re * z.re + z.im * z.im) * (w.re * w.re + w.im * w.im) ≤ (A * B) * (A * B) := by
    have m1 := Rat.mul_le_mul_of_nonneg_left k2 hz
    have m2 := Rat.mul_le_mul_of_nonneg_right h2 (sq_nonneg B)
    grind
  have hs := sq_nonneg (z.re * w.im - z.im * w.re)
  have hd : z.re * w.re + z.im * w.im ≤ A * B := le_of_sq hAB (by grind)
  show (z.re + w.re) * (z.re + w.re) + (z.im + w.im) * (z.im + w.im) ≤ _
  grind
theorem M.mul {z w : Cx} {A B : Rat} (h : z.M A) (k : w.M B) : (z.mul w).M (A * B) := by
  obtain ⟨h1, h2⟩ := h
  obtain ⟨k1, k2⟩ := k
  refine ⟨Rat.mul_nonneg h1 k1, ?_⟩
  have hz : 0 ≤ z.re * z.re + z.im * z.im := by have := sq_nonneg z.re; have := sq_nonneg z.im; grind
  have m1 := Rat.mul_le_mul_of_nonneg_left k2 hz
  have m2 := Rat.mul_le_mul_of_nonneg_right h2 (sq_nonneg B)
  show (z.re * w.re - z.im * w.im) * (z.re * w.re - z.im * w.im) + (z.re * w.im + z.im * w.re) * (z.re * w.im + z.im * w.re) ≤ _
  grind
theorem M.neg {z : Cx} {A : Rat} (h : z.M A) : z.neg.M A := by
  obtain ⟨h1, h2⟩ := h
  refine ⟨h1, ?_⟩
  show -z.re * -z.re + -z.im * -z.im ≤ _
  grind
theorem sub_eq (z w : Cx) : z.sub w = z.add w.neg := by
  unfold sub add neg
  congr 1 <;> grind
theorem M.sub {z w : Cx} {A B : Rat} (h : z.M A) (k : w.M B) : (z.sub w).M (A + B) := by rw [sub_eq]; exact h.add k.neg
theorem M.of {z : Cx} {e : Rat} (h1 : -e ≤ z.re) (h2 : z.re ≤ e) (h3 : -e ≤ z.im) (h4 : z.im ≤ e) : z.M (2 * e) := by
  have he : 0 ≤ e := by grind
  have s1 : z.re * z.re ≤ e * e := by
    have := Rat.mul_nonneg (show 0 ≤ e - z.re by grind) (show 0 ≤ e + z.re by grind)
    grind
  have s2 : z.im * z.im ≤ e * e := by
    have := Rat.mul_nonneg (show 0 ≤ e - z.im by grind) (show 0 ≤ e + z.im by grind)
    grind
  have := sq_nonneg e
  exact ⟨by grind, by grind⟩
end Cx
/-- two words stand for a complex number -/
def CV (w : Nat × Nat) (z : Cx) : Prop := FV w.1 z.re ∧ FV w.2 z.im
def cadd (z w : Nat × Nat) : Option (Nat × Nat) := (double.add z.1 w.1).bind fun a => (double.add z.2 w.2).map fun b => (a, b)
def csub (z w : Nat × Nat) : Option (Nat × Nat) := (double.sub z.1 w.1).bind fun a => (double.sub z.2 w.2).map fun b => (a, b)
def cmul (z w : Nat × Nat) : Option (Nat × Nat) :=
  (double.mul z.1 w.1).bind fun ac => (double.mul z.2 w.2).bind fun bd => (double.sub ac bd).bind fun r =>
  (double.mul z.1 w.2).bind fun ad => (double.mul z.2 w.1).bind fun bc => (double.add ad bc).map fun i => (r, i)
theorem cadd_near {u v : Nat × Nat} {x y : Cx} {B : Rat} (hu : CV u x) (hv : CV v y) (hB : (x.add y).M B) (ht : B ≤ top) : ∃ r z, cadd u v = some r ∧ CV r z ∧ (z.sub (x.add y)).M (2 * (B * eps + tiny)) := by
  obtain ⟨r1, z1, a1, b1, c1, d1⟩ := add_near hu.1 hv.1 hB.re_le.1 hB.re_le.2 ht
  obtain ⟨r2, z2, a2, b2, c2, d2⟩ := add_near hu.2 hv.2 hB.im_le.1 hB.im_le.2 ht
  refine ⟨(r1, r2), ⟨z1, z2⟩, ?_, ⟨b1, b2⟩, Cx.M.of ?_ ?_ ?_ ?_⟩
  · unfold cadd; rw [a1, a2]; rfl
  · show _ ≤ z1 - (x.re + y.re); grind
  · show z1 - (x.re + y.re) ≤ _; grind
  · show _ ≤ z2 - (x.im + y.im); grind
  · show z2 - (x.im + y.im) ≤ _; grind
theorem csub_near {u v : Nat × Nat} {x y : Cx} {B : Rat} (hu : CV u x) (hv : CV v y) (hB : (x.sub y).M B) (ht : B ≤ top) : ∃ r z, csub u v = some r ∧ CV r z ∧ (z.sub (x.sub y)).M (2 * (B * eps + tiny)) := by
  obtain ⟨r1, z1, a1, b1, c1, d1⟩ := sub_near hu.1 hv.1 hB.re_le.1 hB.re_le.2 ht
  obtain ⟨r2, z2, a2, b2, c2, d2⟩ := sub_near hu.2 hv.2 hB.im_le.1 hB.im_le.2 ht
  refine ⟨(r1, r2), ⟨z1, z2⟩, ?_, ⟨b1, b2⟩, Cx.M.of ?_ ?_ ?_ ?_⟩
  · unfold csub; rw [a1, a2]; rfl
  · show _ ≤ z1 - (x.re - y.re); grind
  · show z1 - (x.re - y.re) ≤ _; grind
  · show _ ≤ z2 - (x.im - y.im); grind
  · show z2 - (x.im - y.im) ≤ _; grind
theorem prod_le {x y A B : Rat} (h1 : -A ≤ x) (h2 : x ≤ A) (h3 : -B ≤ y) (h4 : y ≤ B) : -(A * B) ≤ x * y ∧ x * y ≤ A * B := by
  have hA : 0 ≤ A := by grind
  have hB : 0 ≤ B := by grind
  have p1 := Rat.mul_nonneg (show 0 ≤ A - x by grind) (show 0 ≤ B - y by grind)
  have p2 := Rat.mul_nonneg (show 0 ≤ A + x by grind) (show 0 ≤ B + y by grind)
  have p3 := Rat.mul_nonneg (show 0 ≤ A - x by grind) (show 0 ≤ B + y by grind)
  have p4 := Rat.mul_nonneg (show 0 ≤ A + x by grind) (show 0 ≤ B - y by grind)
  exact ⟨by grind, by grind⟩
theorem cmul_near {u v : Nat × Nat} {x y : Cx} {A B : Rat} (hu : CV u x) (hv : CV v y) (hA : x.M A) (hB : y.M B) (ht : 4 * (A * B) + 4 ≤ top) : ∃ r z, cmul u v = some r ∧ CV r z ∧ (z.sub (x.mul y)).M (12 * (A * B) * eps + 12 * tiny) := by
  have hAB := Rat.mul_nonneg hA.1 hB.1
  have he : (0 : Rat) ≤ eps ∧ eps ≤ 1 / 1000 := by decide +kernel
  have hti : (0 : Rat) ≤ tiny ∧ tiny ≤ 1 / 1000 := by decide +kernel
  have hk : (A * B) * eps ≤ A * B * (1 / 1000) := Rat.mul_le_mul_of_nonneg_left he.2 hAB
  have hk0 := Rat.mul_nonneg hAB he.1
  have p1 := prod_le hA.re_le.1 hA.re_le.2 hB.re_le.1 hB.re_le.2
  have p2 := prod_le hA.im_le.1 hA.im_le.2 hB.im_le.1 hB.im_le.2
  have p3 := prod_le hA.re_le.1 hA.re_le.2 hB.im_le.1 hB.im_le.2
  have p4 := prod_le hA.im_le.1 hA.im_le.2 hB.re_le.1 hB.re_le.2
  obtain ⟨r1, z1, a1, b1, c1, d1⟩ := mul_near hu.1 hv.1 p1.1 p1.2 (by grind)
  obtain ⟨r2, z2, a2, b2, c2, d2⟩ := mul_near hu.2 hv.2 p2.1 p2.2 (by grind)
  obtain ⟨r3, z3, a3, b3, c3, d3⟩ := mul_near hu.1 hv.2 p3.1 p3.2 (by grind)
  obtain ⟨r4, z4, a4, b4, c4, d4⟩ := mul_near hu.2 hv.1 p4.1 p4.2 (by grind)
  obtain ⟨r5, z5, a5, b5, c5, d5⟩ := sub_near (B := 3 * (A * B) + 3 * tiny) b1 b2 (by grind) (by grind) (by grind)
  obtain ⟨r6, z6, a6, b6, c6, d6⟩ := add_near (B := 3 * (A * B) + 3 * tiny) b3 b4 (by grind) (by grind) (by grind)
  have ht2 : tiny * eps ≤ tiny * (1 / 1000) := Rat.mul_le_mul_of_nonneg_left he.2 hti.1
  have h6 : (3 * (A * B) + 3 * tiny) * eps = 3 * ((A * B) * eps) + 3 * (tiny * eps) := by grind
  rw [h6] at c5 d5 c6 d6
  refine ⟨(r5, r6), ⟨z5, z6⟩, ?_, ⟨b5, b6⟩, Cx.M.mono (A := 2 * (6 * ((A * B) * eps) + 6 * tiny)) (Cx.M.of ?_ ?_ ?_ ?_) (by grind)⟩
  · unfold cmul
    rw [a1, a2]
    simp only [Option.bind_some, a5, a3, a4, a6, Option.map_some]
  · show _ ≤ z5 - (x.re * y.re - x.im * y.im); grind
  · show z5 - (x.re * y.re - x.im * y.im) ≤ _; grind
  · show _ ≤ z6 - (x.re * y.im + x.im * y.re); grind
  · show z6 - (x.re * y.im + x.im * y.re) ≤ _; grind
end Go.Proofs.YtlnlcddbllcehaaDoor.Ie
