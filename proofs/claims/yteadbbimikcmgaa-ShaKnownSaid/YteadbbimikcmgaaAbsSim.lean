/- The abstract machine's judgement on code and calls; whatever it derives, the real machine does. Conditions: what a program's text must hold ('codeOk'), and contracts of functions that are met by themselves ('Ext'). -/
import Derived.Test.YteadbbimikcmgaaAbsDraw
set_option linter.unusedSimpArgs false
set_option linter.unusedVariables false
namespace Go.Proofs.Yteadbbimikcmgaa
open Go

def codeOk (P : Program) (n G : Nat) : Code → Bool
  | .region _ ops draw => opsOk n G ops && (!draw || orderOk P ops)
  | .seq a b => codeOk P n G a && codeOk P n G b
  | .cond c a b => operandOk G c && codeOk P n G a && codeOk P n G b
  | .block _ b | .loop b | .scope b => codeOk P n G b
  | _ => true
def fnOk (P : Program) (G : Nat) (fn : Func) (c : Code) : Bool := codeOk P fn.ntmps G c && fn.name != "runtime.NumGoroutine" && decide (fn.params.size + fn.nfree ≤ fn.ntmps)

/-- code inside a scope, whose labels may be jumped to -/
inductive Jg where
  | j (j : Jd)
  | scope (body c : Code) (e : Env) (S : Mem) (x : Xit) (e' : Env) (S' : Mem)

inductive Ex (P : Program) (G : Nat) (Ext : FuncId → List Value → Mem → Outc → Mem → Prop) : Jg → Prop
  | nil (fl ops e S) : Ex P G Ext (.j (.ops fl ops [] e S none e S))
  | skip {fl ops i is o e S x e' S'} (ho : ops[i]? = some o) (hw : awanted ops o e = false) (h : Ex P G Ext (.j (.ops fl ops is (e.put o.dst undef) S x e' S'))) : Ex P G Ext (.j (.ops fl ops (i :: is) e S x e' S'))
  | pure {fl ops i is o e S v x e' S'} (ho : ops[i]? = some o) (hw : awanted ops o e = true) (hp : apure P o e.eval = some v) (h : Ex P G Ext (.j (.ops fl ops is (e.put o.dst v) S x e' S'))) : Ex P G Ext (.j (.ops fl ops (i :: is) e S x e' S'))
  | load {fl ops i is o e S v x e' S'} (ho : ops[i]? = some o) (hw : awanted ops o e = true) (hp : aload P o e.eval S = some v) (h : Ex P G Ext (.j (.ops fl ops is (e.put o.dst v) S x e' S'))) : Ex P G Ext (.j (.ops fl ops (i :: is) e S x e' S'))
  | eff {fl ops i is o e S v S1 x e' S'} (ho : ops[i]? = some o) (hw : awanted ops o e = true) (hp : aeff P o e.eval S = some (v, S1)) (h : Ex P G Ext (.j (.ops fl ops is (e.put o.dst v) S1 x e' S'))) : Ex P G Ext (.j (.ops fl ops (i :: is) e S x e' S'))
  | call {fl ops i is o e S f args v S1 x e' S'} (ho : ops[i]? = some o) (hw : awanted ops o e = true) (hc : acall o e.eval = some (f, args)) (hcall : Ex P G Ext (.j (.call f args S (.ret v) S1))) (hcons : fl = true → Cons S S1)
      (h : Ex P G Ext (.j (.ops fl ops is (e.put o.dst v) S1 x e' S'))) : Ex P G Ext (.j (.ops fl ops (i :: is) e S x e' S'))
  | callPan {fl ops i is o e S f args v S1} (ho : ops[i]? = some o) (hw : awanted ops o e = true) (hc : acall o e.eval = some (f, args)) (hcall : Ex P G Ext (.j (.call f args S (.pan v) S1))) :
      Ex P G Ext (.j (.ops fl ops (i :: is) e S (some v) e S1))
  | region {id ops draw e S e' S'} (h : Ex P G Ext (.j (.ops (draw && floaty P ops) ops (List.range ops.size) e S none e' S'))) : Ex P G Ext (.j (.code (.region id ops draw) e S .nrm e' S'))
  | regionPan {id ops e S v e' S'} (h : Ex P G Ext (.j (.ops false ops (List.range ops.size) e S (some v) e' S'))) : Ex P G Ext (.j (.code (.region id ops false) e S (.pan v) e' S'))
  | seq {a b e S e1 S1 x e' S'} (h1 : Ex P G Ext (.j (.code a e S .nrm e1 S1))) (h2 : Ex P G Ext (.j (.code b e1 S1 x e' S'))) : Ex P G Ext (.j (.code (.seq a b) e S x e' S'))
  | seqOut {a b e S x e' S'} (h1 : Ex P G Ext (.j (.code a e S x e' S'))) (hx : x ≠ .nrm) : Ex P G Ext (.j (.code (.seq a b) e S x e' S'))
  | cond {c a b t e S x e' S'} (hc : e.eval c = .bool t) (h : Ex P G Ext (.j (.code (if t then a else b) e S x e' S'))) : Ex P G Ext (.j (.code (.cond c a b) e S x e' S'))
  | block {id c e S x e' S'} (h : Ex P G Ext (.j (.code c e S x e' S'))) : Ex P G Ext (.j (.code (.block id c) e S (x.inBlock id) e' S'))
  | loop {c e S e1 S1 x e' S'} (h1 : Ex P G Ext (.j (.code c e S .nrm e1 S1))) (h2 : Ex P G Ext (.j (.code (.loop c) e1 S1 x e' S'))) : Ex P G Ext (.j (.code (.loop c) e S x e' S'))
  | loopOut {c e S x e' S'} (h1 : Ex P G Ext (.j (.code c e S x e' S'))) (hx : x ≠ .nrm) : Ex P G Ext (.j (.code (.loop c) e S x e' S'))
  | exit (id e S) : Ex P G Ext (.j (.code (.exit id) e S (.exit id) e S))
  | goto (l e S) : Ex P G Ext (.j (.code (.goto l) e S (.goto l) e S))
  | ret (e S) : Ex P G Ext (.j (.code .ret e S .ret e S))
  | skipC (e S) : Ex P G Ext (.j (.code .skip e S .nrm e S))
  | label (l e S) : Ex P G Ext (.j (.code (.label l) e S .nrm e S))
  | scope {body e S x e' S'} (h : Ex P G Ext (.scope body body e S x e' S')) : Ex P G Ext (.j (.code (.scope body) e S x e' S'))
  | inScope {body c e S x e' S'} (h : Ex P G Ext (.j (.code c e S x e' S'))) (hx : ∀ l, x = .goto l → findLabel body l = none) : Ex P G Ext (.scope body c e S x e' S')
  | jump {body c e S l rest e1 S1 x e' S'} (h1 : Ex P G Ext (.j (.code c e S (.goto l) e1 S1))) (hl : findLabel body l = some rest) (h2 : Ex P G Ext (.scope body rest e1 S1 x e' S')) : Ex P G Ext (.scope body c e S x e' S')
  | fn {f args fn c S x e' v S'} (hf : P.funcs[f]? = some fn) (hb : fn.body = some c) (hok : fnOk P G fn c = true) (ha : args.length ≤ fn.ntmps) (h : Ex P G Ext (.j (.code c (Env.of args) S x e' S'))) (hx : x = .nrm ∨ x = .ret)
      (hr : aresults P fn e' S' = some v) : Ex P G Ext (.j (.call f args S (.ret v) S'))
  | fnPan {f args fn c S e' v S'} (hf : P.funcs[f]? = some fn) (hb : fn.body = some c) (hok : fnOk P G fn c = true) (ha : args.length ≤ fn.ntmps) (h : Ex P G Ext (.j (.code c (Env.of args) S (.pan v) e' S'))) :
      Ex P G Ext (.j (.call f args S (.pan v) S'))
  | ext {f args S out S'} (h : Ext f args S out S') : Ex P G Ext (.j (.call f args S out S'))

/-- how an exit of the abstract machine stands to one of the real -/
def XR (ρ : Nat → Option Loc) : Xit → Exit → Prop
  | .nrm, .normal => True
  | .exit i, .exit j => i = j
  | .goto i, .goto j => i = j
  | .ret, .ret => True
  | .pan v, .panic c => ∃ v', VR ρ v v' ∧ c = [{ v := v', recovered := false }]
  | _, _ => False
def OR (ρ : Nat → Option Loc) : Outc → Ending → Prop
  | .ret v, .returned v' => VR ρ v v'
  | .pan v, .panicked c => ∃ v', VR ρ v v' ∧ c = [{ v := v', recovered := false }]
  | _, _ => False

def CallSim (P : Program) (G : Nat) (f : FuncId) (args : List Value) (S : Mem) (out : Outc) (S' : Mem) : Prop :=
  (∃ fn, P.funcs[f]? = some fn ∧ fn.name ≠ "runtime.NumGoroutine" ∧ fn.body.isSome = true) ∧
  ∀ (ρ : Nat → Option Loc) (args' : List Value) (w : World), LR ρ args args' → SR ρ S w → Glob G ρ → Calls P f args'.toArray w fun en w' => ∃ ρ', OR ρ' out en ∧ SR ρ' S' w' ∧ Stp ρ S w ρ' S' w'
def After (n : Nat) (ds : List Deferred) (ρ : Nat → Option Loc) (S : Mem) (w : World) (x : Xit) (e' : Env) (S' : Mem) (ex : Exit) (a' : Act) (w' : World) : Prop :=
  ∃ ρ', XR ρ' x ex ∧ ER ρ' e' a' ∧ SR ρ' S' w' ∧ Stp ρ S w ρ' S' w' ∧ a'.tmps.size = n ∧ a'.defers = ds

def Sim (P : Program) (G : Nat) : Jg → Prop
  | .j (.ops fl ops is e S none e' S') => Tr P G fl ops is e S e' S'
  | .j (.ops fl ops is e S (some v) e' S') => ∀ (n : Nat) (ds : List Deferred) (ρ : Nat → Option Loc) (a : Act) (w : World) (Q : Exit → Act → World → Prop), opsOk n G ops = true → ER ρ e a → SR ρ S w → Glob G ρ → a.tmps.size = n → a.defers = ds →
      (∀ v' ρ' a' w', VR ρ' v v' → ER ρ' e' a' → SR ρ' S' w' → Stp ρ S w ρ' S' w' → a'.tmps.size = n → a'.defers = ds → Q (.panic [{ v := v', recovered := false }]) a' w') → wpOps P ops Q is a w
  | .j (.code c e S x e' S') => ∀ (n : Nat) (ρ : Nat → Option Loc) (a : Act) (w : World), codeOk P n G c = true → ER ρ e a → SR ρ S w → Glob G ρ → a.tmps.size = n → c.wp P (After n a.defers ρ S w x e' S') a w ∧
      ∀ c', c = .loop c' → ∀ (b : Frame) (k : List Item) (cs : List Frame), ∃ ex a' w', After n a.defers ρ S w x e' S' ex a' w' ∧ Arrives P (lone (b.at a (.code c' :: .inLoop c' :: k)) cs w) b k cs ex a' w'
  | .j (.call f args S out S') => CallSim P G f args S out S'
  | .scope body c e S x e' S' => ∀ (n : Nat) (ρ : Nat → Option Loc) (a : Act) (w : World), codeOk P n G body = true → codeOk P n G c = true → ER ρ e a → SR ρ S w → Glob G ρ → a.tmps.size = n →
      ∀ (b : Frame) (k : List Item) (cs : List Frame), ∃ ex a' w', After n a.defers ρ S w x e' S' ex a' w' ∧ Arrives P (lone (b.at a (.code c :: .inScope body :: k)) cs w) b k cs ex a' w'

section
variable {P : Program} {G : Nat}

theorem Glob.mono {ρ ρ' : Nat → Option Loc} (h : Glob G ρ) (hs : Sub ρ ρ') : Glob G ρ' := fun g hg => (h g hg).mono hs

theorem call_run {o : Oper} {e : Env} {a : Act} {f : FuncId} {args : List Value} {ρ : Nat → Option Loc} {w : World} (h : acall o e.eval = some (f, args)) (hv : ∀ x ∈ o.op.operands, VR ρ (e.eval x) (a.eval x))
    (hf : ∃ fn, P.funcs[f]? = some fn ∧ fn.name ≠ "runtime.NumGoroutine" ∧ fn.body.isSome = true) : ∃ args', LR ρ args args' ∧ (execOp a.eval o).run P w = .ok (.enter f args'.toArray) w := by
  unfold acall at h
  split at h
  · rename_i c ho
    split at h
    · rename_i fv hcal
      split at h
      · rename_i f' first captured hfv
        cases h
        have m0 := hv fv (by simp [ho, Op.operands, Call.operands, hcal])
        rw [hfv] at m0
        obtain ⟨fn, h1, h2, h3⟩ := hf
        obtain ⟨first', captured', hev, hl1, hl2⟩ : ∃ f2 c2, a.eval fv = .func (.func f) f2 c2 ∧ LR ρ first.toList f2.toList ∧ LR ρ captured.toList c2.toList := by
          generalize a.eval fv = u at m0
          cases m0 with
          | func _ _ f2 _ c2 q1 q2 q3 q4 => exact ⟨f2, c2, rfl, ⟨by simpa using q1, fun i v v' x y => q3 i v v' (by simpa using x) (by simpa using y)⟩, ⟨by simpa using q2, fun i v v' x y => q4 i v v' (by simpa using x) (by simpa using y)⟩⟩
        have hl3 : LR ρ (c.args.toList.map e.eval) (c.args.toList.map a.eval) := by
          refine ⟨by simp, fun i v v' x y => ?_⟩
          rw [List.getElem?_map, Option.map_eq_some_iff] at x y
          obtain ⟨q, hq, rfl⟩ := x
          obtain ⟨q', hq', rfl⟩ := y
          rw [hq] at hq'; cases hq'
          exact hv q (by simp [ho, Op.operands, Call.operands, hcal]; right; exact List.mem_of_getElem? hq |> fun h => by simpa using h)
        refine ⟨first'.toList ++ c.args.toList.map a.eval ++ captured'.toList, (hl1.append hl3).append hl2, ?_⟩
        have hnm : (fn.name == "runtime.NumGoroutine") = false := by simpa using h2
        have hbn : fn.body.isNone = false := by cases hb : fn.body <;> simp [hb] at h3 ⊢
        simp only [execOp, ho, resolve, hcal, Sem.run_bind, Deferred.ofValue, hev, Sem.run_pure, Result.andThen_ok, invoke, callFunc, run_program, h1, hnm, hbn, Bool.false_eq_true, if_false]
        congr 2
        simp [List.append_assoc]
      · cases h
    · cases h
  · cases h

theorem acall_kind {o : Oper} {ev : Operand → Value} {f : FuncId} {args : List Value} (h : acall o ev = some (f, args)) : opKind P o = 4 := by
  unfold acall at h
  split at h
  · rename_i c ho
    split at h
    · rename_i fv hcal; simp [opKind, ho, hcal]
    · cases h
  · cases h
theorem aeff_kind {o : Oper} {ev : Operand → Value} {S S' : Mem} {v : Value} (h : aeff P o ev S = some (v, S')) : (opKind P o = 2 ∨ opKind P o = 3) ∧ (opKind P o = 2 → Cons S S') := by
  unfold aeff at h
  split at h
  · rename_i t ho
    rw [Option.map_eq_some_iff] at h
    obtain ⟨z, _, h⟩ := h
    cases h
    exact ⟨.inl (by simp [opKind, ho]), fun _ => Cons.push _ _⟩
  · rename_i t x ho; cases h; exact ⟨.inl (by simp [opKind, ho]), fun _ => Cons.push _ _⟩
  · rename_i t len parts ho
    refine ⟨.inl (by simp [opKind, ho]), fun _ => ?_⟩
    split at h
    · split at h
      · split at h
        · rw [Option.map_eq_some_iff] at h
          obtain ⟨z, _, h⟩ := h
          cases h
          exact Cons.push _ _
        · cases h
      · cases h
    · cases h
  · rename_i t a x ho; exact ⟨.inr (by simp [opKind, ho]), fun hk => by simp [opKind, ho] at hk⟩
  · rename_i t l c ho
    refine ⟨.inl (by simp [opKind, ho]), fun _ => ?_⟩
    split at h
    · split at h
      · split at h
        · cases h; exact Cons.push _ _
        · cases h
      · cases h
    · cases h
  · rename_i src dst x ho
    split at h
    · rename_i s e hx hs hd
      split at h
      · cases h; exact ⟨.inl (by simp [opKind, ho, hs]), fun _ => Cons.push _ _⟩
      · cases h
    · cases h
  · rename_i c ho
    split at h
    · rename_i hcal; exact ⟨.inr (by simp [opKind, ho, hcal]), fun hk => by simp [opKind, ho, hcal] at hk⟩
    · rename_i hcal; exact ⟨.inr (by simp [opKind, ho, hcal]), fun hk => by simp [opKind, ho, hcal] at hk⟩
    · cases h
  · cases h

theorem sim_call {o : Oper} {e : Env} {f : FuncId} {args : List Value} {S S1 : Mem} {v : Value} (hc : acall o e.eval = some (f, args)) (h : CallSim P G f args S (.ret v) S1) : OpSim P G o e S v S1 := fun ρ a w K Q hv hS hG hK => by
  obtain ⟨args', hl, hrun⟩ := call_run (P := P) (w := w) hc hv h.1
  unfold Oper.wp
  rw [hrun, Oper.upon_enter]
  refine (h.2 ρ args' w hl hS hG).mono fun en w' ⟨ρ', h1, h2, h3⟩ => ?_
  cases en with
  | returned v' => exact hK v' ρ' w' h1 h2 h3
  | panicked c => exact h1.elim
  | outgrown => exact h1.elim

def rvar (tmps : Array Value) : ResultVar → Sem Value
  | .tmp t => pure (tmps.getD t undef)
  | .cell x t => do loadVar t (← asAddr (tmps.getD x undef))
theorem results_unf (fn : Func) (tmps : Array Value) : results fn tmps = (do
    let vs ← fn.results.mapM (rvar tmps)
    pure (if h : vs.size = 1 then vs[0] else .tuple vs)) := rfl
theorem res1_sound {ρ : Nat → Option Loc} {e : Env} {a : Act} {S : Mem} {w : World} {r : ResultVar} {v : Value} (hE : ER ρ e a) (hS : SR ρ S w) (h : ares1 P e S r = some v) :
    ∃ v', VR ρ v v' ∧ (rvar a.tmps r).run P w = .ok v' w := by
  cases r with
  | tmp t => simp only [ares1, Option.some.injEq] at h; subst h; exact ⟨_, hE t, rfl⟩
  | cell x t =>
    simp only [ares1] at h
    obtain ⟨v', a', ha, hr, hrun⟩ := aloadAt_sound (P := P) hS h (hE x)
    exact ⟨v', hr, by simp only [rvar, Sem.run_bind, ha, asAddr, Sem.run_pure, Result.andThen_ok, hrun]⟩
theorem results_sound {fn : Func} {ρ : Nat → Option Loc} {e : Env} {a : Act} {S : Mem} {w : World} {v : Value} (hE : ER ρ e a) (hS : SR ρ S w) (h : aresults P fn e S = some v) :
    ∃ v', VR ρ v v' ∧ (results fn a.tmps).run P w = .ok v' w := by
  obtain ⟨rs, hrs⟩ : ∃ rs, fn.results = rs := ⟨_, rfl⟩
  obtain ⟨l⟩ := rs
  unfold aresults at h
  rw [hrs] at h
  have one : ∀ r v, ares1 P e S r = some v → ∃ v', VR ρ v v' ∧ (rvar a.tmps r).run P w = .ok v' w := fun r v h => res1_sound hE hS h
  rw [results_unf, hrs]
  match l, h with
  | [], h => simp only [Option.some.injEq] at h; subst h; exact ⟨_, flat_VR ρ undef_flat, by simp [undef]⟩
  | [r], h =>
    obtain ⟨v', h1, h2⟩ := one r v h
    exact ⟨v', h1, by simp only [List.mapM_toArray, List.mapM_cons, List.mapM_nil, Sem.run_bind, Sem.run_map, h2, Result.andThen_ok, Sem.run_pure, map_eq_pure_bind]; simp⟩
  | [r, s], h =>
    simp only [Option.bind_eq_some_iff, Option.map_eq_some_iff] at h
    obtain ⟨u1, g1, u2, g2, rfl⟩ := h
    obtain ⟨v1, h1, k1⟩ := one r u1 g1
    obtain ⟨v2, h2, k2⟩ := one s u2 g2
    refine ⟨.tuple #[v1, v2], LR.tuple (LR.cons h1 (LR.cons h2 (LR.nil ρ))), ?_⟩
    simp only [List.mapM_toArray, List.mapM_cons, List.mapM_nil, Sem.run_bind, Sem.run_map, k1, k2, Result.andThen_ok, Sem.run_pure, map_eq_pure_bind]; simp
  | [r, s, t], h =>
    simp only [Option.bind_eq_some_iff, Option.map_eq_some_iff] at h
    obtain ⟨u1, g1, u2, g2, u3, g3, rfl⟩ := h
    obtain ⟨v1, h1, k1⟩ := one r u1 g1
    obtain ⟨v2, h2, k2⟩ := one s u2 g2
    obtain ⟨v3, h3, k3⟩ := one t u3 g3
    refine ⟨.tuple #[v1, v2, v3], LR.tuple (LR.cons h1 (LR.cons h2 (LR.cons h3 (LR.nil ρ)))), ?_⟩
    simp only [List.mapM_toArray, List.mapM_cons, List.mapM_nil, Sem.run_bind, Sem.run_map, k1, k2, k3, Result.andThen_ok, Sem.run_pure, map_eq_pure_bind]; simp
  | [r, s, t, q], h =>
    simp only [Option.bind_eq_some_iff, Option.map_eq_some_iff] at h
    obtain ⟨u1, g1, u2, g2, u3, g3, u4, g4, rfl⟩ := h
    obtain ⟨v1, h1, k1⟩ := one r u1 g1
    obtain ⟨v2, h2, k2⟩ := one s u2 g2
    obtain ⟨v3, h3, k3⟩ := one t u3 g3
    obtain ⟨v4, h4, k4⟩ := one q u4 g4
    refine ⟨.tuple #[v1, v2, v3, v4], LR.tuple (LR.cons h1 (LR.cons h2 (LR.cons h3 (LR.cons h4 (LR.nil ρ))))), ?_⟩
    simp only [List.mapM_toArray, List.mapM_cons, List.mapM_nil, Sem.run_bind, Sem.run_map, k1, k2, k3, k4, Result.andThen_ok, Sem.run_pure, map_eq_pure_bind]; simp
  | _ :: _ :: _ :: _ :: _ :: _, h => simp at h

theorem of_ER {ρ : Nat → Option Loc} {args args' : List Value} (h : LR ρ args args') (n : Nat) : ER ρ (Env.of args) { tmps := args'.toArray ++ Array.replicate n undef, defers := [] } := by
  intro t
  simp only [Env.of, Array.getD_eq_getD_getElem?, List.getD_eq_getElem?_getD]
  by_cases ht : t < args.length
  · have ht' : t < args'.length := h.1 ▸ ht
    rw [Array.getElem?_append_left (by simpa using ht')]
    simp only [List.getElem?_toArray, List.getElem?_eq_getElem ht, List.getElem?_eq_getElem ht', Option.getD_some]
    exact h.2 t _ _ (List.getElem?_eq_getElem ht) (List.getElem?_eq_getElem ht')
  · have ht' : ¬ t < args'.length := h.1 ▸ ht
    rw [List.getElem?_eq_none (by omega), Array.getElem?_append_right (by simpa using ht')]
    simp only [Option.getD_none]
    by_cases h2 : t - args'.toArray.size < n
    · rw [Array.getElem?_replicate, if_pos h2]; exact flat_VR ρ undef_flat
    · rw [Array.getElem?_replicate, if_neg h2]; exact flat_VR ρ undef_flat

theorem After.trans {n : Nat} {ds : List Deferred} {ρ ρ1 : Nat → Option Loc} {S S1 : Mem} {w w1 : World} {x : Xit} {e' : Env} {S' : Mem} {ex : Exit} {a' : Act} {w' : World} (h : Stp ρ S w ρ1 S1 w1) (k : After n ds ρ1 S1 w1 x e' S' ex a' w') :
    After n ds ρ S w x e' S' ex a' w' := by
  obtain ⟨ρ', h1, h2, h3, h4, h5⟩ := k
  exact ⟨ρ', h1, h2, h3, h.trans h4, h5⟩
theorem findLabel_ok {n : Nat} : ∀ (c : Code) (l : Nat) (r : Code), codeOk P n G c = true → findLabel c l = some r → codeOk P n G r = true := by
  intro c
  induction c with
  | seq a b iha ihb =>
    intro l r hc hl
    simp only [codeOk, Bool.and_eq_true] at hc
    simp only [findLabel] at hl
    split at hl
    · rename_i rest hr
      cases hl
      simp only [codeOk, Bool.and_eq_true]
      exact ⟨iha l rest hc.1 hr, hc.2⟩
    · exact ihb l r hc.2 hl
  | label l' =>
    intro l r hc hl
    simp only [findLabel] at hl
    split at hl
    · cases hl; rfl
    · cases hl
  | _ => intro l r hc hl; simp [findLabel] at hl
theorem step_scope' {b : Frame} {a : Act} {k : List Item} {cs : List Frame} {w : World} {c : Code} :
    step P (lone (b.at a (.code (.scope c) :: k)) cs w) = .next (lone (b.at a (.code c :: .inScope c :: k)) cs w) :=
  step_lone_go (by simp [stepG, stepG.exec, Frame.at])
theorem step_inScope' {b : Frame} {a : Act} {k : List Item} {cs : List Frame} {w : World} {c : Code} :
    step P (lone (b.at a (.inScope c :: k)) cs w) = .next (lone (b.at a k) cs w) :=
  step_lone_go (by simp [stepG, stepG.exec, Frame.at])
theorem XR.notNormal {ρ : Nat → Option Loc} {x : Xit} {ex : Exit} (h : XR ρ x ex) (hx : x ≠ .nrm) : ex ≠ .normal := by
  intro e; subst e; cases x <;> first | exact hx rfl | exact h.elim
theorem then_out {next : Act → World → Prop} {Q : Exit → Act → World → Prop} {ex : Exit} {a : Act} {w : World} (hx : ex ≠ .normal) (h : Q ex a w) : Exit.then next Q ex a w := by
  cases ex <;> first | exact h | exact absurd rfl hx

set_option maxHeartbeats 1000000 in
theorem Ex.sim {Ext : FuncId → List Value → Mem → Outc → Mem → Prop} (hm : P.follows .mixedOrders = true) (hext : ∀ f args S out S', Ext f args S out S' → CallSim P G f args S out S') {j : Jg} (h : Ex P G Ext j) : Sim P G j := by
  have lift : ∀ {c : Code} {e : Env} {S : Mem} {x : Xit} {e' : Env} {S' : Mem}, (∀ c', c ≠ .loop c') → (∀ (n : Nat) (ρ : Nat → Option Loc) (a : Act) (w : World), codeOk P n G c = true → ER ρ e a → SR ρ S w → Glob G ρ → a.tmps.size = n → c.wp P (After n a.defers ρ S w x e' S') a w) →
      Sim P G (.j (.code c e S x e' S')) := fun hne h n ρ a w hok hE hS hG hn => ⟨h n ρ a w hok hE hS hG hn, fun c' hc' => absurd hc' (hne c')⟩
  induction h with
  | nil fl ops e S => exact Tr.nil e S
  | @skip fl ops i is o e S x e' S' ho hw h ih =>
    cases x with
    | none => exact Tr.skip ho hw ih
    | some v =>
      intro n ds ρ a w Q hok hE hS hG hn hd hQ
      simp only [wpOps, ho]
      rw [wanted_eq hn hok (fun t _ => hE t), hw]
      simp only [Bool.false_eq_true, if_false]
      exact ih n ds ρ _ w Q hok (put_ER hE (flat_VR ρ undef_flat) (fun d h => by rw [hn]; exact (opsOk_mem hok ho).1 d h)) hS hG (by rw [put_size]; exact hn) (by rw [put_defers']; exact hd) hQ
  | @pure fl ops i is o e S v x e' S' ho hw hp h ih =>
    cases x with
    | none => exact Tr.pure ho hw hp ih
    | some u =>
      intro n ds ρ a w Q hok hE hS hG hn hd hQ
      simp only [wpOps, ho]
      rw [wanted_eq hn hok (fun t _ => hE t), hw]
      simp only [if_true]
      refine .inl (sim_pure (G := G) hp _ ρ a w _ _ (fun x hx => eval_VR hG ((opsOk_mem hok ho).2 x hx) (fun t _ => hE t)) hS hG (fun v' ρ' w' h1 h2 h3 => ?_))
      exact ih n ds ρ' _ w' Q hok (put_ER (fun t => (hE t).mono h3.ext) h1 (fun d h => by rw [hn]; exact (opsOk_mem hok ho).1 d h)) h2 (hG.mono h3.ext) (by rw [put_size]; exact hn) (by rw [put_defers']; exact hd)
        (fun v' ρ'' a' w'' q1 q2 q3 q4 => hQ v' ρ'' a' w'' q1 q2 q3 (h3.trans q4))
  | @load fl ops i is o e S v x e' S' ho hw hp h ih =>
    cases x with
    | none => exact Tr.load ho hw hp ih
    | some u =>
      intro n ds ρ a w Q hok hE hS hG hn hd hQ
      simp only [wpOps, ho]
      rw [wanted_eq hn hok (fun t _ => hE t), hw]
      simp only [if_true]
      refine .inl (sim_load (G := G) hp ρ a w _ _ (fun x hx => eval_VR hG ((opsOk_mem hok ho).2 x hx) (fun t _ => hE t)) hS hG (fun v' ρ' w' h1 h2 h3 => ?_))
      exact ih n ds ρ' _ w' Q hok (put_ER (fun t => (hE t).mono h3.ext) h1 (fun d h => by rw [hn]; exact (opsOk_mem hok ho).1 d h)) h2 (hG.mono h3.ext) (by rw [put_size]; exact hn) (by rw [put_defers']; exact hd)
        (fun v' ρ'' a' w'' q1 q2 q3 q4 => hQ v' ρ'' a' w'' q1 q2 q3 (h3.trans q4))
  | @eff fl ops i is o e S v S1 x e' S' ho hw hp h ih =>
    cases x with
    | none => exact Tr.eff ho hw (sim_eff hp) (by rcases (aeff_kind hp).1 with h | h <;> omega) (fun hk => by
        rcases hk with hk | hk
        · exact (aeff_kind hp).2 hk
        · rcases (aeff_kind (P := P) hp).1 with h | h <;> omega) ih
    | some u =>
      intro n ds ρ a w Q hok hE hS hG hn hd hQ
      simp only [wpOps, ho]
      rw [wanted_eq hn hok (fun t _ => hE t), hw]
      simp only [if_true]
      refine .inl (sim_eff (G := G) hp ρ a w _ _ (fun x hx => eval_VR hG ((opsOk_mem hok ho).2 x hx) (fun t _ => hE t)) hS hG (fun v' ρ' w' h1 h2 h3 => ?_))
      exact ih n ds ρ' _ w' Q hok (put_ER (fun t => (hE t).mono h3.ext) h1 (fun d h => by rw [hn]; exact (opsOk_mem hok ho).1 d h)) h2 (hG.mono h3.ext) (by rw [put_size]; exact hn) (by rw [put_defers']; exact hd)
        (fun v' ρ'' a' w'' q1 q2 q3 q4 => hQ v' ρ'' a' w'' q1 q2 q3 (h3.trans q4))
  | @call fl ops i is o e S f args v S1 x e' S' ho hw hc hcall hcons h ihc ih =>
    have hk4 : opKind P o = 4 := acall_kind hc
    cases x with
    | none => exact Tr.eff ho hw (sim_call hc ihc) (by omega) (fun hk => by
        rcases hk with hk | hk
        · omega
        · exact hcons hk.2) ih
    | some u =>
      intro n ds ρ a w Q hok hE hS hG hn hd hQ
      simp only [wpOps, ho]
      rw [wanted_eq hn hok (fun t _ => hE t), hw]
      simp only [if_true]
      refine .inl (sim_call (G := G) hc ihc ρ a w _ _ (fun x hx => eval_VR hG ((opsOk_mem hok ho).2 x hx) (fun t _ => hE t)) hS hG (fun v' ρ' w' h1 h2 h3 => ?_))
      exact ih n ds ρ' _ w' Q hok (put_ER (fun t => (hE t).mono h3.ext) h1 (fun d h => by rw [hn]; exact (opsOk_mem hok ho).1 d h)) h2 (hG.mono h3.ext) (by rw [put_size]; exact hn) (by rw [put_defers']; exact hd)
        (fun v' ρ'' a' w'' q1 q2 q3 q4 => hQ v' ρ'' a' w'' q1 q2 q3 (h3.trans q4))
  | @callPan fl ops i is o e S f args v S1 ho hw hc hcall ihc =>
    intro n ds ρ a w Q hok hE hS hG hn hd hQ
    simp only [wpOps, ho]
    rw [wanted_eq hn hok (fun t _ => hE t), hw]
    simp only [if_true]
    obtain ⟨args', hl, hrun⟩ := call_run (P := P) (w := w) hc (fun x hx => eval_VR hG ((opsOk_mem hok ho).2 x hx) (fun t _ => hE t)) ihc.1
    refine .inl ?_
    unfold Oper.wp
    rw [hrun, Oper.upon_enter]
    refine (ihc.2 ρ args' w hl hS hG).mono fun en w' ⟨ρ', h1, h2, h3⟩ => ?_
    cases en with
    | returned v' => exact h1.elim
    | panicked c =>
      obtain ⟨v', hv', rfl⟩ := h1
      exact hQ v' ρ' a w' hv' (fun t => (hE t).mono h3.ext) h2 h3 hn hd
    | outgrown => exact h1.elim
  | @region id ops draw e S e' S' h ih =>
    refine lift (fun _ => nofun) fun n ρ a w hok hE hS hG hn => ?_
    simp only [codeOk, Bool.and_eq_true, Bool.or_eq_true, Bool.not_eq_true'] at hok
    have hK : Reach G n a.defers ρ S w e' S' (After n a.defers ρ S w .nrm e' S' .normal) := fun ρ' a' w' q1 q2 q3 q4 q5 => ⟨ρ', trivial, q1, q2, q3, q4, q5⟩
    cases draw with
    | false => exact wp_region (Tr.run hok.1 ih hK ρ a w hE hS hG (Stp.refl _ _ _) hn rfl)
    | true =>
      refine wp_region_any hm ?_
      exact Tr.drawn (order_of (hok.2.resolve_left nofun)) (fun hf => by simpa using hf) hok.1 ih hK hE hS.drew hG (Stp.drew ρ S w) hn rfl
  | @regionPan id ops e S v e' S' h ih =>
    refine lift (fun _ => nofun) fun n ρ a w hok hE hS hG hn => ?_
    simp only [codeOk, Bool.and_eq_true] at hok
    exact wp_region (ih n a.defers ρ a w _ hok.1 hE hS hG hn rfl (fun v' ρ' a' w' q1 q2 q3 q4 q5 q6 => ⟨ρ', ⟨v', q1, rfl⟩, q2, q3, q4, q5, q6⟩))
  | @seq c1 c2 e S e1 S1 x e' S' h1 h2 ih1 ih2 =>
    refine lift (fun _ => nofun) fun n ρ a w hok hE hS hG hn => ?_
    simp only [codeOk, Bool.and_eq_true] at hok
    refine wp_seq (wp_mono (ih1 n ρ a w hok.1 hE hS hG hn).1 fun ex a1 w1 hA => ?_)
    obtain ⟨ρ1, q1, q2, q3, q4, q5, q6⟩ := hA
    cases ex with
    | normal =>
      have := (ih2 n ρ1 a1 w1 hok.2 q2 q3 (hG.mono q4.ext) q5).1
      rw [q6] at this
      exact wp_mono this fun ex a2 w2 hA2 => hA2.trans q4
    | _ => exact q1.elim
  | @seqOut c1 c2 e S x e' S' h1 hx ih1 =>
    refine lift (fun _ => nofun) fun n ρ a w hok hE hS hG hn => ?_
    simp only [codeOk, Bool.and_eq_true] at hok
    refine wp_seq (wp_mono (ih1 n ρ a w hok.1 hE hS hG hn).1 fun ex a1 w1 hA => ?_)
    obtain ⟨ρ1, q1, q2⟩ := hA
    exact then_out (q1.notNormal hx) ⟨ρ1, q1, q2⟩
  | @cond c ca cb t e S x e' S' hc h ih =>
    refine lift (fun _ => nofun) fun n ρ a w hok hE hS hG hn => ?_
    simp only [codeOk, Bool.and_eq_true] at hok
    have hv := eval_VR (e := e) (a := a) hG hok.1.1 (fun t _ => hE t)
    rw [hc] at hv
    have hb := hv.scalar_eq rfl
    refine wp_cond hb (ih n ρ a w ?_ hE hS hG hn).1
    cases t
    · exact hok.2
    · exact hok.1.2
  | @block id c e S x e' S' h ih =>
    refine lift (fun _ => nofun) fun n ρ a w hok hE hS hG hn => ?_
    simp only [codeOk] at hok
    refine wp_block (wp_mono (ih n ρ a w hok hE hS hG hn).1 fun ex a1 w1 hA => ?_)
    obtain ⟨ρ1, q1, q2⟩ := hA
    cases ex <;> cases x <;> first | exact q1.elim | skip
    · exact ⟨ρ1, trivial, q2⟩
    · rename_i i1 i2
      have hi : i2 = i1 := q1
      subst hi
      by_cases hid : i2 = id
      · subst hid
        simp only [Exit.inBlock, if_true]
        exact ⟨ρ1, by simp [Xit.inBlock, XR], q2⟩
      · simp only [Exit.inBlock, hid, if_false]
        exact ⟨ρ1, by simp [Xit.inBlock, hid, XR], q2⟩
    · exact ⟨ρ1, q1, q2⟩
    · exact ⟨ρ1, trivial, q2⟩
    · exact ⟨ρ1, q1, q2⟩
  | @loop c e S e1 S1 x e' S' h1 h2 ih1 ih2 =>
    intro n ρ a w hok hE hS hG hn
    have hok' := hok
    simp only [codeOk] at hok
    have key : ∀ (b : Frame) (k : List Item) (cs : List Frame), ∃ ex a' w', After n a.defers ρ S w x e' S' ex a' w' ∧ Arrives P (lone (b.at a (.code c :: .inLoop c :: k)) cs w) b k cs ex a' w' := by
      intro b k cs
      obtain ⟨ex, a1, w1, ⟨ρ1, q1, q2, q3, q4, q5, q6⟩, harr⟩ := (ih1 n ρ a w hok hE hS hG hn).1 b (.inLoop c :: k) cs
      cases ex with
      | normal =>
        obtain ⟨ex2, a2, w2, hA, harr2⟩ := (ih2 n ρ1 a1 w1 hok' q2 q3 (hG.mono q4.ext) q5).2 c rfl b k cs
        rw [q6] at hA
        exact ⟨ex2, a2, w2, hA.trans q4, .of_steps (Steps.trans harr (.one step_inLoop)) harr2⟩
      | _ => exact q1.elim
    exact ⟨fun b k cs => let ⟨ex, a', w', hA, harr⟩ := key b k cs; ⟨ex, a', w', hA, .of_steps (.one step_loop) harr⟩, fun c' hc' => by cases hc'; exact key⟩
  | @loopOut c e S x e' S' h1 hx ih1 =>
    intro n ρ a w hok hE hS hG hn
    simp only [codeOk] at hok
    have key : ∀ (b : Frame) (k : List Item) (cs : List Frame), ∃ ex a' w', After n a.defers ρ S w x e' S' ex a' w' ∧ Arrives P (lone (b.at a (.code c :: .inLoop c :: k)) cs w) b k cs ex a' w' := by
      intro b k cs
      obtain ⟨ex, a1, w1, ⟨ρ1, q1, q2⟩, harr⟩ := (ih1 n ρ a w hok hE hS hG hn).1 b (.inLoop c :: k) cs
      have hne := q1.notNormal hx
      exact ⟨ex, a1, w1, ⟨ρ1, q1, q2⟩, .pass (x := .inLoop c) rfl (fun _ _ => .inl hne) harr⟩
    exact ⟨fun b k cs => let ⟨ex, a', w', hA, harr⟩ := key b k cs; ⟨ex, a', w', hA, .of_steps (.one step_loop) harr⟩, fun c' hc' => by cases hc'; exact key⟩
  | exit id e S => exact lift (fun _ => nofun) fun n ρ a w hok hE hS hG hn => wp_exit ⟨ρ, rfl, hE, hS, Stp.refl _ _ _, hn, rfl⟩
  | goto l e S => exact lift (fun _ => nofun) fun n ρ a w hok hE hS hG hn => wp_goto ⟨ρ, rfl, hE, hS, Stp.refl _ _ _, hn, rfl⟩
  | ret e S => exact lift (fun _ => nofun) fun n ρ a w hok hE hS hG hn => wp_ret ⟨ρ, trivial, hE, hS, Stp.refl _ _ _, hn, rfl⟩
  | skipC e S => exact lift (fun _ => nofun) fun n ρ a w hok hE hS hG hn => wp_skip ⟨ρ, trivial, hE, hS, Stp.refl _ _ _, hn, rfl⟩
  | label l e S => exact lift (fun _ => nofun) fun n ρ a w hok hE hS hG hn => wp_label ⟨ρ, trivial, hE, hS, Stp.refl _ _ _, hn, rfl⟩
  | @scope body e S x e' S' h ih =>
    refine lift (fun _ => nofun) fun n ρ a w hok hE hS hG hn => ?_
    simp only [codeOk] at hok
    intro b k cs
    obtain ⟨ex, a', w', hA, harr⟩ := ih n ρ a w hok hok hE hS hG hn b k cs
    exact ⟨ex, a', w', hA, .of_steps (.one step_scope') harr⟩
  | @inScope body c e S x e' S' h hx ih =>
    intro n ρ a w hokB hok hE hS hG hn b k cs
    obtain ⟨ex, a1, w1, ⟨ρ1, q1, q2⟩, harr⟩ := (ih n ρ a w hok hE hS hG hn).1 b (.inScope body :: k) cs
    refine ⟨ex, a1, w1, ⟨ρ1, q1, q2⟩, ?_⟩
    cases ex with
    | normal => exact Steps.trans harr (.one step_inScope')
    | exit id => exact fun k' hk => harr k' (by simpa [exitTo] using hk)
    | goto l =>
      refine fun k' hk => harr k' ?_
      cases x with
      | goto l' =>
        have hl : l' = l := q1
        subst hl
        simp [gotoIn, hx l' rfl, hk]
      | _ => exact q1.elim
    | ret => exact harr
    | panic ch => exact harr
    | outgrown => cases x <;> exact q1.elim
  | @jump body c e S l rest e1 S1 x e' S' h1 hl h2 ih1 ih2 =>
    intro n ρ a w hokB hok hE hS hG hn b k cs
    obtain ⟨ex, a1, w1, ⟨ρ1, q1, q2, q3, q4, q5, q6⟩, harr⟩ := (ih1 n ρ a w hok hE hS hG hn).1 b (.inScope body :: k) cs
    cases ex with
    | goto l' =>
      have hll : l = l' := q1
      subst hll
      obtain ⟨ex2, a2, w2, hA, harr2⟩ := ih2 n ρ1 a1 w1 hokB (findLabel_ok body l rest hokB hl) q2 q3 (hG.mono q4.ext) q5 b k cs
      rw [q6] at hA
      exact ⟨ex2, a2, w2, hA.trans q4, .of_steps (harr _ (by simp [gotoIn, hl])) harr2⟩
    | _ => exact q1.elim
  | @fn f args fn c S x e' v S' hf hb hok ha h hx hr ih =>
    simp only [fnOk, Bool.and_eq_true, bne_iff_ne, ne_eq] at hok
    refine ⟨⟨fn, hf, hok.1.2, by rw [hb]; rfl⟩, fun ρ args' w hl hS hG => ?_⟩
    have hsz : ({ tmps := args'.toArray ++ Array.replicate (fn.ntmps - args'.toArray.size) undef, defers := [] } : Act).tmps.size = fn.ntmps := by
      have := hl.1; simp; omega
    refine calls_of_wp hf hb (wp_mono (ih fn.ntmps ρ _ w hok.1.1 (of_ER hl _) hS hG hsz).1 fun ex a1 w1 hA => ?_)
    obtain ⟨ρ1, q1, q2, q3, q4, q5, q6⟩ := hA
    obtain ⟨v', hv', hrun⟩ := results_sound (P := P) q2 q3 hr
    have fin : a1.defers = [] ∧ ∃ v, (results fn a1.tmps).run P w1 = .ok v w1 ∧ ∃ ρ', OR ρ' (.ret _) (.returned v) ∧ SR ρ' S' w1 ∧ Stp ρ S w ρ' S' w1 := ⟨q6, v', hrun, ρ1, hv', q3, q4⟩
    rcases hx with rfl | rfl
    · cases ex <;> first | exact fin | exact q1.elim
    · cases ex <;> first | exact fin | exact q1.elim
  | @fnPan f args fn c S e' v S' hf hb hok ha h ih =>
    simp only [fnOk, Bool.and_eq_true, bne_iff_ne, ne_eq] at hok
    refine ⟨⟨fn, hf, hok.1.2, by rw [hb]; rfl⟩, fun ρ args' w hl hS hG => ?_⟩
    have hsz : ({ tmps := args'.toArray ++ Array.replicate (fn.ntmps - args'.toArray.size) undef, defers := [] } : Act).tmps.size = fn.ntmps := by
      have := hl.1; simp; omega
    refine calls_of_wp hf hb (wp_mono (ih fn.ntmps ρ _ w hok.1.1 (of_ER hl _) hS hG hsz).1 fun ex a1 w1 hA => ?_)
    obtain ⟨ρ1, q1, q2, q3, q4, q5, q6⟩ := hA
    cases ex with
    | panic ch =>
      obtain ⟨v', hv', rfl⟩ := q1
      exact ⟨q6, ρ1, ⟨v', hv', rfl⟩, q3, q4⟩
    | _ => exact q1.elim
  | ext h => exact hext _ _ _ _ _ h
end
end Go.Proofs.Yteadbbimikcmgaa
