/- The abstract machine: runs of operations, of code, of calls; which orders a region may be run in; a region that draws its order does what its text does. Conditions: none. -/
import Derived.Test.YteadbbimikcmgaaAbsEff
set_option linter.unusedSimpArgs false
set_option linter.unusedVariables false
namespace Go.Proofs.Yteadbbimikcmgaa
open Go

inductive Xit where
  | nrm | exit (id : Nat) | goto (l : Nat) | ret | pan (v : Value)
inductive Outc where
  | ret (v : Value) | pan (v : Value)
def Xit.inBlock (id : Nat) : Xit → Xit
  | .exit id' => if id' = id then .nrm else .exit id'
  | x => x
inductive Jd where
  | ops (fl : Bool) (ops : Array Oper) (is : List Nat) (e : Env) (S : Mem) (x : Option Value) (e' : Env) (S' : Mem)
  | code (c : Code) (e : Env) (S : Mem) (x : Xit) (e' : Env) (S' : Mem)
  | call (f : FuncId) (args : List Value) (S : Mem) (out : Outc) (S' : Mem)

def awanted (ops : Array Oper) (o : Oper) (e : Env) : Bool := match o.guard with
  | none => true
  | some (j, want) => match (ops[j]?).bind (·.dst) with
    | some t => match e t with
      | .bool b => b == want
      | _ => false
    | none => false
def acall (o : Oper) (ev : Operand → Value) : Option (FuncId × List Value) := match o.op with
  | .call c => match c.callee with
    | .value f => match ev f with
      | .func (.func f) first captured => some (f, first.toList ++ c.args.toList.map ev ++ captured.toList)
      | _ => none
    | _ => none
  | _ => none
/-- nothing that was there has changed -/
def Cons (S S' : Mem) : Prop := ∀ r, r < S.length → S'[r]? = S[r]?
theorem Cons.refl (S : Mem) : Cons S S := fun _ _ => rfl
theorem Cons.len {S S' : Mem} (h : Cons S S') : S.length ≤ S'.length := by
  rcases Nat.lt_or_ge S'.length S.length with hl | hl
  · have := h S'.length hl
    rw [List.getElem?_eq_none (Nat.le_refl _), List.getElem?_eq_getElem hl] at this
    cases this
  · exact hl
theorem Cons.trans {a b c : Mem} (h : Cons a b) (k : Cons b c) : Cons a c := fun r hr => (k r (Nat.lt_of_lt_of_le hr h.len)).trans (h r hr)
theorem Cons.push (S : Mem) (x : Row) : Cons S (S ++ [x]) := fun r hr => List.getElem?_append_left hr

def ares1 (P : Program) (e : Env) (S : Mem) : ResultVar → Option Value
  | .tmp t => some (e t)
  | .cell a t => aloadAt P t (e a) S
def aresults (P : Program) (fn : Func) (e : Env) (S : Mem) : Option Value := match fn.results.toList with
  | [r] => ares1 P e S r
  | [] => some (.tuple #[])
  | [r, s] => (ares1 P e S r).bind fun u => (ares1 P e S s).map fun v => .tuple #[u, v]
  | [r, s, t] => (ares1 P e S r).bind fun u => (ares1 P e S s).bind fun v => (ares1 P e S t).map fun x => .tuple #[u, v, x]
  | [r, s, t, q] => (ares1 P e S r).bind fun u => (ares1 P e S s).bind fun v => (ares1 P e S t).bind fun x => (ares1 P e S q).map fun y => .tuple #[u, v, x, y]
  | _ => none

/-! ### which operations a region may change about -/
def opKind (P : Program) (o : Oper) : Nat := match o.op with
  | .load .. => 1
  | .alloc _ | .box .. | .buildSlice .. | .makeSlice .. => 2
  | .store .. => 3
  | .convert s _ _ => match P.underlying s with
    | some (.slice _) => 1
    | some .string => 2
    | _ => 0
  | .call c => match c.callee with
    | .builtin .append | .builtin .copy => 3
    | .builtin _ => 0
    | _ => 4
  | _ => 0
def maskOf (acc : List Nat) (es : List Edge) : Nat := es.foldl (fun s e => if Region.binds .any e then s ||| (2 ^ e.on) ||| acc.getD e.on 0 else s) 0
def masks : List Oper → List Nat → List Nat
  | [], acc => acc
  | o :: r, acc => masks r (acc ++ [maskOf acc o.after.toList])
def ordB (ms : List Nat) (i j : Nat) : Bool := (ms.getD j 0).testBit i || (ms.getD i 0).testBit j
def pairOk (P : Program) (ops : Array Oper) (ms : List Nat) (i j : Nat) (oi oj : Oper) : Bool :=
  (match oi.dst with
   | some d => oj.dst != some d && (!(oj.looksAt ops).contains d || ordB ms i j)
   | none => true) &&
  (!(decide (2 ≤ opKind P oi) && decide (2 ≤ opKind P oj)) || ordB ms i j) &&
  (!(opKind P oi == 3 && opKind P oj == 1) || ordB ms i j)
def orderOk (P : Program) (ops : Array Oper) : Bool :=
  let ms := masks ops.toList []
  ops.toList.zipIdx.all fun (oj, j) => (oj.after.toList.all fun e => !Region.binds .any e || decide (e.on < j)) &&
    ops.toList.zipIdx.all fun (oi, i) => i == j || pairOk P ops ms i j oi oj
def floaty (P : Program) (ops : Array Oper) : Bool :=
  let ms := masks ops.toList []
  ops.toList.zipIdx.any fun (oj, j) => opKind P oj == 1 && ops.toList.zipIdx.any fun (oi, i) => opKind P oi == 4 && !ordB ms i j

/-- one binding edge leads from i to j, or several -/
inductive Anc (ops : Array Oper) : Nat → Nat → Prop
  | edge {j : Nat} {o : Oper} {e : Edge} (ho : ops[j]? = some o) (he : e ∈ o.after) (hb : Region.binds .any e = true) : Anc ops e.on j
  | trans {i j k : Nat} (h : Anc ops i j) (h' : Anc ops j k) : Anc ops i k

theorem maskOf_sound {ops : Array Oper} {acc : List Nat} {j : Nat} (hacc : ∀ k i, (acc.getD k 0).testBit i = true → Anc ops i k) : ∀ (es : List Edge) (s : Nat),
    (∀ e ∈ es, Region.binds .any e = true → Anc ops e.on j) → (∀ i, s.testBit i = true → Anc ops i j) →
    ∀ i, (es.foldl (fun s e => if Region.binds .any e then s ||| (2 ^ e.on) ||| acc.getD e.on 0 else s) s).testBit i = true → Anc ops i j
  | [], s, _, hs, i, h => hs i h
  | e :: es, s, he, hs, i, h => by
    simp only [List.foldl_cons] at h
    refine maskOf_sound hacc es _ (fun e' h' => he e' (List.mem_cons_of_mem _ h')) (fun i' hi' => ?_) i h
    by_cases hb : Region.binds .any e = true
    · rw [if_pos hb] at hi'
      simp only [Nat.testBit_or, Bool.or_eq_true] at hi'
      have h0 := he e List.mem_cons_self hb
      rcases hi' with (h1 | h1) | h1
      · exact hs i' h1
      · rw [Nat.testBit_two_pow] at h1
        have : e.on = i' := by simpa using h1
        rw [← this]; exact h0
      · exact (hacc _ _ h1).trans h0
    · rw [if_neg hb] at hi'; exact hs i' hi'
theorem masks_sound {ops : Array Oper} : ∀ (l : List Oper) (acc : List Nat), (∀ k, l[k]? = ops[acc.length + k]?) → (∀ k i, (acc.getD k 0).testBit i = true → Anc ops i k) →
    ∀ k i, ((masks l acc).getD k 0).testBit i = true → Anc ops i k
  | [], acc, _, h, k, i, hk => h k i hk
  | o :: l, acc, hl, h, k, i, hk => by
    simp only [masks] at hk
    have h0 : ops[acc.length]? = some o := by simpa using (hl 0).symm
    refine masks_sound l (acc ++ [maskOf acc o.after.toList]) (fun k => by have := hl (k + 1); simpa [Nat.add_assoc, Nat.add_comm 1] using this) (fun k' i' h' => ?_) k i hk
    rw [List.getD_eq_getElem?_getD, List.getElem?_append] at h'
    split at h'
    · exact h k' i' (by rw [List.getD_eq_getElem?_getD]; exact h')
    · rename_i hge
      by_cases he : k' = acc.length
      · subst he
        simp at h'
        exact maskOf_sound h o.after.toList 0 (fun e he hb => .edge h0 (by simpa using he) hb) (fun i h => by simp at h) i' h'
      · rw [List.getElem?_singleton, if_neg (by omega)] at h'
        simp at h'

structure Order (P : Program) (ops : Array Oper) : Prop where
  less : ∀ {j : Nat} {o : Oper} {e : Edge}, ops[j]? = some o → e ∈ o.after → Region.binds .any e = true → e.on < j
  uniq : ∀ {i j : Nat} {oi oj : Oper} {d : Tmp}, ops[i]? = some oi → ops[j]? = some oj → i ≠ j → oi.dst = some d → oj.dst ≠ some d
  slot : ∀ {i j : Nat} {oi oj : Oper} {d : Tmp}, ops[i]? = some oi → ops[j]? = some oj → i ≠ j → oi.dst = some d → d ∈ oj.looksAt ops → Anc ops i j ∨ Anc ops j i
  effs : ∀ {i j : Nat} {oi oj : Oper}, ops[i]? = some oi → ops[j]? = some oj → i ≠ j → 2 ≤ opKind P oi → 2 ≤ opKind P oj → Anc ops i j ∨ Anc ops j i
  wr : ∀ {i j : Nat} {oi oj : Oper}, ops[i]? = some oi → ops[j]? = some oj → i ≠ j → opKind P oi = 3 → opKind P oj = 1 → Anc ops i j ∨ Anc ops j i
  fl : floaty P ops = false → ∀ {i j : Nat} {oi oj : Oper}, ops[i]? = some oi → ops[j]? = some oj → opKind P oi = 4 → opKind P oj = 1 → Anc ops i j ∨ Anc ops j i

theorem zipIdx_mem {ops : Array Oper} {j : Nat} {o : Oper} (h : ops[j]? = some o) : (o, j) ∈ ops.toList.zipIdx := by
  rw [List.mem_zipIdx_iff_getElem?]; simpa using h
theorem order_of {P : Program} {ops : Array Oper} (h : orderOk P ops = true) : Order P ops := by
  have hm := masks_sound (ops := ops) ops.toList [] (by simp) (by simp)
  have ord : ∀ i j, ordB (masks ops.toList []) i j = true → Anc ops i j ∨ Anc ops j i := fun i j h => by
    simp only [ordB, Bool.or_eq_true] at h
    exact h.imp (hm _ _) (hm _ _)
  simp only [orderOk, List.all_eq_true, Bool.and_eq_true] at h
  have pr : ∀ {i j : Nat} {oi oj : Oper}, ops[i]? = some oi → ops[j]? = some oj → i ≠ j → pairOk P ops (masks ops.toList []) i j oi oj = true := fun hi hj hne => by
    have := (h _ (zipIdx_mem hj)).2 _ (zipIdx_mem hi)
    simp only [Bool.or_eq_true, beq_iff_eq] at this
    exact this.resolve_left hne
  refine ⟨fun hj he hb => ?_, fun hi hj hne hd => ?_, fun {i j _ _ _} hi hj hne hd hl => ?_, fun {i j _ _} hi hj hne k1 k2 => ?_, fun {i j _ _} hi hj hne k1 k2 => ?_, fun hf i j oi oj hi hj k1 k2 => ?_⟩
  · have := (h _ (zipIdx_mem hj)).1 _ (by simpa using he)
    simpa [hb] using this
  · have := pr hi hj hne
    simp only [pairOk, hd, Bool.and_eq_true, bne_iff_ne] at this
    exact this.1.1.1
  · have := pr hi hj hne
    simp only [pairOk, hd, Bool.and_eq_true, Bool.or_eq_true, Bool.not_eq_true', List.contains_iff_mem] at this
    rcases this.1.1.2 with h1 | h1
    · exact absurd hl (by simpa using h1)
    · exact ord _ _ h1
  · have := pr hi hj hne
    simp only [pairOk, Bool.and_eq_true, Bool.or_eq_true] at this
    rcases this.1.2 with h1 | h1
    · simp [k1, k2] at h1
    · exact ord _ _ h1
  · have := pr hi hj hne
    simp only [pairOk, Bool.and_eq_true, Bool.or_eq_true] at this
    rcases this.2 with h1 | h1
    · simp [k1, k2] at h1
    · exact ord _ _ h1
  · simp only [floaty, List.any_eq_false] at hf
    have := hf _ (zipIdx_mem hj)
    simp only [k2, beq_self_eq_true, Bool.true_and, Bool.not_eq_true, List.any_eq_false] at this
    have := this _ (zipIdx_mem hi)
    simp only [k1, beq_self_eq_true, Bool.true_and, Bool.not_eq_true', Bool.not_eq_false] at this
    exact ord _ _ (by simpa using this)
theorem Order.lt {P : Program} {ops : Array Oper} (h : Order P ops) {i j : Nat} (ha : Anc ops i j) : i < j := by
  induction ha with
  | edge ho he hb => exact h.less ho he hb
  | trans _ _ ih1 ih2 => omega
end Go.Proofs.Yteadbbimikcmgaa
