/- Operations one behind the other, in the text's order or in whatever order a region draws: the real machine does what the abstract one does. Conditions: none. -/
import Derived.Test.YteadbbimikcmgaaAbsEx
set_option linter.unusedSimpArgs false
set_option linter.unusedVariables false
namespace Go.Proofs.Yteadbbimikcmgaa
open Go

/-- variables keep their blocks -/
def Glob (G : Nat) (ρ : Nat → Option Loc) : Prop := ∀ g, g < G → At ρ g g
/-- the frame's slots -/
def ER (ρ : Nat → Option Loc) (e : Env) (a : Act) : Prop := ∀ t, VR ρ (e t) (a.tmps.getD t undef)
def operandOk (G : Nat) : Operand → Bool
  | .const v => flat v
  | .global g => decide (g < G)
  | _ => true
def operOk (n G : Nat) (o : Oper) : Bool := (match o.dst with | some d => decide (d < n) | none => true) && o.op.operands.toList.all (operandOk G)
def opsOk (n G : Nat) (ops : Array Oper) : Bool := ops.toList.all (operOk n G)

theorem eval_VR {ρ : Nat → Option Loc} {G : Nat} {e : Env} {a : Act} (hG : Glob G ρ) {x : Operand} (hx : operandOk G x = true) (h : ∀ t, x = .tmp t → VR ρ (e t) (a.tmps.getD t undef)) : VR ρ (e.eval x) (a.eval x) := by
  cases x with
  | tmp t => exact h t rfl
  | const v => exact flat_VR ρ hx
  | global g => exact .ptr _ _ (hG g (by simpa [operandOk] using hx)) rfl rfl
  | func f => exact .func _ _ _ _ _ rfl rfl (fun i v v' h => by simp at h) (fun i v v' h => by simp at h)
theorem opsOk_mem {n G : Nat} {ops : Array Oper} (h : opsOk n G ops = true) {i : Nat} {o : Oper} (hi : ops[i]? = some o) : (∀ d, o.dst = some d → d < n) ∧ ∀ x ∈ o.op.operands, operandOk G x = true := by
  have := List.all_eq_true.1 h o (by simpa using Array.mem_of_getElem? hi)
  simp only [operOk, Bool.and_eq_true] at this
  refine ⟨fun d hd => by have h1 := this.1; rw [hd] at h1; simpa using h1, fun x hx => List.all_eq_true.1 this.2 x (by simpa using hx)⟩

theorem put_ER {ρ : Nat → Option Loc} {e : Env} {a : Act} {v v' : Value} {dst : Option Tmp} (h : ER ρ e a) (hv : VR ρ v v') (hd : ∀ d, dst = some d → d < a.tmps.size) : ER ρ (e.put dst v) (a.put dst v') := by
  intro t
  cases dst with
  | none => exact h t
  | some d =>
    have hdl := hd d rfl
    simp only [Env.put, Act.put]
    by_cases e : t = d
    · subst e
      rw [if_pos rfl]
      simp [hdl]
      exact hv
    · rw [if_neg e]
      have := h t
      simp only [Array.getD_eq_getD_getElem?] at this ⊢
      rw [Array.getElem?_setIfInBounds_ne (fun h => e h.symm)]
      exact this
theorem put_size (a : Act) (dst : Option Tmp) (v : Value) : (a.put dst v).tmps.size = a.tmps.size := by cases dst <;> simp [Act.put]
theorem put_defers' (a : Act) (dst : Option Tmp) (v : Value) : (a.put dst v).defers = a.defers := by cases dst <;> rfl

section
variable {P : Program} {G : Nat}

/-- an operation of the real machine does what the abstract one says -/
def OpSim (P : Program) (G : Nat) (o : Oper) (e : Env) (S : Mem) (v : Value) (S1 : Mem) : Prop :=
  ∀ (ρ : Nat → Option Loc) (a : Act) (w : World) (K : Act → World → Prop) (Q : Exit → Act → World → Prop), (∀ x ∈ o.op.operands, VR ρ (e.eval x) (a.eval x)) → SR ρ S w → Glob G ρ →
    (∀ v' ρ' w', VR ρ' v v' → SR ρ' S1 w' → Stp ρ S w ρ' S1 w' → K (a.put o.dst v') w') → o.wp P a w K Q

theorem wp_value {o : Oper} {a : Act} {w w' : World} {v : Value} {K : Act → World → Prop} {Q : Exit → Act → World → Prop} (h : (execOp a.eval o).run P w = .ok (.value v) w') (hK : K (a.put o.dst v) w') : o.wp P a w K Q := by
  unfold Oper.wp; rw [h]; exact hK
theorem wp_skip' {o : Oper} {a : Act} {w w' : World} {K : Act → World → Prop} {Q : Exit → Act → World → Prop} (h : (execOp a.eval o).run P w = .ok .skip w') (hK : K (a.put o.dst undef) w') : o.wp P a w K Q := by
  unfold Oper.wp; rw [h]; exact hK
theorem sim_pure {o : Oper} {e : Env} {v : Value} (h : apure P o e.eval = some v) (S : Mem) : OpSim P G o e S v S := fun ρ a w K Q hv hS hG hK => by
  obtain ⟨v', h1, h2⟩ := apure_sound h hv
  exact wp_value (h2 w) (hK v' ρ w h1 hS (Stp.refl _ _ _))
theorem sim_load {o : Oper} {e : Env} {v : Value} {S : Mem} (h : aload P o e.eval S = some v) : OpSim P G o e S v S := fun ρ a w K Q hv hS hG hK => by
  obtain ⟨v', h1, h2⟩ := aload_sound hS h hv
  exact wp_value h2 (hK v' ρ w h1 hS (Stp.refl _ _ _))
theorem sim_eff {o : Oper} {e : Env} {v : Value} {S S1 : Mem} (h : aeff P o e.eval S = some (v, S1)) : OpSim P G o e S v S1 := fun ρ a w K Q hv hS hG hK => by
  obtain ⟨v', ρ', w', h1, h2, h3, h4 | ⟨h4, h5⟩⟩ := aeff_sound hS h hv
  · exact wp_value h4 (hK v' ρ' w' h1 h2 h3)
  · exact wp_skip' h4 (h5 ▸ hK v' ρ' w' h1 h2 h3)

/-- a run of operations in the text's order -/
inductive Tr (P : Program) (G : Nat) (fl : Bool) (ops : Array Oper) : List Nat → Env → Mem → Env → Mem → Prop
  | nil (e S) : Tr P G fl ops [] e S e S
  | skip {i is o e S e' S'} (ho : ops[i]? = some o) (hw : awanted ops o e = false) (h : Tr P G fl ops is (e.put o.dst undef) S e' S') : Tr P G fl ops (i :: is) e S e' S'
  | pure {i is o e S v e' S'} (ho : ops[i]? = some o) (hw : awanted ops o e = true) (hp : apure P o e.eval = some v) (h : Tr P G fl ops is (e.put o.dst v) S e' S') : Tr P G fl ops (i :: is) e S e' S'
  | load {i is o e S v e' S'} (ho : ops[i]? = some o) (hw : awanted ops o e = true) (hp : aload P o e.eval S = some v) (h : Tr P G fl ops is (e.put o.dst v) S e' S') : Tr P G fl ops (i :: is) e S e' S'
  | eff {i is o e S v S1 e' S'} (ho : ops[i]? = some o) (hw : awanted ops o e = true) (hp : OpSim P G o e S v S1) (hk : 2 ≤ opKind P o) (hc : opKind P o = 2 ∨ (opKind P o = 4 ∧ fl = true) → Cons S S1)
      (h : Tr P G fl ops is (e.put o.dst v) S1 e' S') : Tr P G fl ops (i :: is) e S e' S'

/-- the guard in the real frame -/
theorem wanted_eq {ρ : Nat → Option Loc} {ops : Array Oper} {o : Oper} {e : Env} {a : Act} {n : Nat} (hn : a.tmps.size = n) (hok : opsOk n G ops = true)
    (h : ∀ t, t ∈ o.looksAt ops → VR ρ (e t) (a.tmps.getD t undef)) : Region.wanted o (yielded ops a.tmps) = awanted ops o e := by
  unfold Region.wanted awanted
  cases hg : o.guard with
  | none => rfl
  | some q =>
    obtain ⟨j, want⟩ := q
    simp only [yielded]
    cases hj : (ops[j]?).bind (·.dst) with
    | none => simp
    | some t =>
      rw [Option.bind_eq_some_iff] at hj
      obtain ⟨oj, hoj, hd⟩ := hj
      have ht : t < a.tmps.size := by rw [hn]; exact (opsOk_mem hok hoj).1 t hd
      have hm : t ∈ o.looksAt ops := by simp [Oper.looksAt, hg, hoj, hd]
      have hr := h t hm
      have hget : a.tmps[t]? = some (a.tmps.getD t undef) := by simp [ht]
      simp only [Option.bind_some, hget]
      generalize a.tmps.getD t undef = u at hr
      generalize e t = z at hr
      cases hr <;> first | rfl | (cases want <;> rename_i b <;> cases b <;> rfl)

/-- whoever stands behind the operations, reached from a related frame and memory -/
def Reach (G : Nat) (n : Nat) (ds : List Deferred) (ρ0 : Nat → Option Loc) (S0 : Mem) (w0 : World) (e' : Env) (S' : Mem) (K : Act → World → Prop) : Prop :=
  ∀ ρ' a' w', ER ρ' e' a' → SR ρ' S' w' → Stp ρ0 S0 w0 ρ' S' w' → a'.tmps.size = n → a'.defers = ds → K a' w'

theorem Tr.run {fl : Bool} {ops : Array Oper} {n : Nat} (hok : opsOk n G ops = true) {is : List Nat} {e e' : Env} {S S' : Mem} (h : Tr P G fl ops is e S e' S') {Q : Exit → Act → World → Prop} {ds : List Deferred}
    {ρ0 : Nat → Option Loc} {S0 : Mem} {w0 : World} (hK : Reach G n ds ρ0 S0 w0 e' S' (Q .normal)) : ∀ (ρ : Nat → Option Loc) (a : Act) (w : World), ER ρ e a → SR ρ S w → Glob G ρ → Stp ρ0 S0 w0 ρ S w → a.tmps.size = n → a.defers = ds → wpOps P ops Q is a w := by
  induction h with
  | nil e S => intro ρ a w hE hS hG hst hn hd; exact hK ρ a w hE hS hst hn hd
  | skip ho hw _ ih =>
    intro ρ a w hE hS hG hst hn hd
    simp only [wpOps, ho]
    rw [wanted_eq hn hok (fun t _ => hE t), hw]
    simp only [Bool.false_eq_true, if_false]
    exact ih hK ρ _ w (put_ER hE (flat_VR ρ undef_flat) (fun d h => by rw [hn]; exact (opsOk_mem hok ho).1 d h)) hS hG hst (by rw [put_size]; exact hn) (by rw [put_defers']; exact hd)
  | pure ho hw hp _ ih =>
    intro ρ a w hE hS hG hst hn hd
    simp only [wpOps, ho]
    rw [wanted_eq hn hok (fun t _ => hE t), hw]
    simp only [if_true]
    refine .inl (sim_pure (G := G) hp _ ρ a w _ _ (fun x hx => eval_VR hG ((opsOk_mem hok ho).2 x hx) (fun t _ => hE t)) hS hG (fun v' ρ' w' h1 h2 h3 => ?_))
    exact ih hK ρ' _ w' (put_ER (fun t => (hE t).mono h3.ext) h1 (fun d h => by rw [hn]; exact (opsOk_mem hok ho).1 d h)) h2 (fun g hg => (hG g hg).mono h3.ext) (hst.trans h3) (by rw [put_size]; exact hn) (by rw [put_defers']; exact hd)
  | load ho hw hp _ ih =>
    intro ρ a w hE hS hG hst hn hd
    simp only [wpOps, ho]
    rw [wanted_eq hn hok (fun t _ => hE t), hw]
    simp only [if_true]
    refine .inl (sim_load (G := G) hp ρ a w _ _ (fun x hx => eval_VR hG ((opsOk_mem hok ho).2 x hx) (fun t _ => hE t)) hS hG (fun v' ρ' w' h1 h2 h3 => ?_))
    exact ih hK ρ' _ w' (put_ER (fun t => (hE t).mono h3.ext) h1 (fun d h => by rw [hn]; exact (opsOk_mem hok ho).1 d h)) h2 (fun g hg => (hG g hg).mono h3.ext) (hst.trans h3) (by rw [put_size]; exact hn) (by rw [put_defers']; exact hd)
  | eff ho hw hp _ _ _ ih =>
    intro ρ a w hE hS hG hst hn hd
    simp only [wpOps, ho]
    rw [wanted_eq hn hok (fun t _ => hE t), hw]
    simp only [if_true]
    refine .inl (hp ρ a w _ _ (fun x hx => eval_VR hG ((opsOk_mem hok ho).2 x hx) (fun t _ => hE t)) hS hG (fun v' ρ' w' h1 h2 h3 => ?_))
    exact ih hK ρ' _ w' (put_ER (fun t => (hE t).mono h3.ext) h1 (fun d h => by rw [hn]; exact (opsOk_mem hok ho).1 d h)) h2 (fun g hg => (hG g hg).mono h3.ext) (hst.trans h3) (by rw [put_size]; exact hn) (by rw [put_defers']; exact hd)

/-! ### whatever order is drawn -/
def Fact (P : Program) (G : Nat) (fl : Bool) (ops : Array Oper) (E : Nat → Env) (M : Nat → Mem) (V : Nat → Value) (j : Nat) (o : Oper) : Prop :=
  E (j + 1) = (E j).put o.dst (V j) ∧ ((awanted ops o (E j) = false ∧ V j = undef ∧ M (j + 1) = M j) ∨ (awanted ops o (E j) = true ∧
    ((apure P o (E j).eval = some (V j) ∧ M (j + 1) = M j) ∨ (aload P o (E j).eval (M j) = some (V j) ∧ M (j + 1) = M j) ∨
     (OpSim P G o (E j) (M j) (V j) (M (j + 1)) ∧ 2 ≤ opKind P o ∧ (opKind P o = 2 ∨ (opKind P o = 4 ∧ fl = true) → Cons (M j) (M (j + 1)))))))

theorem Tr.facts {fl : Bool} {ops : Array Oper} {is : List Nat} {e e' : Env} {S S' : Mem} (h : Tr P G fl ops is e S e' S') : ∀ k m, is = List.range' k m → ∃ (E : Nat → Env) (M : Nat → Mem) (V : Nat → Value),
    E k = e ∧ M k = S ∧ E (k + m) = e' ∧ M (k + m) = S' ∧ ∀ j, k ≤ j → j < k + m → ∃ o, ops[j]? = some o ∧ Fact P G fl ops E M V j o := by
  have step : ∀ {i : Nat} {is : List Nat} {e e1 e' : Env} {S S1 S' : Mem} {v : Value} {o : Oper}, ops[i]? = some o → (∀ (E : Nat → Env) (M : Nat → Mem) (V : Nat → Value), E i = e → M i = S → E (i + 1) = e1 → M (i + 1) = S1 → V i = v → Fact P G fl ops E M V i o) →
      (∀ k m, is = List.range' k m → ∃ (E : Nat → Env) (M : Nat → Mem) (V : Nat → Value), E k = e1 ∧ M k = S1 ∧ E (k + m) = e' ∧ M (k + m) = S' ∧ ∀ j, k ≤ j → j < k + m → ∃ o, ops[j]? = some o ∧ Fact P G fl ops E M V j o) →
      ∀ k m, i :: is = List.range' k m → ∃ (E : Nat → Env) (M : Nat → Mem) (V : Nat → Value), E k = e ∧ M k = S ∧ E (k + m) = e' ∧ M (k + m) = S' ∧ ∀ j, k ≤ j → j < k + m → ∃ o, ops[j]? = some o ∧ Fact P G fl ops E M V j o := by
    intro i is e e1 e' S S1 S' v o ho hf ih k m hk
    cases m with
    | zero => simp at hk
    | succ m =>
      rw [List.range'_succ] at hk
      injection hk with hk1 hk2
      subst hk1
      obtain ⟨E, M, V, h1, h2, h3, h4, h5⟩ := ih (i + 1) m hk2
      have e0 : ∀ (α : Type) (f : Nat → α) (x : α), (fun j => if j = i then x else f j) i = x := fun α f x => if_pos rfl
      have e9 : ∀ (α : Type) (f : Nat → α) (x : α) (j : Nat), i < j → (fun j => if j = i then x else f j) j = f j := fun α f x j hj => if_neg (by omega)
      refine ⟨fun j => if j = i then e else E j, fun j => if j = i then S else M j, fun j => if j = i then v else V j, e0 _ _ _, e0 _ _ _, ?_, ?_, fun j hj1 hj2 => ?_⟩
      · rw [e9 _ _ _ _ (by omega)]; rw [← h3]; congr 1; omega
      · rw [e9 _ _ _ _ (by omega)]; rw [← h4]; congr 1; omega
      · by_cases hji : j = i
        · subst hji
          exact ⟨o, ho, hf _ _ _ (e0 _ _ _) (e0 _ _ _) ((e9 _ _ _ _ (by omega)).trans h1) ((e9 _ _ _ _ (by omega)).trans h2) (e0 _ _ _)⟩
        · obtain ⟨oj, hoj, hfj⟩ := h5 j (by omega) (by omega)
          refine ⟨oj, hoj, ?_⟩
          unfold Fact at hfj ⊢
          rw [e9 _ _ _ j (by omega), e9 _ _ _ j (by omega), e9 _ _ _ j (by omega), e9 _ _ _ (j + 1) (by omega), e9 _ _ _ (j + 1) (by omega)]
          exact hfj
  induction h with
  | nil e S =>
    intro k m hk
    cases m with
    | zero => exact ⟨fun _ => e, fun _ => S, fun _ => undef, rfl, rfl, rfl, rfl, fun j h1 h2 => by omega⟩
    | succ m => simp [List.range'_succ] at hk
  | skip ho hw _ ih => exact step ho (fun E M V h1 h2 h3 h4 h5 => ⟨by rw [h1, h3, h5], .inl ⟨by rw [h1]; exact hw, h5, by rw [h2, h4]⟩⟩) ih
  | pure ho hw hp _ ih => exact step ho (fun E M V h1 h2 h3 h4 h5 => ⟨by rw [h1, h3, h5], .inr ⟨by rw [h1]; exact hw, .inl ⟨by rw [h1, h5]; exact hp, by rw [h2, h4]⟩⟩⟩) ih
  | load ho hw hp _ ih => exact step ho (fun E M V h1 h2 h3 h4 h5 => ⟨by rw [h1, h3, h5], .inr ⟨by rw [h1]; exact hw, .inr (.inl ⟨by rw [h1, h2, h5]; exact hp, by rw [h2, h4]⟩)⟩⟩) ih
  | eff ho hw hp hk hc _ ih => exact step ho (fun E M V h1 h2 h3 h4 h5 => ⟨by rw [h1, h3, h5], .inr ⟨by rw [h1]; exact hw, .inr (.inr ⟨by rw [h1, h2, h4, h5]; exact hp, hk, by rw [h2, h4]; exact hc⟩)⟩⟩) ih
end
end Go.Proofs.Yteadbbimikcmgaa
