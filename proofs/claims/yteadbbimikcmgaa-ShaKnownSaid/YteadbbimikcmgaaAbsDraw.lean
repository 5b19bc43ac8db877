/- A region that draws its order: whatever order its edges allow, the real machine does what the abstract one does in the text's order. Conditions: the Bool 'orderOk' over the region. -/
import Derived.Test.YteadbbimikcmgaaAbsRun
set_option linter.unusedSimpArgs false
set_option linter.unusedVariables false
namespace Go.Proofs.Yteadbbimikcmgaa
open Go

theorem count_set_true : ∀ (l : List Bool) (i : Nat), l[i]? = some false → (l.set i true).count false + 1 = l.count false
  | [], i, h => by simp at h
  | b :: l, 0, h => by simp at h; subst h; simp
  | b :: l, i + 1, h => by
    have := count_set_true l i (by simpa using h)
    simp only [List.set_cons_succ, List.count_cons]
    omega

section
variable {P : Program} {G : Nat}

/-- the address that a load reads -/
theorem aload_agree {o : Oper} {ev : Operand → Value} {S : Mem} {v : Value} (h : aload P o ev S = some v) :
    opKind P o = 1 ∧ ∃ x ∈ o.op.operands, ∃ b, (∀ ρ u, VR ρ (ev x) u → ∃ c, At ρ b c) ∧ b < S.length ∧ ∀ S2 : Mem, S2[b]? = S[b]? → aload P o ev S2 = some v := by
  have cells : ∀ (a : Addr) (n : Nat) (l : List Value), S.cellsAt a n = some l → a.block < S.length ∧ ∀ S2 : Mem, S2[a.block]? = S[a.block]? → S2.cellsAt a n = S.cellsAt a n := by
    intro a n l hl
    refine ⟨?_, fun S2 h2 => by simp only [Mem.cellsAt, Mem.row?, h2]⟩
    unfold Mem.cellsAt at hl
    split at hl
    · rename_i x hx; exact row_live_lt (Mem.row?_some hx).1
    · cases hl
  unfold aload at h
  split at h
  · rename_i t x ho
    refine ⟨by simp [opKind, ho], x, by simp [ho, Op.operands], ?_⟩
    unfold aloadAt at h
    split at h
    · rename_i a d i hx hd hi
      refine ⟨a.block, fun ρ u hu => ?_, ?_⟩
      · rw [hx] at hu
        obtain ⟨a', _, h1, _⟩ := hu.ptrInv
        exact ⟨_, h1⟩
      · split at h
        · rename_i hag
          rw [Option.map_eq_some_iff] at h
          obtain ⟨l, hl, rfl⟩ := h
          obtain ⟨c1, c2⟩ := cells a _ l hl
          exact ⟨c1, fun S2 h2 => by simp only [aload, ho, aloadAt, hx, hd, hi, hag, if_true, c2 S2 h2, hl, Option.map_some]⟩
        · rename_i hag
          have h' := h
          rw [Option.bind_eq_some_iff] at h
          obtain ⟨l, hl, h⟩ := h
          obtain ⟨c1, c2⟩ := cells a _ l hl
          exact ⟨c1, fun S2 h2 => by simp only [aload, ho, aloadAt, hx, hd, hi, hag, Bool.false_eq_true, if_false, c2 S2 h2, h']⟩
    · cases h
  · rename_i src dst x ho
    split at h
    · rename_i a n c e hx hsr hds
      split at h
      · rename_i hby
        have h' := h
        rw [Option.map_eq_some_iff] at h
        obtain ⟨bs, hbs, rfl⟩ := h
        rw [Option.bind_eq_some_iff] at hbs
        obtain ⟨l, hl, hbs⟩ := hbs
        obtain ⟨c1, c2⟩ := cells a _ l hl
        refine ⟨by simp [opKind, ho, hsr], x, by simp [ho, Op.operands], a.block, fun ρ u hu => ?_, c1, fun S2 h2 => ?_⟩
        · rw [hx] at hu
          obtain ⟨a', c', rfl, h1, _⟩ := hu.slInv
          obtain ⟨z, rfl, hz, _⟩ := h1 a rfl
          exact ⟨_, hz⟩
        · simp only [aload, ho, hx, hsr, hds, hby, if_true, c2 S2 h2, h']
      · cases h
    · cases h
  · cases h

structure Inv (P : Program) (G : Nat) (ops : Array Oper) (e0 : Env) (M : Nat → Mem) (V : Nat → Value) (ρ0 : Nat → Option Loc) (S0 : Mem) (w0 : World) (n : Nat) (ds : List Deferred)
    (ρ : Nat → Option Loc) (m : Nat) (listed : Array Bool) (a : Act) (w : World) : Prop where
  closed : ∀ (j : Nat) (o : Oper) (x : Edge), ops[j]? = some o → listed.getD j false = true → x ∈ o.after → Region.binds .any x = true → listed.getD x.on false = true
  hit : ∀ (k : Nat) (o : Oper) (t : Tmp), ops[k]? = some o → listed.getD k false = true → o.dst = some t → VR ρ (V k) (a.tmps.getD t undef)
  miss : ∀ t, (∀ (k : Nat) (o : Oper), ops[k]? = some o → listed.getD k false = true → o.dst ≠ some t) → VR ρ (e0 t) (a.tmps.getD t undef)
  hm : m ≤ ops.size
  eff : ∀ (k : Nat) (o : Oper), ops[k]? = some o → 2 ≤ opKind P o → (listed.getD k false = true ↔ k < m)
  sr : SR ρ (M m) w
  gl : Glob G ρ
  stp : Stp ρ0 S0 w0 ρ (M m) w
  size : a.tmps.size = n
  def_ : a.defers = ds
  lsize : listed.size = ops.size

theorem Inv.anc {ops : Array Oper} {e0 : Env} {M : Nat → Mem} {V : Nat → Value} {ρ0 : Nat → Option Loc} {S0 : Mem} {w0 : World} {n : Nat} {ds : List Deferred} {ρ : Nat → Option Loc} {m : Nat} {listed : Array Bool} {a : Act} {w : World}
    (h : Inv P G ops e0 M V ρ0 S0 w0 n ds ρ m listed a w) {i j : Nat} (ha : Anc ops i j) : listed.getD j false = true → listed.getD i false = true := by
  induction ha with
  | edge ho he hb => exact fun hj => h.closed _ _ _ ho hj he hb
  | trans _ _ ih1 ih2 => exact fun hk => ih1 (ih2 hk)
theorem Inv.ancReady {ops : Array Oper} {e0 : Env} {M : Nat → Mem} {V : Nat → Value} {ρ0 : Nat → Option Loc} {S0 : Mem} {w0 : World} {n : Nat} {ds : List Deferred} {ρ : Nat → Option Loc} {m : Nat} {listed : Array Bool} {a : Act} {w : World}
    (h : Inv P G ops e0 M V ρ0 S0 w0 n ds ρ m listed a w) {i j : Nat} {o : Oper} (ho : ops[j]? = some o) (hr : ∀ x ∈ o.after, Region.binds .any x = true → listed.getD x.on false = true) (ha : Anc ops i j) : listed.getD i false = true := by
  induction ha with
  | edge ho' he hb => rw [ho] at ho'; cases ho'; exact hr _ he hb
  | trans h1 h2 ih1 ih2 => exact h.anc h1 (ih2 ho)

set_option maxHeartbeats 1000000 in
theorem Tr.drawn {fl : Bool} {ops : Array Oper} {n : Nat} (hord : Order P ops) (hfl : fl = false → floaty P ops = false) (hok : opsOk n G ops = true) {e e' : Env} {S S' : Mem}
    (h : Tr P G fl ops (List.range ops.size) e S e' S') {Q : Exit → Act → World → Prop} {ds : List Deferred} {ρ0 : Nat → Option Loc} {S0 : Mem} {w0 : World} (hK : Reach G n ds ρ0 S0 w0 e' S' (Q .normal))
    {ρ : Nat → Option Loc} {a : Act} {w : World} (hE : ER ρ e a) (hS : SR ρ S w) (hG : Glob G ρ) (hst : Stp ρ0 S0 w0 ρ S w) (hn : a.tmps.size = n) (hd : a.defers = ds) :
    wpAny P .any ops Q ops.size (Array.replicate ops.size false) a w := by
  obtain ⟨E, M, V, hE0, hM0, hEN, hMN, hfact⟩ := h.facts 0 ops.size (List.range_eq_range')
  rw [Nat.zero_add] at hEN hMN
  have fact : ∀ {j : Nat} {o : Oper}, ops[j]? = some o → Fact P G fl ops E M V j o := fun {j o} hj => by
    obtain ⟨o', ho', hf⟩ := hfact j (Nat.zero_le _) (by have := (Array.getElem?_eq_some_iff.1 hj).1; omega)
    rw [hj] at ho'; cases ho'; exact hf
  have lt : ∀ {j : Nat} {o : Oper}, ops[j]? = some o → j < ops.size := fun hj => (Array.getElem?_eq_some_iff.1 hj).1
  have getO : ∀ {j : Nat}, j < ops.size → ∃ o, ops[j]? = some o := fun hj => ⟨_, Array.getElem?_eq_getElem hj⟩
  -- memory stands still where nothing acts
  have mconst1 : ∀ {j : Nat} {o : Oper}, ops[j]? = some o → ¬ 2 ≤ opKind P o → M (j + 1) = M j := fun hj hk => by
    rcases (fact hj).2 with ⟨_, _, h⟩ | ⟨_, ⟨_, h⟩ | ⟨_, h⟩ | ⟨_, h, _⟩⟩
    · exact h
    · exact h
    · exact h
    · exact absurd h hk
  have mconst : ∀ (d a : Nat), a + d ≤ ops.size → (∀ k o, a ≤ k → k < a + d → ops[k]? = some o → ¬ 2 ≤ opKind P o) → M (a + d) = M a := by
    intro d
    induction d with
    | zero => intro a _ _; rfl
    | succ d ih =>
      intro a ha hk
      obtain ⟨o, ho⟩ := getO (j := a + d) (by omega)
      have := mconst1 ho (hk _ _ (by omega) (by omega) ho)
      rw [← Nat.add_assoc, this]
      exact ih a (by omega) (fun k o h1 h2 => hk k o h1 (by omega))
  have mcons : ∀ (d a : Nat), a + d ≤ ops.size → (∀ k o, a ≤ k → k < a + d → ops[k]? = some o → 2 ≤ opKind P o → opKind P o = 2 ∨ (opKind P o = 4 ∧ fl = true)) → Cons (M a) (M (a + d)) := by
    intro d
    induction d with
    | zero => intro a _ _; exact Cons.refl _
    | succ d ih =>
      intro a ha hk
      obtain ⟨o, ho⟩ := getO (j := a + d) (by omega)
      refine (ih a (by omega) (fun k o h1 h2 => hk k o h1 (by omega))).trans ?_
      rw [← Nat.add_assoc]
      by_cases h2 : 2 ≤ opKind P o
      · rcases (fact ho).2 with ⟨_, _, h⟩ | ⟨_, ⟨_, h⟩ | ⟨_, h⟩ | ⟨_, _, h⟩⟩
        · rw [h]; exact Cons.refl _
        · rw [h]; exact Cons.refl _
        · rw [h]; exact Cons.refl _
        · exact h (hk _ _ (by omega) (by omega) ho h2)
      · rw [mconst1 ho h2]; exact Cons.refl _
  -- what a slot holds
  have slotMiss : ∀ (j t : Nat), j ≤ ops.size → (∀ (k : Nat) (o : Oper), k < j → ops[k]? = some o → o.dst ≠ some t) → E j t = e t := by
    intro j
    induction j with
    | zero => intro t _ _; rw [hE0]
    | succ j ih =>
      intro t hj hk
      obtain ⟨o, ho⟩ := getO (j := j) (by omega)
      rw [(fact ho).1]
      have hne := hk j o (by omega) ho
      have : (E j).put o.dst (V j) t = E j t := by
        unfold Env.put
        split
        · rename_i d hd'
          rw [if_neg (fun h => hne (by rw [hd', h]))]
        · rfl
      rw [this]
      exact ih t (by omega) (fun k o h1 => hk k o (by omega))
  have slotHit : ∀ (j k t : Nat) (o : Oper), j ≤ ops.size → k < j → ops[k]? = some o → o.dst = some t → E j t = V k := by
    intro j
    induction j with
    | zero => intro k t o _ hk; omega
    | succ j ih =>
      intro k t o hj hk ho hdst
      obtain ⟨oj, hoj⟩ := getO (j := j) (by omega)
      rw [(fact hoj).1]
      by_cases hkj : k = j
      · subst hkj
        rw [ho] at hoj; cases hoj
        simp [Env.put, hdst]
      · have hne := hord.uniq ho hoj hkj hdst
        have : (E j).put oj.dst (V j) t = E j t := by
          unfold Env.put
          split
          · rename_i d hd'
            rw [if_neg (fun h => hne (by rw [hd', h]))]
          · rfl
        rw [this]
        exact ih k t o (by omega) (by omega) ho hdst
  -- the run
  have main : ∀ (fuel : Nat) (listed : Array Bool) (ρ : Nat → Option Loc) (m : Nat) (a : Act) (w : World), listed.toList.count false = fuel → Inv P G ops e M V ρ0 S0 w0 n ds ρ m listed a w → wpAny P .any ops Q fuel listed a w := by
    intro fuel
    induction fuel with
    | zero =>
      intro listed ρ m a w hcount I
      have all : ∀ k, k < ops.size → listed.getD k false = true := fun k hk => by
        rw [List.count_eq_zero] at hcount
        have hk' : k < listed.size := by rw [I.lsize]; exact hk
        have hmem : listed[k] ∈ listed.toList := by simp
        simp only [Array.getD_eq_getD_getElem?, Array.getElem?_eq_getElem hk', Option.getD_some]
        cases hb : listed[k] with
        | true => rfl
        | false => rw [hb] at hmem; exact absurd hmem hcount
      have hMm : M m = S' := by
        have := mconst (ops.size - m) m (by have := I.hm; omega) (fun k o h1 h2 ho hk => by
          have := (I.eff k o ho hk).1 (all k (lt ho)); omega)
        rw [show m + (ops.size - m) = ops.size from by have := I.hm; omega] at this
        rw [← this, hMN]
      refine ⟨?_, hK ρ a w ?_ (hMm ▸ I.sr) (hMm ▸ I.stp) I.size I.def_⟩
      · cases hr : Region.ready .any ops listed with
        | nil => rfl
        | cons i r =>
          have hi : i ∈ Region.ready .any ops listed := by rw [hr]; simp
          obtain ⟨h0, o, ho, _⟩ := mem_ready.1 hi
          have := all i (lt ho)
          have hi' : i < listed.size := by rw [I.lsize]; exact lt ho
          simp only [Array.getD_eq_getD_getElem?, Array.getElem?_eq_getElem hi', Option.getD_some] at h0 this
          rw [h0] at this; cases this
      · intro t
        rw [← hEN]
        by_cases hex : ∃ (k : Nat) (o : Oper), ops[k]? = some o ∧ o.dst = some t
        · obtain ⟨k, o, ho, hdst⟩ := hex
          rw [slotHit _ k t o (Nat.le_refl _) (lt ho) ho hdst]
          exact I.hit k o t ho (all k (lt ho)) hdst
        · rw [slotMiss _ t (Nat.le_refl _) (fun k o _ ho hdst => hex ⟨k, o, ho, hdst⟩)]
          exact I.miss t (fun k o ho _ hdst => hex ⟨k, o, ho, hdst⟩)
    | succ fuel ih =>
      intro listed ρ m a w hcount I
      refine ⟨fun hnil => ?_, fun i hi => ?_⟩
      · -- somebody may always come up
        exfalso
        have hmem : false ∈ listed.toList := by
          have : 0 < listed.toList.count false := by omega
          exact List.count_pos_iff.1 this
        obtain ⟨k, hk⟩ := List.mem_iff_getElem?.1 hmem
        have hleast : ∀ k : Nat, listed[k]? = some false → ∃ i, i ∈ Region.ready .any ops listed := by
          intro k
          induction k using Nat.strongRecOn with
          | _ k ihk =>
            intro hk
            have hks : k < ops.size := by rw [← I.lsize]; exact (Array.getElem?_eq_some_iff.1 hk).1
            obtain ⟨o, ho⟩ := getO hks
            by_cases hall : ∀ x ∈ o.after, Region.binds .any x = true → listed.getD x.on false = true
            · exact ⟨k, mem_ready.2 ⟨by simp [hk], o, ho, hall⟩⟩
            · simp only [Classical.not_forall] at hall
              obtain ⟨x, hx, hb, hxl⟩ := hall
              have hlt := hord.less ho hx hb
              refine ihk x.on hlt ?_
              have hxs : x.on < listed.size := by rw [I.lsize]; omega
              rw [Array.getElem?_eq_getElem hxs]
              simp only [Array.getD_eq_getD_getElem?, Array.getElem?_eq_getElem hxs, Option.getD_some] at hxl
              simpa using hxl
        obtain ⟨i, hi⟩ := hleast k (by simpa using hk)
        rw [hnil] at hi; cases hi
      · obtain ⟨h0, o, ho, hall⟩ := mem_ready.1 hi
        have hisz := lt ho
        have hil : i < listed.size := by rw [I.lsize]; exact hisz
        have hif : listed[i]? = some false := by
          rw [Array.getElem?_eq_getElem hil]
          simp only [Array.getD_eq_getD_getElem?, Array.getElem?_eq_getElem hil, Option.getD_some] at h0
          rw [h0]
        have hin : ¬ listed.getD i false = true := by simp [hif]
        have hpre : ∀ {k : Nat}, Anc ops k i → listed.getD k false = true := fun ha => I.ancReady ho hall ha
        have hpost : ∀ {k : Nat}, Anc ops i k → ¬ listed.getD k false = true := fun ha hk => hin (I.anc ha hk)
        -- the slots that it looks at
        have hlook : ∀ t, t ∈ o.looksAt ops → VR ρ (E i t) (a.tmps.getD t undef) := by
          intro t ht
          by_cases hex : ∃ (k : Nat) (ok : Oper), ops[k]? = some ok ∧ ok.dst = some t ∧ k ≠ i
          · obtain ⟨k, ok, hok', hdst, hne⟩ := hex
            rcases hord.slot hok' ho hne hdst ht with hA | hA
            · rw [slotHit i k t ok (by omega) (hord.lt hA) hok' hdst]
              exact I.hit k ok t hok' (hpre hA) hdst
            · have hki := hord.lt hA
              rw [slotMiss i t (by omega) (fun q oq hq hoq hdq => hord.uniq hoq hok' (by omega) hdq hdst)]
              refine I.miss t (fun q oq hoq hql hdq => ?_)
              by_cases hqk : q = k
              · subst hqk; exact hpost hA hql
              · exact hord.uniq hoq hok' hqk hdq hdst
          · rw [slotMiss i t (by omega) (fun q oq hq hoq hdq => hex ⟨q, oq, hoq, hdq, by omega⟩)]
            refine I.miss t (fun q oq hoq hql hdq => hex ⟨q, oq, hoq, hdq, fun hqi => ?_⟩)
            subst hqi; exact hin hql
        have hopv : ∀ x ∈ o.op.operands, VR ρ ((E i).eval x) (a.eval x) := fun x hx => eval_VR I.gl ((opsOk_mem hok ho).2 x hx) (fun t ht => hlook t (by
          subst ht
          simp only [Oper.looksAt, List.mem_append, List.mem_filterMap]
          exact .inl ⟨.tmp t, by simpa using hx, rfl⟩))
        have hwant : Region.wanted o (yielded ops a.tmps) = awanted ops o (E i) := wanted_eq I.size hok hlook
        have hdstlt : ∀ d, o.dst = some d → d < a.tmps.size := fun d h => by rw [I.size]; exact (opsOk_mem hok ho).1 d h
        have hcnt : (listed.setIfInBounds i true).toList.count false = fuel := by
          have := count_set_true listed.toList i (by simpa using hif)
          rw [Array.toList_setIfInBounds]
          omega
        have hset : ∀ k, (listed.setIfInBounds i true).getD k false = true ↔ listed.getD k false = true ∨ k = i := fun k => by
          by_cases hki : i = k
          · subst hki; simp [hil]
          · rw [getD_set_ne false hki]; constructor
            · exact .inl
            · rintro (h | h)
              · exact h
              · exact absurd h.symm hki
        -- how it goes on, once it has been carried out
        have go : ∀ (v' : Value) (ρ' : Nat → Option Loc) (m' : Nat) (w' : World), VR ρ' (V i) v' → m' ≤ ops.size → SR ρ' (M m') w' → Sub ρ ρ' → Stp ρ0 S0 w0 ρ' (M m') w' →
            (∀ (k : Nat) (ok : Oper), ops[k]? = some ok → 2 ≤ opKind P ok → ((listed.getD k false = true ∨ k = i) ↔ k < m')) → wpAny P .any ops Q fuel (listed.setIfInBounds i true) (a.put o.dst v') w' := by
          intro v' ρ' m' w' hv hm' hs hsub hstp heff
          refine ih _ ρ' m' _ w' hcnt ⟨fun j oj x hoj hjl hx hb => ?_, fun k ok t hok' hkl hdst => ?_, fun t hmiss => ?_, hm', fun k ok hok' hk => ?_, hs, fun g hg => (I.gl g hg).mono hsub, hstp, by rw [put_size]; exact I.size, by rw [put_defers']; exact I.def_, by simpa using I.lsize⟩
          · rw [hset] at hjl ⊢
            rcases hjl with hjl | rfl
            · exact .inl (I.closed j oj x hoj hjl hx hb)
            · rw [ho] at hoj; cases hoj; exact .inl (hall x hx hb)
          · by_cases hki : k = i
            · subst hki
              rw [ho] at hok'; cases hok'
              have hdl := hdstlt t hdst
              simp [Act.put, hdst, hdl]
              exact hv
            · rw [hset] at hkl
              have := (I.hit k ok t hok' (hkl.resolve_right hki) hdst).mono hsub
              have hne := hord.uniq hok' ho hki hdst
              rw [show (a.put o.dst v').tmps.getD t undef = a.tmps.getD t undef from ?_]
              · exact this
              · cases hd' : o.dst with
                | none => rfl
                | some d =>
                  simp only [Act.put, Array.getD_eq_getD_getElem?]
                  rw [Array.getElem?_setIfInBounds_ne (fun h => hne (by rw [hd', h]))]
          · have h1 : o.dst ≠ some t := hmiss i o ho ((hset i).2 (.inr rfl))
            have := (I.miss t (fun k ok hok' hkl => hmiss k ok hok' ((hset k).2 (.inl hkl)))).mono hsub
            rw [show (a.put o.dst v').tmps.getD t undef = a.tmps.getD t undef from ?_]
            · exact this
            · cases hd' : o.dst with
              | none => rfl
              | some d =>
                simp only [Act.put, Array.getD_eq_getD_getElem?]
                rw [Array.getElem?_setIfInBounds_ne (fun h => h1 (by rw [hd', h]))]
          · rw [hset]; exact heff k ok hok' hk
        -- where it acts on memory: memory is the text's
        have hact : 2 ≤ opKind P o → M m = M i ∧ ∀ (k : Nat) (ok : Oper), ops[k]? = some ok → 2 ≤ opKind P ok → ((listed.getD k false = true ∨ k = i) ↔ k < i + 1) := by
          intro hk2
          have hmi : m ≤ i := by
            rcases Nat.lt_or_ge i m with h9 | h9
            · exact absurd ((I.eff i o ho hk2).2 h9) hin
            · exact h9
          refine ⟨?_, fun k ok hok' hk => ?_⟩
          · have := mconst (i - m) m (by omega) (fun k ok h1 h2 hok' hk => by
              rcases hord.effs hok' ho (by omega) hk hk2 with hA | hA
              · have := (I.eff k ok hok' hk).1 (hpre hA); omega
              · have := hord.lt hA; omega)
            rw [show m + (i - m) = i from by omega] at this
            exact this.symm
          · by_cases hki : k = i
            · subst hki; exact ⟨fun _ => by omega, fun _ => .inr rfl⟩
            · rcases hord.effs hok' ho hki hk hk2 with hA | hA
              · have := hord.lt hA
                exact ⟨fun _ => by omega, fun _ => .inl (hpre hA)⟩
              · have := hord.lt hA
                exact ⟨fun hh => absurd (hh.resolve_right hki) (hpost hA), fun _ => by omega⟩
        have hquiet : ¬ 2 ≤ opKind P o → ∀ (k : Nat) (ok : Oper), ops[k]? = some ok → 2 ≤ opKind P ok → ((listed.getD k false = true ∨ k = i) ↔ k < m) := fun hk k ok hok' hk' => by
          rw [← I.eff k ok hok' hk']
          exact ⟨fun hh => hh.resolve_right (fun e => by subst e; rw [ho] at hok'; cases hok'; exact hk hk'), .inl⟩
        -- a step that leaves memory alone
        have same : ∀ (v' : Value), VR ρ (V i) v' → M (i + 1) = M i → wpAny P .any ops Q fuel (listed.setIfInBounds i true) (a.put o.dst v') w := fun v' hv hMi => by
          by_cases hk2 : 2 ≤ opKind P o
          · obtain ⟨h1, h2⟩ := hact hk2
            exact go v' ρ (i + 1) w hv (by omega) (by rw [hMi, ← h1]; exact I.sr) (Sub.refl _) (by rw [hMi, ← h1]; exact I.stp) h2
          · exact go v' ρ m w hv I.hm I.sr (Sub.refl _) I.stp (hquiet hk2)
        unfold wpOp
        simp only [ho]
        rw [hwant]
        rcases (fact ho).2 with ⟨hw, hV, hMi⟩ | ⟨hw, ⟨hp, hMi⟩ | ⟨hp, hMi⟩ | ⟨hp, hk2, _⟩⟩
        · rw [hw]
          simp only [Bool.false_eq_true, if_false]
          exact same undef (by rw [hV]; exact flat_VR ρ undef_flat) hMi
        · rw [hw]
          simp only [if_true]
          obtain ⟨v', hv', hrun⟩ := apure_sound hp hopv
          exact .inl (wp_value (hrun w) (same v' hv' hMi))
        · rw [hw]
          simp only [if_true]
          obtain ⟨hk1, x, hx, b, hb, hbl, hagree⟩ := aload_agree hp
          have hbm : b < (M m).length := by
            obtain ⟨c, L, hL, _⟩ := hb ρ _ (hopv x hx)
            exact (I.sr.dom b L hL).1
          have hun : ∀ (k : Nat) (ok : Oper), ops[k]? = some ok → 2 ≤ opKind P ok → ¬ (Anc ops k i ∨ Anc ops i k) → opKind P ok = 2 ∨ (opKind P ok = 4 ∧ fl = true) := fun k ok hok' hk hno => by
            have hle : opKind P ok ≤ 4 := by
              unfold opKind
              split <;> first | omega | (split <;> omega)
            have h3 : opKind P ok ≠ 3 := fun h3 => by
              refine hno (hord.wr hok' ho (fun e => ?_) h3 hk1)
              subst e; rw [ho] at hok'; cases hok'; omega
            by_cases h4 : opKind P ok = 4
            · refine .inr ⟨h4, ?_⟩
              cases hfl' : fl with
              | true => rfl
              | false => exact absurd (hord.fl (hfl hfl') hok' ho h4 hk1) hno
            · exact .inl (by omega)
          have hsame : (M m)[b]? = (M i)[b]? := by
            rcases Nat.lt_or_ge i m with him | him
            · have hc := mcons (m - i) i (by have := I.hm; omega) (fun k ok h1 h2 hok' hk => by
                refine hun k ok hok' hk fun hA => ?_
                have hkl := (I.eff k ok hok' hk).2 (by omega)
                rcases hA with hA | hA
                · have := hord.lt hA; omega
                · exact hpost hA hkl)
              rw [show i + (m - i) = m from by omega] at hc
              exact hc b hbl
            · have hc := mcons (i - m) m (by omega) (fun k ok h1 h2 hok' hk => by
                refine hun k ok hok' hk fun hA => ?_
                rcases hA with hA | hA
                · have := (I.eff k ok hok' hk).1 (hpre hA); omega
                · have := hord.lt hA; omega)
              rw [show m + (i - m) = i from by omega] at hc
              exact (hc b hbm).symm
          obtain ⟨v', hv', hrun⟩ := aload_sound I.sr (hagree (M m) hsame) hopv
          exact .inl (wp_value hrun (same v' hv' hMi))
        · rw [hw]
          simp only [if_true]
          obtain ⟨h1, h2⟩ := hact hk2
          refine .inl (hp ρ a w _ _ hopv (h1 ▸ I.sr) I.gl fun v' ρ' w' q1 q2 q3 => ?_)
          exact go v' ρ' (i + 1) w' q1 (by omega) q2 q3.ext (Stp.trans (h1 ▸ I.stp) q3) h2
  refine main ops.size _ ρ 0 a w (by simp) ⟨fun j o x ho hl => ?_, fun k o t ho hl => ?_, fun t _ => hE t, Nat.zero_le _, fun k o ho _ => ?_, by rw [hM0]; exact hS, hG, by rw [hM0]; exact hst, hn, hd, by simp⟩
  · by_cases hj : j < ops.size
    · simp [hj] at hl
    · simp [hj] at hl
  · by_cases hk : k < ops.size
    · simp [hk] at hl
    · simp [hk] at hl
  · by_cases hk : k < ops.size
    · simp [hk]
    · simp [hk]
end
end Go.Proofs.Yteadbbimikcmgaa
