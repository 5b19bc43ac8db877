/- Slices on abstract memory: what they hold, growing ones, and the rules for their operations. Conditions: none. -/
import Derived.Test.YteadbbimikcmgaaNum
set_option linter.unusedSimpArgs false
set_option linter.unusedVariables false
namespace Go.Proofs.Yteadbbimikcmgaa
open Go

/-- a slice's value and its elements' cells -/
def Slv (S : Mem) (sz : Nat) (v : Value) (n : Nat) (l : List Value) : Prop :=
  l.length = n * sz ∧ ∃ a c, v = .slice a n c ∧ (n * sz = 0 ∨ ∃ b o r, a = some ⟨b, o, none⟩ ∧ S.row? b = some r ∧ o + n * sz ≤ r.cells.length ∧ (r.cells.drop o).take (n * sz) = l ∧ (r.ro = none ∨ l.all known = true))

/-- all rows below N stay -/
def Agree (N : Nat) (S S' : Mem) : Prop := ∀ r, r < N → S'[r]? = S[r]?
theorem Agree.refl (N : Nat) (S : Mem) : Agree N S S := fun _ _ => rfl
theorem Agree.trans {N : Nat} {S S1 S2 : Mem} (h : Agree N S S1) (k : Agree N S1 S2) : Agree N S S2 := fun r hr => (k r hr).trans (h r hr)
theorem Agree.cons {S S' : Mem} (h : Agree S.length S S') : Cons S S' := h
theorem Cons.agree {S S' : Mem} (h : Cons S S') {N : Nat} (hN : N ≤ S.length) : Agree N S S' := fun r hr => h r (Nat.lt_of_lt_of_le hr hN)
theorem Agree.mono {N M : Nat} {S S' : Mem} (h : Agree N S S') (hN : M ≤ N) : Agree M S S' := fun r hr => h r (Nat.lt_of_lt_of_le hr hN)
theorem Agree.row {N : Nat} {S S' : Mem} (h : Agree N S S') {b : Nat} (hb : b < N) : S'.row? b = S.row? b := by simp only [Mem.row?]; rw [h b hb]
theorem Cons.trans' {S S1 S2 : Mem} (h : Cons S S1) (k : Agree S.length S1 S2) : Cons S S2 := fun r hr => (k r hr).trans (h r hr)
theorem Cons.set {S S' : Mem} (h : Cons S S') (b : Nat) (x : Row) (hb : S.length ≤ b) : Cons S (S'.set b x) := fun r hr => by rw [List.getElem?_set, if_neg (by omega)]; exact h r hr
theorem Cons.pushr {S S' : Mem} (h : Cons S S') (x : Row) : Cons S (S' ++ [x]) := h.trans (Cons.push S' x)

theorem Slv.len {S : Mem} {sz n : Nat} {v : Value} {l : List Value} (h : Slv S sz v n l) : l.length = n * sz := h.1
theorem Slv.nil (S : Mem) (sz c : Nat) (a : Option Addr) : Slv S sz (.slice a 0 c) 0 [] := ⟨by simp, a, c, rfl, .inl (by simp)⟩
theorem Slv.of {S : Mem} {sz n b o c : Nat} {r : Row} (hr : S.row? b = some r) (hn : o + n * sz ≤ r.cells.length) (hk : r.ro = none ∨ ((r.cells.drop o).take (n * sz)).all known = true := by exact .inl rfl) : Slv S sz (.slice (some ⟨b, o, none⟩) n c) n ((r.cells.drop o).take (n * sz)) :=
  ⟨by simp only [List.length_take, List.length_drop]; omega, _, c, rfl, .inr ⟨b, o, r, rfl, hr, hn, rfl, hk⟩⟩
theorem Slv.all {S : Mem} {sz n b c : Nat} {r : Row} {l : List Value} (hr : S.row? b = some r) (hl : r.cells = l) (hn : l.length = n * sz) (hk : r.ro = none := by exact rfl) : Slv S sz (.slice (some ⟨b, 0, none⟩) n c) n l := by
  subst hl
  have := Slv.of (o := 0) (c := c) hr (by omega : 0 + n * sz ≤ r.cells.length) (.inl hk)
  rwa [List.drop_zero, ← hn, List.take_length] at this
theorem Slv.keep {S S' : Mem} {sz n : Nat} {v : Value} {l : List Value} (h : Slv S sz v n l) (hk : ∀ b r, S.row? b = some r → S'.row? b = some r) : Slv S' sz v n l := by
  obtain ⟨h1, a, c, h2, h3⟩ := h
  refine ⟨h1, a, c, h2, h3.imp id ?_⟩
  rintro ⟨b, o, r, e1, e2, e3, e4, e5⟩
  exact ⟨b, o, r, e1, hk _ _ e2, e3, e4, e5⟩
theorem Slv.cons {S S' : Mem} {sz n : Nat} {v : Value} {l : List Value} (h : Slv S sz v n l) (hk : Cons S S') : Slv S' sz v n l := h.keep fun b r hr => Cons.row (h := hk) hr
/-- the cells of the first m elements -/
theorem Slv.first {S : Mem} {sz n m : Nat} {v : Value} {l : List Value} (h : Slv S sz v n l) (hm : m ≤ n) : firstOf S sz m v = some (l.take (m * sz)) := by
  obtain ⟨h1, a, c, rfl, h3⟩ := h
  have hms : m * sz ≤ n * sz := Nat.mul_le_mul_right _ hm
  cases a with
  | none =>
    rcases h3 with h3 | ⟨b, o, r, e, _⟩
    · rw [h3] at h1
      simp [firstOf, List.length_eq_zero_iff.1 h1]
      intro _; omega
    · cases e
  | some a =>
    simp only [firstOf]
    by_cases h0 : m * sz = 0
    · simp [h0]
    · rw [if_neg h0]
      rcases h3 with h3 | ⟨b, o, r, e, e2, e3, e4, e5⟩
      · omega
      · cases e
        have h6 : (r.cells.drop o).take (m * sz) = l.take (m * sz) := by rw [← e4, List.take_take, Nat.min_eq_left hms]
        rw [cellsAt_of e2 (by omega) (e5.imp id fun h => by
          rw [h6, List.all_eq_true]
          exact fun x hx => List.all_eq_true.1 h x (List.mem_of_mem_take hx)), h6]
theorem Slv.get {S : Mem} {n : Nat} {v : Value} {l : List Value} (h : Slv S 1 v n l) {k : Nat} {x : Value} (hk : l[k]? = some x) : ∃ b o c, v = .slice (some ⟨b, o, none⟩) n c ∧ k < n ∧ S.cell ⟨b, o + k, none⟩ = some x := by
  obtain ⟨h1, a, c, rfl, h3⟩ := h
  have hkn : k < n := by have := (List.getElem?_eq_some_iff.1 hk).1; omega
  rcases h3 with h3 | ⟨b, o, r, rfl, e2, e3, e4, e5⟩
  · omega
  · refine ⟨b, o, c, rfl, hkn, cell_of e2 ?_ (e5.imp id fun h => List.all_eq_true.1 h x (List.mem_of_getElem? hk))⟩
    rw [← e4, List.getElem?_take, if_pos (by omega), List.getElem?_drop] at hk
    exact hk

/-! ### rules -/
section
variable {P : Program} {G : Nat} {Ext : FuncId → List Value → Mem → Outc → Mem → Prop} {e : Env} {S : Mem} {fl : Bool} {ops : Array Oper} {K : Env → Mem → Prop}
variable {rest : List Oper} {dst dst2 : Option Tmp} {d : Tmp} {ty ty2 : TypeId} {pos pos2 : String} {af af2 : Array Edge} {gd gd2 : Option (Nat × Bool)}

/-- an element is read -/
theorem L.el {t t2 : TypeId} {x ix : Operand} {v w : Value} {n k : Nat} {l : List Value} {i : Int} {kd : IntKind} (hs : Slv S 1 v n l) (hk : i = (k : Int)) (hw : l[k]? = some w)
    (w1 : awanted ops ⟨some d, .indexAddr t x ix, ty, pos, af, gd⟩ e = true) (hx : e.eval x = v) (hi : e.eval ix = .int kd i) (ht : sliceOf P t = some 1)
    (w2 : ∀ p, awanted ops ⟨dst2, .load t2 (.tmp d), ty2, pos2, af2, gd2⟩ (e.put (some d) p) = true) (hl : loadOne P t2 = true)
    (h : ∀ p, L P G Ext fl ops rest ((e.put (some d) p).put dst2 w) S K) :
    L P G Ext fl ops (⟨some d, .indexAddr t x ix, ty, pos, af, gd⟩ :: ⟨dst2, .load t2 (.tmp d), ty2, pos2, af2, gd2⟩ :: rest) e S K := by
  obtain ⟨b, o, c, rfl, hkn, hc⟩ := hs.get hw
  refine L.ix hk hkn w1 hx hi ht ?_
  rw [Nat.mul_one]
  exact L.ld hc (w2 _) (by simp [Env.eval, Env.put]) hl (h _)
/-- an element is written -/
theorem L.elst {t t2 : TypeId} {x ix y : Operand} {b o n c k : Nat} {w : Value} {r : Row} {i : Int} {kd : IntKind} (hr : S.row? b = some r) (hro : r.ro = none) (hlen : o + n ≤ r.cells.length) (hk : i = (k : Int)) (hkn : k < n)
    (w1 : awanted ops ⟨some d, .indexAddr t x ix, ty, pos, af, gd⟩ e = true) (hx : e.eval x = .slice (some ⟨b, o, none⟩) n c) (hi : e.eval ix = .int kd i) (ht : sliceOf P t = some 1)
    (w2 : ∀ p, awanted ops ⟨dst2, .store t2 (.tmp d) y, ty2, pos2, af2, gd2⟩ (e.put (some d) p) = true) (hy : ∀ p, (e.put (some d) p).eval y = w) (h1 : oneCell w = true) (hw1 : w.cells = #[w]) (hn : cellsOf' P t2 = some 1)
    (h : ∀ p, L P G Ext fl ops rest ((e.put (some d) p).put dst2 undef) (S.set b { r with cells := r.cells.set (o + k) w }) K) :
    L P G Ext fl ops (⟨some d, .indexAddr t x ix, ty, pos, af, gd⟩ :: ⟨dst2, .store t2 (.tmp d) y, ty2, pos2, af2, gd2⟩ :: rest) e S K := by
  refine L.ix hk hkn w1 hx hi ht ?_
  rw [Nat.mul_one]
  have hwr := write_of (S := S) (b := b) (o := o + k) (l := [w]) hr hro (by simp; omega) (by simp [h1])
  rw [putFrom_one _ _ _ (by omega)] at hwr
  exact L.st hwr (w2 _) (by simp [Env.eval, Env.put]) (by rw [hy, hw1]) (by rw [hn]; rfl) (h _)
end

/-! ### growing -/
def appOk (P : Program) (ts xs : TypeId) : Option (TypeId × Nat × Nat) := match P.underlying ts, P.underlying xs with
  | some (.slice e), some dx => match P.info? e, (match dx with | .slice _ | .string => some () | _ => none) with
    | some i, some () => match i.zero with
      | some z => if z.cells.size = i.size ∧ z.cells.toList.all scalar = true then some (e, i.size, i.bytes) else none
      | none => none
    | _, _ => none
  | _, _ => none
def isSliceT (P : Program) (ts : TypeId) : Bool := match P.underlying ts with
  | some (.slice _) => true
  | _ => false

/-- a slice that appends have made: its block holds just its elements, behind them there may be room -/
def Grow (N : Nat) (S : Mem) (el : TypeId) (sz : Nat) (v : Value) (n : Nat) (l : List Value) : Prop := l.length = n * sz ∧
  ((v = .slice none 0 0 ∧ n = 0) ∨ ∃ b, N ≤ b ∧ v = .slice (some ⟨b, 0, none⟩) n (UNK + n) ∧ S.row? b = some (grownR l el sz))
theorem Grow.slv {N : Nat} {S : Mem} {el : TypeId} {sz : Nat} {v : Value} {n : Nat} {l : List Value} (h : Grow N S el sz v n l) : Slv S sz v n l := by
  obtain ⟨h1, ⟨rfl, rfl⟩ | ⟨b, _, rfl, hr⟩⟩ := h
  · exact ⟨h1, _, _, rfl, .inl (by simp)⟩
  · exact Slv.all hr rfl h1
theorem Grow.shape {N : Nat} {S : Mem} {el : TypeId} {sz : Nat} {v : Value} {n : Nat} {l : List Value} (h : Grow N S el sz v n l) : ∃ a c, v = .slice a n c := by
  obtain ⟨h1, ⟨rfl, rfl⟩ | ⟨b, _, rfl, hr⟩⟩ := h
  · exact ⟨_, _, rfl⟩
  · exact ⟨_, _, rfl⟩
theorem Grow.nil (N : Nat) (S : Mem) (el : TypeId) (sz : Nat) : Grow N S el sz (.slice none 0 0) 0 [] := ⟨by simp, .inl ⟨rfl, rfl⟩⟩
theorem Grow.cons {N : Nat} {S S' : Mem} {el : TypeId} {sz : Nat} {v : Value} {n : Nat} {l : List Value} (h : Grow N S el sz v n l) (k : Cons S S') : Grow N S' el sz v n l := by
  obtain ⟨h1, h2 | ⟨b, hb, hv, hr⟩⟩ := h
  · exact ⟨h1, .inl h2⟩
  · exact ⟨h1, .inr ⟨b, hb, hv, Cons.row (h := k) hr⟩⟩

theorem appOk_some {P : Program} {ts xs : TypeId} {el : TypeId} {sz bytes : Nat} (h : appOk P ts xs = some (el, sz, bytes)) : ∃ dx i z, P.underlying ts = some (.slice el) ∧ P.underlying xs = some dx ∧ P.info? el = some i ∧
    ((∃ e', dx = .slice e') ∨ dx = .string) ∧ i.zero = some z ∧ z.cells.size = i.size ∧ z.cells.toList.all scalar = true ∧ i.size = sz ∧ i.bytes = bytes := by
  unfold appOk at h
  cases hu1 : P.underlying ts with
  | none => simp [hu1] at h
  | some d =>
    cases hu2 : P.underlying xs with
    | none => simp [hu1, hu2] at h
    | some dx =>
      cases d with
      | slice e =>
        have hdx : (∃ e', dx = .slice e') ∨ dx = .string := by
          cases dx with
          | slice e' => exact .inl ⟨e', rfl⟩
          | string => exact .inr rfl
          | _ => simp only [hu1, hu2] at h; split at h <;> simp_all
        cases hi : P.info? e with
        | none => simp [hu1, hu2, hi] at h
        | some i =>
          cases hz : i.zero with
          | none => rcases hdx with ⟨e', rfl⟩ | rfl <;> simp [hu1, hu2, hi, hz] at h
          | some z =>
            have h' : (if z.cells.size = i.size ∧ z.cells.toList.all scalar = true then some (e, i.size, i.bytes) else none) = some (el, sz, bytes) := by
              rcases hdx with ⟨e', rfl⟩ | rfl <;> simpa only [hu1, hu2, hi, hz] using h
            split at h'
            · rename_i hzz
              cases h'
              exact ⟨dx, i, z, rfl, rfl, hi, hdx, hz, hzz.1, hzz.2, rfl, rfl⟩
            · cases h'
      | _ => simp [hu1, hu2] at h
theorem aappend_eq {P : Program} {ts xs el : TypeId} {dx : TypeDesc} {i : TypeInfo} {z : Value} {S : Mem} {base : Option Addr} {n c m : Nat} {x : Value} (hu1 : P.underlying ts = some (.slice el)) (hu2 : P.underlying xs = some dx) (hi : P.info? el = some i)
    (hd : (∃ e', dx = .slice e') ∨ dx = .string) (hz : i.zero = some z) (hm : lenOf' x = some m) : aappend P ts xs (.slice base n c) x S =
      ((firstOf S i.size m x).bind fun news => (firstOf S i.size n (.slice base n c)).bind fun old =>
        if z.cells.size ≠ i.size ∨ ¬ z.cells.toList.all scalar then none else
        if n + m ≤ knownCap c then
          match base with
          | some a => if news = [] then some (.slice base (n + m) c, S) else (S.write (a.add (n * i.size)) news).map fun S' => (.slice base (n + m) c, S')
          | none => if c < UNK ∧ news = [] then some (.slice none (n + m) c, S) else none
        else if roomy (n + m) i.bytes ∧ news.length = m * i.size ∧ old.length = n * i.size then
          if c < UNK then some (.slice (some ⟨S.length, 0, none⟩) (n + m) (UNK + (n + m)), S ++ [grownR (old ++ news) el i.size])
          else match base with
            | some a => if a.off = 0 ∧ a.spot = none then match S.row? a.block with
                | some r => if r.ro = none ∧ r.elem = el ∧ r.exact = false ∧ r.sz = i.size ∧ news.all oneCell = true ∧ n * i.size ≤ r.cells.length then
                    some (.slice (some ⟨S.length, 0, none⟩) (n + m) (UNK + (n + m)), S.set a.block { r with st := .moved } ++ [grownR (old ++ news) el i.size]) else none
                | none => none
              else none
            | none => none
        else none) := by
  rcases hd with ⟨e', rfl⟩ | rfl <;> (simp only [aappend, hu1, hu2, hi, hz, hm]; rfl)
theorem knownCap_unk (n : Nat) : knownCap (UNK + n) = n := by unfold knownCap; rw [if_neg (by omega)]; omega
theorem app_grow {P : Program} {ts xs : TypeId} {el : TypeId} {sz bytes N n m : Nat} {S : Mem} {v x : Value} {l news : List Value} (hok : appOk P ts xs = some (el, sz, bytes)) (hN : N ≤ S.length) (hg : Grow N S el sz v n l)
    (hx : firstOf S sz m x = some news) (hm : lenOf' x = some m) (hnews : news.length = m * sz) (h1 : news.all oneCell = true) (hroom : roomy (n + m) bytes) (hpos : 0 < m) :
    ∃ v' S', aappend P ts xs v x S = some (v', S') ∧ Grow N S' el sz v' (n + m) (l ++ news) ∧ S.length ≤ S'.length ∧ Agree N S S' := by
  obtain ⟨dx, i, z, hu1, hu2, hi, hd, hz, hzz1, hzz2, rfl, rfl⟩ := appOk_some hok
  have hbig : n + m < UNK := by have := hroom.2.2.1; unfold UNK; omega
  obtain ⟨hl, hg⟩ := hg
  have hcond : ¬ (z.cells.size ≠ i.size ∨ ¬ z.cells.toList.all scalar = true) := fun h => h.elim (fun h => h hzz1) (fun h => h hzz2)
  rcases hg with ⟨rfl, rfl⟩ | ⟨b, hb, rfl, hr⟩
  · have hl0 : l = [] := List.length_eq_zero_iff.1 (by omega)
    subst hl0
    refine ⟨.slice (some ⟨S.length, 0, none⟩) (0 + m) (UNK + (0 + m)), S ++ [grownR ([] ++ news) el i.size], ?_, ⟨?_, .inr ⟨S.length, hN, rfl, row_push_new rfl⟩⟩, by simp, fun r hr => List.getElem?_append_left (by omega)⟩
    · rw [aappend_eq hu1 hu2 hi hd hz hm]
      simp only [hx, Option.bind_some]
      rw [firstOf_nil]
      simp only [Option.bind_some]
      rw [if_neg hcond, if_neg (by simp [knownCap, UNK]; omega)]
      rw [if_pos ⟨hroom, hnews, by simp⟩, if_pos (by simp [UNK])]
    · simp [hnews]
  · have hf : firstOf S i.size n (.slice (some ⟨b, 0, none⟩) n (UNK + n)) = some l := by
      have := (Slv.all (c := UNK + n) hr rfl hl).first (Nat.le_refl _)
      rw [← hl] at this
      rw [this]
      exact congrArg some (List.take_length)
    have hlt := row_lt hr
    refine ⟨.slice (some ⟨S.length, 0, none⟩) (n + m) (UNK + (n + m)), S.set b { grownR l el i.size with st := .moved } ++ [grownR (l ++ news) el i.size], ?_, ⟨?_, .inr ⟨S.length, hN, rfl, ?_⟩⟩, by simp, fun r hr => ?_⟩
    · rw [aappend_eq hu1 hu2 hi hd hz hm]
      simp only [hx, hf, Option.bind_some]
      rw [if_neg hcond, if_neg (by rw [knownCap_unk]; omega), if_pos ⟨hroom, hnews, hl⟩, if_neg (by omega)]
      rw [if_pos (by simp)]
      simp only [hr]
      rw [if_pos ⟨rfl, rfl, rfl, rfl, h1, Nat.le_of_eq hl.symm⟩]
    · simp [hnews, hl, Nat.add_mul]
    · have := row_push_new (S := S.set b { grownR l el i.size with st := .moved }) (x := grownR (l ++ news) el i.size) rfl
      simpa using this
    · rw [List.getElem?_append_left (by simp; omega), List.getElem?_set, if_neg (by omega)]
end Go.Proofs.Yteadbbimikcmgaa
