/- What several proofs share, part 5: a model of memory, contracts of functions. Conditions: none. -/
import Derived.Test.YtccdlijohkljcaaLibD

/- The reference of layer 7: the integer at a place. Conditions: none. -/
set_option linter.unusedSimpArgs false
set_option linter.unusedVariables false
set_option maxRecDepth 100000
namespace Go.Proofs.Ytccdlijohkljcaa
open Go
variable {G : Nat} {Ext : FuncId → List Value → Mem → Outc → Mem → Prop}

theorem itemS_ne {b : BL} {e : Int} (h : itemS b = .error e) : e ≠ 0 := by
  unfold itemS at h
  by_cases h1 : b.length < 2
  · rw [if_pos h1] at h; cases h; decide
  rw [if_neg h1] at h
  by_cases h2 : bat b 1 = 128 ∨ 132 < bat b 1
  · rw [if_pos h2] at h; cases h; decide
  rw [if_neg h2] at h
  by_cases h3 : bat b 1 < 128
  · rw [if_pos h3] at h
    by_cases h4 : b.length - 2 < bat b 1
    · rw [if_pos h4] at h; cases h; decide
    · rw [if_neg h4] at h; cases h
  rw [if_neg h3] at h
  by_cases h4 : b.length - 2 < bat b 1 - 128
  · rw [if_pos h4] at h; cases h; decide
  rw [if_neg h4] at h
  by_cases h5 : bat b 2 = 0 ∨ lenN b < 128
  · rw [if_pos h5] at h; cases h; decide
  rw [if_neg h5] at h
  by_cases h6 : b.length - 2 - (bat b 1 - 128) < lenN b
  · rw [if_pos h6] at h; cases h; decide
  · rw [if_neg h6] at h; cases h
theorem numS_ne {b : BL} {e : Int} (h : numS b = .error e) : e ≠ 0 := by
  unfold numS at h
  split at h
  · cases h; decide
  · split at h
    · cases h; decide
    · cases h
/-- what the reference's number hands out -/
def PartR (S : Mem) (m : BL) (k : Nat) (v : Value) (S' : Mem) : Prop := ∃ (a' : Option Addr) (c' : Nat) (l : WL) (to : Int) (e : Int), v = .tuple #[.slice a' l.length c', .int .i64 to, .int .i64 e] ∧ Cons S S' ∧ match partS (m.drop k) with
  | .error n => e = n ∧ n ≠ 0
  | .ok (l', r) => e = 0 ∧ l = l' ∧ WIn S' a' c' l ∧ ∃ t : Nat, to = t ∧ t ≤ m.length ∧ r = m.drop t
theorem partR_err {S S' : Mem} {m : BL} {k : Nat} {a : Option Addr} {c : Nat} {l : WL} {to n : Int} (h : partS (m.drop k) = .error n) (h0 : n ≠ 0) (hc : Cons S S') : PartR S m k (.tuple #[.slice a l.length c, .int .i64 to, .int .i64 n]) S' := by
  refine ⟨a, c, l, to, n, rfl, hc, ?_⟩
  rw [h]
  exact ⟨rfl, h0⟩
theorem refNumber_C (a : Option Addr) (c : Nat) (m : BL) (k : Nat) (S : Mem) (hI : BIn S a c m) (hk : k ≤ m.length) : C Try.prog G Ext 41 [.slice a m.length c, .int .i64 (k : Int)] S (PartR S m k) := by
  refine C.fn Try.func41 rfl (by kernel_rfl) rfl ?_
  have hbl := hI.2.2
  repeat (first | refine W.seq ?_ | refine W.block ?_ | refine W.reg ?_ | refine W.skip ?_ | refine W.exit ?_ | refine W.ret ?_ | refine L.nil ?_ | refine L.p rfl rfl ?_ | refine L.skip rfl ?_)
  refine L.cl (refItem_C a c m (k : Int) S hI (by omega) (by omega)) rfl rfl ?_
  rintro _ _ ⟨rfl, hS⟩
  have hS2 := hS.symm
  subst hS2
  clear hS
  refine ⟨nofun, ?_⟩
  rcases hi : itemS (m.drop k) with n | ⟨f, n⟩
  · rw [← itemV_err hk hi]
    have hn0 := itemS_ne hi
    repeat (first | refine W.seq ?_ | refine W.block ?_ | refine W.reg ?_ | refine W.skip ?_ | refine W.exit ?_ | refine W.ret ?_ | refine L.nil ?_ | refine L.p rfl rfl ?_ | refine L.skip rfl ?_)
    refine W.ite rfl (fun h => ?_) (fun h => ?_)
    rotate_left
    · simp [hn0] at h
    repeat (first | refine W.seq ?_ | refine W.block ?_ | refine W.reg ?_ | refine W.skip ?_ | refine W.exit ?_ | refine W.ret ?_ | refine L.nil ?_ | refine L.p rfl rfl ?_ | refine L.skip rfl ?_)
    exact ⟨.inr rfl, _, rfl, partR_err (l := []) (by unfold partS; rw [hi]) hn0 (Cons.refl _)⟩
  rw [show itemV m (k : Int) = .tuple #[.int .u8 (bat m k), .int .i64 ((k + f : Nat) : Int), .int .i64 ((k + f + n : Nat) : Int), .int .i64 0] by rw [itemV_ok hk hi, Int.natCast_add, Int.natCast_add, Int.natCast_add]]
  obtain ⟨hh1, hh2, hh3⟩ := itemS_ok hi
  have hdl : (m.drop k).length = m.length - k := List.length_drop
  have hb0 : bat (m.drop k) 0 = bat m k := bat_drop m k 0
  have hbl8 := bat_lt m k
  repeat (first | refine W.seq ?_ | refine W.block ?_ | refine W.reg ?_ | refine W.skip ?_ | refine W.exit ?_ | refine W.ret ?_ | refine L.nil ?_ | refine L.p rfl rfl ?_ | refine L.skip rfl ?_)
  refine W.ite rfl (fun h => ?_) (fun h => ?_)
  · cases h
  clear h
  repeat (first | refine W.seq ?_ | refine W.block ?_ | refine W.reg ?_ | refine W.skip ?_ | refine W.exit ?_ | refine W.ret ?_ | refine L.nil ?_ | refine L.p rfl rfl ?_ | refine L.skip rfl ?_)
  refine W.ite rfl (fun h => ?_) (fun h => ?_)
  · have hne : ¬ ((bat m k : Nat) : Int) = 2 := by simpa using h
    repeat (first | refine W.seq ?_ | refine W.block ?_ | refine W.reg ?_ | refine W.skip ?_ | refine W.exit ?_ | refine W.ret ?_ | refine L.nil ?_ | refine L.p rfl rfl ?_ | refine L.skip rfl ?_)
    exact ⟨.inr rfl, _, rfl, partR_err (l := []) (by unfold partS; rw [hi]; dsimp only; rw [if_pos (by rw [hb0]; omega)]) (by decide) (Cons.refl _)⟩
  have heq : bat m k = 2 := by have : ((bat m k : Nat) : Int) = 2 := (by simpa using h); omega
  clear h
  obtain ⟨a1, c1, q1, q2⟩ := hI.part (k := k + f) (h := k + f + n) (.inr ⟨.i64, rfl⟩) (.inr ⟨.i64, rfl⟩) (by omega) (by omega)
  have hcon : (m.drop (k + f)).take (k + f + n - (k + f)) = ((m.drop k).drop f).take n := by rw [List.drop_drop, show k + f + n - (k + f) = n by omega]
  rw [hcon] at q1 q2
  repeat (first | refine W.seq ?_ | refine W.block ?_ | refine W.reg ?_ | refine W.skip ?_ | refine W.exit ?_ | refine W.ret ?_ | refine L.nil ?_ | refine L.p rfl rfl ?_ | refine L.skip rfl ?_)
  refine L.is (.slice a1 (((m.drop k).drop f).take n).length c1) ((slice_at0 rfl rfl rfl).trans q1) rfl ?_
  repeat (first | refine W.seq ?_ | refine W.block ?_ | refine W.reg ?_ | refine W.skip ?_ | refine W.exit ?_ | refine W.ret ?_ | refine L.nil ?_ | refine L.p rfl rfl ?_ | refine L.skip rfl ?_)
  refine L.cl (refInteger_C a1 c1 (((m.drop k).drop f).take n) S q2) rfl rfl ?_
  rintro _ S1 ⟨a2, c2, rfl, hc, hW⟩
  refine ⟨nofun, ?_⟩
  repeat (first | refine W.seq ?_ | refine W.block ?_ | refine W.reg ?_ | refine W.skip ?_ | refine W.exit ?_ | refine W.ret ?_ | refine L.nil ?_ | refine L.p rfl rfl ?_ | refine L.skip rfl ?_)
  refine ⟨.inr rfl, _, rfl, a2, c2, intL (((m.drop k).drop f).take n), ((k + f + n : Nat) : Int), intE (((m.drop k).drop f).take n), rfl, hc, ?_⟩
  have hp : partS (m.drop k) = match numS (((m.drop k).drop f).take n) with
      | .error e => .error e
      | .ok l => .ok (l, (m.drop k).drop (f + n)) := by unfold partS; rw [hi]; dsimp only; rw [if_neg (by rw [hb0]; omega)]; rfl
  rw [hp]
  unfold intL at hW ⊢
  unfold intE
  cases hn : numS (((m.drop k).drop f).take n) with
  | error e => exact ⟨rfl, numS_ne hn⟩
  | ok l =>
    rw [hn] at hW
    exact ⟨rfl, rfl, hW, k + f + n, rfl, by omega, by rw [List.drop_drop]; congr 1; omega⟩
end Go.Proofs.Ytccdlijohkljcaa

/- The reference of layer 7: Decode. Conditions: none. -/
set_option linter.unusedSimpArgs false
set_option linter.unusedVariables false
set_option maxRecDepth 100000
namespace Go.Proofs.Ytccdlijohkljcaa
open Go
variable {G : Nat} {Ext : FuncId → List Value → Mem → Outc → Mem → Prop}

/-- words do not lie where slices lie -/
theorem WIn.other {S : Mem} {b : Nat} {x : Row} {t : TypeId} {a : Option Addr} {c : Nat} {l : WL} (h : WIn S a c l) (hr : S.row? b = some (newR [nilV, nilV] t)) : WIn (S.set b x) a c l := by
  refine ⟨?_, h.2⟩
  obtain ⟨h1, a', c', hv, h3⟩ := h.1
  refine ⟨h1, a', c', hv, ?_⟩
  rcases h3 with h3 | ⟨b', o, r, e1, e2, e3, e4, e5⟩
  · exact .inl h3
  · by_cases h0 : l.length * 1 = 0
    · exact .inl h0
    refine .inr ⟨b', o, r, e1, ?_, e3, e4, e5⟩
    by_cases hb : b = b'
    · exfalso
      subst hb
      rw [hr] at e2
      cases e2
      cases l with
      | nil => simp at h0
      | cons y l =>
        have hm : v64 y ∈ (([nilV, nilV] : List Value).drop o).take ((y :: l).length * 1) := by
          have : (([nilV, nilV] : List Value).drop o).take ((y :: l).length * 1) = wv (y :: l) := e4
          rw [this]; simp [wv]
        have hm2 : v64 y ∈ ([nilV, nilV] : List Value) := List.mem_of_mem_drop (List.mem_of_mem_take hm)
        simp [nilV] at hm2
    · rw [row_set_other _ hb]; exact e2
/-- what the reference of Decode hands out -/
def RefKey (S : Mem) (b : BL) (v : Value) (S' : Mem) : Prop := match keyS b with
  | .error e => v = .tuple #[.agg #[nilV, nilV], .int .i64 e] ∧ Cons S S'
  | .ok (l1, l2) => ∃ a1 c1 a2 c2, v = .tuple #[.agg #[.slice a1 l1.length c1, .slice a2 l2.length c2], .int .i64 0] ∧ Cons S S' ∧ WIn S' a1 c1 l1 ∧ WIn S' a2 c2 l2
theorem refDecode_C (a : Option Addr) (c : Nat) (b : BL) (S : Mem) (hI : BIn S a c b) : C Try.prog G Ext 12 [.slice a b.length c] S (RefKey S b) := by
  refine C.fn Try.func12 rfl (by kernel_rfl) rfl ?_
  have hbl := hI.2.2
  repeat (first | refine W.seq ?_ | refine W.block ?_ | refine W.reg ?_ | refine W.skip ?_ | refine W.exit ?_ | refine W.ret ?_ | refine L.nil ?_ | refine L.p rfl rfl ?_ | refine L.skip rfl ?_)
  refine L.eff (v := .pointer (some ⟨S.length, 0, none⟩)) (S1 := S ++ [newR [nilV, nilV] 26]) rfl rfl ?_
  have hC : Cons S (S ++ [newR [nilV, nilV] 26]) := Cons.push _ _
  have hr : Mem.row? (S ++ [newR [nilV, nilV] 26]) S.length = some (newR [nilV, nilV] 26) := row_push_new rfl
  generalize S ++ [newR [nilV, nilV] 26] = K at *
  have hIK := hI.cons hC
  repeat (first | refine W.seq ?_ | refine W.block ?_ | refine W.reg ?_ | refine W.skip ?_ | refine W.exit ?_ | refine W.ret ?_ | refine L.nil ?_ | refine L.p rfl rfl ?_ | refine L.skip rfl ?_)
  refine L.cl (refItem_C a c b 0 K hIK (by omega) (by omega)) rfl rfl ?_
  rintro _ _ ⟨rfl, hS⟩
  have hS2 := hS.symm
  subst hS2
  clear hS
  refine ⟨nofun, ?_⟩
  have hd0 : b.drop 0 = b := rfl
  rcases hi : itemS b with n | ⟨f, n⟩
  · rw [show itemV b 0 = .tuple #[.int .u8 0, .int .i64 0, .int .i64 0, .int .i64 n] from (itemV_err (k := 0) (Nat.zero_le _) hi).symm]
    have hn0 := itemS_ne hi
    repeat (first | refine W.seq ?_ | refine W.block ?_ | refine W.reg ?_ | refine W.skip ?_ | refine W.exit ?_ | refine W.ret ?_ | refine L.nil ?_ | refine L.p rfl rfl ?_ | refine L.skip rfl ?_)
    refine W.ite rfl (fun h => ?_) (fun h => ?_)
    rotate_left
    · simp [hn0] at h
    repeat (first | refine W.seq ?_ | refine W.block ?_ | refine W.reg ?_ | refine W.skip ?_ | refine W.exit ?_ | refine W.ret ?_ | refine L.nil ?_ | refine L.p rfl rfl ?_ | refine L.skip rfl ?_)
    refine L.bd #[nilV, nilV] rfl rfl rfl rfl rfl ?_
    repeat (first | refine W.seq ?_ | refine W.block ?_ | refine W.reg ?_ | refine W.skip ?_ | refine W.exit ?_ | refine W.ret ?_ | refine L.nil ?_ | refine L.p rfl rfl ?_ | refine L.skip rfl ?_)
    refine L.st (ad := ⟨S.length, 0, none⟩) (vs := [nilV, nilV]) (write_of (o := 0) hr rfl (Nat.le_refl 2) rfl) rfl rfl rfl rfl ?_
    rw [show List.set K S.length { newR [nilV, nilV] 26 with cells := putFrom (newR [nilV, nilV] 26).cells 0 [nilV, nilV] } = K from set_self hr]
    repeat (first | refine W.seq ?_ | refine W.block ?_ | refine W.reg ?_ | refine W.skip ?_ | refine W.exit ?_ | refine W.ret ?_ | refine L.nil ?_ | refine L.p rfl rfl ?_ | refine L.skip rfl ?_)
    refine ⟨.inr rfl, .tuple #[.agg #[nilV, nilV], .int .i64 n], ?_, ?_⟩
    · have h1 : aloadAt Try.prog 26 (.pointer (some ⟨S.length, 0, none⟩)) K = some (.agg #[nilV, nilV]) := aload_agg rfl rfl (cellsAt_of (o := 0) (n := 2) hr (Nat.le_refl 2))
      exact congrArg (fun o => Option.bind o (fun u => Option.map (fun v => Value.tuple #[u, v]) (some (Value.int .i64 n)))) h1
    · have hk : keyS b = .error n := by unfold keyS; rw [hi]
      unfold RefKey
      rw [hk]
      exact ⟨rfl, hC⟩
  rw [show itemV b 0 = .tuple #[.int .u8 (bat b 0), .int .i64 (f : Int), .int .i64 ((f + n : Nat) : Int), .int .i64 0] by
    rw [show (0 : Int) = ((0 : Nat) : Int) from rfl, itemV_ok (Nat.zero_le _) hi, Int.natCast_add]; simp]
  obtain ⟨hh1, hh2, hh3⟩ := itemS_ok hi
  have hbl8 := bat_lt b 0
  repeat (first | refine W.seq ?_ | refine W.block ?_ | refine W.reg ?_ | refine W.skip ?_ | refine W.exit ?_ | refine W.ret ?_ | refine L.nil ?_ | refine L.p rfl rfl ?_ | refine L.skip rfl ?_)
  refine W.ite rfl (fun h => ?_) (fun h => ?_)
  · cases h
  clear h
  repeat (first | refine W.seq ?_ | refine W.block ?_ | refine W.reg ?_ | refine W.skip ?_ | refine W.exit ?_ | refine W.ret ?_ | refine L.nil ?_ | refine L.p rfl rfl ?_ | refine L.skip rfl ?_)
  refine W.ite rfl (fun h => ?_) (fun h => ?_)
  · have hne : ¬ ((bat b 0 : Nat) : Int) = 48 := by simpa using h
    clear h
    repeat (first | refine W.seq ?_ | refine W.block ?_ | refine W.reg ?_ | refine W.skip ?_ | refine W.exit ?_ | refine W.ret ?_ | refine L.nil ?_ | refine L.p rfl rfl ?_ | refine L.skip rfl ?_)
    refine L.bd #[nilV, nilV] rfl rfl rfl rfl rfl ?_
    repeat (first | refine W.seq ?_ | refine W.block ?_ | refine W.reg ?_ | refine W.skip ?_ | refine W.exit ?_ | refine W.ret ?_ | refine L.nil ?_ | refine L.p rfl rfl ?_ | refine L.skip rfl ?_)
    refine L.st (ad := ⟨S.length, 0, none⟩) (vs := [nilV, nilV]) (write_of (o := 0) hr rfl (Nat.le_refl 2) rfl) rfl rfl rfl rfl ?_
    rw [show List.set K S.length { newR [nilV, nilV] 26 with cells := putFrom (newR [nilV, nilV] 26).cells 0 [nilV, nilV] } = K from set_self hr]
    repeat (first | refine W.seq ?_ | refine W.block ?_ | refine W.reg ?_ | refine W.skip ?_ | refine W.exit ?_ | refine W.ret ?_ | refine L.nil ?_ | refine L.p rfl rfl ?_ | refine L.skip rfl ?_)
    refine ⟨.inr rfl, .tuple #[.agg #[nilV, nilV], .int .i64 71], ?_, ?_⟩
    · have h1 : aloadAt Try.prog 26 (.pointer (some ⟨S.length, 0, none⟩)) K = some (.agg #[nilV, nilV]) := aload_agg rfl rfl (cellsAt_of (o := 0) (n := 2) hr (Nat.le_refl 2))
      exact congrArg (fun o => Option.bind o (fun u => Option.map (fun v => Value.tuple #[u, v]) (some (Value.int .i64 71)))) h1
    · have hk : keyS b = .error 71 := by unfold keyS; rw [hi]; dsimp only; rw [if_pos (by omega)]
      unfold RefKey
      rw [hk]
      exact ⟨rfl, hC⟩
  have heq : ¬ bat b 0 ≠ 48 := by have : ((bat b 0 : Nat) : Int) = 48 := (by simpa using h); omega
  clear h
  repeat (first | refine W.seq ?_ | refine W.block ?_ | refine W.reg ?_ | refine W.skip ?_ | refine W.exit ?_ | refine W.ret ?_ | refine L.nil ?_ | refine L.p rfl rfl ?_ | refine L.skip rfl ?_)
  refine W.ite rfl (fun h => ?_) (fun h => ?_)
  · have hlt : f + n < b.length := by have := of_decide_eq_true h; omega
    clear h
    repeat (first | refine W.seq ?_ | refine W.block ?_ | refine W.reg ?_ | refine W.skip ?_ | refine W.exit ?_ | refine W.ret ?_ | refine L.nil ?_ | refine L.p rfl rfl ?_ | refine L.skip rfl ?_)
    refine L.bd #[nilV, nilV] rfl rfl rfl rfl rfl ?_
    repeat (first | refine W.seq ?_ | refine W.block ?_ | refine W.reg ?_ | refine W.skip ?_ | refine W.exit ?_ | refine W.ret ?_ | refine L.nil ?_ | refine L.p rfl rfl ?_ | refine L.skip rfl ?_)
    refine L.st (ad := ⟨S.length, 0, none⟩) (vs := [nilV, nilV]) (write_of (o := 0) hr rfl (Nat.le_refl 2) rfl) rfl rfl rfl rfl ?_
    rw [show List.set K S.length { newR [nilV, nilV] 26 with cells := putFrom (newR [nilV, nilV] 26).cells 0 [nilV, nilV] } = K from set_self hr]
    repeat (first | refine W.seq ?_ | refine W.block ?_ | refine W.reg ?_ | refine W.skip ?_ | refine W.exit ?_ | refine W.ret ?_ | refine L.nil ?_ | refine L.p rfl rfl ?_ | refine L.skip rfl ?_)
    refine ⟨.inr rfl, .tuple #[.agg #[nilV, nilV], .int .i64 74], ?_, ?_⟩
    · have h1 : aloadAt Try.prog 26 (.pointer (some ⟨S.length, 0, none⟩)) K = some (.agg #[nilV, nilV]) := aload_agg rfl rfl (cellsAt_of (o := 0) (n := 2) hr (Nat.le_refl 2))
      exact congrArg (fun o => Option.bind o (fun u => Option.map (fun v => Value.tuple #[u, v]) (some (Value.int .i64 74)))) h1
    · have hk : keyS b = .error 74 := by unfold keyS; rw [hi]; dsimp only; rw [if_neg heq, if_pos hlt]
      unfold RefKey
      rw [hk]
      exact ⟨rfl, hC⟩
  have hge : ¬ f + n < b.length := by have := of_decide_eq_false h; omega
  clear h
  have hkey : keyS b = keyT ((b.drop f).take n) := by unfold keyS; rw [hi]; dsimp only; rw [if_neg heq, if_neg hge]
  obtain ⟨m, hm⟩ : ∃ m, m = (b.drop f).take n := ⟨_, rfl⟩
  rw [← hm] at hkey
  obtain ⟨a1, c1, q1, q2⟩ := hIK.part (k := f) (h := f + n) (.inr ⟨.i64, rfl⟩) (.inr ⟨.i64, rfl⟩) (by omega) (by omega)
  rw [show f + n - f = n by omega, ← hm] at q1 q2
  repeat (first | refine W.seq ?_ | refine W.block ?_ | refine W.reg ?_ | refine W.skip ?_ | refine W.exit ?_ | refine W.ret ?_ | refine L.nil ?_ | refine L.p rfl rfl ?_ | refine L.skip rfl ?_)
  refine L.is (.slice a1 m.length c1) ((slice_at0 rfl rfl rfl).trans q1) rfl ?_
  repeat (first | refine W.seq ?_ | refine W.block ?_ | refine W.reg ?_ | refine W.skip ?_ | refine W.exit ?_ | refine W.ret ?_ | refine L.nil ?_ | refine L.p rfl rfl ?_ | refine L.skip rfl ?_)
  refine L.cl (refNumber_C a1 c1 m 0 K q2 (Nat.zero_le _)) rfl rfl ?_
  rintro _ K1 ⟨a2, c2, l1, to1, e1, rfl, hc1, hP1⟩
  refine ⟨nofun, ?_⟩
  have hr1 := Cons.row (h := hc1) hr
  repeat (first | refine W.seq ?_ | refine W.block ?_ | refine W.reg ?_ | refine W.skip ?_ | refine W.exit ?_ | refine W.ret ?_ | refine L.nil ?_ | refine L.p rfl rfl ?_ | refine L.skip rfl ?_)
  rw [show m.drop 0 = m from rfl] at hP1
  rcases hp1 : partS m with x | ⟨l1', r1⟩
  · rw [hp1] at hP1
    obtain ⟨rfl, hx0⟩ := hP1
    refine W.ite rfl (fun h => ?_) (fun h => ?_)
    rotate_left
    · simp [hx0] at h
    repeat (first | refine W.seq ?_ | refine W.block ?_ | refine W.reg ?_ | refine W.skip ?_ | refine W.exit ?_ | refine W.ret ?_ | refine L.nil ?_ | refine L.p rfl rfl ?_ | refine L.skip rfl ?_)
    refine L.bd #[nilV, nilV] rfl rfl rfl rfl rfl ?_
    repeat (first | refine W.seq ?_ | refine W.block ?_ | refine W.reg ?_ | refine W.skip ?_ | refine W.exit ?_ | refine W.ret ?_ | refine L.nil ?_ | refine L.p rfl rfl ?_ | refine L.skip rfl ?_)
    refine L.st (ad := ⟨S.length, 0, none⟩) (vs := [nilV, nilV]) (write_of (o := 0) hr1 rfl (Nat.le_refl 2) rfl) rfl rfl rfl rfl ?_
    rw [show List.set K1 S.length { newR [nilV, nilV] 26 with cells := putFrom (newR [nilV, nilV] 26).cells 0 [nilV, nilV] } = K1 from set_self hr1]
    repeat (first | refine W.seq ?_ | refine W.block ?_ | refine W.reg ?_ | refine W.skip ?_ | refine W.exit ?_ | refine W.ret ?_ | refine L.nil ?_ | refine L.p rfl rfl ?_ | refine L.skip rfl ?_)
    refine ⟨.inr rfl, .tuple #[.agg #[nilV, nilV], .int .i64 e1], ?_, ?_⟩
    · have h1 : aloadAt Try.prog 26 (.pointer (some ⟨S.length, 0, none⟩)) K1 = some (.agg #[nilV, nilV]) := aload_agg rfl rfl (cellsAt_of (o := 0) (n := 2) hr1 (Nat.le_refl 2))
      exact congrArg (fun o => Option.bind o (fun u => Option.map (fun v => Value.tuple #[u, v]) (some (Value.int .i64 e1)))) h1
    · have hk : keyS b = .error e1 := by rw [hkey]; unfold keyT; rw [hp1]
      unfold RefKey
      rw [hk]
      exact ⟨rfl, (hC.trans hc1)⟩
  rw [hp1] at hP1
  obtain ⟨rfl, rfl, hW1, t1, rfl, ht1, rfl⟩ := hP1
  refine W.ite rfl (fun h => ?_) (fun h => ?_)
  · cases h
  clear h
  repeat (first | refine W.seq ?_ | refine W.block ?_ | refine W.reg ?_ | refine W.skip ?_ | refine W.exit ?_ | refine W.ret ?_ | refine L.nil ?_ | refine L.p rfl rfl ?_ | refine L.skip rfl ?_)
  refine L.cl (refNumber_C a1 c1 m t1 K1 (q2.cons hc1) ht1) rfl rfl ?_
  rintro _ K2 ⟨a3, c3, l2, to2, e2, rfl, hc2, hP2⟩
  refine ⟨nofun, ?_⟩
  have hr2 := Cons.row (h := hc2) hr1
  repeat (first | refine W.seq ?_ | refine W.block ?_ | refine W.reg ?_ | refine W.skip ?_ | refine W.exit ?_ | refine W.ret ?_ | refine L.nil ?_ | refine L.p rfl rfl ?_ | refine L.skip rfl ?_)
  rcases hp2 : partS (m.drop t1) with x | ⟨l2', r2⟩
  · rw [hp2] at hP2
    obtain ⟨rfl, hx0⟩ := hP2
    refine W.ite rfl (fun h => ?_) (fun h => ?_)
    rotate_left
    · simp [hx0] at h
    repeat (first | refine W.seq ?_ | refine W.block ?_ | refine W.reg ?_ | refine W.skip ?_ | refine W.exit ?_ | refine W.ret ?_ | refine L.nil ?_ | refine L.p rfl rfl ?_ | refine L.skip rfl ?_)
    refine L.bd #[nilV, nilV] rfl rfl rfl rfl rfl ?_
    repeat (first | refine W.seq ?_ | refine W.block ?_ | refine W.reg ?_ | refine W.skip ?_ | refine W.exit ?_ | refine W.ret ?_ | refine L.nil ?_ | refine L.p rfl rfl ?_ | refine L.skip rfl ?_)
    refine L.st (ad := ⟨S.length, 0, none⟩) (vs := [nilV, nilV]) (write_of (o := 0) hr2 rfl (Nat.le_refl 2) rfl) rfl rfl rfl rfl ?_
    rw [show List.set K2 S.length { newR [nilV, nilV] 26 with cells := putFrom (newR [nilV, nilV] 26).cells 0 [nilV, nilV] } = K2 from set_self hr2]
    repeat (first | refine W.seq ?_ | refine W.block ?_ | refine W.reg ?_ | refine W.skip ?_ | refine W.exit ?_ | refine W.ret ?_ | refine L.nil ?_ | refine L.p rfl rfl ?_ | refine L.skip rfl ?_)
    refine ⟨.inr rfl, .tuple #[.agg #[nilV, nilV], .int .i64 e2], ?_, ?_⟩
    · have h1 : aloadAt Try.prog 26 (.pointer (some ⟨S.length, 0, none⟩)) K2 = some (.agg #[nilV, nilV]) := aload_agg rfl rfl (cellsAt_of (o := 0) (n := 2) hr2 (Nat.le_refl 2))
      exact congrArg (fun o => Option.bind o (fun u => Option.map (fun v => Value.tuple #[u, v]) (some (Value.int .i64 e2)))) h1
    · have hk : keyS b = .error e2 := by rw [hkey]; unfold keyT; rw [hp1]; dsimp only; rw [hp2]
      unfold RefKey
      rw [hk]
      exact ⟨rfl, ((hC.trans hc1).trans hc2)⟩
  rw [hp2] at hP2
  obtain ⟨rfl, rfl, hW2, t2, rfl, ht2, rfl⟩ := hP2
  refine W.ite rfl (fun h => ?_) (fun h => ?_)
  · cases h
  clear h
  have hl2 : (m.drop t2).length = m.length - t2 := List.length_drop
  repeat (first | refine W.seq ?_ | refine W.block ?_ | refine W.reg ?_ | refine W.skip ?_ | refine W.exit ?_ | refine W.ret ?_ | refine L.nil ?_ | refine L.p rfl rfl ?_ | refine L.skip rfl ?_)
  refine W.ite rfl (fun h => ?_) (fun h => ?_)
  · have hlt := of_decide_eq_true h
    clear h
    repeat (first | refine W.seq ?_ | refine W.block ?_ | refine W.reg ?_ | refine W.skip ?_ | refine W.exit ?_ | refine W.ret ?_ | refine L.nil ?_ | refine L.p rfl rfl ?_ | refine L.skip rfl ?_)
    refine L.bd #[nilV, nilV] rfl rfl rfl rfl rfl ?_
    repeat (first | refine W.seq ?_ | refine W.block ?_ | refine W.reg ?_ | refine W.skip ?_ | refine W.exit ?_ | refine W.ret ?_ | refine L.nil ?_ | refine L.p rfl rfl ?_ | refine L.skip rfl ?_)
    refine L.st (ad := ⟨S.length, 0, none⟩) (vs := [nilV, nilV]) (write_of (o := 0) hr2 rfl (Nat.le_refl 2) rfl) rfl rfl rfl rfl ?_
    rw [show List.set K2 S.length { newR [nilV, nilV] 26 with cells := putFrom (newR [nilV, nilV] 26).cells 0 [nilV, nilV] } = K2 from set_self hr2]
    repeat (first | refine W.seq ?_ | refine W.block ?_ | refine W.reg ?_ | refine W.skip ?_ | refine W.exit ?_ | refine W.ret ?_ | refine L.nil ?_ | refine L.p rfl rfl ?_ | refine L.skip rfl ?_)
    refine ⟨.inr rfl, .tuple #[.agg #[nilV, nilV], .int .i64 74], ?_, ?_⟩
    · have h1 : aloadAt Try.prog 26 (.pointer (some ⟨S.length, 0, none⟩)) K2 = some (.agg #[nilV, nilV]) := aload_agg rfl rfl (cellsAt_of (o := 0) (n := 2) hr2 (Nat.le_refl 2))
      exact congrArg (fun o => Option.bind o (fun u => Option.map (fun v => Value.tuple #[u, v]) (some (Value.int .i64 74)))) h1
    · have hk : keyS b = .error 74 := by rw [hkey]; unfold keyT; rw [hp1]; dsimp only; rw [hp2]; dsimp only; rw [if_pos (by omega)]
      unfold RefKey
      rw [hk]
      exact ⟨rfl, ((hC.trans hc1).trans hc2)⟩
  have hge2 := of_decide_eq_false h
  clear h
  have hend : keyS b = .ok (l1, l2) := by rw [hkey]; unfold keyT; rw [hp1]; dsimp only; rw [hp2]; dsimp only; rw [if_neg (by omega)]
  repeat (first | refine W.seq ?_ | refine W.block ?_ | refine W.reg ?_ | refine W.skip ?_ | refine W.exit ?_ | refine W.ret ?_ | refine L.nil ?_ | refine L.p rfl rfl ?_ | refine L.skip rfl ?_)
  refine L.bd #[.slice a2 l1.length c2, .slice a3 l2.length c3] rfl rfl rfl rfl rfl ?_
  refine L.st (ad := ⟨S.length, 0, none⟩) (vs := [.slice a2 l1.length c2, .slice a3 l2.length c3]) (write_of (o := 0) hr2 rfl (Nat.le_refl 2) rfl) rfl rfl rfl rfl ?_
  have hk3 : Mem.row? (List.set K2 S.length { newR [nilV, nilV] 26 with cells := putFrom (newR [nilV, nilV] 26).cells 0 [.slice a2 l1.length c2, .slice a3 l2.length c3] }) S.length = some (newR [.slice a2 l1.length c2, .slice a3 l2.length c3] 26) := by
    rw [row_set_same hr2 rfl]; rfl
  have hC2 := (hC.trans hc1).trans hc2
  have hlK := row_lt hr2
  have hC3 : Cons S (List.set K2 S.length { newR [nilV, nilV] 26 with cells := putFrom (newR [nilV, nilV] 26).cells 0 [.slice a2 l1.length c2, .slice a3 l2.length c3] }) := hC2.set _ _ (Nat.le_refl _)
  have hWa := (hW1.cons hc2).other (x := { newR [nilV, nilV] 26 with cells := putFrom (newR [nilV, nilV] 26).cells 0 [.slice a2 l1.length c2, .slice a3 l2.length c3] }) hr2
  have hWb := hW2.other (x := { newR [nilV, nilV] 26 with cells := putFrom (newR [nilV, nilV] 26).cells 0 [.slice a2 l1.length c2, .slice a3 l2.length c3] }) hr2
  generalize List.set K2 S.length _ = K3 at *
  repeat (first | refine W.seq ?_ | refine W.block ?_ | refine W.reg ?_ | refine W.skip ?_ | refine W.exit ?_ | refine W.ret ?_ | refine L.nil ?_ | refine L.p rfl rfl ?_ | refine L.skip rfl ?_)
  refine ⟨.inr rfl, .tuple #[.agg #[.slice a2 l1.length c2, .slice a3 l2.length c3], .int .i64 0], ?_, ?_⟩
  · have h1 : aloadAt Try.prog 26 (.pointer (some ⟨S.length, 0, none⟩)) K3 = some (.agg #[.slice a2 l1.length c2, .slice a3 l2.length c3]) := aload_agg rfl rfl (cellsAt_of (o := 0) (n := 2) hk3 (Nat.le_refl 2))
    exact congrArg (fun o => Option.bind o (fun u => Option.map (fun v => Value.tuple #[u, v]) (some (Value.int .i64 0)))) h1
  · unfold RefKey
    rw [hend]
    exact ⟨a2, c2, a3, c3, rfl, hC3, hWa, hWb⟩
end Go.Proofs.Ytccdlijohkljcaa
