/- Lists of bytes lent, kept, compared. Conditions: none. -/
import Derived.Test.YteadbbimikcmgaaSlB
import Derived.Test.YteadbbimikcmgaaKitA
set_option linter.unusedSimpArgs false
set_option linter.unusedVariables false
set_option maxRecDepth 100000
namespace Go.Proofs.Yteadbbimikcmgaa
open Go
variable {G : Nat} {Ext : FuncId → List Value → Mem → Outc → Mem → Prop}

abbrev BL := List (BitVec 8)
def bv (l : BL) : List Value := l.map v8
theorem bv_len (l : BL) : (bv l).length = l.length := List.length_map _
theorem bv_get {l : BL} {k : Nat} {x : BitVec 8} (h : l[k]? = some x) : (bv l)[k]? = some (v8 x) := by simp [bv, h]
theorem bv_get' (l : BL) {k : Nat} (h : k < l.length) : (bv l)[k]? = some (v8 l[k]) := bv_get (List.getElem?_eq_getElem h)
theorem bv_one (l : BL) : (bv l).all oneCell = true := by simp [bv, oneCell]
theorem bv_app (l m : BL) : bv (l ++ m) = bv l ++ bv m := List.map_append
theorem v8_ne (x y : BitVec 8) : ((x.toNat : Int) != (y.toNat : Int)) = (x != y) := by
  have : ((x.toNat : Int) = (y.toNat : Int)) ↔ x = y := by rw [Int.ofNat_inj]; exact BitVec.toNat_inj
  rw [Bool.eq_iff_iff]; simp [this]

/-- same bytes -/
theorem same_C (v1 v2 : Value) (l m : BL) (n k : Nat) (S : Mem) (h1 : Slv S 1 v1 n (bv l)) (h2 : Slv S 1 v2 k (bv m)) (hn : n < 1099511627776) (hk : k < 1099511627776) :
    C Try.prog G Ext 21 [v1, v2] S fun v S' => v = .bool (l == m) ∧ S' = S := by
  have l1 : l.length = n := by have := h1.1; rw [bv_len] at this; omega
  have l2 : m.length = k := by have := h2.1; rw [bv_len] at this; omega
  obtain ⟨_, a1, c1, rfl, _⟩ := id h1
  obtain ⟨_, a2, c2, rfl, _⟩ := id h2
  refine C.fn Try.func21 rfl (by kernel_rfl) rfl ?_
  repeat (first | refine W.seq ?_ | refine W.block ?_ | refine W.reg ?_ | refine W.skip ?_ | refine W.exit ?_ | refine W.ret ?_ | refine L.nil ?_ | refine L.p rfl rfl ?_ | refine L.skip rfl ?_)
  refine W.ite rfl (fun h => ?_) (fun h => ?_)
  · have hne : n ≠ k := by intro e; subst e; simp at h
    repeat (first | refine W.seq ?_ | refine W.block ?_ | refine W.reg ?_ | refine W.skip ?_ | refine W.exit ?_ | refine W.ret ?_ | refine L.nil ?_ | refine L.p rfl rfl ?_ | refine L.skip rfl ?_)
    refine ⟨.inr rfl, _, rfl, (force_eq rfl).trans ?_, rfl⟩
    rw [beq_eq_false_iff_ne.2 (fun e => hne (by rw [← l1, ← l2, e]))]
  · have hnk : n = k := by simp at h; omega
    subst hnk
    repeat (first | refine W.seq ?_ | refine W.block ?_ | refine W.reg ?_ | refine W.skip ?_ | refine W.exit ?_ | refine W.ret ?_ | refine L.nil ?_ | refine L.p rfl rfl ?_ | refine L.skip rfl ?_)
    refine W.loop (fun j e S' => ∃ i, j = n - i ∧ i ≤ n ∧ S' = S ∧ e 0 = .slice a1 n c1 ∧ e 1 = .slice a2 n c2 ∧ e 5 = vi i ∧ ∀ t, t < i → l[t]? = m[t]?) n ⟨0, by omega, by omega, rfl, rfl, rfl, rfl, by omega⟩ ?_
    rintro j e S' ⟨i, rfl, hi, rfl, e0, e1, e5, hle⟩
    refine W.env3 e0 e1 e5 ?_
    repeat (first | refine W.seq ?_ | refine W.block ?_ | refine W.reg ?_ | refine W.skip ?_ | refine W.exit ?_ | refine W.ret ?_ | refine L.nil ?_ | refine L.p rfl rfl ?_ | refine L.skip rfl ?_)
    refine W.ite rfl (fun h => ?_) (fun h => ?_)
    · have hin : i < n := by simp at h; omega
      repeat (first | refine W.seq ?_ | refine W.block ?_ | refine W.reg ?_ | refine W.skip ?_ | refine W.exit ?_ | refine W.ret ?_ | refine L.nil ?_ | refine L.p rfl rfl ?_ | refine L.skip rfl ?_)
      refine L.el h1 rfl (bv_get' l (l1.symm ▸ hin)) rfl rfl rfl rfl (fun _ => rfl) rfl (fun p => ?_)
      repeat (first | refine W.seq ?_ | refine W.block ?_ | refine W.reg ?_ | refine W.skip ?_ | refine W.exit ?_ | refine W.ret ?_ | refine L.nil ?_ | refine L.p rfl rfl ?_ | refine L.skip rfl ?_)
      refine L.el h2 rfl (bv_get' m (l2.symm ▸ hin)) rfl rfl rfl rfl (fun _ => rfl) rfl (fun p => ?_)
      repeat (first | refine W.seq ?_ | refine W.block ?_ | refine W.reg ?_ | refine W.skip ?_ | refine W.exit ?_ | refine W.ret ?_ | refine L.nil ?_ | refine L.p rfl rfl ?_ | refine L.skip rfl ?_)
      refine W.ite rfl (fun h => ?_) (fun h => ?_)
      · have hne : l[i] ≠ m[i] := by rw [v8_ne] at h; simpa using h
        repeat (first | refine W.seq ?_ | refine W.block ?_ | refine W.reg ?_ | refine W.skip ?_ | refine W.exit ?_ | refine W.ret ?_ | refine L.nil ?_ | refine L.p rfl rfl ?_ | refine L.skip rfl ?_)
        refine ⟨.inr rfl, _, rfl, (force_eq rfl).trans ?_, rfl⟩
        rw [beq_eq_false_iff_ne.2 (fun e => hne (by simp [e]))]
      · have heq : l[i] = m[i] := by rw [v8_ne] at h; simpa using h
        repeat (first | refine W.seq ?_ | refine W.block ?_ | refine W.reg ?_ | refine W.skip ?_ | refine W.exit ?_ | refine W.ret ?_ | refine L.nil ?_ | refine L.p rfl rfl ?_ | refine L.skip rfl ?_)
        refine ⟨n - (i + 1), by omega, i + 1, rfl, by omega, rfl, rfl, rfl, ?_, ?_⟩
        · refine (force_eq rfl).trans ?_
          rw [wrap64 (by omega) (by omega)]; rfl
        · intro t ht
          rcases Nat.lt_or_eq_of_le (Nat.le_of_lt_succ ht) with ht | rfl
          · exact hle t ht
          · rw [List.getElem?_eq_getElem (by omega), List.getElem?_eq_getElem (by omega), heq]
    · have hin : i = n := by simp at h; omega
      subst hin
      repeat (first | refine W.seq ?_ | refine W.block ?_ | refine W.reg ?_ | refine W.skip ?_ | refine W.exit ?_ | refine W.ret ?_ | refine L.nil ?_ | refine L.p rfl rfl ?_ | refine L.skip rfl ?_)
      refine ⟨.inr rfl, _, rfl, (force_eq rfl).trans ?_, rfl⟩
      rw [beq_iff_eq.2 (List.ext_getElem? fun t => ?_)]
      rcases Nat.lt_or_ge t i with ht | ht
      · exact hle t ht
      · rw [List.getElem?_eq_none (by omega), List.getElem?_eq_none (by omega)]

/-- the marks behind a list that is lent -/
def marks (k : Nat) : BL := (List.range k).map fun (i : Nat) => (mk 90 i).setWidth 8
theorem marks_len (k : Nat) : (marks k).length = k := by simp [marks]
theorem u8_of_v64 (x : BitVec 64) : IntKind.u8.wrap (x.toNat : Int) = ((x.setWidth 8).toNat : Int) := by
  rw [wrap_u8, show BitVec.ofInt 8 (x.toNat : Int) = x.setWidth 8 by apply BitVec.eq_of_toNat_eq; simp [BitVec.toNat_ofInt]]
theorem lent_C (v1 : Value) (l : BL) (S : Mem) (h1 : Slv S 1 v1 l.length (bv l)) (hn : l.length < 4294967296) :
    C Try.prog G Ext 9 [v1] S fun v S' => Cons S S' ∧ ∃ b, S.length ≤ b ∧ v = .slice (some ⟨b, 0, none⟩) l.length (UNK + (l.length + 16)) ∧ S'.row? b = some (grownR (bv (l ++ marks 16)) 5 1) := by
  obtain ⟨_, a1, c1, rfl, _⟩ := id h1
  refine C.fn Try.func9 rfl (by kernel_rfl) rfl ?_
  repeat (first | refine W.seq ?_ | refine W.block ?_ | refine W.reg ?_ | refine W.skip ?_ | refine W.exit ?_ | refine W.ret ?_ | refine L.nil ?_ | refine L.p rfl rfl ?_ | refine L.skip rfl ?_)
  refine W.loop (fun j e S' => ∃ i a c, j = l.length - i ∧ i ≤ l.length ∧ Cons S S' ∧ e 0 = .slice a1 l.length c1 ∧ e 3 = .slice a i c ∧ e 4 = vi i ∧ Grow S.length S' 5 1 (.slice a i c) i (bv (l.take i))) l.length ⟨0, _, _, by omega, by omega, Cons.refl _, rfl, rfl, rfl, Grow.nil _ _ _ _⟩ ?_
  rintro j e S' ⟨i, a, c, rfl, hi, hc, e0, e3, e4, hg⟩
  refine W.env3 e0 e3 e4 ?_
  repeat (first | refine W.seq ?_ | refine W.block ?_ | refine W.reg ?_ | refine W.skip ?_ | refine W.exit ?_ | refine W.ret ?_ | refine L.nil ?_ | refine L.p rfl rfl ?_ | refine L.skip rfl ?_)
  refine W.ite rfl (fun h => ?_) (fun h => ?_)
  · have hin : i < l.length := by simp at h; omega
    repeat (first | refine W.seq ?_ | refine W.block ?_ | refine W.reg ?_ | refine W.skip ?_ | refine W.exit ?_ | refine W.ret ?_ | refine L.nil ?_ | refine L.p rfl rfl ?_ | refine L.skip rfl ?_)
    refine L.el (h1.cons hc) rfl (bv_get' l hin) rfl rfl rfl rfl (fun _ => rfl) rfl (fun p => ?_)
    refine L.push1 rfl hc.len (.inl hg) rfl rfl rfl rfl rfl (by omega) rfl (fun _ => rfl) (fun p a c S1 h2 h3 h4 => ?_)
    repeat (first | refine W.seq ?_ | refine W.block ?_ | refine W.reg ?_ | refine W.skip ?_ | refine W.exit ?_ | refine W.ret ?_ | refine L.nil ?_ | refine L.p rfl rfl ?_ | refine L.skip rfl ?_)
    refine ⟨l.length - (i + 1), by omega, i + 1, a, c, rfl, by omega, hc.trans' h4, rfl, rfl, ?_, ?_⟩
    · refine (force_eq rfl).trans ?_
      rw [wrap64 (by omega) (by omega)]; rfl
    · rw [List.take_add_one, bv_app, List.getElem?_eq_getElem hin]; exact h2
  · have hin : i = l.length := by simp at h; omega
    subst hin
    rw [List.take_length] at hg
    repeat (first | refine W.seq ?_ | refine W.block ?_ | refine W.reg ?_ | refine W.skip ?_ | refine W.exit ?_ | refine W.ret ?_ | refine L.nil ?_ | refine L.p rfl rfl ?_ | refine L.skip rfl ?_)
    refine W.loop (fun j e S' => ∃ i a c, j = 16 - i ∧ i ≤ 16 ∧ Cons S S' ∧ e 0 = .slice a1 l.length c1 ∧ e 3 = .slice a (l.length + i) c ∧ e 5 = vi i ∧ Grow S.length S' 5 1 (.slice a (l.length + i) c) (l.length + i) (bv (l ++ marks i))) 16 ⟨0, a, c, by omega, by omega, hc, rfl, rfl, rfl, by simpa [marks] using hg⟩ ?_
    clear hg hc S' e3 e0 e4 hi e a c h
    rintro j e S' ⟨i, a, c, rfl, hi, hc, e0, e3, e5, hg⟩
    refine W.env3 e0 e3 e5 ?_
    repeat (first | refine W.seq ?_ | refine W.block ?_ | refine W.reg ?_ | refine W.skip ?_ | refine W.exit ?_ | refine W.ret ?_ | refine L.nil ?_ | refine L.p rfl rfl ?_ | refine L.skip rfl ?_)
    refine W.ite rfl (fun h => ?_) (fun h => ?_)
    · have hin : i < 16 := by simp at h; omega
      repeat (first | refine W.seq ?_ | refine W.block ?_ | refine W.reg ?_ | refine W.skip ?_ | refine W.exit ?_ | refine W.ret ?_ | refine L.nil ?_ | refine L.p rfl rfl ?_ | refine L.skip rfl ?_)
      refine L.cl (mark_C _ _ _) rfl rfl ?_
      rintro _ _ ⟨rfl, rfl⟩
      refine ⟨fun _ => Cons.refl _, ?_⟩
      repeat (first | refine W.seq ?_ | refine W.block ?_ | refine W.reg ?_ | refine W.skip ?_ | refine W.exit ?_ | refine W.ret ?_ | refine L.nil ?_ | refine L.p rfl rfl ?_ | refine L.skip rfl ?_)
      refine L.push1 rfl hc.len (.inl hg) rfl rfl rfl rfl rfl (by omega) rfl (fun _ => rfl) (fun p a c S1 h2 h3 h4 => ?_)
      repeat (first | refine W.seq ?_ | refine W.block ?_ | refine W.reg ?_ | refine W.skip ?_ | refine W.exit ?_ | refine W.ret ?_ | refine L.nil ?_ | refine L.p rfl rfl ?_ | refine L.skip rfl ?_)
      refine ⟨16 - (i + 1), by omega, i + 1, a, c, rfl, by omega, hc.trans' h4, rfl, rfl, ?_, ?_⟩
      · refine (force_eq rfl).trans ?_
        rw [wrap64 (by omega) (by omega)]; rfl
      · rw [u8_of_v64] at h2
        rw [marks, List.range_succ, List.map_append, ← List.append_assoc, bv_app]; exact h2
    · have hin : i = 16 := by simp at h; omega
      subst hin
      repeat (first | refine W.seq ?_ | refine W.block ?_ | refine W.reg ?_ | refine W.skip ?_ | refine W.exit ?_ | refine W.ret ?_ | refine L.nil ?_ | refine L.p rfl rfl ?_ | refine L.skip rfl ?_)
      obtain ⟨hgl, ⟨hv, h0⟩ | ⟨b, hb, hv, hr⟩⟩ := hg
      · omega
      · cases hv
        refine L.is (.slice (some ⟨b, 0, none⟩) l.length (UNK + (l.length + 16))) ?_ rfl ?_
        · rw [slice_at rfl rfl rfl (by simp)]
          exact aslice_hi rfl (by rw [knownCap_unk]; omega)
        · repeat (first | refine W.seq ?_ | refine W.block ?_ | refine W.reg ?_ | refine W.skip ?_ | refine W.exit ?_ | refine W.ret ?_ | refine L.nil ?_ | refine L.p rfl rfl ?_ | refine L.skip rfl ?_)
          exact ⟨.inr rfl, _, rfl, hc, b, hb, rfl, hr⟩
theorem kept_C (v2 : Value) (l : BL) (b : Nat) (r : Row) (S : Mem) (hr : S.row? b = some r) (hro : r.ro = none) (hcells : r.cells = bv (l ++ marks 16)) (h2 : Slv S 1 v2 l.length (bv l)) (hn : l.length < 4294967296) :
    C Try.prog G Ext 12 [.slice (some ⟨b, 0, none⟩) l.length (UNK + (l.length + 16)), v2] S fun v S' => v = .bool true ∧ S' = S := by
  obtain ⟨_, a2, c2, rfl, _⟩ := id h2
  refine C.fn Try.func12 rfl (by kernel_rfl) rfl ?_
  repeat (first | refine W.seq ?_ | refine W.block ?_ | refine W.reg ?_ | refine W.skip ?_ | refine W.exit ?_ | refine W.ret ?_ | refine L.nil ?_ | refine L.p rfl rfl ?_ | refine L.skip rfl ?_)
  refine W.ite rfl (fun h => ?_) (fun h => ?_)
  · simp at h
  repeat (first | refine W.seq ?_ | refine W.block ?_ | refine W.reg ?_ | refine W.skip ?_ | refine W.exit ?_ | refine W.ret ?_ | refine L.nil ?_ | refine L.p rfl rfl ?_ | refine L.skip rfl ?_)
  refine L.is (.slice (some ⟨b, 0, none⟩) (l.length + 16) (UNK + (l.length + 16))) ?_ rfl ?_
  · rw [slice_at rfl rfl rfl (by simp)]
    refine aslice_hi (kd := .i64) ?_ (by rw [knownCap_unk]; omega)
    refine (force_eq rfl).trans ?_
    rw [wrap64 (by omega) (by omega)]; rfl
  have hall : Slv S 1 (.slice (some ⟨b, 0, none⟩) (l.length + 16) (UNK + (l.length + 16))) (l.length + 16) (bv (l ++ marks 16)) := Slv.all hr hcells (by rw [bv_len]; simp [marks_len]) hro
  repeat (first | refine W.seq ?_ | refine W.block ?_ | refine W.reg ?_ | refine W.skip ?_ | refine W.exit ?_ | refine W.ret ?_ | refine L.nil ?_ | refine L.p rfl rfl ?_ | refine L.skip rfl ?_)
  refine W.loop (fun j e S' => ∃ i, j = l.length + 16 - i ∧ i ≤ l.length + 16 ∧ S' = S ∧ e 1 = .slice a2 l.length c2 ∧ e 5 = .slice (some ⟨b, 0, none⟩) (l.length + 16) (UNK + (l.length + 16)) ∧ e 6 = vi i) (l.length + 16) ⟨0, by omega, by omega, rfl, rfl, rfl, rfl⟩ ?_
  rintro j e S' ⟨i, rfl, hi, rfl, e1, e5, e6⟩
  refine W.env3 e1 e5 e6 ?_
  repeat (first | refine W.seq ?_ | refine W.block ?_ | refine W.reg ?_ | refine W.skip ?_ | refine W.exit ?_ | refine W.ret ?_ | refine L.nil ?_ | refine L.p rfl rfl ?_ | refine L.skip rfl ?_)
  refine W.ite rfl (fun h => ?_) (fun h => ?_)
  · have hin : i < l.length + 16 := by simp at h; omega
    repeat (first | refine W.seq ?_ | refine W.block ?_ | refine W.reg ?_ | refine W.skip ?_ | refine W.exit ?_ | refine W.ret ?_ | refine L.nil ?_ | refine L.p rfl rfl ?_ | refine L.skip rfl ?_)
    refine L.cl (mark_C _ _ _) rfl rfl ?_
    rintro _ _ ⟨rfl, rfl⟩
    refine ⟨fun _ => Cons.refl _, ?_⟩
    repeat (first | refine W.seq ?_ | refine W.block ?_ | refine W.reg ?_ | refine W.skip ?_ | refine W.exit ?_ | refine W.ret ?_ | refine L.nil ?_ | refine L.p rfl rfl ?_ | refine L.skip rfl ?_)
    refine W.ite rfl (fun h => ?_) (fun h => ?_)
    · have hil : i < l.length := by simp at h; omega
      have hal : (bv (l ++ marks 16))[i]? = some (v8 l[i]) := by rw [bv_app, List.getElem?_append_left (by rw [bv_len]; exact hil)]; exact bv_get' l hil
      repeat (first | refine W.seq ?_ | refine W.block ?_ | refine W.reg ?_ | refine W.skip ?_ | refine W.exit ?_ | refine W.ret ?_ | refine L.nil ?_ | refine L.p rfl rfl ?_ | refine L.skip rfl ?_)
      refine L.el h2 rfl (bv_get' l hil) rfl rfl rfl rfl (fun _ => rfl) rfl (fun p => ?_)
      repeat (first | refine W.seq ?_ | refine W.block ?_ | refine W.reg ?_ | refine W.skip ?_ | refine W.exit ?_ | refine W.ret ?_ | refine L.nil ?_ | refine L.p rfl rfl ?_ | refine L.skip rfl ?_)
      refine L.el hall rfl hal rfl rfl rfl rfl (fun _ => rfl) rfl (fun p => ?_)
      repeat (first | refine W.seq ?_ | refine W.block ?_ | refine W.reg ?_ | refine W.skip ?_ | refine W.exit ?_ | refine W.ret ?_ | refine L.nil ?_ | refine L.p rfl rfl ?_ | refine L.skip rfl ?_)
      refine W.ite rfl (fun h => ?_) (fun h => ?_)
      · simp at h
      · repeat (first | refine W.seq ?_ | refine W.block ?_ | refine W.reg ?_ | refine W.skip ?_ | refine W.exit ?_ | refine W.ret ?_ | refine L.nil ?_ | refine L.p rfl rfl ?_ | refine L.skip rfl ?_)
        refine ⟨l.length + 16 - (i + 1), by omega, i + 1, rfl, by omega, rfl, rfl, rfl, ?_⟩
        refine (force_eq rfl).trans ?_
        rw [wrap64 (by omega) (by omega)]; rfl
    · have hil : ¬ i < l.length := by simp at h; omega
      have hal : (bv (l ++ marks 16))[i]? = some (v8 ((mk 90 ((i - l.length : Nat) : Int)).setWidth 8)) := by
        rw [bv_app, List.getElem?_append_right (by rw [bv_len]; omega), bv_len]
        exact bv_get (by simp [marks, show i - l.length < 16 from by omega])
      repeat (first | refine W.seq ?_ | refine W.block ?_ | refine W.reg ?_ | refine W.skip ?_ | refine W.exit ?_ | refine W.ret ?_ | refine L.nil ?_ | refine L.p rfl rfl ?_ | refine L.skip rfl ?_)
      refine L.el hall rfl hal rfl rfl rfl rfl (fun _ => rfl) rfl (fun p => ?_)
      repeat (first | refine W.seq ?_ | refine W.block ?_ | refine W.reg ?_ | refine W.skip ?_ | refine W.exit ?_ | refine W.ret ?_ | refine L.nil ?_ | refine L.p rfl rfl ?_ | refine L.skip rfl ?_)
      refine W.ite rfl (fun h => ?_) (fun h => ?_)
      · rw [u8_of_v64, wrap64 (by omega) (by omega), show ((i : Int) - (l.length : Int)) = ((i - l.length : Nat) : Int) by omega] at h
        simp at h
      · repeat (first | refine W.seq ?_ | refine W.block ?_ | refine W.reg ?_ | refine W.skip ?_ | refine W.exit ?_ | refine W.ret ?_ | refine L.nil ?_ | refine L.p rfl rfl ?_ | refine L.skip rfl ?_)
        refine ⟨l.length + 16 - (i + 1), by omega, i + 1, rfl, by omega, rfl, rfl, rfl, ?_⟩
        refine (force_eq rfl).trans ?_
        rw [wrap64 (by omega) (by omega)]; rfl
  · repeat (first | refine W.seq ?_ | refine W.block ?_ | refine W.reg ?_ | refine W.skip ?_ | refine W.exit ?_ | refine W.ret ?_ | refine L.nil ?_ | refine L.p rfl rfl ?_ | refine L.skip rfl ?_)
    exact ⟨.inr rfl, _, rfl, rfl, rfl⟩
end Go.Proofs.Yteadbbimikcmgaa
