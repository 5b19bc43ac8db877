/- Rules for arrays. Conditions: none. -/
import Derived.Test.YteadbbimikcmgaaSlB
set_option linter.unusedSimpArgs false
set_option linter.unusedVariables false
namespace Go.Proofs.Yteadbbimikcmgaa
open Go

theorem acall_eq {f : FuncId} {a b : List Value} (h : a = b) : (some (f, a) : Option (FuncId × List Value)) = some (f, b) := by rw [h]
theorem list1 {α : Type} {a a' : α} (h : a = a') : [a] = [a'] := by rw [h]
theorem list2 {α : Type} {a a' b b' : α} (h : a = a') (h2 : b = b') : [a, b] = [a', b'] := by rw [h, h2]
theorem list3 {α : Type} {a a' b b' c c' : α} (h : a = a') (h2 : b = b') (h3 : c = c') : [a, b, c] = [a', b', c'] := by rw [h, h2, h3]
theorem list4 {α : Type} {a a' b b' c c' d d' : α} (h : a = a') (h2 : b = b') (h3 : c = c') (h4 : d = d') : [a, b, c, d] = [a', b', c', d'] := by rw [h, h2, h3, h4]
section
variable {P : Program} {G : Nat} {Ext : FuncId → List Value → Mem → Outc → Mem → Prop} {e : Env} {S : Mem} {fl : Bool} {ops : Array Oper} {K : Env → Mem → Prop}
variable {rest : List Oper} {dst dst2 : Option Tmp} {d : Tmp} {ty ty2 : TypeId} {pos pos2 : String} {af af2 : Array Edge} {gd gd2 : Option (Nat × Bool)}
/-- an array's element is read -/
theorem L.elA {t t2 : TypeId} {x ix : Operand} {w : Value} {b o n k : Nat} {r : Row} {i : Int} {kd : IntKind} (hr : S.row? b = some r) (hw : r.cells[o + k]? = some w) (hk : i = (k : Int)) (hkn : k < n)
    (w1 : awanted ops ⟨some d, .indexAddr t x ix, ty, pos, af, gd⟩ e = true) (hx : e.eval x = .pointer (some ⟨b, o, none⟩)) (hi : e.eval ix = .int kd i) (ht : arrayOf P t = some (n, 1))
    (w2 : ∀ p, awanted ops ⟨dst2, .load t2 (.tmp d), ty2, pos2, af2, gd2⟩ (e.put (some d) p) = true) (hl : loadOne P t2 = true)
    (h : ∀ p, L P G Ext fl ops rest ((e.put (some d) p).put dst2 w) S K) (hkk : r.ro = none ∨ known w = true := by exact .inl rfl) :
    L P G Ext fl ops (⟨some d, .indexAddr t x ix, ty, pos, af, gd⟩ :: ⟨dst2, .load t2 (.tmp d), ty2, pos2, af2, gd2⟩ :: rest) e S K := by
  refine L.ixA hk hkn w1 hx hi ht ?_
  rw [Nat.mul_one]
  exact L.ld (cell_of hr hw hkk) (w2 _) (by simp [Env.eval, Env.put]) hl (h _)
/-- an array's element is written -/
theorem L.elstA {t t2 : TypeId} {x ix y : Operand} {b o n k : Nat} {w : Value} {r : Row} {i : Int} {kd : IntKind} (hr : S.row? b = some r) (hro : r.ro = none) (hlen : o + n ≤ r.cells.length) (hk : i = (k : Int)) (hkn : k < n)
    (w1 : awanted ops ⟨some d, .indexAddr t x ix, ty, pos, af, gd⟩ e = true) (hx : e.eval x = .pointer (some ⟨b, o, none⟩)) (hi : e.eval ix = .int kd i) (ht : arrayOf P t = some (n, 1))
    (w2 : ∀ p, awanted ops ⟨dst2, .store t2 (.tmp d) y, ty2, pos2, af2, gd2⟩ (e.put (some d) p) = true) (hy : ∀ p, (e.put (some d) p).eval y = w) (h1 : oneCell w = true) (hn : cellsOf' P t2 = some 1)
    (h : ∀ p, L P G Ext fl ops rest ((e.put (some d) p).put dst2 undef) (S.set b { r with cells := r.cells.set (o + k) w }) K) :
    L P G Ext fl ops (⟨some d, .indexAddr t x ix, ty, pos, af, gd⟩ :: ⟨dst2, .store t2 (.tmp d) y, ty2, pos2, af2, gd2⟩ :: rest) e S K := by
  refine L.ixA hk hkn w1 hx hi ht ?_
  rw [Nat.mul_one]
  have hwr := write_of (S := S) (b := b) (o := o + k) (l := [w]) hr hro (by simp; omega) (by simp [h1])
  rw [putFrom_one _ _ _ (by omega)] at hwr
  exact L.st hwr (w2 _) (by simp [Env.eval, Env.put]) (by rw [hy, cells_one h1]) (by rw [hn]; rfl) (h _)
/-- an element of an array's value -/
theorem L.ia {t el : TypeId} {x ix : Operand} {cs : Array Value} {k n : Nat} {w : Value} {i : Int} {kd : IntKind} (hx : e.eval x = .agg cs) (hi : e.eval ix = .int kd i) (hk : i = (k : Int)) (hkn : k < n) (hu : P.underlying t = some (.array n el)) (h1 : P.cellsOf el = 1) (hl : loadOne P el = true)
    (hw : cs[k]? = some w) (w1 : awanted ops ⟨dst, .index t x ix, ty, pos, af, gd⟩ e = true)
    (h : L P G Ext fl ops rest (e.put dst w) S K) : L P G Ext fl ops (⟨dst, .index t x ix, ty, pos, af, gd⟩ :: rest) e S K := by
  refine L.pure w1 ?_ h
  subst hk
  simp only [apure, hx, hi, hu]
  rw [if_pos ⟨by omega, by omega⟩]
  unfold loadOne at hl
  unfold apart
  split at hl
  · rename_i d i hd hi
    have hag : isAggD d = false := by simpa using hl
    simp only [hd, hi, hag, h1, Nat.mul_one, Int.toNat_natCast, Bool.false_eq_true, if_false]
    simpa using hw
  · cases hl
end
theorem aload_agg {P : Program} {t : TypeId} {S : Mem} {a : Addr} {n : Nat} {l : List Value} {x : Value} (hx : x = .pointer (some a)) (hl : aggSize P t = some n) (hc : S.cellsAt a n = some l) : aloadAt P t x S = some (.agg l.toArray) := by
  subst hx
  unfold aggSize at hl
  unfold aloadAt
  split at hl
  · rename_i d i hd hi
    split at hl
    · rename_i hag
      cases hl
      simp only [hd, hi, hag, if_true, hc, Option.map_some]
    · cases hl
  · cases hl
theorem list5 {α : Type} {a a' b b' c c' d d' x x' : α} (h : a = a') (h2 : b = b') (h3 : c = c') (h4 : d = d') (h5 : x = x') : [a, b, c, d, x] = [a', b', c', d', x'] := by rw [h, h2, h3, h4, h5]
theorem aslice_lo {size : Nat} {b o n c l : Nat} {lv : Value} {kd : IntKind} (hl : lv = .int kd (l : Int)) (hc : c < UNK) (hln : l ≤ n) (hlc : l < c) : aslice size (some ⟨b, o, none⟩) n c (some lv) none none = some (.slice (some ⟨b, o + l * size, none⟩) (n - l) (c - l)) := by
  subst hl
  unfold aslice
  simp only [abound, Option.bind_some]
  rw [if_pos ⟨by omega, by omega⟩]
  simp only [Option.bind_some, Int.toNat_natCast]
  rw [if_pos hc]
  unfold acut
  rw [if_neg (by omega)]
  simp only [Option.map_some, Addr.add]
  split
  · rename_i h0; rw [h0]; rfl
  · rfl
/-! ### cutting from the front, copying -/
/-- there is room to cut up to the end -/
def Cut (n c : Nat) : Prop := (c < UNK ∧ n ≤ c) ∨ (UNK ≤ c ∧ n ≤ knownCap c)
theorem Cut.known {n c : Nat} (h : Cut n c) : n ≤ knownCap c := by
  rcases h with ⟨h1, h2⟩ | ⟨h1, h2⟩
  · unfold knownCap; rw [if_pos h1]; exact h2
  · exact h2
theorem Cut.of {n c : Nat} (h : n ≤ knownCap c) : Cut n c := by
  rcases Nat.lt_or_ge c UNK with h1 | h1
  · unfold knownCap at h; rw [if_pos h1] at h; exact .inl ⟨h1, h⟩
  · exact .inr ⟨h1, h⟩
theorem add_one (b o k : Nat) : Addr.add ⟨b, o, none⟩ (k * 1) = ⟨b, o + k, none⟩ := by
  unfold Addr.add
  split
  · rename_i h0; rw [show k = 0 by omega]; rfl
  · rw [Nat.mul_one]
theorem knownE : knownCap UNK = 0 := by decide
def LoIs (o : Option Value) (k : Nat) : Prop := (o = none ∧ k = 0) ∨ ∃ kd, o = some (.int kd (k : Int))
def HiIs (o : Option Value) (n h : Nat) : Prop := (o = none ∧ h = n) ∨ ∃ kd, o = some (.int kd (h : Int))
theorem aslice_at {size : Nat} {a : Option Addr} {n c k h : Nat} {lo hi : Option Value} (hl : LoIs lo k) (hh : HiIs hi n h) (hk : k ≤ h) (hc : h ≤ knownCap c) : aslice size a n c lo hi none = if c < UNK then some (acut size a k h c)
      else match a with
        | some x => if k = 0 ∨ k < knownCap c then some (.slice (some (Addr.add x (k * size))) (h - k) (UNK + (knownCap c - k))) else if h = k then some (.slice none 0 UNK) else none
        | none => if h = 0 then some (.slice none 0 UNK) else none := by
  have h1 : (k : Int) ≤ (h : Int) := by omega
  have h2 : (h : Int) ≤ (knownCap c : Int) := by omega
  unfold aslice
  rcases hl with ⟨rfl, rfl⟩ | ⟨kd, rfl⟩ <;> rcases hh with ⟨rfl, rfl⟩ | ⟨kd', rfl⟩ <;> simp [abound, hk, h1, h2, hc] <;> rfl
/-- a part of a slice; where it is empty, and the capacity is not known, nobody knows its address -/
theorem slv_part {S : Mem} {a : Option Addr} {n c k h : Nat} {l : List Value} {lo hi : Option Value} (hs : Slv S 1 (.slice a n c) n l) (hl : LoIs lo k) (hh : HiIs hi n h) (hk : k ≤ h) (hn : h ≤ n) (hc : Cut n c) :
    ∃ a' c', aslice 1 a n c lo hi none = some (.slice a' (h - k) c') ∧ Slv S 1 (.slice a' (h - k) c') (h - k) ((l.drop k).take (h - k)) ∧ Cut (h - k) c' ∧ ∀ x, a' = some x → ∃ y, a = some y ∧ y.block = x.block := by
  have hkn := hc.known
  rw [aslice_at hl hh hk (by omega)]
  have hseg : ∀ {b o : Nat} {r : Row} (c' : Nat), S.row? b = some r → o + n * 1 ≤ r.cells.length → (r.cells.drop o).take (n * 1) = l → (r.ro = none ∨ l.all known = true) →
      Slv S 1 (.slice (some ⟨b, o + k, none⟩) (h - k) c') (h - k) ((l.drop k).take (h - k)) := fun {b o r} c' e2 e3 e4 e5 => by
    have hd : ((r.cells.drop (o + k)).take ((h - k) * 1)) = (l.drop k).take (h - k) := by
      rw [← e4, List.drop_take, List.drop_drop, Nat.mul_one, Nat.mul_one, List.take_take, Nat.min_eq_left (by omega)]
    have := Slv.of (sz := 1) (n := h - k) (o := o + k) (c := c') e2 (by omega) (e5.imp id fun h => by
      rw [hd, List.all_eq_true]; exact fun x hx => List.all_eq_true.1 h x (List.mem_of_mem_drop (List.mem_of_mem_take hx)))
    rwa [hd] at this
  have hnil : h = k → ∀ (a : Option Addr) (c' : Nat), Slv S 1 (.slice a (h - k) c') (h - k) ((l.drop k).take (h - k)) := fun e a c' => by
    rw [e, Nat.sub_self, List.take_zero]; exact Slv.nil _ _ _ _
  obtain ⟨h1, a2, c2, hv, h3⟩ := hs
  cases hv
  by_cases hcu : c < UNK
  · rw [if_pos hcu]
    have hkc : knownCap c = c := if_pos hcu
    refine ⟨if c = k then a else a.map (fun x => Addr.add x (k * 1)), c - k, rfl, ?_, .inl ⟨by omega, by omega⟩, ?_⟩
    · rcases Nat.eq_zero_or_pos (h - k) with h0 | hpos
      · exact hnil (by omega) _ _
      · rw [if_neg (by omega)]
        rcases h3 with h3 | ⟨b, o, r, rfl, q2, q3, q4, q5⟩
        · omega
        simp only [Option.map_some, add_one]
        exact hseg _ q2 q3 q4 q5
    · intro x hx
      split at hx
      · exact ⟨x, hx, rfl⟩
      · cases a with
        | none => cases hx
        | some y =>
          refine ⟨y, rfl, ?_⟩
          simp only [Option.map_some, Option.some.injEq] at hx
          rw [← hx]; unfold Addr.add; split <;> rfl
  · rw [if_neg hcu]
    have hE : Cut 0 UNK := .inr ⟨Nat.le_refl _, Nat.zero_le _⟩
    cases a with
    | none =>
      have hh0 : h = 0 := by
        rcases h3 with h3 | ⟨b, o, r, e, _⟩
        · omega
        · cases e
      rw [if_pos hh0]
      have hk0 : k = 0 := by omega
      subst hh0; subst hk0
      exact ⟨none, UNK, rfl, hnil rfl _ _, hE, nofun⟩
    | some x =>
      by_cases hor : k = 0 ∨ k < knownCap c
      · dsimp only
        rw [if_pos hor]
        refine ⟨some (Addr.add x (k * 1)), UNK + (knownCap c - k), rfl, ?_, .inr ⟨by omega, by rw [knownCap_unk]; omega⟩, ?_⟩
        · rcases Nat.eq_zero_or_pos (h - k) with h0 | hpos
          · exact hnil (by omega) _ _
          · rcases h3 with h3 | ⟨b, o, r, e, q2, q3, q4, q5⟩
            · omega
            cases e
            rw [add_one]
            exact hseg _ q2 q3 q4 q5
        · intro y hy
          cases hy
          refine ⟨x, rfl, ?_⟩
          unfold Addr.add; split <;> rfl
      · dsimp only
        rw [if_neg hor, if_pos (by omega)]
        have hhk : h = k := by omega
        refine ⟨none, UNK, by rw [hhk, Nat.sub_self], hnil hhk _ _, by rw [hhk, Nat.sub_self]; exact hE, nofun⟩
theorem slv_cut {S : Mem} {a : Option Addr} {n c k : Nat} {l : List Value} {lv : Value} {kd : IntKind} (h : Slv S 1 (.slice a n c) n l) (hl : lv = .int kd (k : Int)) (hk : k ≤ n) (hn : 0 < n) (hc : Cut n c) :
    ∃ a' c', aslice 1 a n c (some lv) none none = some (.slice a' (n - k) c') ∧ Slv S 1 (.slice a' (n - k) c') (n - k) (l.drop k) ∧ Cut (n - k) c' ∧ ∀ x, a' = some x → ∃ y, a = some y ∧ y.block = x.block := by
  subst hl
  obtain ⟨a', c', h1, h2, h3, h4⟩ := slv_part h (.inr ⟨kd, rfl⟩) (.inl ⟨rfl, rfl⟩) hk (Nat.le_refl n) hc
  refine ⟨a', c', h1, ?_, h3, h4⟩
  rwa [List.take_of_length_le (by rw [List.length_drop, h.1]; omega)] at h2
theorem Slv.keepb {S S' : Mem} {sz n c b : Nat} {a : Option Addr} {l : List Value} (h : Slv S sz (.slice a n c) n l) (hk : Keep b S S') (hf : ∀ x, a = some x → x.block ≠ b) : Slv S' sz (.slice a n c) n l := by
  obtain ⟨h1, a2, c2, hv, h3⟩ := h
  cases hv
  refine ⟨h1, a, c, rfl, h3.imp id ?_⟩
  rintro ⟨d, o, r, rfl, e2, e3, e4, e5⟩
  exact ⟨d, o, r, rfl, hk.row e2 (hf _ rfl), e3, e4, e5⟩
theorem slv_mid {S : Mem} {a : Option Addr} {n c k h : Nat} {l : List Value} {lv hv : Value} {kd kd' : IntKind} (hs : Slv S 1 (.slice a n c) n l) (hl : lv = .int kd (k : Int)) (hh : hv = .int kd' (h : Int)) (hk : k < h) (hn : h ≤ n) (hc : Cut n c) :
    ∃ a' c', aslice 1 a n c (some lv) (some hv) none = some (.slice a' (h - k) c') ∧ Slv S 1 (.slice a' (h - k) c') (h - k) ((l.drop k).take (h - k)) ∧ ∀ x, a' = some x → ∃ y, a = some y ∧ y.block = x.block := by
  subst hl; subst hh
  obtain ⟨a', c', h1, h2, h3, h4⟩ := slv_part hs (.inr ⟨kd, rfl⟩) (.inr ⟨kd', rfl⟩) (Nat.le_of_lt hk) hn hc
  exact ⟨a', c', h1, h2, h4⟩
def copyOk (P : Program) (t : TypeId) : Bool := match P.underlying t with
  | some (.slice e) => match P.info? e with
    | some i => i.size == 1
    | none => false
  | _ => false
section
variable {P : Program} {G : Nat} {Ext : FuncId → List Value → Mem → Outc → Mem → Prop} {e : Env} {S : Mem} {fl : Bool} {ops : Array Oper} {K : Env → Mem → Prop}
variable {rest : List Oper} {dst : Option Tmp} {ty : TypeId} {pos : String} {af : Array Edge} {gd : Option (Nat × Bool)}
theorem L.cp {td xs : TypeId} {d x : Operand} {b o n c m k : Nat} {r : Row} {xv : Value} {l : List Value} (hr : S.row? b = some r) (hro : r.ro = none) (hlen : o + n ≤ r.cells.length) (hok : copyOk P td = true) (hd : e.eval d = .slice (some ⟨b, o, none⟩) n c) (hxv : e.eval x = xv)
    (hx : Slv S 1 xv m l) (hk : Nat.min m n = k) (hk0 : 0 < k) (h1 : l.all oneCell = true) (hw : awanted ops ⟨dst, .call ⟨.builtin .copy, #[d, x], #[td, xs]⟩, ty, pos, af, gd⟩ e = true)
    (h : L P G Ext fl ops rest (e.put dst (vi k)) (S.set b { r with cells := putFrom r.cells o (l.take k) }) K) :
    L P G Ext fl ops (⟨dst, .call ⟨.builtin .copy, #[d, x], #[td, xs]⟩, ty, pos, af, gd⟩ :: rest) e S K := by
  refine L.eff hw ?_ h
  have hkm : k ≤ m := by rw [← hk]; exact Nat.min_le_left _ _
  have hkn : k ≤ n := by rw [← hk]; exact Nat.min_le_right _ _
  have hf := hx.first hkm
  have hlm : lenOf' xv = some m := by obtain ⟨_, a, c, rfl, _⟩ := hx; rfl
  have hll := hx.1
  unfold copyOk at hok
  split at hok
  · rename_i el hu
    split at hok
    · rename_i i hi
      have hsz : i.size = 1 := by simpa using hok
      simp only [aeff]
      show acopy P td (e.eval d) (e.eval x) S = _
      rw [hd, hxv]
      simp only [acopy, hu, hi, hlm, hk, hsz, hf, Option.bind_some, Nat.mul_one]
      have hne : ¬ l.take k = [] := by
        intro h0
        have := congrArg List.length h0
        rw [List.length_take, List.length_nil] at this
        omega
      rw [if_neg hne, write_of hr hro (by simp; omega) (by rw [List.all_eq_true] at h1 ⊢; exact fun x hx => h1 x (List.mem_of_mem_take hx))]
      rfl
    · cases hok
  · cases hok
end
end Go.Proofs.Yteadbbimikcmgaa
