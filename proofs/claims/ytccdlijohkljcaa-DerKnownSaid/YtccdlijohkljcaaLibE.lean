/- What several proofs share, part 5: a model of memory, contracts of functions. Conditions: none. -/
import Derived.Test.YtccdlijohkljcaaLibD

/- The book from its making to its answer. Conditions: none. -/
set_option linter.unusedSimpArgs false
set_option linter.unusedVariables false
set_option maxRecDepth 100000
namespace Go.Proofs.Ytccdlijohkljcaa
open Go
variable {G : Nat} {Ext : FuncId → List Value → Mem → Outc → Mem → Prop}

/-- a book made after M0, with these lists; nothing of M0 has changed -/
def BK (M0 S : Mem) (rb : Nat) (ws bs : List Hd) : Prop := Cons M0 S ∧ ∃ ps, Book S rb ws bs ps ∧ ∀ r ∈ ps, M0.length ≤ r
theorem BK.new (M0 : Mem) : BK M0 (M0 ++ [newR [.slice none 0 0, .slice none 0 0] 34]) M0.length [] [] :=
  ⟨Cons.push _ _, _, Book.new M0, fun r hm => by simp at hm; omega⟩
theorem BK.step {M0 S S' : Mem} {rb : Nat} {ws' bs' : List Hd} {ps ps' : List Nat} (hc : Cons M0 S) (hp : ∀ r ∈ ps, M0.length ≤ r) (q1 : Book S' rb ws' bs' ps') (q2 : Sub2 S ps ps') (q3 : KeepL ps S S') : BK M0 S' rb ws' bs' :=
  ⟨q3.cons0 hc hp, ps', q1, fun r hm => (q2 r hm).elim (hp r) (fun h => Nat.le_trans hc.len h)⟩
theorem words_BK {M0 S : Mem} {rb : Nat} {ws bs : List Hd} (h : Hd) (hK : BK M0 S rb ws bs) (hn : ws.length < 1000000) : C Try.prog G Ext 30 [.pointer (some ⟨rb, 0, none⟩), h.v] S fun v S' => BK M0 S' rb (ws ++ [h]) bs := by
  obtain ⟨hc, ps, hB, hp⟩ := hK
  obtain ⟨v, S', h1, ps', q1, q2, q3⟩ := words_C (G := G) (Ext := Ext) S h rb ws bs ps hB hn
  exact ⟨v, S', h1, .step hc hp q1 q2 q3⟩
theorem bytes_BK {M0 S : Mem} {rb : Nat} {ws bs : List Hd} (h : Hd) (hK : BK M0 S rb ws bs) (hn : bs.length < 1000000) : C Try.prog G Ext 22 [.pointer (some ⟨rb, 0, none⟩), h.v] S fun v S' => BK M0 S' rb ws (bs ++ [h]) := by
  obtain ⟨hc, ps, hB, hp⟩ := hK
  obtain ⟨v, S', h1, ps', q1, q2, q3⟩ := bytes_C (G := G) (Ext := Ext) S h rb ws bs ps hB hn
  exact ⟨v, S', h1, .step hc hp q1 q2 q3⟩
theorem Alive.nil (S : Mem) (el : TypeId) : Alive S el [] := fun i h hi => by simp at hi
theorem Alive.add {S : Mem} {el : TypeId} {d : Hd} {ds : List Hd} {l : List Value} (h : HdOk S el d l) (hn : l.length ≤ 1000000000000) (t : Alive S el ds) : Alive S el (d :: ds) := fun i x hi => by
  cases i with
  | zero => cases hi; exact ⟨by have := h.len; omega, l, h⟩
  | succ i => exact t i x hi
theorem Own.nil : Own [] := fun i j h d b hi => by simp at hi
theorem Own.add {d : Hd} {ds : List Hd} (h : ∀ b, d.a = some b → b ∉ blks ds) (t : Own ds) : Own (d :: ds) := fun i j x y b hi hj ex ey => by
  cases i with
  | zero =>
    cases hi
    cases j with
    | zero => rfl
    | succ j => exact absurd (blks_mem (k := j) hj ey) (h b ex)
  | succ i =>
    cases j with
    | zero => cases hj; exact absurd (blks_mem (k := i) hi ex) (h b ey)
    | succ j => exact congrArg (· + 1) (t i j x y b hi hj ex ey)
theorem blks_nil : blks [] = [] := rfl
theorem mem_blks {d : Hd} {ds : List Hd} {b : Nat} : b ∈ blks (d :: ds) ↔ d.a = some b ∨ b ∈ blks ds := by
  unfold blks
  rw [List.filterMap_cons]
  cases h : d.a with
  | none => simp
  | some x => simp; exact or_congr_left eq_comm
theorem Alive.lt {S : Mem} {el : TypeId} {hs : List Hd} (h : Alive S el hs) {b : Nat} (hb : b ∈ blks hs) : b < S.length := by
  obtain ⟨k, d, h1, h2⟩ := blks_at hb
  obtain ⟨_, l, h3⟩ := h k d h1
  exact h3.lt h2
theorem apart_BK {M0 S : Mem} {rb : Nat} {ws bs : List Hd} (hK : BK M0 S rb ws bs) (hn : ws.length < 1000000 ∧ bs.length < 1000000) (hAws : Alive M0 56 ws) (hAbs : Alive M0 5 bs) (hOws : Own ws) (hObs : Own bs) (hdd : ∀ b ∈ blks ws, b ∉ blks bs) :
    C Try.prog G Ext 15 [.pointer (some ⟨rb, 0, none⟩)] S fun v S' => v = .bool true ∧ KeepL (blks ws ++ blks bs) M0 S' := by
  obtain ⟨hc, ps, hB, hp⟩ := hK
  obtain ⟨v, S', h1, h2, h3⟩ := apart_C (G := G) (Ext := Ext) S rb ws bs ps hB hn (hAws.keep (hc.keepL []) (by simp)) (hAbs.keep (hc.keepL []) (by simp)) hOws hObs (fun b hb hm => by have := hAws.lt hb; have := hp b hm; omega) (fun b hb hm => by have := hAbs.lt hb; have := hp b hm; omega) hdd
  exact ⟨v, S', h1, h2, (hc.keepL _).trans h3⟩
end Go.Proofs.Ytccdlijohkljcaa

/- Keys: compared, lent, kept. Conditions: none. -/
set_option linter.unusedSimpArgs false
set_option linter.unusedVariables false
set_option maxRecDepth 100000
namespace Go.Proofs.Ytccdlijohkljcaa
open Go
variable {G : Nat} {Ext : FuncId → List Value → Mem → Outc → Mem → Prop}

def keyV (u v : Value) : Value := .agg #[u, v]
def keyR (u v : Value) : Row := newR [u, v] 26
theorem sameKey_C (a1 a2 a3 a4 : Option Addr) (n1 n2 n3 n4 c1 c2 c3 c4 : Nat) (l1 l2 m1 m2 : WL) (S : Mem) (h1 : Slv S 1 (.slice a1 n1 c1) n1 (wv l1)) (h2 : Slv S 1 (.slice a2 n2 c2) n2 (wv l2)) (h3 : Slv S 1 (.slice a3 n3 c3) n3 (wv m1)) (h4 : Slv S 1 (.slice a4 n4 c4) n4 (wv m2))
    (k1 : n1 < 1099511627776) (k2 : n2 < 1099511627776) (k3 : n3 < 1099511627776) (k4 : n4 < 1099511627776) :
    C Try.prog G Ext 13 [keyV (.slice a1 n1 c1) (.slice a2 n2 c2), keyV (.slice a3 n3 c3) (.slice a4 n4 c4)] S fun v S' => v = .bool (l1 == m1 && l2 == m2) ∧ Cons S S' := by
  refine C.fn Try.func13 rfl (by kernel_rfl) rfl ?_
  repeat (first | refine W.seq ?_ | refine W.block ?_ | refine W.reg ?_ | refine W.skip ?_ | refine W.exit ?_ | refine W.ret ?_ | refine L.nil ?_ | refine L.p rfl rfl ?_ | refine L.skip rfl ?_)
  refine L.eff (v := .pointer (some ⟨S.length, 0, none⟩)) (S1 := S ++ [keyR (.slice a1 n1 c1) (.slice a2 n2 c2)]) rfl rfl ?_
  have hC : Cons S (S ++ [keyR (.slice a1 n1 c1) (.slice a2 n2 c2)]) := Cons.push _ _
  have hr : Mem.row? (S ++ [keyR (.slice a1 n1 c1) (.slice a2 n2 c2)]) S.length = some (keyR (.slice a1 n1 c1) (.slice a2 n2 c2)) := row_push_new rfl
  generalize S ++ [keyR (.slice a1 n1 c1) (.slice a2 n2 c2)] = K at *
  refine L.eff (v := .pointer (some ⟨K.length, 0, none⟩)) (S1 := K ++ [keyR (.slice a3 n3 c3) (.slice a4 n4 c4)]) rfl rfl ?_
  have hC2 : Cons K (K ++ [keyR (.slice a3 n3 c3) (.slice a4 n4 c4)]) := Cons.push _ _
  have hr2 : Mem.row? (K ++ [keyR (.slice a3 n3 c3) (.slice a4 n4 c4)]) K.length = some (keyR (.slice a3 n3 c3) (.slice a4 n4 c4)) := row_push_new rfl
  have hr1 := Cons.row (h := hC2) hr
  generalize K ++ [keyR (.slice a3 n3 c3) (.slice a4 n4 c4)] = M at *
  have hM := hC.trans hC2
  repeat (first | refine W.seq ?_ | refine W.block ?_ | refine W.reg ?_ | refine W.skip ?_ | refine W.exit ?_ | refine W.ret ?_ | refine L.nil ?_ | refine L.p rfl rfl ?_ | refine L.skip rfl ?_)
  refine L.ld (a := ⟨S.length, 0, none⟩) (v := .slice a1 n1 c1) (cell_of hr1 rfl (.inl rfl)) rfl rfl rfl ?_
  repeat (first | refine W.seq ?_ | refine W.block ?_ | refine W.reg ?_ | refine W.skip ?_ | refine W.exit ?_ | refine W.ret ?_ | refine L.nil ?_ | refine L.p rfl rfl ?_ | refine L.skip rfl ?_)
  refine L.ld (a := ⟨K.length, 0, none⟩) (v := .slice a3 n3 c3) (cell_of hr2 rfl (.inl rfl)) rfl rfl rfl ?_
  repeat (first | refine W.seq ?_ | refine W.block ?_ | refine W.reg ?_ | refine W.skip ?_ | refine W.exit ?_ | refine W.ret ?_ | refine L.nil ?_ | refine L.p rfl rfl ?_ | refine L.skip rfl ?_)
  refine L.cl (sameW_C _ _ l1 m1 n1 n3 M (h1.cons hM) (h3.cons hM) k1 k3) rfl rfl ?_
  rintro _ _ ⟨rfl, hS⟩
  have hS2 := hS.symm
  subst hS2
  clear hS
  refine ⟨nofun, ?_⟩
  repeat (first | refine W.seq ?_ | refine W.block ?_ | refine W.reg ?_ | refine W.skip ?_ | refine W.exit ?_ | refine W.ret ?_ | refine L.nil ?_ | refine L.p rfl rfl ?_ | refine L.skip rfl ?_)
  cases hq : (l1 == m1)
  · repeat (first | refine W.seq ?_ | refine W.block ?_ | refine W.reg ?_ | refine W.skip ?_ | refine W.exit ?_ | refine W.ret ?_ | refine L.nil ?_ | refine L.p rfl rfl ?_ | refine L.skip rfl ?_)
    exact ⟨.inr rfl, _, rfl, rfl, hM⟩
  repeat (first | refine W.seq ?_ | refine W.block ?_ | refine W.reg ?_ | refine W.skip ?_ | refine W.exit ?_ | refine W.ret ?_ | refine L.nil ?_ | refine L.p rfl rfl ?_ | refine L.skip rfl ?_)
  refine L.ld (a := ⟨S.length, 1, none⟩) (v := .slice a2 n2 c2) (cell_of hr1 rfl (.inl rfl)) rfl rfl rfl ?_
  repeat (first | refine W.seq ?_ | refine W.block ?_ | refine W.reg ?_ | refine W.skip ?_ | refine W.exit ?_ | refine W.ret ?_ | refine L.nil ?_ | refine L.p rfl rfl ?_ | refine L.skip rfl ?_)
  refine L.ld (a := ⟨K.length, 1, none⟩) (v := .slice a4 n4 c4) (cell_of hr2 rfl (.inl rfl)) rfl rfl rfl ?_
  repeat (first | refine W.seq ?_ | refine W.block ?_ | refine W.reg ?_ | refine W.skip ?_ | refine W.exit ?_ | refine W.ret ?_ | refine L.nil ?_ | refine L.p rfl rfl ?_ | refine L.skip rfl ?_)
  refine L.cl (sameW_C _ _ l2 m2 n2 n4 M (h2.cons hM) (h4.cons hM) k2 k4) rfl rfl ?_
  rintro _ _ ⟨rfl, hS⟩
  have hS2 := hS.symm
  subst hS2
  clear hS
  refine ⟨nofun, ?_⟩
  repeat (first | refine W.seq ?_ | refine W.block ?_ | refine W.reg ?_ | refine W.skip ?_ | refine W.exit ?_ | refine W.ret ?_ | refine L.nil ?_ | refine L.p rfl rfl ?_ | refine L.skip rfl ?_)
  exact ⟨.inr rfl, _, rfl, by rw [Bool.true_and]; rfl, hM⟩
/-- a list that is lent: its row -/
def LentW (S : Mem) (b : Nat) (l : WL) : Prop := S.row? b = some (grownR (wv (l ++ marksW 16)) 56 1)
def lentV (b : Nat) (l : WL) : Value := .slice (some ⟨b, 0, none⟩) l.length (UNK + (l.length + 16))
theorem LentW.slv {S : Mem} {b : Nat} {l : WL} (h : LentW S b l) : Slv S 1 (lentV b l) l.length (wv l) := by
  have := Slv.of (sz := 1) (n := l.length) (o := 0) (c := UNK + (l.length + 16)) h (by simp [grownR, wv]) (.inl rfl)
  rwa [List.drop_zero, show ((grownR (wv (l ++ marksW 16)) 56 1).cells.take (l.length * 1)) = wv l by simp [grownR, wv]] at this
theorem lentKey_C (v1 v2 : Value) (l1 l2 : WL) (S : Mem) (h1 : Slv S 1 v1 l1.length (wv l1)) (h2 : Slv S 1 v2 l2.length (wv l2)) (n1 : l1.length < 4294967296) (n2 : l2.length < 4294967296) :
    C Try.prog G Ext 18 [keyV v1 v2] S fun v S' => Cons S S' ∧ ∃ b1 b2, v = keyV (lentV b1 l1) (lentV b2 l2) ∧ S.length ≤ b1 ∧ S.length ≤ b2 ∧ b1 ≠ b2 ∧ LentW S' b1 l1 ∧ LentW S' b2 l2 := by
  obtain ⟨_, a1, c1, rfl, _⟩ := id h1
  obtain ⟨_, a2, c2, rfl, _⟩ := id h2
  refine C.fn Try.func18 rfl (by kernel_rfl) rfl ?_
  repeat (first | refine W.seq ?_ | refine W.block ?_ | refine W.reg ?_ | refine W.skip ?_ | refine W.exit ?_ | refine W.ret ?_ | refine L.nil ?_ | refine L.p rfl rfl ?_ | refine L.skip rfl ?_)
  refine L.eff (v := .pointer (some ⟨S.length, 0, none⟩)) (S1 := S ++ [keyR (.slice a1 l1.length c1) (.slice a2 l2.length c2)]) rfl rfl ?_
  have hC : Cons S (S ++ [keyR (.slice a1 l1.length c1) (.slice a2 l2.length c2)]) := Cons.push _ _
  have hr : Mem.row? (S ++ [keyR (.slice a1 l1.length c1) (.slice a2 l2.length c2)]) S.length = some (keyR (.slice a1 l1.length c1) (.slice a2 l2.length c2)) := row_push_new rfl
  generalize S ++ [keyR (.slice a1 l1.length c1) (.slice a2 l2.length c2)] = K at *
  refine L.eff (v := .pointer (some ⟨K.length, 0, none⟩)) (S1 := K ++ [keyR (.slice none 0 0) (.slice none 0 0)]) rfl rfl ?_
  have hC2 : Cons K (K ++ [keyR (.slice none 0 0) (.slice none 0 0)]) := Cons.push _ _
  have hr2 : Mem.row? (K ++ [keyR (.slice none 0 0) (.slice none 0 0)]) K.length = some (keyR (.slice none 0 0) (.slice none 0 0)) := row_push_new rfl
  have hr1 := Cons.row (h := hC2) hr
  generalize K ++ [keyR (.slice none 0 0) (.slice none 0 0)] = M at *
  have hM := hC.trans hC2
  have hltK := row_lt hr2
  have hltS := row_lt hr
  repeat (first | refine W.seq ?_ | refine W.block ?_ | refine W.reg ?_ | refine W.skip ?_ | refine W.exit ?_ | refine W.ret ?_ | refine L.nil ?_ | refine L.p rfl rfl ?_ | refine L.skip rfl ?_)
  refine L.ld (a := ⟨S.length, 0, none⟩) (v := .slice a1 l1.length c1) (cell_of hr1 rfl (.inl rfl)) rfl rfl rfl ?_
  repeat (first | refine W.seq ?_ | refine W.block ?_ | refine W.reg ?_ | refine W.skip ?_ | refine W.exit ?_ | refine W.ret ?_ | refine L.nil ?_ | refine L.p rfl rfl ?_ | refine L.skip rfl ?_)
  refine L.cl (lentW_C _ l1 M (h1.cons hM) n1) rfl rfl ?_
  rintro _ M1 ⟨k1, b1, hb1, rfl, hw1⟩
  refine ⟨fun _ => k1, ?_⟩
  repeat (first | refine W.seq ?_ | refine W.block ?_ | refine W.reg ?_ | refine W.skip ?_ | refine W.exit ?_ | refine W.ret ?_ | refine L.nil ?_ | refine L.p rfl rfl ?_ | refine L.skip rfl ?_)
  refine L.ld (a := ⟨S.length, 1, none⟩) (v := .slice a2 l2.length c2) (cell_of (Cons.row (h := k1) hr1) rfl (.inl rfl)) rfl rfl rfl ?_
  repeat (first | refine W.seq ?_ | refine W.block ?_ | refine W.reg ?_ | refine W.skip ?_ | refine W.exit ?_ | refine W.ret ?_ | refine L.nil ?_ | refine L.p rfl rfl ?_ | refine L.skip rfl ?_)
  refine L.cl (lentW_C _ l2 M1 ((h2.cons hM).cons k1) n2) rfl rfl ?_
  rintro _ M2 ⟨k2, b2, hb2, rfl, hw2⟩
  refine ⟨fun _ => k2, ?_⟩
  repeat (first | refine W.seq ?_ | refine W.block ?_ | refine W.reg ?_ | refine W.skip ?_ | refine W.exit ?_ | refine W.ret ?_ | refine L.nil ?_ | refine L.p rfl rfl ?_ | refine L.skip rfl ?_)
  refine L.bd #[lentV b1 l1, lentV b2 l2] rfl rfl rfl rfl rfl ?_
  have hrK : M2.row? K.length = some (keyR (.slice none 0 0) (.slice none 0 0)) := Cons.row (h := k1.trans k2) hr2
  have hlb1 := row_lt hw1
  refine L.st (ad := ⟨K.length, 0, none⟩) (vs := [lentV b1 l1, lentV b2 l2]) (write_of (o := 0) hrK rfl (Nat.le_refl 2) rfl) rfl rfl rfl rfl ?_
  have hF1 : Cons S (List.set M2 K.length { keyR (.slice none 0 0) (.slice none 0 0) with cells := putFrom (keyR (.slice none 0 0) (.slice none 0 0)).cells 0 [lentV b1 l1, lentV b2 l2] }) := (hM.trans (k1.trans k2)).set _ _ (by omega)
  have hF2 : Mem.row? (List.set M2 K.length { keyR (.slice none 0 0) (.slice none 0 0) with cells := putFrom (keyR (.slice none 0 0) (.slice none 0 0)).cells 0 [lentV b1 l1, lentV b2 l2] }) K.length = some (keyR (lentV b1 l1) (lentV b2 l2)) := by rw [row_set_same hrK rfl]; rfl
  have hF3 : LentW (List.set M2 K.length { keyR (.slice none 0 0) (.slice none 0 0) with cells := putFrom (keyR (.slice none 0 0) (.slice none 0 0)).cells 0 [lentV b1 l1, lentV b2 l2] }) b1 l1 := by
    unfold LentW; rw [row_set_other _ (by omega)]; exact Cons.row (h := k2) hw1
  have hF4 : LentW (List.set M2 K.length { keyR (.slice none 0 0) (.slice none 0 0) with cells := putFrom (keyR (.slice none 0 0) (.slice none 0 0)).cells 0 [lentV b1 l1, lentV b2 l2] }) b2 l2 := by
    unfold LentW; rw [row_set_other _ (by have := k1.len; omega)]; exact hw2
  generalize List.set M2 K.length _ = F at *
  repeat (first | refine W.seq ?_ | refine W.block ?_ | refine W.reg ?_ | refine W.skip ?_ | refine W.exit ?_ | refine W.ret ?_ | refine L.nil ?_ | refine L.p rfl rfl ?_ | refine L.skip rfl ?_)
  refine ⟨.inr rfl, keyV (lentV b1 l1) (lentV b2 l2), ?_, hF1, b1, b2, rfl, by have := hM.len; omega, by have := hM.len; have := k1.len; omega, by omega, hF3, hF4⟩
  have h1 : aloadAt Try.prog 26 (.pointer (some ⟨K.length, 0, none⟩)) F = some (.agg #[lentV b1 l1, lentV b2 l2]) := aload_agg rfl rfl (cellsAt_of (o := 0) (n := 2) hF2 (Nat.le_refl 2))
  exact h1
theorem keptKey_C (v1 v2 : Value) (b1 b2 : Nat) (l1 l2 : WL) (S : Mem) (w1 : LentW S b1 l1) (w2 : LentW S b2 l2) (h1 : Slv S 1 v1 l1.length (wv l1)) (h2 : Slv S 1 v2 l2.length (wv l2)) (n1 : l1.length < 4294967296) (n2 : l2.length < 4294967296) :
    C Try.prog G Ext 23 [keyV (lentV b1 l1) (lentV b2 l2), keyV v1 v2] S fun v S' => v = .bool true ∧ Cons S S' := by
  obtain ⟨_, a1, c1, rfl, _⟩ := id h1
  obtain ⟨_, a2, c2, rfl, _⟩ := id h2
  refine C.fn Try.func23 rfl (by kernel_rfl) rfl ?_
  repeat (first | refine W.seq ?_ | refine W.block ?_ | refine W.reg ?_ | refine W.skip ?_ | refine W.exit ?_ | refine W.ret ?_ | refine L.nil ?_ | refine L.p rfl rfl ?_ | refine L.skip rfl ?_)
  refine L.eff (v := .pointer (some ⟨S.length, 0, none⟩)) (S1 := S ++ [keyR (lentV b1 l1) (lentV b2 l2)]) rfl rfl ?_
  have hC : Cons S (S ++ [keyR (lentV b1 l1) (lentV b2 l2)]) := Cons.push _ _
  have hr : Mem.row? (S ++ [keyR (lentV b1 l1) (lentV b2 l2)]) S.length = some (keyR (lentV b1 l1) (lentV b2 l2)) := row_push_new rfl
  generalize S ++ [keyR (lentV b1 l1) (lentV b2 l2)] = K at *
  refine L.eff (v := .pointer (some ⟨K.length, 0, none⟩)) (S1 := K ++ [keyR (.slice a1 l1.length c1) (.slice a2 l2.length c2)]) rfl rfl ?_
  have hC2 : Cons K (K ++ [keyR (.slice a1 l1.length c1) (.slice a2 l2.length c2)]) := Cons.push _ _
  have hr2 : Mem.row? (K ++ [keyR (.slice a1 l1.length c1) (.slice a2 l2.length c2)]) K.length = some (keyR (.slice a1 l1.length c1) (.slice a2 l2.length c2)) := row_push_new rfl
  have hr1 := Cons.row (h := hC2) hr
  generalize K ++ [keyR (.slice a1 l1.length c1) (.slice a2 l2.length c2)] = M at *
  have hM := hC.trans hC2
  repeat (first | refine W.seq ?_ | refine W.block ?_ | refine W.reg ?_ | refine W.skip ?_ | refine W.exit ?_ | refine W.ret ?_ | refine L.nil ?_ | refine L.p rfl rfl ?_ | refine L.skip rfl ?_)
  refine L.ld (a := ⟨S.length, 0, none⟩) (v := lentV b1 l1) (cell_of hr1 rfl (.inl rfl)) rfl rfl rfl ?_
  repeat (first | refine W.seq ?_ | refine W.block ?_ | refine W.reg ?_ | refine W.skip ?_ | refine W.exit ?_ | refine W.ret ?_ | refine L.nil ?_ | refine L.p rfl rfl ?_ | refine L.skip rfl ?_)
  refine L.ld (a := ⟨K.length, 0, none⟩) (v := .slice a1 l1.length c1) (cell_of hr2 rfl (.inl rfl)) rfl rfl rfl ?_
  repeat (first | refine W.seq ?_ | refine W.block ?_ | refine W.reg ?_ | refine W.skip ?_ | refine W.exit ?_ | refine W.ret ?_ | refine L.nil ?_ | refine L.p rfl rfl ?_ | refine L.skip rfl ?_)
  refine L.cl (keptW_C _ l1 b1 _ M (Cons.row (h := hM) w1) rfl rfl (h1.cons hM) n1) rfl rfl ?_
  rintro _ _ ⟨rfl, hS⟩
  have hS2 := hS.symm
  subst hS2
  clear hS
  refine ⟨nofun, ?_⟩
  repeat (first | refine W.seq ?_ | refine W.block ?_ | refine W.reg ?_ | refine W.skip ?_ | refine W.exit ?_ | refine W.ret ?_ | refine L.nil ?_ | refine L.p rfl rfl ?_ | refine L.skip rfl ?_)
  refine L.ld (a := ⟨S.length, 1, none⟩) (v := lentV b2 l2) (cell_of hr1 rfl (.inl rfl)) rfl rfl rfl ?_
  repeat (first | refine W.seq ?_ | refine W.block ?_ | refine W.reg ?_ | refine W.skip ?_ | refine W.exit ?_ | refine W.ret ?_ | refine L.nil ?_ | refine L.p rfl rfl ?_ | refine L.skip rfl ?_)
  refine L.ld (a := ⟨K.length, 1, none⟩) (v := .slice a2 l2.length c2) (cell_of hr2 rfl (.inl rfl)) rfl rfl rfl ?_
  repeat (first | refine W.seq ?_ | refine W.block ?_ | refine W.reg ?_ | refine W.skip ?_ | refine W.exit ?_ | refine W.ret ?_ | refine L.nil ?_ | refine L.p rfl rfl ?_ | refine L.skip rfl ?_)
  refine L.cl (keptW_C _ l2 b2 _ M (Cons.row (h := hM) w2) rfl rfl (h2.cons hM) n2) rfl rfl ?_
  rintro _ _ ⟨rfl, hS⟩
  have hS2 := hS.symm
  subst hS2
  clear hS
  refine ⟨nofun, ?_⟩
  repeat (first | refine W.seq ?_ | refine W.block ?_ | refine W.reg ?_ | refine W.skip ?_ | refine W.exit ?_ | refine W.ret ?_ | refine L.nil ?_ | refine L.p rfl rfl ?_ | refine L.skip rfl ?_)
  exact ⟨.inr rfl, _, rfl, rfl, hM⟩
end Go.Proofs.Ytccdlijohkljcaa

/- A book takes a key. Conditions: none. -/
set_option linter.unusedSimpArgs false
set_option linter.unusedVariables false
set_option maxRecDepth 100000
namespace Go.Proofs.Ytccdlijohkljcaa
open Go
variable {G : Nat} {Ext : FuncId → List Value → Mem → Outc → Mem → Prop}

/-- only what is there may be its own -/
theorem Book.trim {S : Mem} {rb : Nat} {ws bs : List Hd} {ps : List Nat} (h : Book S rb ws bs ps) : Book S rb ws bs (ps.filter (· < S.length)) := by
  obtain ⟨hw, hb, h1, h2, h3, h4, h5, h6⟩ := h
  refine ⟨hw, hb, h1, h2, h3, by simp [h4, row_lt h1], fun b e => ⟨by simp [(h5 b e).1, h2.lt e], (h5 b e).2⟩, fun b e => ⟨by simp [(h6 b e).1, h3.lt e], (h6 b e).2⟩⟩
theorem bookKey_C (S : Mem) (d1 d2 : Hd) (rb : Nat) (ws bs : List Hd) (ps : List Nat) (hB : Book S rb ws bs ps) (hn : ws.length < 900000) :
    C Try.prog G Ext 14 [.pointer (some ⟨rb, 0, none⟩), keyV d1.v d2.v] S fun v S' => ∃ ps', Book S' rb (ws ++ [d1] ++ [d2]) bs ps' ∧ Sub2 S ps ps' ∧ KeepL ps S S' := by
  refine C.fn Try.func14 rfl (by kernel_rfl) rfl ?_
  repeat (first | refine W.seq ?_ | refine W.block ?_ | refine W.reg ?_ | refine W.skip ?_ | refine W.exit ?_ | refine W.ret ?_ | refine L.nil ?_ | refine L.p rfl rfl ?_ | refine L.skip rfl ?_)
  refine L.eff (v := .pointer (some ⟨S.length, 0, none⟩)) (S1 := S ++ [keyR d1.v d2.v]) rfl rfl ?_
  have hC : Cons S (S ++ [keyR d1.v d2.v]) := Cons.push _ _
  have hr : Mem.row? (S ++ [keyR d1.v d2.v]) S.length = some (keyR d1.v d2.v) := row_push_new rfl
  have hlK : (S ++ [keyR d1.v d2.v]).length = S.length + 1 := by simp
  generalize S ++ [keyR d1.v d2.v] = K at *
  have hB1 := hB.trim.cons hC
  have hsub : ∀ r ∈ ps.filter (· < S.length), r ∈ ps ∧ r < S.length := fun r hm => by simpa using hm
  repeat (first | refine W.seq ?_ | refine W.block ?_ | refine W.reg ?_ | refine W.skip ?_ | refine W.exit ?_ | refine W.ret ?_ | refine L.nil ?_ | refine L.p rfl rfl ?_ | refine L.skip rfl ?_)
  refine L.ld (a := ⟨S.length, 0, none⟩) (v := d1.v) (cell_of hr rfl (.inl rfl)) rfl rfl rfl ?_
  repeat (first | refine W.seq ?_ | refine W.block ?_ | refine W.reg ?_ | refine W.skip ?_ | refine W.exit ?_ | refine W.ret ?_ | refine L.nil ?_ | refine L.p rfl rfl ?_ | refine L.skip rfl ?_)
  refine L.cl (words_C K d1 rb ws bs _ hB1 (by omega)) rfl rfl ?_
  rintro _ K1 ⟨ps1, q1, q2, q3⟩
  refine ⟨nofun, ?_⟩
  have hr1 := q3.row hr (fun hm => by have := (hsub _ hm).2; omega)
  repeat (first | refine W.seq ?_ | refine W.block ?_ | refine W.reg ?_ | refine W.skip ?_ | refine W.exit ?_ | refine W.ret ?_ | refine L.nil ?_ | refine L.p rfl rfl ?_ | refine L.skip rfl ?_)
  refine L.ld (a := ⟨S.length, 1, none⟩) (v := d2.v) (cell_of hr1 rfl (.inl rfl)) rfl rfl rfl ?_
  repeat (first | refine W.seq ?_ | refine W.block ?_ | refine W.reg ?_ | refine W.skip ?_ | refine W.exit ?_ | refine W.ret ?_ | refine L.nil ?_ | refine L.p rfl rfl ?_ | refine L.skip rfl ?_)
  refine L.cl (words_C K1 d2 rb _ bs ps1 q1 (by simp; omega)) rfl rfl ?_
  rintro _ K2 ⟨ps2, u1, u2, u3⟩
  refine ⟨nofun, ?_⟩
  repeat (first | refine W.seq ?_ | refine W.block ?_ | refine W.reg ?_ | refine W.skip ?_ | refine W.exit ?_ | refine W.ret ?_ | refine L.nil ?_ | refine L.p rfl rfl ?_ | refine L.skip rfl ?_)
  refine ⟨.inl rfl, _, rfl, ps2, u1, fun r hm => ?_, ?_⟩
  · rcases u2 r hm with h | h
    · rcases q2 r h with h | h
      · exact .inl (hsub r h).1
      · exact .inr (by omega)
    · exact .inr (by have := q3.1; omega)
  · have k1 : KeepL ps S K1 := ((hC.keepL ps).trans (q3.mono fun r hm => (hsub r hm).1))
    refine k1.then u3 fun r hm => ?_
    rcases q2 r hm with h | h
    · exact .inl (hsub r h).1
    · exact .inr (by omega)
theorem key_BK {M0 S : Mem} {rb : Nat} {ws bs : List Hd} (d1 d2 : Hd) (hK : BK M0 S rb ws bs) (hn : ws.length < 900000) : C Try.prog G Ext 14 [.pointer (some ⟨rb, 0, none⟩), keyV d1.v d2.v] S fun v S' => BK M0 S' rb (ws ++ [d1] ++ [d2]) bs := by
  obtain ⟨hc, ps, hB, hp⟩ := hK
  obtain ⟨v, S', h1, ps', q1, q2, q3⟩ := bookKey_C (G := G) (Ext := Ext) S d1 d2 rb ws bs ps hB hn
  exact ⟨v, S', h1, .step hc hp q1 q2 q3⟩
end Go.Proofs.Ytccdlijohkljcaa

/- Layer 7: what the laws share. Conditions: none. -/
set_option linter.unusedSimpArgs false
set_option linter.unusedVariables false
set_option maxRecDepth 100000
namespace Go.Proofs.Ytccdlijohkljcaa
open Go
variable {G : Nat} {Ext : FuncId → List Value → Mem → Outc → Mem → Prop}

theorem set_push' (S : Mem) (x y : Row) : List.set (S ++ [x]) S.length y = S ++ [y] := by rw [List.set_append_right _ _ (Nat.le_refl _)]; simp
/-- a variable that holds a key -/
theorem key_write (S : Mem) (u v : Value) (h : oneCell u = true) (h' : oneCell v = true) : Mem.write (S ++ [newR [nilV, nilV] 26]) ⟨S.length, 0, none⟩ [u, v] = some (S ++ [keyR u v]) := by
  rw [write_of (o := 0) (l := [u, v]) (row_push_new (x := newR [nilV, nilV] 26) rfl) rfl (Nat.le_refl 2) (by simp [h, h']), set_push']
  rfl
theorem key_load {S : Mem} {b : Nat} {u v : Value} (hr : S.row? b = some (keyR u v)) : S.cellsAt ⟨b, 0, none⟩ 2 = some [u, v] := by
  unfold Mem.cellsAt
  simp only [hr]
  rw [if_pos ⟨trivial, by simp [keyR, newR], .inl rfl⟩]
  rfl
theorem RetW.win {S S' : Mem} {d : Hd} {l : WL} (h : RetW S S' d l) : WIn S' d.ad d.c l := h.own.1.1
theorem BIn.lent {S : Mem} {b : Nat} {l x : BL} (h : S.row? b = some (grownR (bv (l ++ x)) 5 1)) (hx : x.length = 16) (hl : l.length < 1099511627776) : BIn S (some ⟨b, 0, none⟩) (UNK + (l.length + 16)) l := by
  refine ⟨?_, .inr ⟨by omega, by rw [knownCap_unk]; omega⟩, hl⟩
  have := Slv.of (sz := 1) (n := l.length) (o := 0) (c := UNK + (l.length + 16)) h (by simp [grownR, bv_len]) (.inl rfl)
  rwa [show ((grownR (bv (l ++ x)) 5 1).cells.drop 0).take (l.length * 1) = bv l by
    show ((bv (l ++ x)).drop 0).take _ = _
    rw [List.drop_zero, Nat.mul_one, bv_app, List.take_append_of_le_length (by rw [bv_len]; exact Nat.le_refl _), List.take_of_length_le (by rw [bv_len]; exact Nat.le_refl _)]] at this
theorem BIn.fresh (S : Mem) (l : BL) (hl : l.length < 1099511627776) : BIn (S ++ [newR (bv l) 5]) (some ⟨S.length, 0, none⟩) l.length l :=
  ⟨Slv.all (row_push_new rfl) rfl (by simp [newR, bv_len]), .inl ⟨by unfold UNK; omega, Nat.le_refl _⟩, hl⟩
theorem bytes_of (zs : List Int) (len : Nat) (hwf : ∀ n ∈ zs, (Lit.int .u8 n).wf = true) (hl : (zs.take len).length = len) : ∃ l : BL, l.length = len ∧ bv l = (zs.take len).map (Value.int .u8) := by
  refine ⟨(zs.take len).map (BitVec.ofInt 8), by rw [List.length_map, hl], ?_⟩
  unfold bv
  rw [List.map_map]
  refine List.map_congr_left fun n hn => ?_
  have h := hwf n (List.mem_of_mem_take hn)
  have hx : 0 ≤ n ∧ n ≤ 255 := by simpa [Lit.wf, IntKind.min, IntKind.max, IntKind.signed, IntKind.bits] using h
  show v8 (BitVec.ofInt 8 n) = _
  rw [v8, ← wrap_u8, wrapU8 (by omega) (by omega)]
theorem words_of (zs : List Int) (len : Nat) (hwf : ∀ n ∈ zs, (Lit.int .u64 n).wf = true) (hl : (zs.take len).length = len) : ∃ l : WL, l.length = len ∧ wv l = (zs.take len).map (Value.int .u64) := by
  refine ⟨(zs.take len).map (BitVec.ofInt 64), by rw [List.length_map, hl], ?_⟩
  unfold wv
  rw [List.map_map]
  refine List.map_congr_left fun n hn => ?_
  have h := hwf n (List.mem_of_mem_take hn)
  have hx : 0 ≤ n ∧ n ≤ 18446744073709551615 := by simpa [Lit.wf, IntKind.min, IntKind.max, IntKind.signed, IntKind.bits] using h
  show v64 (BitVec.ofInt 64 n) = _
  rw [v64, ← wrap_u64, wrapU64 (by omega) (by omega)]
def okIs {α : Type} [DecidableEq α] (r : Except Int α) (x : α) : Bool := match r with
  | .ok y => decide (y = x)
  | .error _ => false
theorem of_okIs {α : Type} [DecidableEq α] {r : Except Int α} {x : α} (h : okIs r x = true) : r = .ok x := by
  unfold okIs at h
  split at h
  · rw [of_decide_eq_true h]
  · cases h
def errIs {α : Type} (r : Except Int α) (x : Int) : Bool := match r with
  | .ok _ => false
  | .error y => decide (y = x)
theorem of_errIs {α : Type} {r : Except Int α} {x : Int} (h : errIs r x = true) : r = .error x := by
  unfold errIs at h
  split at h
  · cases h
  · rw [of_decide_eq_true h]
def wb : BL := [48#8, 7#8, 2#8, 2#8, 0#8, 128#8, 2#8, 1#8, 3#8]
theorem wb_key : keyS wb = .ok ([128#64], [3#64]) := of_okIs (by decide +kernel)
theorem wb_enc : encL [128#64] [3#64] = wb := by decide +kernel
theorem wb_bad : ¬ encBad [128#64] [3#64] := by decide +kernel
theorem wb_short : keyS (wb.take 8) = .error 70 := of_errIs (by decide +kernel)
theorem wb_item : itemV [48#8, 129#8, 127#8] 0 = .tuple #[.int .u8 0, .int .i64 0, .int .i64 0, .int .i64 72] := by
  unfold itemV
  rw [if_neg (by decide), show itemS (List.drop (Int.toNat 0) [48#8, 129#8, 127#8]) = .error 72 from of_errIs (by decide +kernel)]
end Go.Proofs.Ytccdlijohkljcaa

/- Layer 7: the short calls that stand in each statement. Conditions: none. -/
set_option linter.unusedSimpArgs false
set_option linter.unusedVariables false
set_option maxRecDepth 100000
set_option maxHeartbeats 4000000
namespace Go.Proofs.Ytccdlijohkljcaa
open Go
variable {G : Nat}

theorem works_C (S : Mem) : C Try.prog G (Known Try.prog G) 17 [] S fun v S' => v = .bool true ∧ Cons S S' := by
  refine C.fn Try.func17 rfl (by kernel_rfl) rfl ?_
  repeat (first | refine W.seq ?_ | refine W.block ?_ | refine W.reg ?_ | refine W.skip ?_ | refine W.exit ?_ | refine W.ret ?_ | refine L.nil ?_ | refine L.p rfl rfl ?_ | refine L.skip rfl ?_)
  refine L.bs (bv wb) rfl rfl rfl rfl rfl rfl ?_
  have hc1 : Cons S (S ++ [newR (bv wb) 5]) := Cons.push _ _
  have hI := BIn.fresh S wb (by decide)
  generalize S ++ [newR (bv wb) 5] = M1 at *
  generalize S.length = rb at *
  repeat (first | refine W.seq ?_ | refine W.block ?_ | refine W.reg ?_ | refine W.skip ?_ | refine W.exit ?_ | refine W.ret ?_ | refine L.nil ?_ | refine L.p rfl rfl ?_ | refine L.skip rfl ?_)
  refine L.cl (decode_C _ 9 wb M1 hI) rfl rfl ?_
  rintro v M2 hR
  unfold KeyR at hR
  rw [wb_key] at hR
  obtain ⟨d1, d2, rfl, r1, r2, hap⟩ := hR
  refine ⟨nofun, ?_⟩
  have hc2 := r1.1
  have e1 := r1.own.2
  have e2 := r2.own.2
  have w1 := r1.win
  have w2 := r2.win
  rw [e1, e2]
  repeat (first | refine W.seq ?_ | refine W.block ?_ | refine W.reg ?_ | refine W.skip ?_ | refine W.exit ?_ | refine W.ret ?_ | refine L.nil ?_ | refine L.p rfl rfl ?_ | refine L.skip rfl ?_)
  refine L.eff (v := .pointer (some ⟨M2.length, 0, none⟩)) (S1 := M2 ++ [newR [nilV, nilV] 26]) rfl rfl ?_
  refine L.st (ad := ⟨M2.length, 0, none⟩) (vs := [.slice d1.ad 1 d1.c, .slice d2.ad 1 d2.c]) (key_write M2 _ _ rfl rfl) rfl rfl rfl rfl ?_
  have hr3 : Mem.row? (M2 ++ [keyR (.slice d1.ad 1 d1.c) (.slice d2.ad 1 d2.c)]) M2.length = some (keyR (.slice d1.ad 1 d1.c) (.slice d2.ad 1 d2.c)) := row_push_new rfl
  have hk3 := hc2.pushr (keyR (.slice d1.ad 1 d1.c) (.slice d2.ad 1 d2.c))
  have hc3 := (hc1.trans hc2).pushr (keyR (.slice d1.ad 1 d1.c) (.slice d2.ad 1 d2.c))
  have w1 := w1.cons (Cons.push M2 (keyR (.slice d1.ad 1 d1.c) (.slice d2.ad 1 d2.c)))
  have w2 := w2.cons (Cons.push M2 (keyR (.slice d1.ad 1 d1.c) (.slice d2.ad 1 d2.c)))
  generalize M2 ++ [keyR (.slice d1.ad 1 d1.c) (.slice d2.ad 1 d2.c)] = M3 at *
  generalize M2.length = rk at *
  repeat (first | refine W.seq ?_ | refine W.block ?_ | refine W.reg ?_ | refine W.skip ?_ | refine W.exit ?_ | refine W.ret ?_ | refine L.nil ?_ | refine L.p rfl rfl ?_ | refine L.skip rfl ?_)
  refine L.ldA (a := ⟨rk, 0, none⟩) (key_load hr3) rfl rfl rfl ?_
  refine L.cl (encode_C d1.ad d2.ad d1.c d2.c [128#64] [3#64] M3 w1 w2) rfl rfl ?_
  rintro v M4 hR
  unfold EncR at hR
  rw [if_neg wb_bad, wb_enc] at hR
  obtain ⟨d3, rfl, r3⟩ := hR
  refine ⟨nofun, ?_⟩
  have hc4 := r3.1
  have hr4 := hc4.row' hr3
  have o3 := r3.2.2.1.bin r3.2.1
  rw [o3.2]
  have hB3 := o3.1
  have hI4 := hI.cons (hk3.trans hc4)
  have w1 := w1.cons hc4
  have w2 := w2.cons hc4
  repeat (first | refine W.seq ?_ | refine W.block ?_ | refine W.reg ?_ | refine W.skip ?_ | refine W.exit ?_ | refine W.ret ?_ | refine L.nil ?_ | refine L.p rfl rfl ?_ | refine L.skip rfl ?_)
  obtain ⟨a5, c5, q1, q2⟩ := hI4.partT (k := 0) (h := 8) (lo := none) (hi := some (.int .i64 8)) (.inl ⟨rfl, rfl⟩) (.inr ⟨.i64, rfl⟩) (Nat.zero_le _) (by decide)
  have hq : some (Value.slice _ _ _) = some (Value.slice a5 8 c5) := q1
  simp only [Option.some.injEq, Value.slice.injEq] at hq
  obtain ⟨rfl, _, rfl⟩ := hq
  refine L.cl (decode_C _ _ (wb.take 8) M4 (q2 _ hI4)) rfl rfl ?_
  rintro v M5 hR
  unfold KeyR at hR
  rw [wb_short] at hR
  obtain ⟨rfl, hc5⟩ := hR
  refine ⟨nofun, ?_⟩
  repeat (first | refine W.seq ?_ | refine W.block ?_ | refine W.reg ?_ | refine W.skip ?_ | refine W.exit ?_ | refine W.ret ?_ | refine L.nil ?_ | refine L.p rfl rfl ?_ | refine L.skip rfl ?_)
  refine L.eff (v := .pointer (some ⟨M5.length, 0, none⟩)) (S1 := M5 ++ [newR [nilV, nilV] 26]) rfl rfl ?_
  refine L.st (ad := ⟨M5.length, 0, none⟩) (vs := [nilV, nilV]) (key_write M5 _ _ rfl rfl) rfl rfl rfl rfl ?_
  have hc5 := hc5.pushr (keyR nilV nilV)
  generalize M5 ++ [keyR nilV nilV] = M6 at *
  generalize M5.length = rl at *
  repeat (first | refine W.seq ?_ | refine W.block ?_ | refine W.reg ?_ | refine W.skip ?_ | refine W.exit ?_ | refine W.ret ?_ | refine L.nil ?_ | refine L.p rfl rfl ?_ | refine L.skip rfl ?_)
  refine L.bs (bv [48#8, 129#8, 127#8]) rfl rfl rfl rfl rfl rfl ?_
  have hc6 := hc5.pushr (newR (bv [48#8, 129#8, 127#8]) 5)
  have hI6 := BIn.fresh M6 [48#8, 129#8, 127#8] (by decide)
  generalize M6 ++ [newR (bv [48#8, 129#8, 127#8]) 5] = M7 at *
  generalize M6.length = rm at *
  repeat (first | refine W.seq ?_ | refine W.block ?_ | refine W.reg ?_ | refine W.skip ?_ | refine W.exit ?_ | refine W.ret ?_ | refine L.nil ?_ | refine L.p rfl rfl ?_ | refine L.skip rfl ?_)
  refine L.cl (itemPub_C _ 3 [48#8, 129#8, 127#8] 0 M7 hI6 (by decide) (by decide)) rfl rfl ?_
  rintro v M8 ⟨rfl, hc8⟩
  refine ⟨nofun, ?_⟩
  rw [wb_item]
  have hc48 := hc6.trans hc8
  have w1 := w1.cons hc48
  have w2 := w2.cons hc48
  have hr8 := hc48.row' hr4
  repeat (first | refine W.seq ?_ | refine W.block ?_ | refine W.reg ?_ | refine W.skip ?_ | refine W.exit ?_ | refine W.ret ?_ | refine L.nil ?_ | refine L.p rfl rfl ?_ | refine L.skip rfl ?_)
  refine L.cl (same_C _ _ wb wb 9 9 M8 (hB3.1.cons hc48) (hI4.1.cons hc48) (by decide) (by decide)) rfl rfl ?_
  rintro _ _ ⟨rfl, rfl⟩
  refine ⟨nofun, ?_⟩
  rw [show (wb == wb) = true from beq_self_eq_true _]
  repeat (first | refine W.seq ?_ | refine W.block ?_ | refine W.reg ?_ | refine W.skip ?_ | refine W.exit ?_ | refine W.ret ?_ | refine L.nil ?_ | refine L.p rfl rfl ?_ | refine L.skip rfl ?_)
  refine L.ld (cell_of (o := 0) hr8 rfl) rfl rfl rfl ?_
  repeat (first | refine W.seq ?_ | refine W.block ?_ | refine W.reg ?_ | refine W.skip ?_ | refine W.exit ?_ | refine W.ret ?_ | refine L.nil ?_ | refine L.p rfl rfl ?_ | refine L.skip rfl ?_)
  refine L.ld (cell_of (o := 0) hr8 rfl) rfl rfl rfl ?_
  repeat (first | refine W.seq ?_ | refine W.block ?_ | refine W.reg ?_ | refine W.skip ?_ | refine W.exit ?_ | refine W.ret ?_ | refine L.nil ?_ | refine L.p rfl rfl ?_ | refine L.skip rfl ?_)
  refine L.el w1.1 (k := 0) rfl rfl rfl rfl rfl rfl (fun _ => rfl) rfl (fun p => ?_)
  repeat (first | refine W.seq ?_ | refine W.block ?_ | refine W.reg ?_ | refine W.skip ?_ | refine W.exit ?_ | refine W.ret ?_ | refine L.nil ?_ | refine L.p rfl rfl ?_ | refine L.skip rfl ?_)
  refine L.ld (cell_of (o := 1) hr8 rfl) rfl rfl rfl ?_
  repeat (first | refine W.seq ?_ | refine W.block ?_ | refine W.reg ?_ | refine W.skip ?_ | refine W.exit ?_ | refine W.ret ?_ | refine L.nil ?_ | refine L.p rfl rfl ?_ | refine L.skip rfl ?_)
  refine L.ld (cell_of (o := 1) hr8 rfl) rfl rfl rfl ?_
  repeat (first | refine W.seq ?_ | refine W.block ?_ | refine W.reg ?_ | refine W.skip ?_ | refine W.exit ?_ | refine W.ret ?_ | refine L.nil ?_ | refine L.p rfl rfl ?_ | refine L.skip rfl ?_)
  refine L.el w2.1 (k := 0) rfl rfl rfl rfl rfl rfl (fun _ => rfl) rfl (fun p => ?_)
  repeat (first | refine W.seq ?_ | refine W.block ?_ | refine W.reg ?_ | refine W.skip ?_ | refine W.exit ?_ | refine W.ret ?_ | refine L.nil ?_ | refine L.p rfl rfl ?_ | refine L.skip rfl ?_)
  exact ⟨.inr rfl, _, rfl, rfl, (hc3.trans hc4).trans hc48⟩
end Go.Proofs.Ytccdlijohkljcaa

/- The reference of layer 7: an integer; the integer at a place. Conditions: none. -/
set_option linter.unusedSimpArgs false
set_option linter.unusedVariables false
set_option maxRecDepth 100000
namespace Go.Proofs.Ytccdlijohkljcaa
open Go
variable {G : Nat} {Ext : FuncId → List Value → Mem → Outc → Mem → Prop}

theorem WIn.nil (S : Mem) : WIn S none 0 [] := ⟨Slv.nil _ _ _ _, Nat.zero_le _, fun _ => rfl, by decide⟩
/-- what the reference of Integer hands out -/
def IntR (S : Mem) (b : BL) (v : Value) (S' : Mem) : Prop := ∃ a' c', v = .tuple #[.slice a' (intL b).length c', .int .i64 (intE b)] ∧ Cons S S' ∧ WIn S' a' c' (intL b)
theorem intR_err {S S' : Mem} {b : BL} {n : Int} (h : numS b = .error n) (k : Cons S S') : IntR S b (.tuple #[.slice none 0 0, .int .i64 n]) S' := by
  have h1 : intL b = [] := by unfold intL; rw [h]
  have h2 : intE b = n := by unfold intE; rw [h]
  unfold IntR
  rw [h1, h2]
  exact ⟨none, 0, rfl, k, WIn.nil _⟩
theorem intR_ok {S S' : Mem} {b : BL} {l : WL} {a : Option Addr} {c : Nat} (h : numS b = .ok l) (k : Cons S S') (w : WIn S' a c l) : IntR S b (.tuple #[.slice a l.length c, .int .i64 0]) S' := by
  have h1 : intL b = l := by unfold intL; rw [h]
  have h2 : intE b = 0 := by unfold intE; rw [h]
  unfold IntR
  rw [h1, h2]
  exact ⟨a, c, rfl, k, w⟩
theorem toW_len_of {n k a : Nat} (h : n < 2 ^ a) (hk : a ≤ 64 * k) : (toW n).length ≤ k := (toW_len n k).2 (Nat.lt_of_lt_of_le h (Nat.pow_le_pow_right (by decide) hk))
theorem fromL_len (b : BL) : (fromL b).length ≤ 1000 := by
  unfold fromL
  split
  · rename_i h
    have h1 := bnum_lt (strip0 b)
    rw [bnum_strip0, p256] at h1
    exact toW_len_of h1 (by omega)
  · exact Nat.zero_le _
theorem refInteger_C (a : Option Addr) (c : Nat) (b : BL) (S : Mem) (hI : BIn S a c b) : C Try.prog G Ext 28 [.slice a b.length c] S (IntR S b) := by
  refine C.fn Try.func28 rfl (by kernel_rfl) rfl ?_
  have hbl := hI.2.2
  repeat (first | refine W.seq ?_ | refine W.block ?_ | refine W.reg ?_ | refine W.skip ?_ | refine W.exit ?_ | refine W.ret ?_ | refine L.nil ?_ | refine L.p rfl rfl ?_ | refine L.skip rfl ?_)
  cases hq : ((b.length : Int) == 0)
  rotate_left
  · have h0 : b.length = 0 := by have : (b.length : Int) = 0 := (by simpa using hq); omega
    repeat (first | refine W.seq ?_ | refine W.block ?_ | refine W.reg ?_ | refine W.skip ?_ | refine W.exit ?_ | refine W.ret ?_ | refine L.nil ?_ | refine L.p rfl rfl ?_ | refine L.skip rfl ?_)
    refine W.ite rfl (fun h => ?_) (fun h => ?_)
    rotate_left
    · cases h
    repeat (first | refine W.seq ?_ | refine W.block ?_ | refine W.reg ?_ | refine W.skip ?_ | refine W.exit ?_ | refine W.ret ?_ | refine L.nil ?_ | refine L.p rfl rfl ?_ | refine L.skip rfl ?_)
    exact ⟨.inr rfl, _, rfl, intR_err (by unfold numS; rw [if_pos (by unfold badInt; omega)]) (Cons.refl _)⟩
  have h0 : b.length ≠ 0 := by
    have : ¬ (b.length : Int) = 0 := by simpa using hq
    omega
  clear hq
  obtain ⟨x, hx, hx'⟩ := bat_some (b := b) (i := 0) (by omega)
  have hxl := x.isLt
  repeat (first | refine W.seq ?_ | refine W.block ?_ | refine W.reg ?_ | refine W.skip ?_ | refine W.exit ?_ | refine W.ret ?_ | refine L.nil ?_ | refine L.p rfl rfl ?_ | refine L.skip rfl ?_)
  refine L.el hI.1 (k := 0) rfl (bv_get hx) rfl rfl rfl rfl (fun _ => rfl) rfl (fun p => ?_)
  repeat (first | refine W.seq ?_ | refine W.block ?_ | refine W.reg ?_ | refine W.skip ?_ | refine W.exit ?_ | refine W.ret ?_ | refine L.nil ?_ | refine L.p rfl rfl ?_ | refine L.skip rfl ?_)
  cases hq : decide ((x.toNat : Int) ≥ 128)
  rotate_left
  · have h1 : 128 ≤ x.toNat := by have := of_decide_eq_true hq; omega
    repeat (first | refine W.seq ?_ | refine W.block ?_ | refine W.reg ?_ | refine W.skip ?_ | refine W.exit ?_ | refine W.ret ?_ | refine L.nil ?_ | refine L.p rfl rfl ?_ | refine L.skip rfl ?_)
    refine W.ite rfl (fun h => ?_) (fun h => ?_)
    rotate_left
    · cases h
    repeat (first | refine W.seq ?_ | refine W.block ?_ | refine W.reg ?_ | refine W.skip ?_ | refine W.exit ?_ | refine W.ret ?_ | refine L.nil ?_ | refine L.p rfl rfl ?_ | refine L.skip rfl ?_)
    exact ⟨.inr rfl, _, rfl, intR_err (by unfold numS; rw [if_pos (by unfold badInt; omega)]) (Cons.refl _)⟩
  have h1 : x.toNat < 128 := by have := of_decide_eq_false hq; omega
  clear hq
  repeat (first | refine W.seq ?_ | refine W.block ?_ | refine W.reg ?_ | refine W.skip ?_ | refine W.exit ?_ | refine W.ret ?_ | refine L.nil ?_ | refine L.p rfl rfl ?_ | refine L.skip rfl ?_)
  cases hq : decide ((b.length : Int) > 1)
  · have h2 : b.length ≤ 1 := by have := of_decide_eq_false hq; omega
    clear hq
    repeat (first | refine W.seq ?_ | refine W.block ?_ | refine W.reg ?_ | refine W.skip ?_ | refine W.exit ?_ | refine W.ret ?_ | refine L.nil ?_ | refine L.p rfl rfl ?_ | refine L.skip rfl ?_)
    refine W.ite rfl (fun h => ?_) (fun h => ?_)
    · cases h
    clear h
    have hbad : ¬ badInt b := by unfold badInt; omega
    repeat (first | refine W.seq ?_ | refine W.block ?_ | refine W.reg ?_ | refine W.skip ?_ | refine W.exit ?_ | refine W.ret ?_ | refine L.nil ?_ | refine L.p rfl rfl ?_ | refine L.skip rfl ?_)
    refine L.cl (refFrom_C a c b S hI) rfl rfl ?_
    rintro v S1 ⟨a1, c1, rfl, hc, hW⟩
    refine ⟨fun _ => hc, ?_⟩
    repeat (first | refine W.seq ?_ | refine W.block ?_ | refine W.reg ?_ | refine W.skip ?_ | refine W.exit ?_ | refine W.ret ?_ | refine L.nil ?_ | refine L.p rfl rfl ?_ | refine L.skip rfl ?_)
    cases hq : (fromE b != 0)
    rotate_left
    · have hne : fromE b ≠ 0 := by simpa using hq
      repeat (first | refine W.seq ?_ | refine W.block ?_ | refine W.reg ?_ | refine W.skip ?_ | refine W.exit ?_ | refine W.ret ?_ | refine L.nil ?_ | refine L.p rfl rfl ?_ | refine L.skip rfl ?_)
      refine W.ite rfl (fun h => ?_) (fun h => ?_)
      rotate_left
      · cases h
      repeat (first | refine W.seq ?_ | refine W.block ?_ | refine W.reg ?_ | refine W.skip ?_ | refine W.exit ?_ | refine W.ret ?_ | refine L.nil ?_ | refine L.p rfl rfl ?_ | refine L.skip rfl ?_)
      exact ⟨.inr rfl, _, rfl, intR_err (by unfold numS; rw [if_neg hbad, if_pos (.inl hne)]) hc⟩
    have he0 : fromE b = 0 := by simpa using hq
    have hfl := fromE_ok he0
    rw [hfl] at hW
    have hlen : (toW (bnum b)).length < 400000 := by
      have h1 := fromL_len b
      rw [hfl] at h1
      omega
    repeat (first | refine W.seq ?_ | refine W.block ?_ | refine W.reg ?_ | refine W.skip ?_ | refine W.exit ?_ | refine W.ret ?_ | refine L.nil ?_ | refine L.p rfl rfl ?_ | refine L.skip rfl ?_)
    refine L.cl (length_C _ _ _ S1 hW hlen) rfl (by rw [hfl]; rfl) ?_
    rintro v S2 ⟨rfl, hc2⟩
    refine ⟨fun _ => hc2, ?_⟩
    rw [wnum_toW]
    repeat (first | refine W.seq ?_ | refine W.block ?_ | refine W.reg ?_ | refine W.skip ?_ | refine W.exit ?_ | refine W.ret ?_ | refine L.nil ?_ | refine L.p rfl rfl ?_ | refine L.skip rfl ?_)
    refine W.ite rfl (fun h => ?_) (fun h => ?_)
    · have hgt : 4096 < blen (bnum b) := by have := of_decide_eq_true h; omega
      repeat (first | refine W.seq ?_ | refine W.block ?_ | refine W.reg ?_ | refine W.skip ?_ | refine W.exit ?_ | refine W.ret ?_ | refine L.nil ?_ | refine L.p rfl rfl ?_ | refine L.skip rfl ?_)
      exact ⟨.inr rfl, _, rfl, intR_err (by unfold numS; rw [if_neg hbad, if_pos (.inr hgt)]) (hc.trans hc2)⟩
    have hle : ¬ 4096 < blen (bnum b) := by have := of_decide_eq_false h; omega
    repeat (first | refine W.seq ?_ | refine W.block ?_ | refine W.reg ?_ | refine W.skip ?_ | refine W.exit ?_ | refine W.ret ?_ | refine L.nil ?_ | refine L.p rfl rfl ?_ | refine L.skip rfl ?_)
    refine ⟨.inr rfl, _, rfl, ?_⟩
    have hfin := intR_ok (b := b) (by unfold numS; rw [if_neg hbad, if_neg (by omega)]) (hc.trans hc2) (hW.cons hc2)
    rw [← hfl] at hfin
    exact hfin
  have h2 : 1 < b.length := by have := of_decide_eq_true hq; omega
  clear hq
  repeat (first | refine W.seq ?_ | refine W.block ?_ | refine W.reg ?_ | refine W.skip ?_ | refine W.exit ?_ | refine W.ret ?_ | refine L.nil ?_ | refine L.p rfl rfl ?_ | refine L.skip rfl ?_)
  refine L.el hI.1 (k := 0) rfl (bv_get hx) rfl rfl rfl rfl (fun _ => rfl) rfl (fun p => ?_)
  repeat (first | refine W.seq ?_ | refine W.block ?_ | refine W.reg ?_ | refine W.skip ?_ | refine W.exit ?_ | refine W.ret ?_ | refine L.nil ?_ | refine L.p rfl rfl ?_ | refine L.skip rfl ?_)
  cases hq : ((x.toNat : Int) == 0)
  · have h3 : x.toNat ≠ 0 := by
      have : ¬ (x.toNat : Int) = 0 := by simpa using hq
      omega
    clear hq
    repeat (first | refine W.seq ?_ | refine W.block ?_ | refine W.reg ?_ | refine W.skip ?_ | refine W.exit ?_ | refine W.ret ?_ | refine L.nil ?_ | refine L.p rfl rfl ?_ | refine L.skip rfl ?_)
    refine W.ite rfl (fun h => ?_) (fun h => ?_)
    · cases h
    clear h
    have hbad : ¬ badInt b := by unfold badInt; omega
    repeat (first | refine W.seq ?_ | refine W.block ?_ | refine W.reg ?_ | refine W.skip ?_ | refine W.exit ?_ | refine W.ret ?_ | refine L.nil ?_ | refine L.p rfl rfl ?_ | refine L.skip rfl ?_)
    refine L.cl (refFrom_C a c b S hI) rfl rfl ?_
    rintro v S1 ⟨a1, c1, rfl, hc, hW⟩
    refine ⟨fun _ => hc, ?_⟩
    repeat (first | refine W.seq ?_ | refine W.block ?_ | refine W.reg ?_ | refine W.skip ?_ | refine W.exit ?_ | refine W.ret ?_ | refine L.nil ?_ | refine L.p rfl rfl ?_ | refine L.skip rfl ?_)
    cases hq : (fromE b != 0)
    rotate_left
    · have hne : fromE b ≠ 0 := by simpa using hq
      repeat (first | refine W.seq ?_ | refine W.block ?_ | refine W.reg ?_ | refine W.skip ?_ | refine W.exit ?_ | refine W.ret ?_ | refine L.nil ?_ | refine L.p rfl rfl ?_ | refine L.skip rfl ?_)
      refine W.ite rfl (fun h => ?_) (fun h => ?_)
      rotate_left
      · cases h
      repeat (first | refine W.seq ?_ | refine W.block ?_ | refine W.reg ?_ | refine W.skip ?_ | refine W.exit ?_ | refine W.ret ?_ | refine L.nil ?_ | refine L.p rfl rfl ?_ | refine L.skip rfl ?_)
      exact ⟨.inr rfl, _, rfl, intR_err (by unfold numS; rw [if_neg hbad, if_pos (.inl hne)]) hc⟩
    have he0 : fromE b = 0 := by simpa using hq
    have hfl := fromE_ok he0
    rw [hfl] at hW
    have hlen : (toW (bnum b)).length < 400000 := by
      have h1 := fromL_len b
      rw [hfl] at h1
      omega
    repeat (first | refine W.seq ?_ | refine W.block ?_ | refine W.reg ?_ | refine W.skip ?_ | refine W.exit ?_ | refine W.ret ?_ | refine L.nil ?_ | refine L.p rfl rfl ?_ | refine L.skip rfl ?_)
    refine L.cl (length_C _ _ _ S1 hW hlen) rfl (by rw [hfl]; rfl) ?_
    rintro v S2 ⟨rfl, hc2⟩
    refine ⟨fun _ => hc2, ?_⟩
    rw [wnum_toW]
    repeat (first | refine W.seq ?_ | refine W.block ?_ | refine W.reg ?_ | refine W.skip ?_ | refine W.exit ?_ | refine W.ret ?_ | refine L.nil ?_ | refine L.p rfl rfl ?_ | refine L.skip rfl ?_)
    refine W.ite rfl (fun h => ?_) (fun h => ?_)
    · have hgt : 4096 < blen (bnum b) := by have := of_decide_eq_true h; omega
      repeat (first | refine W.seq ?_ | refine W.block ?_ | refine W.reg ?_ | refine W.skip ?_ | refine W.exit ?_ | refine W.ret ?_ | refine L.nil ?_ | refine L.p rfl rfl ?_ | refine L.skip rfl ?_)
      exact ⟨.inr rfl, _, rfl, intR_err (by unfold numS; rw [if_neg hbad, if_pos (.inr hgt)]) (hc.trans hc2)⟩
    have hle : ¬ 4096 < blen (bnum b) := by have := of_decide_eq_false h; omega
    repeat (first | refine W.seq ?_ | refine W.block ?_ | refine W.reg ?_ | refine W.skip ?_ | refine W.exit ?_ | refine W.ret ?_ | refine L.nil ?_ | refine L.p rfl rfl ?_ | refine L.skip rfl ?_)
    refine ⟨.inr rfl, _, rfl, ?_⟩
    have hfin := intR_ok (b := b) (by unfold numS; rw [if_neg hbad, if_neg (by omega)]) (hc.trans hc2) (hW.cons hc2)
    rw [← hfl] at hfin
    exact hfin
  have h3 : x.toNat = 0 := by
    have : (x.toNat : Int) = 0 := by simpa using hq
    omega
  clear hq
  obtain ⟨y, hy, hy'⟩ := bat_some (b := b) (i := 1) (by omega)
  have hyl := y.isLt
  repeat (first | refine W.seq ?_ | refine W.block ?_ | refine W.reg ?_ | refine W.skip ?_ | refine W.exit ?_ | refine W.ret ?_ | refine L.nil ?_ | refine L.p rfl rfl ?_ | refine L.skip rfl ?_)
  refine L.el hI.1 (k := 1) rfl (bv_get hy) rfl rfl rfl rfl (fun _ => rfl) rfl (fun p => ?_)
  repeat (first | refine W.seq ?_ | refine W.block ?_ | refine W.reg ?_ | refine W.skip ?_ | refine W.exit ?_ | refine W.ret ?_ | refine L.nil ?_ | refine L.p rfl rfl ?_ | refine L.skip rfl ?_)
  cases hq : decide ((y.toNat : Int) < 128)
  rotate_left
  · have h4 : y.toNat < 128 := by have := of_decide_eq_true hq; omega
    repeat (first | refine W.seq ?_ | refine W.block ?_ | refine W.reg ?_ | refine W.skip ?_ | refine W.exit ?_ | refine W.ret ?_ | refine L.nil ?_ | refine L.p rfl rfl ?_ | refine L.skip rfl ?_)
    refine W.ite rfl (fun h => ?_) (fun h => ?_)
    rotate_left
    · cases h
    repeat (first | refine W.seq ?_ | refine W.block ?_ | refine W.reg ?_ | refine W.skip ?_ | refine W.exit ?_ | refine W.ret ?_ | refine L.nil ?_ | refine L.p rfl rfl ?_ | refine L.skip rfl ?_)
    exact ⟨.inr rfl, _, rfl, intR_err (by unfold numS; rw [if_pos (by unfold badInt; omega)]) (Cons.refl _)⟩
  have h4 : 128 ≤ y.toNat := by have := of_decide_eq_false hq; omega
  clear hq
  repeat (first | refine W.seq ?_ | refine W.block ?_ | refine W.reg ?_ | refine W.skip ?_ | refine W.exit ?_ | refine W.ret ?_ | refine L.nil ?_ | refine L.p rfl rfl ?_ | refine L.skip rfl ?_)
  refine W.ite rfl (fun h => ?_) (fun h => ?_)
  · cases h
  clear h
  have hbad : ¬ badInt b := by unfold badInt; omega
  repeat (first | refine W.seq ?_ | refine W.block ?_ | refine W.reg ?_ | refine W.skip ?_ | refine W.exit ?_ | refine W.ret ?_ | refine L.nil ?_ | refine L.p rfl rfl ?_ | refine L.skip rfl ?_)
  refine L.cl (refFrom_C a c b S hI) rfl rfl ?_
  rintro v S1 ⟨a1, c1, rfl, hc, hW⟩
  refine ⟨fun _ => hc, ?_⟩
  repeat (first | refine W.seq ?_ | refine W.block ?_ | refine W.reg ?_ | refine W.skip ?_ | refine W.exit ?_ | refine W.ret ?_ | refine L.nil ?_ | refine L.p rfl rfl ?_ | refine L.skip rfl ?_)
  cases hq : (fromE b != 0)
  rotate_left
  · have hne : fromE b ≠ 0 := by simpa using hq
    repeat (first | refine W.seq ?_ | refine W.block ?_ | refine W.reg ?_ | refine W.skip ?_ | refine W.exit ?_ | refine W.ret ?_ | refine L.nil ?_ | refine L.p rfl rfl ?_ | refine L.skip rfl ?_)
    refine W.ite rfl (fun h => ?_) (fun h => ?_)
    rotate_left
    · cases h
    repeat (first | refine W.seq ?_ | refine W.block ?_ | refine W.reg ?_ | refine W.skip ?_ | refine W.exit ?_ | refine W.ret ?_ | refine L.nil ?_ | refine L.p rfl rfl ?_ | refine L.skip rfl ?_)
    exact ⟨.inr rfl, _, rfl, intR_err (by unfold numS; rw [if_neg hbad, if_pos (.inl hne)]) hc⟩
  have he0 : fromE b = 0 := by simpa using hq
  have hfl := fromE_ok he0
  rw [hfl] at hW
  have hlen : (toW (bnum b)).length < 400000 := by
    have h1 := fromL_len b
    rw [hfl] at h1
    omega
  repeat (first | refine W.seq ?_ | refine W.block ?_ | refine W.reg ?_ | refine W.skip ?_ | refine W.exit ?_ | refine W.ret ?_ | refine L.nil ?_ | refine L.p rfl rfl ?_ | refine L.skip rfl ?_)
  refine L.cl (length_C _ _ _ S1 hW hlen) rfl (by rw [hfl]; rfl) ?_
  rintro v S2 ⟨rfl, hc2⟩
  refine ⟨fun _ => hc2, ?_⟩
  rw [wnum_toW]
  repeat (first | refine W.seq ?_ | refine W.block ?_ | refine W.reg ?_ | refine W.skip ?_ | refine W.exit ?_ | refine W.ret ?_ | refine L.nil ?_ | refine L.p rfl rfl ?_ | refine L.skip rfl ?_)
  refine W.ite rfl (fun h => ?_) (fun h => ?_)
  · have hgt : 4096 < blen (bnum b) := by have := of_decide_eq_true h; omega
    repeat (first | refine W.seq ?_ | refine W.block ?_ | refine W.reg ?_ | refine W.skip ?_ | refine W.exit ?_ | refine W.ret ?_ | refine L.nil ?_ | refine L.p rfl rfl ?_ | refine L.skip rfl ?_)
    exact ⟨.inr rfl, _, rfl, intR_err (by unfold numS; rw [if_neg hbad, if_pos (.inr hgt)]) (hc.trans hc2)⟩
  have hle : ¬ 4096 < blen (bnum b) := by have := of_decide_eq_false h; omega
  repeat (first | refine W.seq ?_ | refine W.block ?_ | refine W.reg ?_ | refine W.skip ?_ | refine W.exit ?_ | refine W.ret ?_ | refine L.nil ?_ | refine L.p rfl rfl ?_ | refine L.skip rfl ?_)
  refine ⟨.inr rfl, _, rfl, ?_⟩
  have hfin := intR_ok (b := b) (by unfold numS; rw [if_neg hbad, if_neg (by omega)]) (hc.trans hc2) (hW.cons hc2)
  rw [← hfl] at hfin
  exact hfin
end Go.Proofs.Ytccdlijohkljcaa

/- The reference of layer 7: the integer at a place. Conditions: none. -/
set_option linter.unusedSimpArgs false
set_option linter.unusedVariables false
set_option maxRecDepth 100000
namespace Go.Proofs.Ytccdlijohkljcaa
open Go
variable {G : Nat} {Ext : FuncId → List Value → Mem → Outc → Mem → Prop}

theorem itemS_ne {b : BL} {e : Int} (h : itemS b = .error e) : e ≠ 0 := by
  unfold itemS at h
  by_cases h1 : b.length < 2
  · rw [if_pos h1] at h; cases h; decide
  rw [if_neg h1] at h
  by_cases h2 : bat b 1 = 128 ∨ 132 < bat b 1
  · rw [if_pos h2] at h; cases h; decide
  rw [if_neg h2] at h
  by_cases h3 : bat b 1 < 128
  · rw [if_pos h3] at h
    by_cases h4 : b.length - 2 < bat b 1
    · rw [if_pos h4] at h; cases h; decide
    · rw [if_neg h4] at h; cases h
  rw [if_neg h3] at h
  by_cases h4 : b.length - 2 < bat b 1 - 128
  · rw [if_pos h4] at h; cases h; decide
  rw [if_neg h4] at h
  by_cases h5 : bat b 2 = 0 ∨ lenN b < 128
  · rw [if_pos h5] at h; cases h; decide
  rw [if_neg h5] at h
  by_cases h6 : b.length - 2 - (bat b 1 - 128) < lenN b
  · rw [if_pos h6] at h; cases h; decide
  · rw [if_neg h6] at h; cases h
theorem numS_ne {b : BL} {e : Int} (h : numS b = .error e) : e ≠ 0 := by
  unfold numS at h
  split at h
  · cases h; decide
  · split at h
    · cases h; decide
    · cases h
/-- what the reference's number hands out -/
def PartR (S : Mem) (m : BL) (k : Nat) (v : Value) (S' : Mem) : Prop := ∃ (a' : Option Addr) (c' : Nat) (l : WL) (to : Int) (e : Int), v = .tuple #[.slice a' l.length c', .int .i64 to, .int .i64 e] ∧ Cons S S' ∧ match partS (m.drop k) with
  | .error n => e = n ∧ n ≠ 0
  | .ok (l', r) => e = 0 ∧ l = l' ∧ WIn S' a' c' l ∧ ∃ t : Nat, to = t ∧ t ≤ m.length ∧ r = m.drop t
theorem partR_err {S S' : Mem} {m : BL} {k : Nat} {a : Option Addr} {c : Nat} {l : WL} {to n : Int} (h : partS (m.drop k) = .error n) (h0 : n ≠ 0) (hc : Cons S S') : PartR S m k (.tuple #[.slice a l.length c, .int .i64 to, .int .i64 n]) S' := by
  refine ⟨a, c, l, to, n, rfl, hc, ?_⟩
  rw [h]
  exact ⟨rfl, h0⟩
theorem refNumber_C (a : Option Addr) (c : Nat) (m : BL) (k : Nat) (S : Mem) (hI : BIn S a c m) (hk : k ≤ m.length) : C Try.prog G Ext 41 [.slice a m.length c, .int .i64 (k : Int)] S (PartR S m k) := by
  refine C.fn Try.func41 rfl (by kernel_rfl) rfl ?_
  have hbl := hI.2.2
  repeat (first | refine W.seq ?_ | refine W.block ?_ | refine W.reg ?_ | refine W.skip ?_ | refine W.exit ?_ | refine W.ret ?_ | refine L.nil ?_ | refine L.p rfl rfl ?_ | refine L.skip rfl ?_)
  refine L.cl (refItem_C a c m (k : Int) S hI (by omega) (by omega)) rfl rfl ?_
  rintro _ _ ⟨rfl, hS⟩
  have hS2 := hS.symm
  subst hS2
  clear hS
  refine ⟨nofun, ?_⟩
  rcases hi : itemS (m.drop k) with n | ⟨f, n⟩
  · rw [← itemV_err hk hi]
    have hn0 := itemS_ne hi
    repeat (first | refine W.seq ?_ | refine W.block ?_ | refine W.reg ?_ | refine W.skip ?_ | refine W.exit ?_ | refine W.ret ?_ | refine L.nil ?_ | refine L.p rfl rfl ?_ | refine L.skip rfl ?_)
    refine W.ite rfl (fun h => ?_) (fun h => ?_)
    rotate_left
    · simp [hn0] at h
    repeat (first | refine W.seq ?_ | refine W.block ?_ | refine W.reg ?_ | refine W.skip ?_ | refine W.exit ?_ | refine W.ret ?_ | refine L.nil ?_ | refine L.p rfl rfl ?_ | refine L.skip rfl ?_)
    exact ⟨.inr rfl, _, rfl, partR_err (l := []) (by unfold partS; rw [hi]) hn0 (Cons.refl _)⟩
  rw [show itemV m (k : Int) = .tuple #[.int .u8 (bat m k), .int .i64 ((k + f : Nat) : Int), .int .i64 ((k + f + n : Nat) : Int), .int .i64 0] by rw [itemV_ok hk hi, Int.natCast_add, Int.natCast_add, Int.natCast_add]]
  obtain ⟨hh1, hh2, hh3⟩ := itemS_ok hi
  have hdl : (m.drop k).length = m.length - k := List.length_drop
  have hb0 : bat (m.drop k) 0 = bat m k := bat_drop m k 0
  have hbl8 := bat_lt m k
  repeat (first | refine W.seq ?_ | refine W.block ?_ | refine W.reg ?_ | refine W.skip ?_ | refine W.exit ?_ | refine W.ret ?_ | refine L.nil ?_ | refine L.p rfl rfl ?_ | refine L.skip rfl ?_)
  refine W.ite rfl (fun h => ?_) (fun h => ?_)
  · cases h
  clear h
  repeat (first | refine W.seq ?_ | refine W.block ?_ | refine W.reg ?_ | refine W.skip ?_ | refine W.exit ?_ | refine W.ret ?_ | refine L.nil ?_ | refine L.p rfl rfl ?_ | refine L.skip rfl ?_)
  refine W.ite rfl (fun h => ?_) (fun h => ?_)
  · have hne : ¬ ((bat m k : Nat) : Int) = 2 := by simpa using h
    repeat (first | refine W.seq ?_ | refine W.block ?_ | refine W.reg ?_ | refine W.skip ?_ | refine W.exit ?_ | refine W.ret ?_ | refine L.nil ?_ | refine L.p rfl rfl ?_ | refine L.skip rfl ?_)
    exact ⟨.inr rfl, _, rfl, partR_err (l := []) (by unfold partS; rw [hi]; dsimp only; rw [if_pos (by rw [hb0]; omega)]) (by decide) (Cons.refl _)⟩
  have heq : bat m k = 2 := by have : ((bat m k : Nat) : Int) = 2 := (by simpa using h); omega
  clear h
  obtain ⟨a1, c1, q1, q2⟩ := hI.part (k := k + f) (h := k + f + n) (.inr ⟨.i64, rfl⟩) (.inr ⟨.i64, rfl⟩) (by omega) (by omega)
  have hcon : (m.drop (k + f)).take (k + f + n - (k + f)) = ((m.drop k).drop f).take n := by rw [List.drop_drop, show k + f + n - (k + f) = n by omega]
  rw [hcon] at q1 q2
  repeat (first | refine W.seq ?_ | refine W.block ?_ | refine W.reg ?_ | refine W.skip ?_ | refine W.exit ?_ | refine W.ret ?_ | refine L.nil ?_ | refine L.p rfl rfl ?_ | refine L.skip rfl ?_)
  refine L.is (.slice a1 (((m.drop k).drop f).take n).length c1) ((slice_at0 rfl rfl rfl).trans q1) rfl ?_
  repeat (first | refine W.seq ?_ | refine W.block ?_ | refine W.reg ?_ | refine W.skip ?_ | refine W.exit ?_ | refine W.ret ?_ | refine L.nil ?_ | refine L.p rfl rfl ?_ | refine L.skip rfl ?_)
  refine L.cl (refInteger_C a1 c1 (((m.drop k).drop f).take n) S q2) rfl rfl ?_
  rintro _ S1 ⟨a2, c2, rfl, hc, hW⟩
  refine ⟨nofun, ?_⟩
  repeat (first | refine W.seq ?_ | refine W.block ?_ | refine W.reg ?_ | refine W.skip ?_ | refine W.exit ?_ | refine W.ret ?_ | refine L.nil ?_ | refine L.p rfl rfl ?_ | refine L.skip rfl ?_)
  refine ⟨.inr rfl, _, rfl, a2, c2, intL (((m.drop k).drop f).take n), ((k + f + n : Nat) : Int), intE (((m.drop k).drop f).take n), rfl, hc, ?_⟩
  have hp : partS (m.drop k) = match numS (((m.drop k).drop f).take n) with
      | .error e => .error e
      | .ok l => .ok (l, (m.drop k).drop (f + n)) := by unfold partS; rw [hi]; dsimp only; rw [if_neg (by rw [hb0]; omega)]; rfl
  rw [hp]
  unfold intL at hW ⊢
  unfold intE
  cases hn : numS (((m.drop k).drop f).take n) with
  | error e => exact ⟨rfl, numS_ne hn⟩
  | ok l =>
    rw [hn] at hW
    exact ⟨rfl, rfl, hW, k + f + n, rfl, by omega, by rw [List.drop_drop]; congr 1; omega⟩
end Go.Proofs.Ytccdlijohkljcaa

/- The reference of layer 7: Decode. Conditions: none. -/
set_option linter.unusedSimpArgs false
set_option linter.unusedVariables false
set_option maxRecDepth 100000
namespace Go.Proofs.Ytccdlijohkljcaa
open Go
variable {G : Nat} {Ext : FuncId → List Value → Mem → Outc → Mem → Prop}

/-- words do not lie where slices lie -/
theorem WIn.other {S : Mem} {b : Nat} {x : Row} {t : TypeId} {a : Option Addr} {c : Nat} {l : WL} (h : WIn S a c l) (hr : S.row? b = some (newR [nilV, nilV] t)) : WIn (S.set b x) a c l := by
  refine ⟨?_, h.2⟩
  obtain ⟨h1, a', c', hv, h3⟩ := h.1
  refine ⟨h1, a', c', hv, ?_⟩
  rcases h3 with h3 | ⟨b', o, r, e1, e2, e3, e4, e5⟩
  · exact .inl h3
  · by_cases h0 : l.length * 1 = 0
    · exact .inl h0
    refine .inr ⟨b', o, r, e1, ?_, e3, e4, e5⟩
    by_cases hb : b = b'
    · exfalso
      subst hb
      rw [hr] at e2
      cases e2
      cases l with
      | nil => simp at h0
      | cons y l =>
        have hm : v64 y ∈ (([nilV, nilV] : List Value).drop o).take ((y :: l).length * 1) := by
          have : (([nilV, nilV] : List Value).drop o).take ((y :: l).length * 1) = wv (y :: l) := e4
          rw [this]; simp [wv]
        have hm2 : v64 y ∈ ([nilV, nilV] : List Value) := List.mem_of_mem_drop (List.mem_of_mem_take hm)
        simp [nilV] at hm2
    · rw [row_set_other _ hb]; exact e2
/-- what the reference of Decode hands out -/
def RefKey (S : Mem) (b : BL) (v : Value) (S' : Mem) : Prop := match keyS b with
  | .error e => v = .tuple #[.agg #[nilV, nilV], .int .i64 e] ∧ Cons S S'
  | .ok (l1, l2) => ∃ a1 c1 a2 c2, v = .tuple #[.agg #[.slice a1 l1.length c1, .slice a2 l2.length c2], .int .i64 0] ∧ Cons S S' ∧ WIn S' a1 c1 l1 ∧ WIn S' a2 c2 l2
theorem refDecode_C (a : Option Addr) (c : Nat) (b : BL) (S : Mem) (hI : BIn S a c b) : C Try.prog G Ext 12 [.slice a b.length c] S (RefKey S b) := by
  refine C.fn Try.func12 rfl (by kernel_rfl) rfl ?_
  have hbl := hI.2.2
  repeat (first | refine W.seq ?_ | refine W.block ?_ | refine W.reg ?_ | refine W.skip ?_ | refine W.exit ?_ | refine W.ret ?_ | refine L.nil ?_ | refine L.p rfl rfl ?_ | refine L.skip rfl ?_)
  refine L.eff (v := .pointer (some ⟨S.length, 0, none⟩)) (S1 := S ++ [newR [nilV, nilV] 26]) rfl rfl ?_
  have hC : Cons S (S ++ [newR [nilV, nilV] 26]) := Cons.push _ _
  have hr : Mem.row? (S ++ [newR [nilV, nilV] 26]) S.length = some (newR [nilV, nilV] 26) := row_push_new rfl
  generalize S ++ [newR [nilV, nilV] 26] = K at *
  have hIK := hI.cons hC
  repeat (first | refine W.seq ?_ | refine W.block ?_ | refine W.reg ?_ | refine W.skip ?_ | refine W.exit ?_ | refine W.ret ?_ | refine L.nil ?_ | refine L.p rfl rfl ?_ | refine L.skip rfl ?_)
  refine L.cl (refItem_C a c b 0 K hIK (by omega) (by omega)) rfl rfl ?_
  rintro _ _ ⟨rfl, hS⟩
  have hS2 := hS.symm
  subst hS2
  clear hS
  refine ⟨nofun, ?_⟩
  have hd0 : b.drop 0 = b := rfl
  rcases hi : itemS b with n | ⟨f, n⟩
  · rw [show itemV b 0 = .tuple #[.int .u8 0, .int .i64 0, .int .i64 0, .int .i64 n] from (itemV_err (k := 0) (Nat.zero_le _) hi).symm]
    have hn0 := itemS_ne hi
    repeat (first | refine W.seq ?_ | refine W.block ?_ | refine W.reg ?_ | refine W.skip ?_ | refine W.exit ?_ | refine W.ret ?_ | refine L.nil ?_ | refine L.p rfl rfl ?_ | refine L.skip rfl ?_)
    refine W.ite rfl (fun h => ?_) (fun h => ?_)
    rotate_left
    · simp [hn0] at h
    repeat (first | refine W.seq ?_ | refine W.block ?_ | refine W.reg ?_ | refine W.skip ?_ | refine W.exit ?_ | refine W.ret ?_ | refine L.nil ?_ | refine L.p rfl rfl ?_ | refine L.skip rfl ?_)
    refine L.bd #[nilV, nilV] rfl rfl rfl rfl rfl ?_
    repeat (first | refine W.seq ?_ | refine W.block ?_ | refine W.reg ?_ | refine W.skip ?_ | refine W.exit ?_ | refine W.ret ?_ | refine L.nil ?_ | refine L.p rfl rfl ?_ | refine L.skip rfl ?_)
    refine L.st (ad := ⟨S.length, 0, none⟩) (vs := [nilV, nilV]) (write_of (o := 0) hr rfl (Nat.le_refl 2) rfl) rfl rfl rfl rfl ?_
    rw [show List.set K S.length { newR [nilV, nilV] 26 with cells := putFrom (newR [nilV, nilV] 26).cells 0 [nilV, nilV] } = K from set_self hr]
    repeat (first | refine W.seq ?_ | refine W.block ?_ | refine W.reg ?_ | refine W.skip ?_ | refine W.exit ?_ | refine W.ret ?_ | refine L.nil ?_ | refine L.p rfl rfl ?_ | refine L.skip rfl ?_)
    refine ⟨.inr rfl, .tuple #[.agg #[nilV, nilV], .int .i64 n], ?_, ?_⟩
    · have h1 : aloadAt Try.prog 26 (.pointer (some ⟨S.length, 0, none⟩)) K = some (.agg #[nilV, nilV]) := aload_agg rfl rfl (cellsAt_of (o := 0) (n := 2) hr (Nat.le_refl 2))
      exact congrArg (fun o => Option.bind o (fun u => Option.map (fun v => Value.tuple #[u, v]) (some (Value.int .i64 n)))) h1
    · have hk : keyS b = .error n := by unfold keyS; rw [hi]
      unfold RefKey
      rw [hk]
      exact ⟨rfl, hC⟩
  rw [show itemV b 0 = .tuple #[.int .u8 (bat b 0), .int .i64 (f : Int), .int .i64 ((f + n : Nat) : Int), .int .i64 0] by
    rw [show (0 : Int) = ((0 : Nat) : Int) from rfl, itemV_ok (Nat.zero_le _) hi, Int.natCast_add]; simp]
  obtain ⟨hh1, hh2, hh3⟩ := itemS_ok hi
  have hbl8 := bat_lt b 0
  repeat (first | refine W.seq ?_ | refine W.block ?_ | refine W.reg ?_ | refine W.skip ?_ | refine W.exit ?_ | refine W.ret ?_ | refine L.nil ?_ | refine L.p rfl rfl ?_ | refine L.skip rfl ?_)
  refine W.ite rfl (fun h => ?_) (fun h => ?_)
  · cases h
  clear h
  repeat (first | refine W.seq ?_ | refine W.block ?_ | refine W.reg ?_ | refine W.skip ?_ | refine W.exit ?_ | refine W.ret ?_ | refine L.nil ?_ | refine L.p rfl rfl ?_ | refine L.skip rfl ?_)
  refine W.ite rfl (fun h => ?_) (fun h => ?_)
  · have hne : ¬ ((bat b 0 : Nat) : Int) = 48 := by simpa using h
    clear h
    repeat (first | refine W.seq ?_ | refine W.block ?_ | refine W.reg ?_ | refine W.skip ?_ | refine W.exit ?_ | refine W.ret ?_ | refine L.nil ?_ | refine L.p rfl rfl ?_ | refine L.skip rfl ?_)
    refine L.bd #[nilV, nilV] rfl rfl rfl rfl rfl ?_
    repeat (first | refine W.seq ?_ | refine W.block ?_ | refine W.reg ?_ | refine W.skip ?_ | refine W.exit ?_ | refine W.ret ?_ | refine L.nil ?_ | refine L.p rfl rfl ?_ | refine L.skip rfl ?_)
    refine L.st (ad := ⟨S.length, 0, none⟩) (vs := [nilV, nilV]) (write_of (o := 0) hr rfl (Nat.le_refl 2) rfl) rfl rfl rfl rfl ?_
    rw [show List.set K S.length { newR [nilV, nilV] 26 with cells := putFrom (newR [nilV, nilV] 26).cells 0 [nilV, nilV] } = K from set_self hr]
    repeat (first | refine W.seq ?_ | refine W.block ?_ | refine W.reg ?_ | refine W.skip ?_ | refine W.exit ?_ | refine W.ret ?_ | refine L.nil ?_ | refine L.p rfl rfl ?_ | refine L.skip rfl ?_)
    refine ⟨.inr rfl, .tuple #[.agg #[nilV, nilV], .int .i64 71], ?_, ?_⟩
    · have h1 : aloadAt Try.prog 26 (.pointer (some ⟨S.length, 0, none⟩)) K = some (.agg #[nilV, nilV]) := aload_agg rfl rfl (cellsAt_of (o := 0) (n := 2) hr (Nat.le_refl 2))
      exact congrArg (fun o => Option.bind o (fun u => Option.map (fun v => Value.tuple #[u, v]) (some (Value.int .i64 71)))) h1
    · have hk : keyS b = .error 71 := by unfold keyS; rw [hi]; dsimp only; rw [if_pos (by omega)]
      unfold RefKey
      rw [hk]
      exact ⟨rfl, hC⟩
  have heq : ¬ bat b 0 ≠ 48 := by have : ((bat b 0 : Nat) : Int) = 48 := (by simpa using h); omega
  clear h
  repeat (first | refine W.seq ?_ | refine W.block ?_ | refine W.reg ?_ | refine W.skip ?_ | refine W.exit ?_ | refine W.ret ?_ | refine L.nil ?_ | refine L.p rfl rfl ?_ | refine L.skip rfl ?_)
  refine W.ite rfl (fun h => ?_) (fun h => ?_)
  · have hlt : f + n < b.length := by have := of_decide_eq_true h; omega
    clear h
    repeat (first | refine W.seq ?_ | refine W.block ?_ | refine W.reg ?_ | refine W.skip ?_ | refine W.exit ?_ | refine W.ret ?_ | refine L.nil ?_ | refine L.p rfl rfl ?_ | refine L.skip rfl ?_)
    refine L.bd #[nilV, nilV] rfl rfl rfl rfl rfl ?_
    repeat (first | refine W.seq ?_ | refine W.block ?_ | refine W.reg ?_ | refine W.skip ?_ | refine W.exit ?_ | refine W.ret ?_ | refine L.nil ?_ | refine L.p rfl rfl ?_ | refine L.skip rfl ?_)
    refine L.st (ad := ⟨S.length, 0, none⟩) (vs := [nilV, nilV]) (write_of (o := 0) hr rfl (Nat.le_refl 2) rfl) rfl rfl rfl rfl ?_
    rw [show List.set K S.length { newR [nilV, nilV] 26 with cells := putFrom (newR [nilV, nilV] 26).cells 0 [nilV, nilV] } = K from set_self hr]
    repeat (first | refine W.seq ?_ | refine W.block ?_ | refine W.reg ?_ | refine W.skip ?_ | refine W.exit ?_ | refine W.ret ?_ | refine L.nil ?_ | refine L.p rfl rfl ?_ | refine L.skip rfl ?_)
    refine ⟨.inr rfl, .tuple #[.agg #[nilV, nilV], .int .i64 74], ?_, ?_⟩
    · have h1 : aloadAt Try.prog 26 (.pointer (some ⟨S.length, 0, none⟩)) K = some (.agg #[nilV, nilV]) := aload_agg rfl rfl (cellsAt_of (o := 0) (n := 2) hr (Nat.le_refl 2))
      exact congrArg (fun o => Option.bind o (fun u => Option.map (fun v => Value.tuple #[u, v]) (some (Value.int .i64 74)))) h1
    · have hk : keyS b = .error 74 := by unfold keyS; rw [hi]; dsimp only; rw [if_neg heq, if_pos hlt]
      unfold RefKey
      rw [hk]
      exact ⟨rfl, hC⟩
  have hge : ¬ f + n < b.length := by have := of_decide_eq_false h; omega
  clear h
  have hkey : keyS b = keyT ((b.drop f).take n) := by unfold keyS; rw [hi]; dsimp only; rw [if_neg heq, if_neg hge]
  obtain ⟨m, hm⟩ : ∃ m, m = (b.drop f).take n := ⟨_, rfl⟩
  rw [← hm] at hkey
  obtain ⟨a1, c1, q1, q2⟩ := hIK.part (k := f) (h := f + n) (.inr ⟨.i64, rfl⟩) (.inr ⟨.i64, rfl⟩) (by omega) (by omega)
  rw [show f + n - f = n by omega, ← hm] at q1 q2
  repeat (first | refine W.seq ?_ | refine W.block ?_ | refine W.reg ?_ | refine W.skip ?_ | refine W.exit ?_ | refine W.ret ?_ | refine L.nil ?_ | refine L.p rfl rfl ?_ | refine L.skip rfl ?_)
  refine L.is (.slice a1 m.length c1) ((slice_at0 rfl rfl rfl).trans q1) rfl ?_
  repeat (first | refine W.seq ?_ | refine W.block ?_ | refine W.reg ?_ | refine W.skip ?_ | refine W.exit ?_ | refine W.ret ?_ | refine L.nil ?_ | refine L.p rfl rfl ?_ | refine L.skip rfl ?_)
  refine L.cl (refNumber_C a1 c1 m 0 K q2 (Nat.zero_le _)) rfl rfl ?_
  rintro _ K1 ⟨a2, c2, l1, to1, e1, rfl, hc1, hP1⟩
  refine ⟨nofun, ?_⟩
  have hr1 := Cons.row (h := hc1) hr
  repeat (first | refine W.seq ?_ | refine W.block ?_ | refine W.reg ?_ | refine W.skip ?_ | refine W.exit ?_ | refine W.ret ?_ | refine L.nil ?_ | refine L.p rfl rfl ?_ | refine L.skip rfl ?_)
  rw [show m.drop 0 = m from rfl] at hP1
  rcases hp1 : partS m with x | ⟨l1', r1⟩
  · rw [hp1] at hP1
    obtain ⟨rfl, hx0⟩ := hP1
    refine W.ite rfl (fun h => ?_) (fun h => ?_)
    rotate_left
    · simp [hx0] at h
    repeat (first | refine W.seq ?_ | refine W.block ?_ | refine W.reg ?_ | refine W.skip ?_ | refine W.exit ?_ | refine W.ret ?_ | refine L.nil ?_ | refine L.p rfl rfl ?_ | refine L.skip rfl ?_)
    refine L.bd #[nilV, nilV] rfl rfl rfl rfl rfl ?_
    repeat (first | refine W.seq ?_ | refine W.block ?_ | refine W.reg ?_ | refine W.skip ?_ | refine W.exit ?_ | refine W.ret ?_ | refine L.nil ?_ | refine L.p rfl rfl ?_ | refine L.skip rfl ?_)
    refine L.st (ad := ⟨S.length, 0, none⟩) (vs := [nilV, nilV]) (write_of (o := 0) hr1 rfl (Nat.le_refl 2) rfl) rfl rfl rfl rfl ?_
    rw [show List.set K1 S.length { newR [nilV, nilV] 26 with cells := putFrom (newR [nilV, nilV] 26).cells 0 [nilV, nilV] } = K1 from set_self hr1]
    repeat (first | refine W.seq ?_ | refine W.block ?_ | refine W.reg ?_ | refine W.skip ?_ | refine W.exit ?_ | refine W.ret ?_ | refine L.nil ?_ | refine L.p rfl rfl ?_ | refine L.skip rfl ?_)
    refine ⟨.inr rfl, .tuple #[.agg #[nilV, nilV], .int .i64 e1], ?_, ?_⟩
    · have h1 : aloadAt Try.prog 26 (.pointer (some ⟨S.length, 0, none⟩)) K1 = some (.agg #[nilV, nilV]) := aload_agg rfl rfl (cellsAt_of (o := 0) (n := 2) hr1 (Nat.le_refl 2))
      exact congrArg (fun o => Option.bind o (fun u => Option.map (fun v => Value.tuple #[u, v]) (some (Value.int .i64 e1)))) h1
    · have hk : keyS b = .error e1 := by rw [hkey]; unfold keyT; rw [hp1]
      unfold RefKey
      rw [hk]
      exact ⟨rfl, (hC.trans hc1)⟩
  rw [hp1] at hP1
  obtain ⟨rfl, rfl, hW1, t1, rfl, ht1, rfl⟩ := hP1
  refine W.ite rfl (fun h => ?_) (fun h => ?_)
  · cases h
  clear h
  repeat (first | refine W.seq ?_ | refine W.block ?_ | refine W.reg ?_ | refine W.skip ?_ | refine W.exit ?_ | refine W.ret ?_ | refine L.nil ?_ | refine L.p rfl rfl ?_ | refine L.skip rfl ?_)
  refine L.cl (refNumber_C a1 c1 m t1 K1 (q2.cons hc1) ht1) rfl rfl ?_
  rintro _ K2 ⟨a3, c3, l2, to2, e2, rfl, hc2, hP2⟩
  refine ⟨nofun, ?_⟩
  have hr2 := Cons.row (h := hc2) hr1
  repeat (first | refine W.seq ?_ | refine W.block ?_ | refine W.reg ?_ | refine W.skip ?_ | refine W.exit ?_ | refine W.ret ?_ | refine L.nil ?_ | refine L.p rfl rfl ?_ | refine L.skip rfl ?_)
  rcases hp2 : partS (m.drop t1) with x | ⟨l2', r2⟩
  · rw [hp2] at hP2
    obtain ⟨rfl, hx0⟩ := hP2
    refine W.ite rfl (fun h => ?_) (fun h => ?_)
    rotate_left
    · simp [hx0] at h
    repeat (first | refine W.seq ?_ | refine W.block ?_ | refine W.reg ?_ | refine W.skip ?_ | refine W.exit ?_ | refine W.ret ?_ | refine L.nil ?_ | refine L.p rfl rfl ?_ | refine L.skip rfl ?_)
    refine L.bd #[nilV, nilV] rfl rfl rfl rfl rfl ?_
    repeat (first | refine W.seq ?_ | refine W.block ?_ | refine W.reg ?_ | refine W.skip ?_ | refine W.exit ?_ | refine W.ret ?_ | refine L.nil ?_ | refine L.p rfl rfl ?_ | refine L.skip rfl ?_)
    refine L.st (ad := ⟨S.length, 0, none⟩) (vs := [nilV, nilV]) (write_of (o := 0) hr2 rfl (Nat.le_refl 2) rfl) rfl rfl rfl rfl ?_
    rw [show List.set K2 S.length { newR [nilV, nilV] 26 with cells := putFrom (newR [nilV, nilV] 26).cells 0 [nilV, nilV] } = K2 from set_self hr2]
    repeat (first | refine W.seq ?_ | refine W.block ?_ | refine W.reg ?_ | refine W.skip ?_ | refine W.exit ?_ | refine W.ret ?_ | refine L.nil ?_ | refine L.p rfl rfl ?_ | refine L.skip rfl ?_)
    refine ⟨.inr rfl, .tuple #[.agg #[nilV, nilV], .int .i64 e2], ?_, ?_⟩
    · have h1 : aloadAt Try.prog 26 (.pointer (some ⟨S.length, 0, none⟩)) K2 = some (.agg #[nilV, nilV]) := aload_agg rfl rfl (cellsAt_of (o := 0) (n := 2) hr2 (Nat.le_refl 2))
      exact congrArg (fun o => Option.bind o (fun u => Option.map (fun v => Value.tuple #[u, v]) (some (Value.int .i64 e2)))) h1
    · have hk : keyS b = .error e2 := by rw [hkey]; unfold keyT; rw [hp1]; dsimp only; rw [hp2]
      unfold RefKey
      rw [hk]
      exact ⟨rfl, ((hC.trans hc1).trans hc2)⟩
  rw [hp2] at hP2
  obtain ⟨rfl, rfl, hW2, t2, rfl, ht2, rfl⟩ := hP2
  refine W.ite rfl (fun h => ?_) (fun h => ?_)
  · cases h
  clear h
  have hl2 : (m.drop t2).length = m.length - t2 := List.length_drop
  repeat (first | refine W.seq ?_ | refine W.block ?_ | refine W.reg ?_ | refine W.skip ?_ | refine W.exit ?_ | refine W.ret ?_ | refine L.nil ?_ | refine L.p rfl rfl ?_ | refine L.skip rfl ?_)
  refine W.ite rfl (fun h => ?_) (fun h => ?_)
  · have hlt := of_decide_eq_true h
    clear h
    repeat (first | refine W.seq ?_ | refine W.block ?_ | refine W.reg ?_ | refine W.skip ?_ | refine W.exit ?_ | refine W.ret ?_ | refine L.nil ?_ | refine L.p rfl rfl ?_ | refine L.skip rfl ?_)
    refine L.bd #[nilV, nilV] rfl rfl rfl rfl rfl ?_
    repeat (first | refine W.seq ?_ | refine W.block ?_ | refine W.reg ?_ | refine W.skip ?_ | refine W.exit ?_ | refine W.ret ?_ | refine L.nil ?_ | refine L.p rfl rfl ?_ | refine L.skip rfl ?_)
    refine L.st (ad := ⟨S.length, 0, none⟩) (vs := [nilV, nilV]) (write_of (o := 0) hr2 rfl (Nat.le_refl 2) rfl) rfl rfl rfl rfl ?_
    rw [show List.set K2 S.length { newR [nilV, nilV] 26 with cells := putFrom (newR [nilV, nilV] 26).cells 0 [nilV, nilV] } = K2 from set_self hr2]
    repeat (first | refine W.seq ?_ | refine W.block ?_ | refine W.reg ?_ | refine W.skip ?_ | refine W.exit ?_ | refine W.ret ?_ | refine L.nil ?_ | refine L.p rfl rfl ?_ | refine L.skip rfl ?_)
    refine ⟨.inr rfl, .tuple #[.agg #[nilV, nilV], .int .i64 74], ?_, ?_⟩
    · have h1 : aloadAt Try.prog 26 (.pointer (some ⟨S.length, 0, none⟩)) K2 = some (.agg #[nilV, nilV]) := aload_agg rfl rfl (cellsAt_of (o := 0) (n := 2) hr2 (Nat.le_refl 2))
      exact congrArg (fun o => Option.bind o (fun u => Option.map (fun v => Value.tuple #[u, v]) (some (Value.int .i64 74)))) h1
    · have hk : keyS b = .error 74 := by rw [hkey]; unfold keyT; rw [hp1]; dsimp only; rw [hp2]; dsimp only; rw [if_pos (by omega)]
      unfold RefKey
      rw [hk]
      exact ⟨rfl, ((hC.trans hc1).trans hc2)⟩
  have hge2 := of_decide_eq_false h
  clear h
  have hend : keyS b = .ok (l1, l2) := by rw [hkey]; unfold keyT; rw [hp1]; dsimp only; rw [hp2]; dsimp only; rw [if_neg (by omega)]
  repeat (first | refine W.seq ?_ | refine W.block ?_ | refine W.reg ?_ | refine W.skip ?_ | refine W.exit ?_ | refine W.ret ?_ | refine L.nil ?_ | refine L.p rfl rfl ?_ | refine L.skip rfl ?_)
  refine L.bd #[.slice a2 l1.length c2, .slice a3 l2.length c3] rfl rfl rfl rfl rfl ?_
  refine L.st (ad := ⟨S.length, 0, none⟩) (vs := [.slice a2 l1.length c2, .slice a3 l2.length c3]) (write_of (o := 0) hr2 rfl (Nat.le_refl 2) rfl) rfl rfl rfl rfl ?_
  have hk3 : Mem.row? (List.set K2 S.length { newR [nilV, nilV] 26 with cells := putFrom (newR [nilV, nilV] 26).cells 0 [.slice a2 l1.length c2, .slice a3 l2.length c3] }) S.length = some (newR [.slice a2 l1.length c2, .slice a3 l2.length c3] 26) := by
    rw [row_set_same hr2 rfl]; rfl
  have hC2 := (hC.trans hc1).trans hc2
  have hlK := row_lt hr2
  have hC3 : Cons S (List.set K2 S.length { newR [nilV, nilV] 26 with cells := putFrom (newR [nilV, nilV] 26).cells 0 [.slice a2 l1.length c2, .slice a3 l2.length c3] }) := hC2.set _ _ (Nat.le_refl _)
  have hWa := (hW1.cons hc2).other (x := { newR [nilV, nilV] 26 with cells := putFrom (newR [nilV, nilV] 26).cells 0 [.slice a2 l1.length c2, .slice a3 l2.length c3] }) hr2
  have hWb := hW2.other (x := { newR [nilV, nilV] 26 with cells := putFrom (newR [nilV, nilV] 26).cells 0 [.slice a2 l1.length c2, .slice a3 l2.length c3] }) hr2
  generalize List.set K2 S.length _ = K3 at *
  repeat (first | refine W.seq ?_ | refine W.block ?_ | refine W.reg ?_ | refine W.skip ?_ | refine W.exit ?_ | refine W.ret ?_ | refine L.nil ?_ | refine L.p rfl rfl ?_ | refine L.skip rfl ?_)
  refine ⟨.inr rfl, .tuple #[.agg #[.slice a2 l1.length c2, .slice a3 l2.length c3], .int .i64 0], ?_, ?_⟩
  · have h1 : aloadAt Try.prog 26 (.pointer (some ⟨S.length, 0, none⟩)) K3 = some (.agg #[.slice a2 l1.length c2, .slice a3 l2.length c3]) := aload_agg rfl rfl (cellsAt_of (o := 0) (n := 2) hk3 (Nat.le_refl 2))
    exact congrArg (fun o => Option.bind o (fun u => Option.map (fun v => Value.tuple #[u, v]) (some (Value.int .i64 0)))) h1
  · unfold RefKey
    rw [hend]
    exact ⟨a2, c2, a3, c3, rfl, hC3, hWa, hWb⟩
end Go.Proofs.Ytccdlijohkljcaa
