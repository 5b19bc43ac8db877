/- The law of any steps with two Hashes, walked. Conditions: none. -/
import Derived.Test.YteadbbimikcmgaaShaSums
import Derived.Test.YteadbbimikcmgaaBookC
set_option linter.unusedSimpArgs false
set_option linter.unusedVariables false
set_option maxRecDepth 100000
set_option maxHeartbeats 4000000
namespace Go.Proofs.Yteadbbimikcmgaa
open Go
variable {G : Nat} {Ext : FuncId → List Value → Mem → Outc → Mem → Prop}

/-- a step of a script -/
structure SStep where
  k : Int
  a : Option Addr
  c : Nat
  l : BL
def SStep.cells (s : SStep) : List Value := [.int .i64 s.k, .slice s.a s.l.length s.c]
def StepsIn (S : Mem) (v : Value) (ss : List SStep) : Prop := Slv S 2 v ss.length (ss.flatMap SStep.cells) ∧ ∀ s ∈ ss, Slv S 1 (.slice s.a s.l.length s.c) s.l.length (bv s.l) ∧ Cut s.l.length s.c ∧ ∀ x, s.a = some x → x.block < S.length
theorem steps_get (ss : List SStep) {i : Nat} {s : SStep} (h : ss[i]? = some s) : (ss.flatMap SStep.cells)[i * 2 + 0]? = some (.int .i64 s.k) ∧ (ss.flatMap SStep.cells)[i * 2 + 1]? = some (.slice s.a s.l.length s.c) := by
  induction ss generalizing i with
  | nil => simp at h
  | cons t ss ih =>
    rw [List.flatMap_cons]
    cases i with
    | zero => simp at h; subst h; exact ⟨rfl, rfl⟩
    | succ i =>
      have := ih (by simpa using h)
      rw [show (i + 1) * 2 + 0 = (i * 2 + 0) + 1 + 1 by omega, show (i + 1) * 2 + 1 = (i * 2 + 1) + 1 + 1 by omega]
      exact this
theorem StepsIn.cons {S S' : Mem} {v : Value} {ss : List SStep} (h : StepsIn S v ss) (k : Cons S S') : StepsIn S' v ss :=
  ⟨h.1.cons k, fun s hs => ⟨(h.2 s hs).1.cons k, (h.2 s hs).2.1, fun x hx => Nat.lt_of_lt_of_le ((h.2 s hs).2.2 x hx) k.len⟩⟩
/-- two Hashes, and what was written into each -/
def PState (S S' : Mem) (rh ro : Nat) (r1 r2 : Row) (m1 m2 : BL) (a1 a2 : Option Nat) (c1 c2 : Nat) : Prop :=
  Cons S S' ∧ S'.row? rh = some r1 ∧ HS m1 r1 ∧ S'.row? ro = some r2 ∧ HS m2 r2 ∧ rh ≠ ro ∧ S.length ≤ rh ∧ S.length ≤ ro ∧ HdOk S' 5 ⟨a1, m1.length, c1⟩ (bv m1) ∧ HdOk S' 5 ⟨a2, m2.length, c2⟩ (bv m2) ∧
  (∀ b, a1 = some b → S.length ≤ b ∧ b ≠ rh ∧ b ≠ ro ∧ a2 ≠ some b) ∧ (∀ b, a2 = some b → S.length ≤ b ∧ b ≠ rh ∧ b ≠ ro) ∧ m1.length + m2.length ≤ 40000
theorem PState.swap {S S' : Mem} {rh ro : Nat} {r1 r2 : Row} {m1 m2 : BL} {a1 a2 : Option Nat} {c1 c2 : Nat} (h : PState S S' rh ro r1 r2 m1 m2 a1 a2 c1 c2) : PState S S' ro rh r2 r1 m2 m1 a2 a1 c2 c1 := by
  obtain ⟨h1, h2, h3, h4, h5, h6, h7, h8, h9, h10, h11, h12, h13⟩ := h
  exact ⟨h1, h4, h5, h2, h3, Ne.symm h6, h8, h7, h10, h9, fun b e => ⟨(h12 b e).1, (h12 b e).2.2, (h12 b e).2.1, fun e2 => (h11 b e2).2.2.2 e⟩, fun b e => ⟨(h11 b e).1, (h11 b e).2.2.1, (h11 b e).2.1⟩, by omega⟩
theorem PState.cons {S S' S2 : Mem} {rh ro : Nat} {r1 r2 : Row} {m1 m2 : BL} {a1 a2 : Option Nat} {c1 c2 : Nat} (h : PState S S' rh ro r1 r2 m1 m2 a1 a2 c1 c2) (k : Cons S' S2) : PState S S2 rh ro r1 r2 m1 m2 a1 a2 c1 c2 := by
  obtain ⟨h1, h2, h3, h4, h5, h6, h7, h8, h9, h10, h11, h12, h13⟩ := h
  exact ⟨h1.trans k, k.row' h2, h3, k.row' h4, h5, h6, h7, h8, h9.cons k, h10.cons k, h11, h12, h13⟩
theorem HS.n {m : BL} {r : Row} (h : HS m r) : r.cells[69]? = some (v64 (BitVec.ofNat 64 m.length)) ∧ r.ro = none ∧ r.cells.length = 70 := by
  obtain ⟨blk, hb, rfl, hw⟩ := h
  exact ⟨hash_n _ _ hb, rfl, by simp [newR, hashCells, cells5, bv_len, hb]⟩
theorem len_u64 {m : BL} (h : m.length < 18446744073709551616) : IntKind.u64.wrap (m.length : Int) = ((BitVec.ofNat 64 m.length).toNat : Int) := by rw [wrapU64 (by omega) (by omega), ofNat_toNat h]
theorem pieces_C (v0 : Value) (ss : List SStep) (S : Mem) (hS : StepsIn S v0 ss) :
    C Try.prog G Ext 4 [v0] S fun v S' => v = .bool true ∧ Cons S S' := by
  obtain ⟨_, a0, c0, rfl, _⟩ := id hS.1
  refine C.fn Try.func4 rfl (by kernel_rfl) rfl ?_
  repeat (first | refine W.seq ?_ | refine W.block ?_ | refine W.reg ?_ | refine W.skip ?_ | refine W.exit ?_ | refine W.ret ?_ | refine L.nil ?_ | refine L.p rfl rfl ?_ | refine L.skip rfl ?_)
  refine W.ite rfl (fun h => ?_) (fun h => ?_)
  · repeat (first | refine W.seq ?_ | refine W.block ?_ | refine W.reg ?_ | refine W.skip ?_ | refine W.exit ?_ | refine W.ret ?_ | refine L.nil ?_ | refine L.p rfl rfl ?_ | refine L.skip rfl ?_)
    exact ⟨.inr rfl, _, rfl, rfl, Cons.refl _⟩
  have hl : ss.length ≤ 60 := by simp at h; omega
  clear h
  repeat (first | refine W.seq ?_ | refine W.block ?_ | refine W.reg ?_ | refine W.skip ?_ | refine W.exit ?_ | refine W.ret ?_ | refine L.nil ?_ | refine L.p rfl rfl ?_ | refine L.skip rfl ?_)
  refine L.cl (new_C _) rfl rfl ?_
  rintro _ S1 ⟨rfl, hS1⟩
  refine ⟨nofun, ?_⟩
  repeat (first | refine W.seq ?_ | refine W.block ?_ | refine W.reg ?_ | refine W.skip ?_ | refine W.exit ?_ | refine W.ret ?_ | refine L.nil ?_ | refine L.p rfl rfl ?_ | refine L.skip rfl ?_)
  refine L.cl (new_C _) rfl rfl ?_
  rintro _ S2 ⟨rfl, hS2⟩
  refine ⟨nofun, ?_⟩
  repeat (first | refine W.seq ?_ | refine W.block ?_ | refine W.reg ?_ | refine W.skip ?_ | refine W.exit ?_ | refine W.ret ?_ | refine L.nil ?_ | refine L.p rfl rfl ?_ | refine L.skip rfl ?_)
  refine W.ite rfl (fun h => ?_) (fun h => ?_)
  · cases h
  clear h
  have hP : PState S S2 S.length S1.length (newR (hashCells st0 (List.replicate 64 0#8) 0#64) 55) (newR (hashCells st0 (List.replicate 64 0#8) 0#64) 55) [] [] none none 0 0 := by
    subst hS1; subst hS2
    exact ⟨(Cons.push _ _).trans (Cons.push _ _), row_fresh rfl (row_push_new rfl), HS_new, row_push_new rfl, HS_new, by simp, by simp, by simp, HdOk.nil _ _, HdOk.nil _ _, nofun, nofun, by simp⟩
  clear hS2
  repeat (first | refine W.seq ?_ | refine W.block ?_ | refine W.reg ?_ | refine W.skip ?_ | refine W.exit ?_ | refine W.ret ?_ | refine L.nil ?_ | refine L.p rfl rfl ?_ | refine L.skip rfl ?_)
  refine W.loop (fun j e S' => ∃ (i rh ro : Nat) (r1 r2 : Row) (m1 m2 : BL) (a1 a2 : Option Nat) (c1 c2 : Nat), j = ss.length - i ∧ i ≤ ss.length ∧ e 0 = .slice a0 ss.length c0 ∧ e 3 = .pointer (some ⟨rh, 0, none⟩) ∧ e 4 = .pointer (some ⟨ro, 0, none⟩) ∧
      e 5 = Hd.v ⟨a1, m1.length, c1⟩ ∧ e 6 = Hd.v ⟨a2, m2.length, c2⟩ ∧ e 7 = vi i ∧ PState S S' rh ro r1 r2 m1 m2 a1 a2 c1 c2) ss.length
    ⟨0, _, _, _, _, [], [], none, none, 0, 0, by omega, by omega, rfl, rfl, rfl, rfl, rfl, rfl, hP⟩ ?_
  clear hP S1 hS1 S2
  rintro j e S' ⟨i, rh, ro, r1, r2, m1, m2, a1, a2, c1, c2, rfl, hi, e0, e3, e4, e5, e6, e7, hP⟩
  refine W.env6 e0 e3 e4 e5 e6 e7 ?_
  have hP0 := hP
  obtain ⟨q1, q2, q3, q4, q5, q6, q7, q8, q9, q10, q11, q12, q13⟩ := id hP0
  repeat (first | refine W.seq ?_ | refine W.block ?_ | refine W.reg ?_ | refine W.skip ?_ | refine W.exit ?_ | refine W.ret ?_ | refine L.nil ?_ | refine L.p rfl rfl ?_ | refine L.skip rfl ?_)
  cases hb : decide ((i : Int) < (ss.length : Int))
  · have hin : i = ss.length := by simp at hb; omega
    subst hin
    clear hb
    repeat (first | refine W.seq ?_ | refine W.block ?_ | refine W.reg ?_ | refine W.skip ?_ | refine W.exit ?_ | refine W.ret ?_ | refine L.nil ?_ | refine L.p rfl rfl ?_ | refine L.skip rfl ?_)
    refine W.ite rfl (fun h => ?_) (fun h => ?_)
    · cases h
    repeat (first | refine W.seq ?_ | refine W.block ?_ | refine W.reg ?_ | refine W.skip ?_ | refine W.exit ?_ | refine W.ret ?_ | refine L.nil ?_ | refine L.p rfl rfl ?_ | refine L.skip rfl ?_)
    refine L.cl (hsum_C rh m1 _ _ hP.2.1 hP.2.2.1 (by omega)) rfl rfl ?_
    rintro _ M1 ⟨rfl, hcA⟩
    refine ⟨nofun, ?_⟩
    have hP := hP.cons hcA
    repeat (first | refine W.seq ?_ | refine W.block ?_ | refine W.reg ?_ | refine W.skip ?_ | refine W.exit ?_ | refine W.ret ?_ | refine L.nil ?_ | refine L.p rfl rfl ?_ | refine L.skip rfl ?_)
    refine L.cl (refsum_C m1 _ _ M1 hP.2.2.2.2.2.2.2.2.1.slv (by omega)) rfl rfl ?_
    rintro _ M2 ⟨rfl, hcB⟩
    refine ⟨nofun, ?_⟩
    have hP := hP.cons hcB
    refine L.eq20 rfl rfl (sumL_len _) (sumL_len _) rfl ?_
    rw [show (sumL m1 == sumL m1) = true from beq_self_eq_true _]
    repeat (first | refine W.seq ?_ | refine W.block ?_ | refine W.reg ?_ | refine W.skip ?_ | refine W.exit ?_ | refine W.ret ?_ | refine L.nil ?_ | refine L.p rfl rfl ?_ | refine L.skip rfl ?_)
    refine L.cl (hsum_C ro m2 _ _ hP.2.2.2.1 hP.2.2.2.2.1 (by omega)) rfl rfl ?_
    rintro _ M3 ⟨rfl, hcC⟩
    refine ⟨nofun, ?_⟩
    have hP := hP.cons hcC
    repeat (first | refine W.seq ?_ | refine W.block ?_ | refine W.reg ?_ | refine W.skip ?_ | refine W.exit ?_ | refine W.ret ?_ | refine L.nil ?_ | refine L.p rfl rfl ?_ | refine L.skip rfl ?_)
    refine L.cl (refsum_C m2 _ _ M3 hP.2.2.2.2.2.2.2.2.2.1.slv (by omega)) rfl rfl ?_
    rintro _ M4 ⟨rfl, hcD⟩
    refine ⟨nofun, ?_⟩
    have hP := hP.cons hcD
    refine L.eq20 rfl rfl (sumL_len _) (sumL_len _) rfl ?_
    rw [show (sumL m2 == sumL m2) = true from beq_self_eq_true _]
    repeat (first | refine W.seq ?_ | refine W.block ?_ | refine W.reg ?_ | refine W.skip ?_ | refine W.exit ?_ | refine W.ret ?_ | refine L.nil ?_ | refine L.p rfl rfl ?_ | refine L.skip rfl ?_)
    refine L.cl (works_C _) rfl rfl ?_
    rintro _ M5 ⟨rfl, hcE⟩
    refine ⟨nofun, ?_⟩
    have hP := hP.cons hcE
    repeat (first | refine W.seq ?_ | refine W.block ?_ | refine W.reg ?_ | refine W.skip ?_ | refine W.exit ?_ | refine W.ret ?_ | refine L.nil ?_ | refine L.p rfl rfl ?_ | refine L.skip rfl ?_)
    exact ⟨.inr rfl, _, rfl, rfl, hP.1⟩
  have hin : i < ss.length := by simp at hb; omega
  repeat (first | refine W.seq ?_ | refine W.block ?_ | refine W.reg ?_ | refine W.skip ?_ | refine W.exit ?_ | refine W.ret ?_ | refine L.nil ?_ | refine L.p rfl rfl ?_ | refine L.skip rfl ?_)
  refine W.ite rfl (fun h => ?_) (fun h => ?_)
  rotate_left
  · clear h
    repeat (first | refine W.seq ?_ | refine W.block ?_ | refine W.reg ?_ | refine W.skip ?_ | refine W.exit ?_ | refine W.ret ?_ | refine L.nil ?_ | refine L.p rfl rfl ?_ | refine L.skip rfl ?_)
    refine L.cl (hsum_C rh m1 _ _ hP.2.1 hP.2.2.1 (by omega)) rfl rfl ?_
    rintro _ M1 ⟨rfl, hcA⟩
    refine ⟨nofun, ?_⟩
    have hP := hP.cons hcA
    repeat (first | refine W.seq ?_ | refine W.block ?_ | refine W.reg ?_ | refine W.skip ?_ | refine W.exit ?_ | refine W.ret ?_ | refine L.nil ?_ | refine L.p rfl rfl ?_ | refine L.skip rfl ?_)
    refine L.cl (refsum_C m1 _ _ M1 hP.2.2.2.2.2.2.2.2.1.slv (by omega)) rfl rfl ?_
    rintro _ M2 ⟨rfl, hcB⟩
    refine ⟨nofun, ?_⟩
    have hP := hP.cons hcB
    refine L.eq20 rfl rfl (sumL_len _) (sumL_len _) rfl ?_
    rw [show (sumL m1 == sumL m1) = true from beq_self_eq_true _]
    repeat (first | refine W.seq ?_ | refine W.block ?_ | refine W.reg ?_ | refine W.skip ?_ | refine W.exit ?_ | refine W.ret ?_ | refine L.nil ?_ | refine L.p rfl rfl ?_ | refine L.skip rfl ?_)
    refine L.cl (hsum_C ro m2 _ _ hP.2.2.2.1 hP.2.2.2.2.1 (by omega)) rfl rfl ?_
    rintro _ M3 ⟨rfl, hcC⟩
    refine ⟨nofun, ?_⟩
    have hP := hP.cons hcC
    repeat (first | refine W.seq ?_ | refine W.block ?_ | refine W.reg ?_ | refine W.skip ?_ | refine W.exit ?_ | refine W.ret ?_ | refine L.nil ?_ | refine L.p rfl rfl ?_ | refine L.skip rfl ?_)
    refine L.cl (refsum_C m2 _ _ M3 hP.2.2.2.2.2.2.2.2.2.1.slv (by omega)) rfl rfl ?_
    rintro _ M4 ⟨rfl, hcD⟩
    refine ⟨nofun, ?_⟩
    have hP := hP.cons hcD
    refine L.eq20 rfl rfl (sumL_len _) (sumL_len _) rfl ?_
    rw [show (sumL m2 == sumL m2) = true from beq_self_eq_true _]
    repeat (first | refine W.seq ?_ | refine W.block ?_ | refine W.reg ?_ | refine W.skip ?_ | refine W.exit ?_ | refine W.ret ?_ | refine L.nil ?_ | refine L.p rfl rfl ?_ | refine L.skip rfl ?_)
    refine L.cl (works_C _) rfl rfl ?_
    rintro _ M5 ⟨rfl, hcE⟩
    refine ⟨nofun, ?_⟩
    have hP := hP.cons hcE
    repeat (first | refine W.seq ?_ | refine W.block ?_ | refine W.reg ?_ | refine W.skip ?_ | refine W.exit ?_ | refine W.ret ?_ | refine L.nil ?_ | refine L.p rfl rfl ?_ | refine L.skip rfl ?_)
    exact ⟨.inr rfl, _, rfl, rfl, hP.1⟩
  have hsm : m1.length + m2.length ≤ 16384 := by
    simp at h
    rw [wrap64 (by omega) (by omega)] at h
    omega
  clear h hb
  obtain ⟨s, hs⟩ : ∃ s, ss[i]? = some s := ⟨_, List.getElem?_eq_getElem hin⟩
  have hsg := steps_get ss hs
  have hSI := hS.cons q1
  obtain ⟨b0, o0, _, hv, hcell⟩ := hSI.1.get2 (j := 0) (by omega) hin hsg.1
  cases hv
  obtain ⟨_, _, _, hv, hcellB⟩ := hSI.1.get2 (j := 1) (by omega) hin hsg.2
  cases hv
  repeat (first | refine W.seq ?_ | refine W.block ?_ | refine W.reg ?_ | refine W.skip ?_ | refine W.exit ?_ | refine W.ret ?_ | refine L.nil ?_ | refine L.p rfl rfl ?_ | refine L.skip rfl ?_)
  refine L.ix rfl hin rfl rfl rfl rfl ?_
  repeat (first | refine W.seq ?_ | refine W.block ?_ | refine W.reg ?_ | refine W.skip ?_ | refine W.exit ?_ | refine W.ret ?_ | refine L.nil ?_ | refine L.p rfl rfl ?_ | refine L.skip rfl ?_)
  refine L.ld hcell rfl rfl rfl ?_
  repeat (first | refine W.seq ?_ | refine W.block ?_ | refine W.reg ?_ | refine W.skip ?_ | refine W.exit ?_ | refine W.ret ?_ | refine L.nil ?_ | refine L.p rfl rfl ?_ | refine L.skip rfl ?_)
  refine W.ite rfl (fun h => ?_) (fun h => ?_)
  · clear h
    repeat (first | refine W.seq ?_ | refine W.block ?_ | refine W.reg ?_ | refine W.skip ?_ | refine W.exit ?_ | refine W.ret ?_ | refine L.nil ?_ | refine L.p rfl rfl ?_ | refine L.skip rfl ?_)
    refine L.cl (hsum_C rh m1 _ _ hP.2.1 hP.2.2.1 (by omega)) rfl rfl ?_
    rintro _ M1 ⟨rfl, hcA⟩
    refine ⟨nofun, ?_⟩
    have hP := hP.cons hcA
    repeat (first | refine W.seq ?_ | refine W.block ?_ | refine W.reg ?_ | refine W.skip ?_ | refine W.exit ?_ | refine W.ret ?_ | refine L.nil ?_ | refine L.p rfl rfl ?_ | refine L.skip rfl ?_)
    refine L.cl (refsum_C m1 _ _ M1 hP.2.2.2.2.2.2.2.2.1.slv (by omega)) rfl rfl ?_
    rintro _ M2 ⟨rfl, hcB⟩
    refine ⟨nofun, ?_⟩
    have hP := hP.cons hcB
    refine L.ne20 rfl rfl (sumL_len _) (sumL_len _) rfl ?_
    rw [show (!(sumL m1 == sumL m1)) = false by simp]
    repeat (first | refine W.seq ?_ | refine W.block ?_ | refine W.reg ?_ | refine W.skip ?_ | refine W.exit ?_ | refine W.ret ?_ | refine L.nil ?_ | refine L.p rfl rfl ?_ | refine L.skip rfl ?_)
    refine L.cl (hsum_C ro m2 _ _ hP.2.2.2.1 hP.2.2.2.2.1 (by omega)) rfl rfl ?_
    rintro _ M3 ⟨rfl, hcC⟩
    refine ⟨nofun, ?_⟩
    have hP := hP.cons hcC
    repeat (first | refine W.seq ?_ | refine W.block ?_ | refine W.reg ?_ | refine W.skip ?_ | refine W.exit ?_ | refine W.ret ?_ | refine L.nil ?_ | refine L.p rfl rfl ?_ | refine L.skip rfl ?_)
    refine L.cl (refsum_C m2 _ _ M3 hP.2.2.2.2.2.2.2.2.2.1.slv (by omega)) rfl rfl ?_
    rintro _ M4 ⟨rfl, hcD⟩
    refine ⟨nofun, ?_⟩
    have hP := hP.cons hcD
    refine L.ne20 rfl rfl (sumL_len _) (sumL_len _) rfl ?_
    rw [show (!(sumL m2 == sumL m2)) = false by simp]
    repeat (first | refine W.seq ?_ | refine W.block ?_ | refine W.reg ?_ | refine W.skip ?_ | refine W.exit ?_ | refine W.ret ?_ | refine L.nil ?_ | refine L.p rfl rfl ?_ | refine L.skip rfl ?_)
    refine W.ite rfl (fun h => ?_) (fun h => ?_)
    · cases h
    repeat (first | refine W.seq ?_ | refine W.block ?_ | refine W.reg ?_ | refine W.skip ?_ | refine W.exit ?_ | refine W.ret ?_ | refine L.nil ?_ | refine L.p rfl rfl ?_ | refine L.skip rfl ?_)
    refine L.cl (len_C rh _ _ _ hP.2.1 hP.2.2.1.n.1 hP.2.2.1.n.2.1) rfl rfl ?_
    rintro _ M8 ⟨rfl, rfl⟩
    refine ⟨nofun, ?_⟩
    repeat (first | refine W.seq ?_ | refine W.block ?_ | refine W.reg ?_ | refine W.skip ?_ | refine W.exit ?_ | refine W.ret ?_ | refine L.nil ?_ | refine L.p rfl rfl ?_ | refine L.skip rfl ?_)
    rw [len_u64 (m := m1) (by omega), show ((((BitVec.ofNat 64 m1.length).toNat : Int) != ((BitVec.ofNat 64 m1.length).toNat : Int))) = false by simp]
    repeat (first | refine W.seq ?_ | refine W.block ?_ | refine W.reg ?_ | refine W.skip ?_ | refine W.exit ?_ | refine W.ret ?_ | refine L.nil ?_ | refine L.p rfl rfl ?_ | refine L.skip rfl ?_)
    refine L.cl (len_C ro _ _ _ hP.2.2.2.1 hP.2.2.2.2.1.n.1 hP.2.2.2.2.1.n.2.1) rfl rfl ?_
    rintro _ M9 ⟨rfl, rfl⟩
    refine ⟨nofun, ?_⟩
    repeat (first | refine W.seq ?_ | refine W.block ?_ | refine W.reg ?_ | refine W.skip ?_ | refine W.exit ?_ | refine W.ret ?_ | refine L.nil ?_ | refine L.p rfl rfl ?_ | refine L.skip rfl ?_)
    rw [len_u64 (m := m2) (by omega), show ((((BitVec.ofNat 64 m2.length).toNat : Int) != ((BitVec.ofNat 64 m2.length).toNat : Int))) = false by simp]
    repeat (first | refine W.seq ?_ | refine W.block ?_ | refine W.reg ?_ | refine W.skip ?_ | refine W.exit ?_ | refine W.ret ?_ | refine L.nil ?_ | refine L.p rfl rfl ?_ | refine L.skip rfl ?_)
    refine W.ite rfl (fun h => ?_) (fun h => ?_)
    · cases h
    repeat (first | refine W.seq ?_ | refine W.block ?_ | refine W.reg ?_ | refine W.skip ?_ | refine W.exit ?_ | refine W.ret ?_ | refine L.nil ?_ | refine L.p rfl rfl ?_ | refine L.skip rfl ?_)
    refine ⟨ss.length - (i + 1), by omega, i + 1, _, _, _, _, m1, m2, _, _, _, _, rfl, by omega, rfl, rfl, rfl, rfl, rfl, ?_, hP⟩
    refine (force_eq rfl).trans ?_
    rw [wrap64 (by omega) (by omega)]; rfl
  clear h
  repeat (first | refine W.seq ?_ | refine W.block ?_ | refine W.reg ?_ | refine W.skip ?_ | refine W.exit ?_ | refine W.ret ?_ | refine L.nil ?_ | refine L.p rfl rfl ?_ | refine L.skip rfl ?_)
  refine W.ite rfl (fun h => ?_) (fun h => ?_)
  · clear h
    repeat (first | refine W.seq ?_ | refine W.block ?_ | refine W.reg ?_ | refine W.skip ?_ | refine W.exit ?_ | refine W.ret ?_ | refine L.nil ?_ | refine L.p rfl rfl ?_ | refine L.skip rfl ?_)
    refine L.cl (reset_C rh _ _ hP.2.1 hP.2.2.1.n.2.1 hP.2.2.1.n.2.2) rfl rfl ?_
    rintro _ M1 hM1
    refine ⟨nofun, ?_⟩
    have hst1 : r1.st = .live := (Mem.row?_some q2).2
    have hkp : Keep rh S' M1 := by rw [hM1]; exact Keep.set _ _ _
    have hr1 : M1.row? rh = some (newR (hashCells st0 (List.replicate 64 0#8) 0#64) 55) := by
      obtain ⟨blk, _, rfl, _⟩ := id q3
      rw [hM1]; exact row_set_same q2 rfl
    clear hM1
    have hP : PState S M1 rh ro (newR (hashCells st0 (List.replicate 64 0#8) 0#64) 55) r2 [] m2 none a2 0 c2 :=
      ⟨Keep.mono q1 q7 hkp, hr1, HS_new, hkp.row q4 (Ne.symm q6), q5, q6, q7, q8, HdOk.nil _ _, q10.keep (hkp.keepL (bs := [rh]) (by simp)) (fun b e hm => (q12 b e).2.1 (by simpa using hm)), nofun, q12, by simp; omega⟩
    repeat (first | refine W.seq ?_ | refine W.block ?_ | refine W.reg ?_ | refine W.skip ?_ | refine W.exit ?_ | refine W.ret ?_ | refine L.nil ?_ | refine L.p rfl rfl ?_ | refine L.skip rfl ?_)
    refine L.cl (len_C rh _ _ _ hP.2.1 hP.2.2.1.n.1 hP.2.2.1.n.2.1) rfl rfl ?_
    rintro _ M8 ⟨rfl, rfl⟩
    refine ⟨nofun, ?_⟩
    repeat (first | refine W.seq ?_ | refine W.block ?_ | refine W.reg ?_ | refine W.skip ?_ | refine W.exit ?_ | refine W.ret ?_ | refine L.nil ?_ | refine L.p rfl rfl ?_ | refine L.skip rfl ?_)
    rw [show IntKind.u64.wrap ((0 : Nat) : Int) = ((BitVec.ofNat 64 ([] : BL).length).toNat : Int) from by decide, show ((((BitVec.ofNat 64 ([] : BL).length).toNat : Int) != ((BitVec.ofNat 64 ([] : BL).length).toNat : Int))) = false by simp]
    repeat (first | refine W.seq ?_ | refine W.block ?_ | refine W.reg ?_ | refine W.skip ?_ | refine W.exit ?_ | refine W.ret ?_ | refine L.nil ?_ | refine L.p rfl rfl ?_ | refine L.skip rfl ?_)
    refine L.cl (len_C ro _ _ _ hP.2.2.2.1 hP.2.2.2.2.1.n.1 hP.2.2.2.2.1.n.2.1) rfl rfl ?_
    rintro _ M9 ⟨rfl, rfl⟩
    refine ⟨nofun, ?_⟩
    repeat (first | refine W.seq ?_ | refine W.block ?_ | refine W.reg ?_ | refine W.skip ?_ | refine W.exit ?_ | refine W.ret ?_ | refine L.nil ?_ | refine L.p rfl rfl ?_ | refine L.skip rfl ?_)
    rw [len_u64 (m := m2) (by omega), show ((((BitVec.ofNat 64 m2.length).toNat : Int) != ((BitVec.ofNat 64 m2.length).toNat : Int))) = false by simp]
    repeat (first | refine W.seq ?_ | refine W.block ?_ | refine W.reg ?_ | refine W.skip ?_ | refine W.exit ?_ | refine W.ret ?_ | refine L.nil ?_ | refine L.p rfl rfl ?_ | refine L.skip rfl ?_)
    refine W.ite rfl (fun h => ?_) (fun h => ?_)
    · cases h
    repeat (first | refine W.seq ?_ | refine W.block ?_ | refine W.reg ?_ | refine W.skip ?_ | refine W.exit ?_ | refine W.ret ?_ | refine L.nil ?_ | refine L.p rfl rfl ?_ | refine L.skip rfl ?_)
    refine ⟨ss.length - (i + 1), by omega, i + 1, _, _, _, _, ([] : BL), m2, _, _, _, _, rfl, by omega, rfl, rfl, rfl, rfl, rfl, ?_, hP⟩
    refine (force_eq rfl).trans ?_
    rw [wrap64 (by omega) (by omega)]; rfl
  clear h
  repeat (first | refine W.seq ?_ | refine W.block ?_ | refine W.reg ?_ | refine W.skip ?_ | refine W.exit ?_ | refine W.ret ?_ | refine L.nil ?_ | refine L.p rfl rfl ?_ | refine L.skip rfl ?_)
  refine W.ite rfl (fun h => ?_) (fun h => ?_)
  · clear h
    have hP := hP.swap
    repeat (first | refine W.seq ?_ | refine W.block ?_ | refine W.reg ?_ | refine W.skip ?_ | refine W.exit ?_ | refine W.ret ?_ | refine L.nil ?_ | refine L.p rfl rfl ?_ | refine L.skip rfl ?_)
    refine L.cl (len_C ro _ _ _ hP.2.1 hP.2.2.1.n.1 hP.2.2.1.n.2.1) rfl rfl ?_
    rintro _ M8 ⟨rfl, rfl⟩
    refine ⟨nofun, ?_⟩
    repeat (first | refine W.seq ?_ | refine W.block ?_ | refine W.reg ?_ | refine W.skip ?_ | refine W.exit ?_ | refine W.ret ?_ | refine L.nil ?_ | refine L.p rfl rfl ?_ | refine L.skip rfl ?_)
    rw [len_u64 (m := m2) (by omega), show ((((BitVec.ofNat 64 m2.length).toNat : Int) != ((BitVec.ofNat 64 m2.length).toNat : Int))) = false by simp]
    repeat (first | refine W.seq ?_ | refine W.block ?_ | refine W.reg ?_ | refine W.skip ?_ | refine W.exit ?_ | refine W.ret ?_ | refine L.nil ?_ | refine L.p rfl rfl ?_ | refine L.skip rfl ?_)
    refine L.cl (len_C rh _ _ _ hP.2.2.2.1 hP.2.2.2.2.1.n.1 hP.2.2.2.2.1.n.2.1) rfl rfl ?_
    rintro _ M9 ⟨rfl, rfl⟩
    refine ⟨nofun, ?_⟩
    repeat (first | refine W.seq ?_ | refine W.block ?_ | refine W.reg ?_ | refine W.skip ?_ | refine W.exit ?_ | refine W.ret ?_ | refine L.nil ?_ | refine L.p rfl rfl ?_ | refine L.skip rfl ?_)
    rw [len_u64 (m := m1) (by omega), show ((((BitVec.ofNat 64 m1.length).toNat : Int) != ((BitVec.ofNat 64 m1.length).toNat : Int))) = false by simp]
    repeat (first | refine W.seq ?_ | refine W.block ?_ | refine W.reg ?_ | refine W.skip ?_ | refine W.exit ?_ | refine W.ret ?_ | refine L.nil ?_ | refine L.p rfl rfl ?_ | refine L.skip rfl ?_)
    refine W.ite rfl (fun h => ?_) (fun h => ?_)
    · cases h
    repeat (first | refine W.seq ?_ | refine W.block ?_ | refine W.reg ?_ | refine W.skip ?_ | refine W.exit ?_ | refine W.ret ?_ | refine L.nil ?_ | refine L.p rfl rfl ?_ | refine L.skip rfl ?_)
    refine ⟨ss.length - (i + 1), by omega, i + 1, _, _, _, _, m2, m1, _, _, _, _, rfl, by omega, rfl, rfl, rfl, rfl, rfl, ?_, hP⟩
    refine (force_eq rfl).trans ?_
    rw [wrap64 (by omega) (by omega)]; rfl
  clear h
  obtain ⟨hB1, hB2, hB3⟩ := hSI.2 s (List.mem_of_getElem? hs)
  repeat (first | refine W.seq ?_ | refine W.block ?_ | refine W.reg ?_ | refine W.skip ?_ | refine W.exit ?_ | refine W.ret ?_ | refine L.nil ?_ | refine L.p rfl rfl ?_ | refine L.skip rfl ?_)
  refine L.ix rfl hin rfl rfl rfl rfl ?_
  repeat (first | refine W.seq ?_ | refine W.block ?_ | refine W.reg ?_ | refine W.skip ?_ | refine W.exit ?_ | refine W.ret ?_ | refine L.nil ?_ | refine L.p rfl rfl ?_ | refine L.skip rfl ?_)
  refine L.ld hcellB rfl rfl rfl ?_
  repeat (first | refine W.seq ?_ | refine W.block ?_ | refine W.reg ?_ | refine W.skip ?_ | refine W.exit ?_ | refine W.ret ?_ | refine L.nil ?_ | refine L.p rfl rfl ?_ | refine L.skip rfl ?_)
  refine W.ite rfl (fun h => ?_) (fun h => ?_)
  · repeat (first | refine W.seq ?_ | refine W.block ?_ | refine W.reg ?_ | refine W.skip ?_ | refine W.exit ?_ | refine W.ret ?_ | refine L.nil ?_ | refine L.p rfl rfl ?_ | refine L.skip rfl ?_)
    refine L.cl (works_C _) rfl rfl ?_
    rintro _ M5 ⟨rfl, hcE⟩
    refine ⟨nofun, ?_⟩
    repeat (first | refine W.seq ?_ | refine W.block ?_ | refine W.reg ?_ | refine W.skip ?_ | refine W.exit ?_ | refine W.ret ?_ | refine L.nil ?_ | refine L.p rfl rfl ?_ | refine L.skip rfl ?_)
    exact ⟨.inr rfl, _, rfl, rfl, q1.trans hcE⟩
  have hsl : s.l.length ≤ 16384 := by simp at h; omega
  clear h
  repeat (first | refine W.seq ?_ | refine W.block ?_ | refine W.reg ?_ | refine W.skip ?_ | refine W.exit ?_ | refine W.ret ?_ | refine L.nil ?_ | refine L.p rfl rfl ?_ | refine L.skip rfl ?_)
  refine L.ix rfl hin rfl rfl rfl rfl ?_
  repeat (first | refine W.seq ?_ | refine W.block ?_ | refine W.reg ?_ | refine W.skip ?_ | refine W.exit ?_ | refine W.ret ?_ | refine L.nil ?_ | refine L.p rfl rfl ?_ | refine L.skip rfl ?_)
  refine L.ld hcellB rfl rfl rfl ?_
  repeat (first | refine W.seq ?_ | refine W.block ?_ | refine W.reg ?_ | refine W.skip ?_ | refine W.exit ?_ | refine W.ret ?_ | refine L.nil ?_ | refine L.p rfl rfl ?_ | refine L.skip rfl ?_)
  refine L.cl (lent_C _ s.l _ hB1 (by omega)) rfl rfl ?_
  rintro _ M1 ⟨hc1, bx, hbx, rfl, hrx⟩
  refine ⟨nofun, ?_⟩
  have hP1 := hP.cons hc1
  have hne1 : rh ≠ bx := by have := row_lt q2; omega
  have hne2 : ro ≠ bx := by have := row_lt q4; omega
  repeat (first | refine W.seq ?_ | refine W.block ?_ | refine W.reg ?_ | refine W.skip ?_ | refine W.exit ?_ | refine W.ret ?_ | refine L.nil ?_ | refine L.p rfl rfl ?_ | refine L.skip rfl ?_)
  have hcut : Cut s.l.length (UNK + (s.l.length + 16)) := .inr ⟨by omega, by rw [knownCap_unk]; omega⟩
  refine L.cl (write_C rh m1 s.l _ _ _ M1 hP1.2.1 q3 (slv_lent _ hrx) hcut (fun _ x hx => by cases hx; exact Ne.symm hne1) (by omega)) rfl rfl ?_
  rintro v M2 ⟨hk2, r1', hr2, hm2⟩
  refine ⟨nofun, ?_⟩
  have hrx2 := hk2.row hrx (Ne.symm hne1)
  have hSc2 : Cons S M2 := Keep.mono hP1.1 q7 hk2
  have hSI2 := hS.cons hSc2
  obtain ⟨_, _, _, hv, hcellB2⟩ := hSI2.1.get2 (j := 1) (by omega) hin hsg.2
  cases hv
  repeat (first | refine W.seq ?_ | refine W.block ?_ | refine W.reg ?_ | refine W.skip ?_ | refine W.exit ?_ | refine W.ret ?_ | refine L.nil ?_ | refine L.p rfl rfl ?_ | refine L.skip rfl ?_)
  refine L.ix rfl hin rfl rfl rfl rfl ?_
  repeat (first | refine W.seq ?_ | refine W.block ?_ | refine W.reg ?_ | refine W.skip ?_ | refine W.exit ?_ | refine W.ret ?_ | refine L.nil ?_ | refine L.p rfl rfl ?_ | refine L.skip rfl ?_)
  refine L.ld hcellB2 rfl rfl rfl ?_
  repeat (first | refine W.seq ?_ | refine W.block ?_ | refine W.reg ?_ | refine W.skip ?_ | refine W.exit ?_ | refine W.ret ?_ | refine L.nil ?_ | refine L.p rfl rfl ?_ | refine L.skip rfl ?_)
  obtain ⟨hB1', _, _⟩ := hSI2.2 s (List.mem_of_getElem? hs)
  refine L.cl (kept_C _ s.l bx _ M2 hrx2 rfl rfl hB1' (by omega)) rfl rfl ?_
  rintro _ _ ⟨rfl, rfl⟩
  refine ⟨nofun, ?_⟩
  repeat (first | refine W.seq ?_ | refine W.block ?_ | refine W.reg ?_ | refine W.skip ?_ | refine W.exit ?_ | refine W.ret ?_ | refine L.nil ?_ | refine L.p rfl rfl ?_ | refine L.skip rfl ?_)
  refine W.ite rfl (fun h => ?_) (fun h => ?_)
  · cases h
  clear h
  rename Mem => M2
  have hP2 : PState S M2 rh ro r1' r2 (m1 ++ s.l) m2 a1 a2 c1 c2 ∨ True := .inr trivial
  have q4' := hk2.row hP1.2.2.2.1 (Ne.symm q6)
  have q9' : HdOk M2 5 ⟨a1, m1.length, c1⟩ (bv m1) := (q9.cons hc1).keep (hk2.keepL (bs := [rh]) (by simp)) (fun b e hm => (q11 b e).2.1 (by simpa using hm))
  have q10' : HdOk M2 5 ⟨a2, m2.length, c2⟩ (bv m2) := (q10.cons hc1).keep (hk2.keepL (bs := [rh]) (by simp)) (fun b e hm => (q12 b e).2.1 (by simpa using hm))
  have hb1 : ∀ b, a1 = some b → b ≠ bx := fun b e => by have := q9.lt e; omega
  have hb2 : ∀ b, a2 = some b → b ≠ bx := fun b e => by have := q10.lt e; omega
  have hSbx : S.length ≤ bx := by have := q1.len; omega
  repeat (first | refine W.seq ?_ | refine W.block ?_ | refine W.reg ?_ | refine W.skip ?_ | refine W.exit ?_ | refine W.ret ?_ | refine L.nil ?_ | refine L.p rfl rfl ?_ | refine L.skip rfl ?_)
  refine W.loop (fun j e S' => ∃ (i' : Nat) (l : List Value), j = s.l.length - i' ∧ i' ≤ s.l.length ∧ e 0 = .slice (some ⟨b0, o0, none⟩) ss.length c0 ∧ e 3 = .pointer (some ⟨rh, 0, none⟩) ∧ e 4 = .pointer (some ⟨ro, 0, none⟩) ∧
      e 5 = Hd.v ⟨a1, m1.length, c1⟩ ∧ e 6 = Hd.v ⟨a2, m2.length, c2⟩ ∧ e 7 = vi i ∧ e 8 = .slice (some ⟨bx, 0, none⟩) s.l.length (UNK + (s.l.length + 16)) ∧ e 9 = vi i' ∧ Keep bx M2 S' ∧ S'.row? bx = some (grownR l 5 1) ∧ l.length = s.l.length + 16) s.l.length
    ⟨0, _, by omega, by omega, rfl, rfl, rfl, rfl, rfl, rfl, rfl, rfl, Keep.refl _ _, hrx2, by simp [bv_len, marks_len]⟩ ?_
  clear e0 e3 e4 e5 e6 e7 hcell hcellB hcellB2
  rintro j e S5 ⟨i', l, rfl, hi', e0, e3, e4, e5, e6, e7, e8, e9, hk5, hr5, hll⟩
  refine W.env8 e0 e3 e4 e5 e6 e7 e8 e9 ?_
  repeat (first | refine W.seq ?_ | refine W.block ?_ | refine W.reg ?_ | refine W.skip ?_ | refine W.exit ?_ | refine W.ret ?_ | refine L.nil ?_ | refine L.p rfl rfl ?_ | refine L.skip rfl ?_)
  refine W.ite rfl (fun h => ?_) (fun h => ?_)
  · have hin' : i' < s.l.length := by simp at h; omega
    repeat (first | refine W.seq ?_ | refine W.block ?_ | refine W.reg ?_ | refine W.skip ?_ | refine W.exit ?_ | refine W.ret ?_ | refine L.nil ?_ | refine L.p rfl rfl ?_ | refine L.skip rfl ?_)
    refine L.elst hr5 rfl (by show 0 + s.l.length ≤ l.length; omega) rfl hin' rfl rfl rfl rfl (fun _ => rfl) (fun _ => rfl) rfl rfl rfl (fun p => ?_)
    repeat (first | refine W.seq ?_ | refine W.block ?_ | refine W.reg ?_ | refine W.skip ?_ | refine W.exit ?_ | refine W.ret ?_ | refine L.nil ?_ | refine L.p rfl rfl ?_ | refine L.skip rfl ?_)
    refine ⟨s.l.length - (i' + 1), by omega, i' + 1, l.set (0 + i') (v8 0xee#8), rfl, by omega, rfl, rfl, rfl, rfl, rfl, rfl, rfl, ?_, hk5.trans (Keep.set _ _ _), row_set_same hr5 rfl, by simpa using hll⟩
    refine (force_eq rfl).trans ?_
    rw [wrap64 (by omega) (by omega)]; rfl
  have hin' : i' = s.l.length := by simp at h; omega
  subst hin'
  clear h
  have hSc5 : Cons S S5 := Keep.mono hSc2 hSbx hk5
  have hSI5 := hS.cons hSc5
  obtain ⟨_, _, _, hv, hcellB5⟩ := hSI5.1.get2 (j := 1) (by omega) hin hsg.2
  cases hv
  obtain ⟨hB5, _, _⟩ := hSI5.2 s (List.mem_of_getElem? hs)
  have hkl5 : KeepL [bx] M2 S5 := hk5.keepL (by simp)
  repeat (first | refine W.seq ?_ | refine W.block ?_ | refine W.reg ?_ | refine W.skip ?_ | refine W.exit ?_ | refine W.ret ?_ | refine L.nil ?_ | refine L.p rfl rfl ?_ | refine L.skip rfl ?_)
  refine L.ix rfl hin rfl rfl rfl rfl ?_
  repeat (first | refine W.seq ?_ | refine W.block ?_ | refine W.reg ?_ | refine W.skip ?_ | refine W.exit ?_ | refine W.ret ?_ | refine L.nil ?_ | refine L.p rfl rfl ?_ | refine L.skip rfl ?_)
  refine L.ld hcellB5 rfl rfl rfl ?_
  have q9'' := q9'.keep hkl5 (fun b e hm => hb1 b e (by simpa using hm))
  refine L.appH rfl q9'' rfl rfl hB5 (bv_one _) (by show m1.length + _ ≤ _; omega) rfl rfl (fun h' S6 k1 k2 k3 k4 => ?_)
  obtain ⟨a', n', c'⟩ := h'
  have hn' : n' = (m1 ++ s.l).length := by rw [List.length_append]; exact k2
  subst hn'
  rw [← bv_app] at k1
  have hr1 : rh ∉ a1.toList := fun hm => (q11 rh (by simpa using hm)).2.1 rfl
  have hro1 : ro ∉ a1.toList := fun hm => (q11 ro (by simpa using hm)).2.2.1 rfl
  have hla' : a' = a1 ∨ ∃ b, a' = some b ∧ S5.length ≤ b := k3.imp And.left id
  have hl5 := hk5.1
  have hlM := hP1.1.len
  have w1 := row_lt q2
  have w2 := row_lt q4
  have hl1 := hc1.len
  have hl2 := hk2.1
  have hSl := q1.len
  have hP : PState S S6 rh ro r1' r2 (m1 ++ s.l) m2 a' a2 c' c2 := by
    refine ⟨k4.cons0 hSc5 (fun b hm => (q11 b (by simpa using hm)).1), k4.row (hk5.row hr2 hne1) hr1, hm2, k4.row (hk5.row q4' hne2) hro1, q5, q6, q7, q8, k1,
      (q10'.keep hkl5 (fun b e hm => hb2 b e (by simpa using hm))).keep k4 (fun b e hm => (q11 b (by simpa using hm)).2.2.2 e), fun b e => ?_, q12, by simp; omega⟩
    rcases hla' with rfl | ⟨b', hb', hlb⟩
    · exact q11 b e
    · rw [hb'] at e; cases e
      refine ⟨by omega, by omega, by omega, fun e2 => ?_⟩
      have := q10.lt e2
      omega
  repeat (first | refine W.seq ?_ | refine W.block ?_ | refine W.reg ?_ | refine W.skip ?_ | refine W.exit ?_ | refine W.ret ?_ | refine L.nil ?_ | refine L.p rfl rfl ?_ | refine L.skip rfl ?_)
  refine L.cl (len_C rh _ _ _ hP.2.1 hP.2.2.1.n.1 hP.2.2.1.n.2.1) rfl rfl ?_
  rintro _ M8 ⟨rfl, rfl⟩
  refine ⟨nofun, ?_⟩
  repeat (first | refine W.seq ?_ | refine W.block ?_ | refine W.reg ?_ | refine W.skip ?_ | refine W.exit ?_ | refine W.ret ?_ | refine L.nil ?_ | refine L.p rfl rfl ?_ | refine L.skip rfl ?_)
  rw [len_u64 (m := m1 ++ s.l) (by simp; omega), show ((((BitVec.ofNat 64 (m1 ++ s.l).length).toNat : Int) != ((BitVec.ofNat 64 (m1 ++ s.l).length).toNat : Int))) = false by simp]
  repeat (first | refine W.seq ?_ | refine W.block ?_ | refine W.reg ?_ | refine W.skip ?_ | refine W.exit ?_ | refine W.ret ?_ | refine L.nil ?_ | refine L.p rfl rfl ?_ | refine L.skip rfl ?_)
  refine L.cl (len_C ro _ _ _ hP.2.2.2.1 hP.2.2.2.2.1.n.1 hP.2.2.2.2.1.n.2.1) rfl rfl ?_
  rintro _ M9 ⟨rfl, rfl⟩
  refine ⟨nofun, ?_⟩
  repeat (first | refine W.seq ?_ | refine W.block ?_ | refine W.reg ?_ | refine W.skip ?_ | refine W.exit ?_ | refine W.ret ?_ | refine L.nil ?_ | refine L.p rfl rfl ?_ | refine L.skip rfl ?_)
  rw [len_u64 (m := m2) (by omega), show ((((BitVec.ofNat 64 m2.length).toNat : Int) != ((BitVec.ofNat 64 m2.length).toNat : Int))) = false by simp]
  repeat (first | refine W.seq ?_ | refine W.block ?_ | refine W.reg ?_ | refine W.skip ?_ | refine W.exit ?_ | refine W.ret ?_ | refine L.nil ?_ | refine L.p rfl rfl ?_ | refine L.skip rfl ?_)
  refine W.ite rfl (fun h => ?_) (fun h => ?_)
  · cases h
  repeat (first | refine W.seq ?_ | refine W.block ?_ | refine W.reg ?_ | refine W.skip ?_ | refine W.exit ?_ | refine W.ret ?_ | refine L.nil ?_ | refine L.p rfl rfl ?_ | refine L.skip rfl ?_)
  refine ⟨ss.length - (i + 1), by omega, i + 1, _, _, _, _, (m1 ++ s.l), m2, _, _, _, _, rfl, by omega, rfl, rfl, rfl, rfl, rfl, ?_, hP⟩
  refine (force_eq rfl).trans ?_
  rw [wrap64 (by omega) (by omega)]; rfl
end Go.Proofs.Yteadbbimikcmgaa
