/- What several proofs share, part 4: a model of memory, contracts of functions. Conditions: none. -/
import Derived.Test.YtbdnkneedengcaaDoorLibC
import Derived.KernelRfl

/- The sine and the cosine, walked. Conditions: none. -/
set_option linter.unusedSimpArgs false
set_option linter.unusedVariables false
set_option maxRecDepth 100000
set_option maxHeartbeats 4000000
namespace Go.Proofs.YtbdnkneedengcaaDoor
open Go Ie
variable {Ext : FuncId → List Value → Mem → Outc → Mem → Prop}
attribute [local irreducible] Ieee.Format.add Ieee.Format.sub Ieee.Format.mul Ieee.Format.div Ieee.Format.order Ieee.Format.nearest Ieee.Datum.toInt
theorem poly_steps {c0 c1 c2 c3 c4 c5 zz r : Nat} (h : poly dbl [c0, c1, c2, c3, c4, c5] zz = some r) : ∃ a1 a2 a3 a4 a5 a6 a7 a8 a9, Ieee.double.mul c0 zz = some a1 ∧ Ieee.double.add a1 c1 = some a2 ∧ Ieee.double.mul a2 zz = some a3 ∧ Ieee.double.add a3 c2 = some a4 ∧ Ieee.double.mul a4 zz = some a5 ∧ Ieee.double.add a5 c3 = some a6 ∧ Ieee.double.mul a6 zz = some a7 ∧ Ieee.double.add a7 c4 = some a8 ∧ Ieee.double.mul a8 zz = some a9 ∧ Ieee.double.add a9 c5 = some r := by
  unfold poly dbl at h
  simp only [Option.bind_eq_some_iff] at h
  obtain ⟨a1, h1, a2, h2, a3, h3, a4, h4, a5, h5, a6, h6, a7, h7, a8, h8, a9, h9, h10⟩ := h
  exact ⟨a1, a2, a3, a4, a5, a6, a7, a8, a9, h1, h2, h3, h4, h5, h6, h7, h8, h9, h10⟩
theorem sincos_C (x si co : Nat) (hx : x < 18446744073709551616) (h : sincosO dbl x = some (si, co)) (S : Mem) (hS : SinOk S) :
    C Tryd.prog gN Ext 58 [vf x] S fun v S' => v = .tuple #[vf si, vf co] ∧ S' = S := by
  obtain ⟨hrc0, hrs0⟩ := hS
  obtain ⟨rc, hrc, hcc0⟩ := hrc0
  obtain ⟨rs, hrs, hcs0⟩ := hrs0
  have hcc : ∀ (k : Nat) (v : Value), (cosT.map vf)[k]? = some v → rc.cells[k]? = some v := fun k v hv => by
    have hlt : k < 6 := (List.getElem?_eq_some_iff.1 hv).1
    rw [← hcc0, List.getElem?_take, if_pos (show k < (cosT.map vf).length from hlt)] at hv
    exact hv
  have hcs : ∀ (k : Nat) (v : Value), (sinT.map vf)[k]? = some v → rs.cells[k]? = some v := fun k v hv => by
    have hlt : k < 6 := (List.getElem?_eq_some_iff.1 hv).1
    rw [← hcs0, List.getElem?_take, if_pos (show k < (sinT.map vf).length from hlt)] at hv
    exact hv
  clear hcc0 hcs0
  unfold sincosO at h
  refine C.fn Tryd.func58 rfl (by kernel_rfl) rfl ?_
  repeat (first | refine W.seq ?_ | refine W.block ?_ | refine W.reg ?_ | refine W.skip ?_ | refine W.exit ?_ | refine W.ret ?_ | refine L.nil ?_ | refine L.p rfl rfl ?_ | refine L.skip rfl ?_)
  refine W.ite (t := fIs .eq x 0) rfl (fun hq => ?_) (fun hq => ?_)
  · rw [hq] at h
    simp only [if_true, Option.some.injEq, Prod.mk.injEq] at h
    obtain ⟨rfl, rfl⟩ := h
    repeat (first | refine W.seq ?_ | refine W.block ?_ | refine W.reg ?_ | refine W.skip ?_ | refine W.exit ?_ | refine W.ret ?_ | refine L.nil ?_ | refine L.p rfl rfl ?_ | refine L.skip rfl ?_)
    exact ⟨.inr rfl, _, rfl, rfl, rfl⟩
  rw [hq] at h
  simp only [Bool.false_eq_true, if_false] at h
  split at h
  rotate_left
  · cases h
  rename_i hfin
  simp only [Bool.and_eq_true, Bool.not_eq_true'] at hfin
  obtain ⟨hnan, hinf⟩ := hfin
  repeat (first | refine W.seq ?_ | refine W.block ?_ | refine W.reg ?_ | refine W.skip ?_ | refine W.exit ?_ | refine W.ret ?_ | refine L.nil ?_ | refine L.p rfl rfl ?_ | refine L.skip rfl ?_)
  refine L.cl (isNaN_C x S) rfl rfl ?_
  rintro _ _ ⟨rfl, rfl⟩
  refine ⟨nofun, ?_⟩
  have hnan' : (Ieee.double.order x x != some .eq) = false := by
    show (!(Ieee.double.order x x == some .eq)) = false
    rw [show (Ieee.double.order x x == some .eq) = true from hnan]; rfl
  rw [hnan']
  repeat (first | refine W.seq ?_ | refine W.block ?_ | refine W.reg ?_ | refine W.skip ?_ | refine W.exit ?_ | refine W.ret ?_ | refine L.nil ?_ | refine L.p rfl rfl ?_ | refine L.skip rfl ?_)
  refine L.cl (isInf_C x hx _) rfl rfl ?_
  rintro _ _ ⟨rfl, rfl⟩
  refine ⟨nofun, ?_⟩
  rw [hinf]
  repeat (first | refine W.seq ?_ | refine W.block ?_ | refine W.reg ?_ | refine W.skip ?_ | refine W.exit ?_ | refine W.ret ?_ | refine L.nil ?_ | refine L.p rfl rfl ?_ | refine L.skip rfl ?_)
  first | refine W.condT rfl ?_ | refine W.condF rfl ?_
  repeat (first | refine W.seq ?_ | refine W.block ?_ | refine W.reg ?_ | refine W.skip ?_ | refine W.exit ?_ | refine W.ret ?_ | refine L.nil ?_ | refine L.p rfl rfl ?_ | refine L.skip rfl ?_)
  rename Mem => S
  refine W.mono (R := fun x' e' S' => x' = .nrm ∧ S' = S ∧ ∃ (y : Nat) (sg : Bool), e' 0 = vf y ∧ e' 4 = .bool sg ∧ e' 5 = .bool false ∧ fIs .lt x 0 = sg ∧ y = if sg then fNeg x else x) ?_ ?_
  · refine W.ite (t := fIs .lt x 0) rfl (fun hs => ?_) (fun hs => ?_)
    · repeat (first | refine W.seq ?_ | refine W.block ?_ | refine W.reg ?_ | refine W.skip ?_ | refine W.exit ?_ | refine W.ret ?_ | refine L.nil ?_ | refine L.p rfl rfl ?_ | refine L.skip rfl ?_)
      exact ⟨rfl, rfl, fNeg x, true, rfl, rfl, rfl, hs, rfl⟩
    · repeat (first | refine W.seq ?_ | refine W.block ?_ | refine W.reg ?_ | refine W.skip ?_ | refine W.exit ?_ | refine W.ret ?_ | refine L.nil ?_ | refine L.p rfl rfl ?_ | refine L.skip rfl ?_)
      exact ⟨rfl, rfl, x, false, rfl, rfl, rfl, hs, rfl⟩
  rintro _ e S1 ⟨rfl, hS1, y0, sg, e0, e4, e5, hsg, hy0⟩
  subst hS1
  rename Mem => S
  refine W.env3 e0 e4 e5 ?_
  rw [hsg, ← hy0] at h
  clear hsg hy0 hnan hinf hnan' hq
  repeat (first | refine W.seq ?_ | refine W.block ?_ | refine W.reg ?_ | refine W.skip ?_ | refine W.exit ?_ | refine W.ret ?_ | refine L.nil ?_ | refine L.p rfl rfl ?_ | refine L.skip rfl ?_)
  refine W.ite rfl (fun hb => ?_) (fun hb => ?_)
  · exfalso
    rw [show (fIs .gt (y0) 4737786807993761792 || fIs .eq (y0) 4737786807993761792) = true from hb] at h
    simp at h
  rw [show (fIs .gt (y0) 4737786807993761792 || fIs .eq (y0) 4737786807993761792) = false from hb] at h
  simp only [Bool.false_eq_true, if_false] at h
  rw [Option.bind_eq_some_iff] at h
  obtain ⟨p0, hmul, h⟩ := h
  split at h
  rotate_left
  · cases h
  rename_i n0 hread
  split at h
  rotate_left
  · cases h
  rename_i hn08
  rw [Option.bind_eq_some_iff] at h
  obtain ⟨q, hoct, h⟩ := h
  rw [Option.bind_eq_some_iff] at h
  obtain ⟨w0, hrest, h⟩ := h
  rw [Option.map_eq_some_iff] at h
  obtain ⟨pr, hparts, hsgn⟩ := h
  unfold partsO dbl at hparts
  simp only [Option.bind_eq_some_iff] at hparts
  obtain ⟨zz, z1, v1, z2, v2, z3, v3, z4, pc, hpc, v4, z5, v5, z6, v6, z7, ps, hps, v7, z8, v8', z9, hpr⟩ := hparts
  obtain ⟨a1, a2, a3, a4, a5, a6, a7, a8, a9, c1, c2, c3, c4, c5, c6, c7, c8, c9, c10⟩ := poly_steps hpc
  obtain ⟨b1, b2, b3, b4, b5, b6, b7, b8, b9, s1, s2, s3, s4, s5, s6, s7, s8, s9, s10⟩ := poly_steps hps
  cases hpr
  obtain ⟨n, rfl⟩ : ∃ n : Nat, n0 = (n : Int) := ⟨n0.toNat, by omega⟩
  have hn8 : n ≤ 8 := by omega
  rw [Int.toNat_natCast] at hoct
  repeat (first | refine W.seq ?_ | refine W.block ?_ | refine W.reg ?_ | refine W.skip ?_ | refine W.exit ?_ | refine W.ret ?_ | refine L.nil ?_ | refine L.p rfl rfl ?_ | refine L.skip rfl ?_)
  refine L.fmul hmul rfl rfl rfl ?_
  repeat (first | refine W.seq ?_ | refine W.block ?_ | refine W.reg ?_ | refine W.skip ?_ | refine W.exit ?_ | refine W.ret ?_ | refine L.nil ?_ | refine L.p rfl rfl ?_ | refine L.skip rfl ?_)
  refine L.f2i hread rfl ⟨show (0 : Int) ≤ _ by omega, show _ ≤ (18446744073709551615 : Int) by omega⟩ rfl rfl rfl ?_
  clear hread hn08
  have hcases : n = 0 ∨ n = 1 ∨ n = 2 ∨ n = 3 ∨ n = 4 ∨ n = 5 ∨ n = 6 ∨ n = 7 ∨ n = 8 := by omega
  rcases hcases with rfl | rfl | rfl | rfl | rfl | rfl | rfl | rfl | rfl
  · obtain ⟨y, hy0, rfl⟩ : ∃ y, y = fNat 0 ∧ (0, y) = q := by
      have h0 : some (0 % 8, fNat 0) = some q := hoct
      exact ⟨_, rfl, Option.some.inj h0⟩
    unfold restO dbl at hrest
    simp only [Option.bind_eq_some_iff] at hrest
    obtain ⟨u1, e1, u2, e2, u3, e3, u4, e4, u5, e5, e6⟩ := hrest
    have hsi := congrArg Prod.fst hsgn
    have hco := congrArg Prod.snd hsgn
    simp [signO] at hsi hco
    subst hsi hco
    subst hy0
    repeat (first | refine W.seq ?_ | refine W.block ?_ | refine W.reg ?_ | refine W.skip ?_ | refine W.exit ?_ | refine W.ret ?_ | refine L.nil ?_ | refine L.p rfl rfl ?_ | refine L.skip rfl ?_)
    first | refine W.condT rfl ?_ | refine W.condF rfl ?_
    repeat (first | refine W.seq ?_ | refine W.block ?_ | refine W.reg ?_ | refine W.skip ?_ | refine W.exit ?_ | refine W.ret ?_ | refine L.nil ?_ | refine L.p rfl rfl ?_ | refine L.skip rfl ?_)
    refine L.fmul e1 rfl rfl rfl ?_
    repeat (first | refine L.p rfl rfl ?_ | refine L.nil ?_ | refine W.seq ?_ | refine W.reg ?_)
    refine L.fsub e2 rfl rfl rfl ?_
    repeat (first | refine L.p rfl rfl ?_ | refine L.nil ?_ | refine W.seq ?_ | refine W.reg ?_)
    refine L.fmul e3 rfl rfl rfl ?_
    repeat (first | refine L.p rfl rfl ?_ | refine L.nil ?_ | refine W.seq ?_ | refine W.reg ?_)
    refine L.fsub e4 rfl rfl rfl ?_
    repeat (first | refine L.p rfl rfl ?_ | refine L.nil ?_ | refine W.seq ?_ | refine W.reg ?_)
    refine L.fmul e5 rfl rfl rfl ?_
    repeat (first | refine L.p rfl rfl ?_ | refine L.nil ?_ | refine W.seq ?_ | refine W.reg ?_)
    refine L.fsub e6 rfl rfl rfl ?_
    repeat (first | refine L.p rfl rfl ?_ | refine L.nil ?_ | refine W.seq ?_ | refine W.reg ?_)
    first | refine W.condT rfl ?_ | refine W.condF rfl ?_
    repeat (first | refine W.seq ?_ | refine W.block ?_ | refine W.reg ?_ | refine W.skip ?_ | refine W.exit ?_ | refine W.ret ?_ | refine L.nil ?_ | refine L.p rfl rfl ?_ | refine L.skip rfl ?_)
    first | refine W.condT rfl ?_ | refine W.condF rfl ?_
    repeat (first | refine W.seq ?_ | refine W.block ?_ | refine W.reg ?_ | refine W.skip ?_ | refine W.exit ?_ | refine W.ret ?_ | refine L.nil ?_ | refine L.p rfl rfl ?_ | refine L.skip rfl ?_)
    refine L.fmul z1 rfl rfl rfl ?_
    repeat (first | refine L.p rfl rfl ?_ | refine L.nil ?_ | refine W.seq ?_ | refine W.reg ?_)
    refine L.fmul z2 rfl rfl rfl ?_
    repeat (first | refine L.p rfl rfl ?_ | refine L.nil ?_ | refine W.seq ?_ | refine W.reg ?_)
    refine L.fsub z3 rfl rfl rfl ?_
    repeat (first | refine L.p rfl rfl ?_ | refine L.nil ?_ | refine W.seq ?_ | refine W.reg ?_)
    refine L.fmul z4 rfl rfl rfl ?_
    repeat (first | refine L.p rfl rfl ?_ | refine L.nil ?_ | refine W.seq ?_ | refine W.reg ?_)
    refine L.ld (a := ⟨_, 0, none⟩) (cell_of hrc (hcc 0 _ rfl) (.inr rfl)) rfl rfl rfl ?_
    repeat (first | refine L.p rfl rfl ?_ | refine L.nil ?_ | refine W.seq ?_ | refine W.reg ?_)
    refine L.fmul c1 rfl rfl rfl ?_
    repeat (first | refine L.p rfl rfl ?_ | refine L.nil ?_ | refine W.seq ?_ | refine W.reg ?_)
    refine L.ld (a := ⟨_, 1, none⟩) (cell_of hrc (hcc 1 _ rfl) (.inr rfl)) rfl rfl rfl ?_
    repeat (first | refine L.p rfl rfl ?_ | refine L.nil ?_ | refine W.seq ?_ | refine W.reg ?_)
    refine L.fadd c2 rfl rfl rfl ?_
    repeat (first | refine L.p rfl rfl ?_ | refine L.nil ?_ | refine W.seq ?_ | refine W.reg ?_)
    refine L.fmul c3 rfl rfl rfl ?_
    repeat (first | refine L.p rfl rfl ?_ | refine L.nil ?_ | refine W.seq ?_ | refine W.reg ?_)
    refine L.ld (a := ⟨_, 2, none⟩) (cell_of hrc (hcc 2 _ rfl) (.inr rfl)) rfl rfl rfl ?_
    repeat (first | refine L.p rfl rfl ?_ | refine L.nil ?_ | refine W.seq ?_ | refine W.reg ?_)
    refine L.fadd c4 rfl rfl rfl ?_
    repeat (first | refine L.p rfl rfl ?_ | refine L.nil ?_ | refine W.seq ?_ | refine W.reg ?_)
    refine L.fmul c5 rfl rfl rfl ?_
    repeat (first | refine L.p rfl rfl ?_ | refine L.nil ?_ | refine W.seq ?_ | refine W.reg ?_)
    refine L.ld (a := ⟨_, 3, none⟩) (cell_of hrc (hcc 3 _ rfl) (.inr rfl)) rfl rfl rfl ?_
    repeat (first | refine L.p rfl rfl ?_ | refine L.nil ?_ | refine W.seq ?_ | refine W.reg ?_)
    refine L.fadd c6 rfl rfl rfl ?_
    repeat (first | refine L.p rfl rfl ?_ | refine L.nil ?_ | refine W.seq ?_ | refine W.reg ?_)
    refine L.fmul c7 rfl rfl rfl ?_
    repeat (first | refine L.p rfl rfl ?_ | refine L.nil ?_ | refine W.seq ?_ | refine W.reg ?_)
    refine L.ld (a := ⟨_, 4, none⟩) (cell_of hrc (hcc 4 _ rfl) (.inr rfl)) rfl rfl rfl ?_
    repeat (first | refine L.p rfl rfl ?_ | refine L.nil ?_ | refine W.seq ?_ | refine W.reg ?_)
    refine L.fadd c8 rfl rfl rfl ?_
    repeat (first | refine L.p rfl rfl ?_ | refine L.nil ?_ | refine W.seq ?_ | refine W.reg ?_)
    refine L.fmul c9 rfl rfl rfl ?_
    repeat (first | refine L.p rfl rfl ?_ | refine L.nil ?_ | refine W.seq ?_ | refine W.reg ?_)
    refine L.ld (a := ⟨_, 5, none⟩) (cell_of hrc (hcc 5 _ rfl) (.inr rfl)) rfl rfl rfl ?_
    repeat (first | refine L.p rfl rfl ?_ | refine L.nil ?_ | refine W.seq ?_ | refine W.reg ?_)
    refine L.fadd c10 rfl rfl rfl ?_
    repeat (first | refine L.p rfl rfl ?_ | refine L.nil ?_ | refine W.seq ?_ | refine W.reg ?_)
    refine L.fmul z5 rfl rfl rfl ?_
    repeat (first | refine L.p rfl rfl ?_ | refine L.nil ?_ | refine W.seq ?_ | refine W.reg ?_)
    refine L.fadd z6 rfl rfl rfl ?_
    repeat (first | refine L.p rfl rfl ?_ | refine L.nil ?_ | refine W.seq ?_ | refine W.reg ?_)
    refine L.fmul z7 rfl rfl rfl ?_
    repeat (first | refine L.p rfl rfl ?_ | refine L.nil ?_ | refine W.seq ?_ | refine W.reg ?_)
    refine L.ld (a := ⟨_, 0, none⟩) (cell_of hrs (hcs 0 _ rfl) (.inr rfl)) rfl rfl rfl ?_
    repeat (first | refine L.p rfl rfl ?_ | refine L.nil ?_ | refine W.seq ?_ | refine W.reg ?_)
    refine L.fmul s1 rfl rfl rfl ?_
    repeat (first | refine L.p rfl rfl ?_ | refine L.nil ?_ | refine W.seq ?_ | refine W.reg ?_)
    refine L.ld (a := ⟨_, 1, none⟩) (cell_of hrs (hcs 1 _ rfl) (.inr rfl)) rfl rfl rfl ?_
    repeat (first | refine L.p rfl rfl ?_ | refine L.nil ?_ | refine W.seq ?_ | refine W.reg ?_)
    refine L.fadd s2 rfl rfl rfl ?_
    repeat (first | refine L.p rfl rfl ?_ | refine L.nil ?_ | refine W.seq ?_ | refine W.reg ?_)
    refine L.fmul s3 rfl rfl rfl ?_
    repeat (first | refine L.p rfl rfl ?_ | refine L.nil ?_ | refine W.seq ?_ | refine W.reg ?_)
    refine L.ld (a := ⟨_, 2, none⟩) (cell_of hrs (hcs 2 _ rfl) (.inr rfl)) rfl rfl rfl ?_
    repeat (first | refine L.p rfl rfl ?_ | refine L.nil ?_ | refine W.seq ?_ | refine W.reg ?_)
    refine L.fadd s4 rfl rfl rfl ?_
    repeat (first | refine L.p rfl rfl ?_ | refine L.nil ?_ | refine W.seq ?_ | refine W.reg ?_)
    refine L.fmul s5 rfl rfl rfl ?_
    repeat (first | refine L.p rfl rfl ?_ | refine L.nil ?_ | refine W.seq ?_ | refine W.reg ?_)
    refine L.ld (a := ⟨_, 3, none⟩) (cell_of hrs (hcs 3 _ rfl) (.inr rfl)) rfl rfl rfl ?_
    repeat (first | refine L.p rfl rfl ?_ | refine L.nil ?_ | refine W.seq ?_ | refine W.reg ?_)
    refine L.fadd s6 rfl rfl rfl ?_
    repeat (first | refine L.p rfl rfl ?_ | refine L.nil ?_ | refine W.seq ?_ | refine W.reg ?_)
    refine L.fmul s7 rfl rfl rfl ?_
    repeat (first | refine L.p rfl rfl ?_ | refine L.nil ?_ | refine W.seq ?_ | refine W.reg ?_)
    refine L.ld (a := ⟨_, 4, none⟩) (cell_of hrs (hcs 4 _ rfl) (.inr rfl)) rfl rfl rfl ?_
    repeat (first | refine L.p rfl rfl ?_ | refine L.nil ?_ | refine W.seq ?_ | refine W.reg ?_)
    refine L.fadd s8 rfl rfl rfl ?_
    repeat (first | refine L.p rfl rfl ?_ | refine L.nil ?_ | refine W.seq ?_ | refine W.reg ?_)
    refine L.fmul s9 rfl rfl rfl ?_
    repeat (first | refine L.p rfl rfl ?_ | refine L.nil ?_ | refine W.seq ?_ | refine W.reg ?_)
    refine L.ld (a := ⟨_, 5, none⟩) (cell_of hrs (hcs 5 _ rfl) (.inr rfl)) rfl rfl rfl ?_
    repeat (first | refine L.p rfl rfl ?_ | refine L.nil ?_ | refine W.seq ?_ | refine W.reg ?_)
    refine L.fadd s10 rfl rfl rfl ?_
    repeat (first | refine L.p rfl rfl ?_ | refine L.nil ?_ | refine W.seq ?_ | refine W.reg ?_)
    refine L.fmul z8 rfl rfl rfl ?_
    repeat (first | refine L.p rfl rfl ?_ | refine L.nil ?_ | refine W.seq ?_ | refine W.reg ?_)
    refine L.fadd z9 rfl rfl rfl ?_
    repeat (first | refine L.p rfl rfl ?_ | refine L.nil ?_ | refine W.seq ?_ | refine W.reg ?_)
    first | refine W.condT rfl ?_ | refine W.condF rfl ?_
    repeat (first | refine W.seq ?_ | refine W.block ?_ | refine W.reg ?_ | refine W.skip ?_ | refine W.exit ?_ | refine W.ret ?_ | refine L.nil ?_ | refine L.p rfl rfl ?_ | refine L.skip rfl ?_)
    cases sg
    · first | refine W.condT rfl ?_ | refine W.condF rfl ?_
      repeat (first | refine W.seq ?_ | refine W.block ?_ | refine W.reg ?_ | refine W.skip ?_ | refine W.exit ?_ | refine W.ret ?_ | refine L.nil ?_ | refine L.p rfl rfl ?_ | refine L.skip rfl ?_)
      first | refine W.condT rfl ?_ | refine W.condF rfl ?_
      repeat (first | refine W.seq ?_ | refine W.block ?_ | refine W.reg ?_ | refine W.skip ?_ | refine W.exit ?_ | refine W.ret ?_ | refine L.nil ?_ | refine L.p rfl rfl ?_ | refine L.skip rfl ?_)
      exact ⟨.inr rfl, _, rfl, rfl, rfl⟩
    · first | refine W.condT rfl ?_ | refine W.condF rfl ?_
      repeat (first | refine W.seq ?_ | refine W.block ?_ | refine W.reg ?_ | refine W.skip ?_ | refine W.exit ?_ | refine W.ret ?_ | refine L.nil ?_ | refine L.p rfl rfl ?_ | refine L.skip rfl ?_)
      first | refine W.condT rfl ?_ | refine W.condF rfl ?_
      repeat (first | refine W.seq ?_ | refine W.block ?_ | refine W.reg ?_ | refine W.skip ?_ | refine W.exit ?_ | refine W.ret ?_ | refine L.nil ?_ | refine L.p rfl rfl ?_ | refine L.skip rfl ?_)
      exact ⟨.inr rfl, _, rfl, rfl, rfl⟩
  · obtain ⟨y, hy, rfl⟩ : ∃ y, Ieee.double.add (fNat 1) 4607182418800017408 = some y ∧ (2, y) = q := by
      have h0 : (Ieee.double.add (fNat 1) 4607182418800017408).map (fun y => ((1 + 1) % 8, y)) = some q := hoct
      rw [Option.map_eq_some_iff] at h0
      exact h0
    unfold restO dbl at hrest
    simp only [Option.bind_eq_some_iff] at hrest
    obtain ⟨u1, e1, u2, e2, u3, e3, u4, e4, u5, e5, e6⟩ := hrest
    have hsi := congrArg Prod.fst hsgn
    have hco := congrArg Prod.snd hsgn
    simp [signO] at hsi hco
    subst hsi hco
    repeat (first | refine W.seq ?_ | refine W.block ?_ | refine W.reg ?_ | refine W.skip ?_ | refine W.exit ?_ | refine W.ret ?_ | refine L.nil ?_ | refine L.p rfl rfl ?_ | refine L.skip rfl ?_)
    first | refine W.condT rfl ?_ | refine W.condF rfl ?_
    repeat (first | refine W.seq ?_ | refine W.block ?_ | refine W.reg ?_ | refine W.skip ?_ | refine W.exit ?_ | refine W.ret ?_ | refine L.nil ?_ | refine L.p rfl rfl ?_ | refine L.skip rfl ?_)
    refine L.fadd hy rfl rfl rfl ?_
    repeat (first | refine L.p rfl rfl ?_ | refine L.nil ?_ | refine W.seq ?_ | refine W.reg ?_)
    refine L.fmul e1 rfl rfl rfl ?_
    repeat (first | refine L.p rfl rfl ?_ | refine L.nil ?_ | refine W.seq ?_ | refine W.reg ?_)
    refine L.fsub e2 rfl rfl rfl ?_
    repeat (first | refine L.p rfl rfl ?_ | refine L.nil ?_ | refine W.seq ?_ | refine W.reg ?_)
    refine L.fmul e3 rfl rfl rfl ?_
    repeat (first | refine L.p rfl rfl ?_ | refine L.nil ?_ | refine W.seq ?_ | refine W.reg ?_)
    refine L.fsub e4 rfl rfl rfl ?_
    repeat (first | refine L.p rfl rfl ?_ | refine L.nil ?_ | refine W.seq ?_ | refine W.reg ?_)
    refine L.fmul e5 rfl rfl rfl ?_
    repeat (first | refine L.p rfl rfl ?_ | refine L.nil ?_ | refine W.seq ?_ | refine W.reg ?_)
    refine L.fsub e6 rfl rfl rfl ?_
    repeat (first | refine L.p rfl rfl ?_ | refine L.nil ?_ | refine W.seq ?_ | refine W.reg ?_)
    first | refine W.condT rfl ?_ | refine W.condF rfl ?_
    repeat (first | refine W.seq ?_ | refine W.block ?_ | refine W.reg ?_ | refine W.skip ?_ | refine W.exit ?_ | refine W.ret ?_ | refine L.nil ?_ | refine L.p rfl rfl ?_ | refine L.skip rfl ?_)
    first | refine W.condT rfl ?_ | refine W.condF rfl ?_
    repeat (first | refine W.seq ?_ | refine W.block ?_ | refine W.reg ?_ | refine W.skip ?_ | refine W.exit ?_ | refine W.ret ?_ | refine L.nil ?_ | refine L.p rfl rfl ?_ | refine L.skip rfl ?_)
    refine L.fmul z1 rfl rfl rfl ?_
    repeat (first | refine L.p rfl rfl ?_ | refine L.nil ?_ | refine W.seq ?_ | refine W.reg ?_)
    refine L.fmul z2 rfl rfl rfl ?_
    repeat (first | refine L.p rfl rfl ?_ | refine L.nil ?_ | refine W.seq ?_ | refine W.reg ?_)
    refine L.fsub z3 rfl rfl rfl ?_
    repeat (first | refine L.p rfl rfl ?_ | refine L.nil ?_ | refine W.seq ?_ | refine W.reg ?_)
    refine L.fmul z4 rfl rfl rfl ?_
    repeat (first | refine L.p rfl rfl ?_ | refine L.nil ?_ | refine W.seq ?_ | refine W.reg ?_)
    refine L.ld (a := ⟨_, 0, none⟩) (cell_of hrc (hcc 0 _ rfl) (.inr rfl)) rfl rfl rfl ?_
    repeat (first | refine L.p rfl rfl ?_ | refine L.nil ?_ | refine W.seq ?_ | refine W.reg ?_)
    refine L.fmul c1 rfl rfl rfl ?_
    repeat (first | refine L.p rfl rfl ?_ | refine L.nil ?_ | refine W.seq ?_ | refine W.reg ?_)
    refine L.ld (a := ⟨_, 1, none⟩) (cell_of hrc (hcc 1 _ rfl) (.inr rfl)) rfl rfl rfl ?_
    repeat (first | refine L.p rfl rfl ?_ | refine L.nil ?_ | refine W.seq ?_ | refine W.reg ?_)
    refine L.fadd c2 rfl rfl rfl ?_
    repeat (first | refine L.p rfl rfl ?_ | refine L.nil ?_ | refine W.seq ?_ | refine W.reg ?_)
    refine L.fmul c3 rfl rfl rfl ?_
    repeat (first | refine L.p rfl rfl ?_ | refine L.nil ?_ | refine W.seq ?_ | refine W.reg ?_)
    refine L.ld (a := ⟨_, 2, none⟩) (cell_of hrc (hcc 2 _ rfl) (.inr rfl)) rfl rfl rfl ?_
    repeat (first | refine L.p rfl rfl ?_ | refine L.nil ?_ | refine W.seq ?_ | refine W.reg ?_)
    refine L.fadd c4 rfl rfl rfl ?_
    repeat (first | refine L.p rfl rfl ?_ | refine L.nil ?_ | refine W.seq ?_ | refine W.reg ?_)
    refine L.fmul c5 rfl rfl rfl ?_
    repeat (first | refine L.p rfl rfl ?_ | refine L.nil ?_ | refine W.seq ?_ | refine W.reg ?_)
    refine L.ld (a := ⟨_, 3, none⟩) (cell_of hrc (hcc 3 _ rfl) (.inr rfl)) rfl rfl rfl ?_
    repeat (first | refine L.p rfl rfl ?_ | refine L.nil ?_ | refine W.seq ?_ | refine W.reg ?_)
    refine L.fadd c6 rfl rfl rfl ?_
    repeat (first | refine L.p rfl rfl ?_ | refine L.nil ?_ | refine W.seq ?_ | refine W.reg ?_)
    refine L.fmul c7 rfl rfl rfl ?_
    repeat (first | refine L.p rfl rfl ?_ | refine L.nil ?_ | refine W.seq ?_ | refine W.reg ?_)
    refine L.ld (a := ⟨_, 4, none⟩) (cell_of hrc (hcc 4 _ rfl) (.inr rfl)) rfl rfl rfl ?_
    repeat (first | refine L.p rfl rfl ?_ | refine L.nil ?_ | refine W.seq ?_ | refine W.reg ?_)
    refine L.fadd c8 rfl rfl rfl ?_
    repeat (first | refine L.p rfl rfl ?_ | refine L.nil ?_ | refine W.seq ?_ | refine W.reg ?_)
    refine L.fmul c9 rfl rfl rfl ?_
    repeat (first | refine L.p rfl rfl ?_ | refine L.nil ?_ | refine W.seq ?_ | refine W.reg ?_)
    refine L.ld (a := ⟨_, 5, none⟩) (cell_of hrc (hcc 5 _ rfl) (.inr rfl)) rfl rfl rfl ?_
    repeat (first | refine L.p rfl rfl ?_ | refine L.nil ?_ | refine W.seq ?_ | refine W.reg ?_)
    refine L.fadd c10 rfl rfl rfl ?_
    repeat (first | refine L.p rfl rfl ?_ | refine L.nil ?_ | refine W.seq ?_ | refine W.reg ?_)
    refine L.fmul z5 rfl rfl rfl ?_
    repeat (first | refine L.p rfl rfl ?_ | refine L.nil ?_ | refine W.seq ?_ | refine W.reg ?_)
    refine L.fadd z6 rfl rfl rfl ?_
    repeat (first | refine L.p rfl rfl ?_ | refine L.nil ?_ | refine W.seq ?_ | refine W.reg ?_)
    refine L.fmul z7 rfl rfl rfl ?_
    repeat (first | refine L.p rfl rfl ?_ | refine L.nil ?_ | refine W.seq ?_ | refine W.reg ?_)
    refine L.ld (a := ⟨_, 0, none⟩) (cell_of hrs (hcs 0 _ rfl) (.inr rfl)) rfl rfl rfl ?_
    repeat (first | refine L.p rfl rfl ?_ | refine L.nil ?_ | refine W.seq ?_ | refine W.reg ?_)
    refine L.fmul s1 rfl rfl rfl ?_
    repeat (first | refine L.p rfl rfl ?_ | refine L.nil ?_ | refine W.seq ?_ | refine W.reg ?_)
    refine L.ld (a := ⟨_, 1, none⟩) (cell_of hrs (hcs 1 _ rfl) (.inr rfl)) rfl rfl rfl ?_
    repeat (first | refine L.p rfl rfl ?_ | refine L.nil ?_ | refine W.seq ?_ | refine W.reg ?_)
    refine L.fadd s2 rfl rfl rfl ?_
    repeat (first | refine L.p rfl rfl ?_ | refine L.nil ?_ | refine W.seq ?_ | refine W.reg ?_)
    refine L.fmul s3 rfl rfl rfl ?_
    repeat (first | refine L.p rfl rfl ?_ | refine L.nil ?_ | refine W.seq ?_ | refine W.reg ?_)
    refine L.ld (a := ⟨_, 2, none⟩) (cell_of hrs (hcs 2 _ rfl) (.inr rfl)) rfl rfl rfl ?_
    repeat (first | refine L.p rfl rfl ?_ | refine L.nil ?_ | refine W.seq ?_ | refine W.reg ?_)
    refine L.fadd s4 rfl rfl rfl ?_
    repeat (first | refine L.p rfl rfl ?_ | refine L.nil ?_ | refine W.seq ?_ | refine W.reg ?_)
    refine L.fmul s5 rfl rfl rfl ?_
    repeat (first | refine L.p rfl rfl ?_ | refine L.nil ?_ | refine W.seq ?_ | refine W.reg ?_)
    refine L.ld (a := ⟨_, 3, none⟩) (cell_of hrs (hcs 3 _ rfl) (.inr rfl)) rfl rfl rfl ?_
    repeat (first | refine L.p rfl rfl ?_ | refine L.nil ?_ | refine W.seq ?_ | refine W.reg ?_)
    refine L.fadd s6 rfl rfl rfl ?_
    repeat (first | refine L.p rfl rfl ?_ | refine L.nil ?_ | refine W.seq ?_ | refine W.reg ?_)
    refine L.fmul s7 rfl rfl rfl ?_
    repeat (first | refine L.p rfl rfl ?_ | refine L.nil ?_ | refine W.seq ?_ | refine W.reg ?_)
    refine L.ld (a := ⟨_, 4, none⟩) (cell_of hrs (hcs 4 _ rfl) (.inr rfl)) rfl rfl rfl ?_
    repeat (first | refine L.p rfl rfl ?_ | refine L.nil ?_ | refine W.seq ?_ | refine W.reg ?_)
    refine L.fadd s8 rfl rfl rfl ?_
    repeat (first | refine L.p rfl rfl ?_ | refine L.nil ?_ | refine W.seq ?_ | refine W.reg ?_)
    refine L.fmul s9 rfl rfl rfl ?_
    repeat (first | refine L.p rfl rfl ?_ | refine L.nil ?_ | refine W.seq ?_ | refine W.reg ?_)
    refine L.ld (a := ⟨_, 5, none⟩) (cell_of hrs (hcs 5 _ rfl) (.inr rfl)) rfl rfl rfl ?_
    repeat (first | refine L.p rfl rfl ?_ | refine L.nil ?_ | refine W.seq ?_ | refine W.reg ?_)
    refine L.fadd s10 rfl rfl rfl ?_
    repeat (first | refine L.p rfl rfl ?_ | refine L.nil ?_ | refine W.seq ?_ | refine W.reg ?_)
    refine L.fmul z8 rfl rfl rfl ?_
    repeat (first | refine L.p rfl rfl ?_ | refine L.nil ?_ | refine W.seq ?_ | refine W.reg ?_)
    refine L.fadd z9 rfl rfl rfl ?_
    repeat (first | refine L.p rfl rfl ?_ | refine L.nil ?_ | refine W.seq ?_ | refine W.reg ?_)
    first | refine W.condT rfl ?_ | refine W.condF rfl ?_
    repeat (first | refine W.seq ?_ | refine W.block ?_ | refine W.reg ?_ | refine W.skip ?_ | refine W.exit ?_ | refine W.ret ?_ | refine L.nil ?_ | refine L.p rfl rfl ?_ | refine L.skip rfl ?_)
    cases sg
    · first | refine W.condT rfl ?_ | refine W.condF rfl ?_
      repeat (first | refine W.seq ?_ | refine W.block ?_ | refine W.reg ?_ | refine W.skip ?_ | refine W.exit ?_ | refine W.ret ?_ | refine L.nil ?_ | refine L.p rfl rfl ?_ | refine L.skip rfl ?_)
      first | refine W.condT rfl ?_ | refine W.condF rfl ?_
      repeat (first | refine W.seq ?_ | refine W.block ?_ | refine W.reg ?_ | refine W.skip ?_ | refine W.exit ?_ | refine W.ret ?_ | refine L.nil ?_ | refine L.p rfl rfl ?_ | refine L.skip rfl ?_)
      exact ⟨.inr rfl, _, rfl, rfl, rfl⟩
    · first | refine W.condT rfl ?_ | refine W.condF rfl ?_
      repeat (first | refine W.seq ?_ | refine W.block ?_ | refine W.reg ?_ | refine W.skip ?_ | refine W.exit ?_ | refine W.ret ?_ | refine L.nil ?_ | refine L.p rfl rfl ?_ | refine L.skip rfl ?_)
      first | refine W.condT rfl ?_ | refine W.condF rfl ?_
      repeat (first | refine W.seq ?_ | refine W.block ?_ | refine W.reg ?_ | refine W.skip ?_ | refine W.exit ?_ | refine W.ret ?_ | refine L.nil ?_ | refine L.p rfl rfl ?_ | refine L.skip rfl ?_)
      exact ⟨.inr rfl, _, rfl, rfl, rfl⟩
  · obtain ⟨y, hy0, rfl⟩ : ∃ y, y = fNat 2 ∧ (2, y) = q := by
      have h0 : some (2 % 8, fNat 2) = some q := hoct
      exact ⟨_, rfl, Option.some.inj h0⟩
    unfold restO dbl at hrest
    simp only [Option.bind_eq_some_iff] at hrest
    obtain ⟨u1, e1, u2, e2, u3, e3, u4, e4, u5, e5, e6⟩ := hrest
    have hsi := congrArg Prod.fst hsgn
    have hco := congrArg Prod.snd hsgn
    simp [signO] at hsi hco
    subst hsi hco
    subst hy0
    repeat (first | refine W.seq ?_ | refine W.block ?_ | refine W.reg ?_ | refine W.skip ?_ | refine W.exit ?_ | refine W.ret ?_ | refine L.nil ?_ | refine L.p rfl rfl ?_ | refine L.skip rfl ?_)
    first | refine W.condT rfl ?_ | refine W.condF rfl ?_
    repeat (first | refine W.seq ?_ | refine W.block ?_ | refine W.reg ?_ | refine W.skip ?_ | refine W.exit ?_ | refine W.ret ?_ | refine L.nil ?_ | refine L.p rfl rfl ?_ | refine L.skip rfl ?_)
    refine L.fmul e1 rfl rfl rfl ?_
    repeat (first | refine L.p rfl rfl ?_ | refine L.nil ?_ | refine W.seq ?_ | refine W.reg ?_)
    refine L.fsub e2 rfl rfl rfl ?_
    repeat (first | refine L.p rfl rfl ?_ | refine L.nil ?_ | refine W.seq ?_ | refine W.reg ?_)
    refine L.fmul e3 rfl rfl rfl ?_
    repeat (first | refine L.p rfl rfl ?_ | refine L.nil ?_ | refine W.seq ?_ | refine W.reg ?_)
    refine L.fsub e4 rfl rfl rfl ?_
    repeat (first | refine L.p rfl rfl ?_ | refine L.nil ?_ | refine W.seq ?_ | refine W.reg ?_)
    refine L.fmul e5 rfl rfl rfl ?_
    repeat (first | refine L.p rfl rfl ?_ | refine L.nil ?_ | refine W.seq ?_ | refine W.reg ?_)
    refine L.fsub e6 rfl rfl rfl ?_
    repeat (first | refine L.p rfl rfl ?_ | refine L.nil ?_ | refine W.seq ?_ | refine W.reg ?_)
    first | refine W.condT rfl ?_ | refine W.condF rfl ?_
    repeat (first | refine W.seq ?_ | refine W.block ?_ | refine W.reg ?_ | refine W.skip ?_ | refine W.exit ?_ | refine W.ret ?_ | refine L.nil ?_ | refine L.p rfl rfl ?_ | refine L.skip rfl ?_)
    first | refine W.condT rfl ?_ | refine W.condF rfl ?_
    repeat (first | refine W.seq ?_ | refine W.block ?_ | refine W.reg ?_ | refine W.skip ?_ | refine W.exit ?_ | refine W.ret ?_ | refine L.nil ?_ | refine L.p rfl rfl ?_ | refine L.skip rfl ?_)
    refine L.fmul z1 rfl rfl rfl ?_
    repeat (first | refine L.p rfl rfl ?_ | refine L.nil ?_ | refine W.seq ?_ | refine W.reg ?_)
    refine L.fmul z2 rfl rfl rfl ?_
    repeat (first | refine L.p rfl rfl ?_ | refine L.nil ?_ | refine W.seq ?_ | refine W.reg ?_)
    refine L.fsub z3 rfl rfl rfl ?_
    repeat (first | refine L.p rfl rfl ?_ | refine L.nil ?_ | refine W.seq ?_ | refine W.reg ?_)
    refine L.fmul z4 rfl rfl rfl ?_
    repeat (first | refine L.p rfl rfl ?_ | refine L.nil ?_ | refine W.seq ?_ | refine W.reg ?_)
    refine L.ld (a := ⟨_, 0, none⟩) (cell_of hrc (hcc 0 _ rfl) (.inr rfl)) rfl rfl rfl ?_
    repeat (first | refine L.p rfl rfl ?_ | refine L.nil ?_ | refine W.seq ?_ | refine W.reg ?_)
    refine L.fmul c1 rfl rfl rfl ?_
    repeat (first | refine L.p rfl rfl ?_ | refine L.nil ?_ | refine W.seq ?_ | refine W.reg ?_)
    refine L.ld (a := ⟨_, 1, none⟩) (cell_of hrc (hcc 1 _ rfl) (.inr rfl)) rfl rfl rfl ?_
    repeat (first | refine L.p rfl rfl ?_ | refine L.nil ?_ | refine W.seq ?_ | refine W.reg ?_)
    refine L.fadd c2 rfl rfl rfl ?_
    repeat (first | refine L.p rfl rfl ?_ | refine L.nil ?_ | refine W.seq ?_ | refine W.reg ?_)
    refine L.fmul c3 rfl rfl rfl ?_
    repeat (first | refine L.p rfl rfl ?_ | refine L.nil ?_ | refine W.seq ?_ | refine W.reg ?_)
    refine L.ld (a := ⟨_, 2, none⟩) (cell_of hrc (hcc 2 _ rfl) (.inr rfl)) rfl rfl rfl ?_
    repeat (first | refine L.p rfl rfl ?_ | refine L.nil ?_ | refine W.seq ?_ | refine W.reg ?_)
    refine L.fadd c4 rfl rfl rfl ?_
    repeat (first | refine L.p rfl rfl ?_ | refine L.nil ?_ | refine W.seq ?_ | refine W.reg ?_)
    refine L.fmul c5 rfl rfl rfl ?_
    repeat (first | refine L.p rfl rfl ?_ | refine L.nil ?_ | refine W.seq ?_ | refine W.reg ?_)
    refine L.ld (a := ⟨_, 3, none⟩) (cell_of hrc (hcc 3 _ rfl) (.inr rfl)) rfl rfl rfl ?_
    repeat (first | refine L.p rfl rfl ?_ | refine L.nil ?_ | refine W.seq ?_ | refine W.reg ?_)
    refine L.fadd c6 rfl rfl rfl ?_
    repeat (first | refine L.p rfl rfl ?_ | refine L.nil ?_ | refine W.seq ?_ | refine W.reg ?_)
    refine L.fmul c7 rfl rfl rfl ?_
    repeat (first | refine L.p rfl rfl ?_ | refine L.nil ?_ | refine W.seq ?_ | refine W.reg ?_)
    refine L.ld (a := ⟨_, 4, none⟩) (cell_of hrc (hcc 4 _ rfl) (.inr rfl)) rfl rfl rfl ?_
    repeat (first | refine L.p rfl rfl ?_ | refine L.nil ?_ | refine W.seq ?_ | refine W.reg ?_)
    refine L.fadd c8 rfl rfl rfl ?_
    repeat (first | refine L.p rfl rfl ?_ | refine L.nil ?_ | refine W.seq ?_ | refine W.reg ?_)
    refine L.fmul c9 rfl rfl rfl ?_
    repeat (first | refine L.p rfl rfl ?_ | refine L.nil ?_ | refine W.seq ?_ | refine W.reg ?_)
    refine L.ld (a := ⟨_, 5, none⟩) (cell_of hrc (hcc 5 _ rfl) (.inr rfl)) rfl rfl rfl ?_
    repeat (first | refine L.p rfl rfl ?_ | refine L.nil ?_ | refine W.seq ?_ | refine W.reg ?_)
    refine L.fadd c10 rfl rfl rfl ?_
    repeat (first | refine L.p rfl rfl ?_ | refine L.nil ?_ | refine W.seq ?_ | refine W.reg ?_)
    refine L.fmul z5 rfl rfl rfl ?_
    repeat (first | refine L.p rfl rfl ?_ | refine L.nil ?_ | refine W.seq ?_ | refine W.reg ?_)
    refine L.fadd z6 rfl rfl rfl ?_
    repeat (first | refine L.p rfl rfl ?_ | refine L.nil ?_ | refine W.seq ?_ | refine W.reg ?_)
    refine L.fmul z7 rfl rfl rfl ?_
    repeat (first | refine L.p rfl rfl ?_ | refine L.nil ?_ | refine W.seq ?_ | refine W.reg ?_)
    refine L.ld (a := ⟨_, 0, none⟩) (cell_of hrs (hcs 0 _ rfl) (.inr rfl)) rfl rfl rfl ?_
    repeat (first | refine L.p rfl rfl ?_ | refine L.nil ?_ | refine W.seq ?_ | refine W.reg ?_)
    refine L.fmul s1 rfl rfl rfl ?_
    repeat (first | refine L.p rfl rfl ?_ | refine L.nil ?_ | refine W.seq ?_ | refine W.reg ?_)
    refine L.ld (a := ⟨_, 1, none⟩) (cell_of hrs (hcs 1 _ rfl) (.inr rfl)) rfl rfl rfl ?_
    repeat (first | refine L.p rfl rfl ?_ | refine L.nil ?_ | refine W.seq ?_ | refine W.reg ?_)
    refine L.fadd s2 rfl rfl rfl ?_
    repeat (first | refine L.p rfl rfl ?_ | refine L.nil ?_ | refine W.seq ?_ | refine W.reg ?_)
    refine L.fmul s3 rfl rfl rfl ?_
    repeat (first | refine L.p rfl rfl ?_ | refine L.nil ?_ | refine W.seq ?_ | refine W.reg ?_)
    refine L.ld (a := ⟨_, 2, none⟩) (cell_of hrs (hcs 2 _ rfl) (.inr rfl)) rfl rfl rfl ?_
    repeat (first | refine L.p rfl rfl ?_ | refine L.nil ?_ | refine W.seq ?_ | refine W.reg ?_)
    refine L.fadd s4 rfl rfl rfl ?_
    repeat (first | refine L.p rfl rfl ?_ | refine L.nil ?_ | refine W.seq ?_ | refine W.reg ?_)
    refine L.fmul s5 rfl rfl rfl ?_
    repeat (first | refine L.p rfl rfl ?_ | refine L.nil ?_ | refine W.seq ?_ | refine W.reg ?_)
    refine L.ld (a := ⟨_, 3, none⟩) (cell_of hrs (hcs 3 _ rfl) (.inr rfl)) rfl rfl rfl ?_
    repeat (first | refine L.p rfl rfl ?_ | refine L.nil ?_ | refine W.seq ?_ | refine W.reg ?_)
    refine L.fadd s6 rfl rfl rfl ?_
    repeat (first | refine L.p rfl rfl ?_ | refine L.nil ?_ | refine W.seq ?_ | refine W.reg ?_)
    refine L.fmul s7 rfl rfl rfl ?_
    repeat (first | refine L.p rfl rfl ?_ | refine L.nil ?_ | refine W.seq ?_ | refine W.reg ?_)
    refine L.ld (a := ⟨_, 4, none⟩) (cell_of hrs (hcs 4 _ rfl) (.inr rfl)) rfl rfl rfl ?_
    repeat (first | refine L.p rfl rfl ?_ | refine L.nil ?_ | refine W.seq ?_ | refine W.reg ?_)
    refine L.fadd s8 rfl rfl rfl ?_
    repeat (first | refine L.p rfl rfl ?_ | refine L.nil ?_ | refine W.seq ?_ | refine W.reg ?_)
    refine L.fmul s9 rfl rfl rfl ?_
    repeat (first | refine L.p rfl rfl ?_ | refine L.nil ?_ | refine W.seq ?_ | refine W.reg ?_)
    refine L.ld (a := ⟨_, 5, none⟩) (cell_of hrs (hcs 5 _ rfl) (.inr rfl)) rfl rfl rfl ?_
    repeat (first | refine L.p rfl rfl ?_ | refine L.nil ?_ | refine W.seq ?_ | refine W.reg ?_)
    refine L.fadd s10 rfl rfl rfl ?_
    repeat (first | refine L.p rfl rfl ?_ | refine L.nil ?_ | refine W.seq ?_ | refine W.reg ?_)
    refine L.fmul z8 rfl rfl rfl ?_
    repeat (first | refine L.p rfl rfl ?_ | refine L.nil ?_ | refine W.seq ?_ | refine W.reg ?_)
    refine L.fadd z9 rfl rfl rfl ?_
    repeat (first | refine L.p rfl rfl ?_ | refine L.nil ?_ | refine W.seq ?_ | refine W.reg ?_)
    first | refine W.condT rfl ?_ | refine W.condF rfl ?_
    repeat (first | refine W.seq ?_ | refine W.block ?_ | refine W.reg ?_ | refine W.skip ?_ | refine W.exit ?_ | refine W.ret ?_ | refine L.nil ?_ | refine L.p rfl rfl ?_ | refine L.skip rfl ?_)
    cases sg
    · first | refine W.condT rfl ?_ | refine W.condF rfl ?_
      repeat (first | refine W.seq ?_ | refine W.block ?_ | refine W.reg ?_ | refine W.skip ?_ | refine W.exit ?_ | refine W.ret ?_ | refine L.nil ?_ | refine L.p rfl rfl ?_ | refine L.skip rfl ?_)
      first | refine W.condT rfl ?_ | refine W.condF rfl ?_
      repeat (first | refine W.seq ?_ | refine W.block ?_ | refine W.reg ?_ | refine W.skip ?_ | refine W.exit ?_ | refine W.ret ?_ | refine L.nil ?_ | refine L.p rfl rfl ?_ | refine L.skip rfl ?_)
      exact ⟨.inr rfl, _, rfl, rfl, rfl⟩
    · first | refine W.condT rfl ?_ | refine W.condF rfl ?_
      repeat (first | refine W.seq ?_ | refine W.block ?_ | refine W.reg ?_ | refine W.skip ?_ | refine W.exit ?_ | refine W.ret ?_ | refine L.nil ?_ | refine L.p rfl rfl ?_ | refine L.skip rfl ?_)
      first | refine W.condT rfl ?_ | refine W.condF rfl ?_
      repeat (first | refine W.seq ?_ | refine W.block ?_ | refine W.reg ?_ | refine W.skip ?_ | refine W.exit ?_ | refine W.ret ?_ | refine L.nil ?_ | refine L.p rfl rfl ?_ | refine L.skip rfl ?_)
      exact ⟨.inr rfl, _, rfl, rfl, rfl⟩
  · obtain ⟨y, hy, rfl⟩ : ∃ y, Ieee.double.add (fNat 3) 4607182418800017408 = some y ∧ (4, y) = q := by
      have h0 : (Ieee.double.add (fNat 3) 4607182418800017408).map (fun y => ((3 + 1) % 8, y)) = some q := hoct
      rw [Option.map_eq_some_iff] at h0
      exact h0
    unfold restO dbl at hrest
    simp only [Option.bind_eq_some_iff] at hrest
    obtain ⟨u1, e1, u2, e2, u3, e3, u4, e4, u5, e5, e6⟩ := hrest
    have hsi := congrArg Prod.fst hsgn
    have hco := congrArg Prod.snd hsgn
    simp [signO] at hsi hco
    subst hsi hco
    repeat (first | refine W.seq ?_ | refine W.block ?_ | refine W.reg ?_ | refine W.skip ?_ | refine W.exit ?_ | refine W.ret ?_ | refine L.nil ?_ | refine L.p rfl rfl ?_ | refine L.skip rfl ?_)
    first | refine W.condT rfl ?_ | refine W.condF rfl ?_
    repeat (first | refine W.seq ?_ | refine W.block ?_ | refine W.reg ?_ | refine W.skip ?_ | refine W.exit ?_ | refine W.ret ?_ | refine L.nil ?_ | refine L.p rfl rfl ?_ | refine L.skip rfl ?_)
    refine L.fadd hy rfl rfl rfl ?_
    repeat (first | refine L.p rfl rfl ?_ | refine L.nil ?_ | refine W.seq ?_ | refine W.reg ?_)
    refine L.fmul e1 rfl rfl rfl ?_
    repeat (first | refine L.p rfl rfl ?_ | refine L.nil ?_ | refine W.seq ?_ | refine W.reg ?_)
    refine L.fsub e2 rfl rfl rfl ?_
    repeat (first | refine L.p rfl rfl ?_ | refine L.nil ?_ | refine W.seq ?_ | refine W.reg ?_)
    refine L.fmul e3 rfl rfl rfl ?_
    repeat (first | refine L.p rfl rfl ?_ | refine L.nil ?_ | refine W.seq ?_ | refine W.reg ?_)
    refine L.fsub e4 rfl rfl rfl ?_
    repeat (first | refine L.p rfl rfl ?_ | refine L.nil ?_ | refine W.seq ?_ | refine W.reg ?_)
    refine L.fmul e5 rfl rfl rfl ?_
    repeat (first | refine L.p rfl rfl ?_ | refine L.nil ?_ | refine W.seq ?_ | refine W.reg ?_)
    refine L.fsub e6 rfl rfl rfl ?_
    repeat (first | refine L.p rfl rfl ?_ | refine L.nil ?_ | refine W.seq ?_ | refine W.reg ?_)
    first | refine W.condT rfl ?_ | refine W.condF rfl ?_
    repeat (first | refine W.seq ?_ | refine W.block ?_ | refine W.reg ?_ | refine W.skip ?_ | refine W.exit ?_ | refine W.ret ?_ | refine L.nil ?_ | refine L.p rfl rfl ?_ | refine L.skip rfl ?_)
    first | refine W.condT rfl ?_ | refine W.condF rfl ?_
    repeat (first | refine W.seq ?_ | refine W.block ?_ | refine W.reg ?_ | refine W.skip ?_ | refine W.exit ?_ | refine W.ret ?_ | refine L.nil ?_ | refine L.p rfl rfl ?_ | refine L.skip rfl ?_)
    refine L.fmul z1 rfl rfl rfl ?_
    repeat (first | refine L.p rfl rfl ?_ | refine L.nil ?_ | refine W.seq ?_ | refine W.reg ?_)
    refine L.fmul z2 rfl rfl rfl ?_
    repeat (first | refine L.p rfl rfl ?_ | refine L.nil ?_ | refine W.seq ?_ | refine W.reg ?_)
    refine L.fsub z3 rfl rfl rfl ?_
    repeat (first | refine L.p rfl rfl ?_ | refine L.nil ?_ | refine W.seq ?_ | refine W.reg ?_)
    refine L.fmul z4 rfl rfl rfl ?_
    repeat (first | refine L.p rfl rfl ?_ | refine L.nil ?_ | refine W.seq ?_ | refine W.reg ?_)
    refine L.ld (a := ⟨_, 0, none⟩) (cell_of hrc (hcc 0 _ rfl) (.inr rfl)) rfl rfl rfl ?_
    repeat (first | refine L.p rfl rfl ?_ | refine L.nil ?_ | refine W.seq ?_ | refine W.reg ?_)
    refine L.fmul c1 rfl rfl rfl ?_
    repeat (first | refine L.p rfl rfl ?_ | refine L.nil ?_ | refine W.seq ?_ | refine W.reg ?_)
    refine L.ld (a := ⟨_, 1, none⟩) (cell_of hrc (hcc 1 _ rfl) (.inr rfl)) rfl rfl rfl ?_
    repeat (first | refine L.p rfl rfl ?_ | refine L.nil ?_ | refine W.seq ?_ | refine W.reg ?_)
    refine L.fadd c2 rfl rfl rfl ?_
    repeat (first | refine L.p rfl rfl ?_ | refine L.nil ?_ | refine W.seq ?_ | refine W.reg ?_)
    refine L.fmul c3 rfl rfl rfl ?_
    repeat (first | refine L.p rfl rfl ?_ | refine L.nil ?_ | refine W.seq ?_ | refine W.reg ?_)
    refine L.ld (a := ⟨_, 2, none⟩) (cell_of hrc (hcc 2 _ rfl) (.inr rfl)) rfl rfl rfl ?_
    repeat (first | refine L.p rfl rfl ?_ | refine L.nil ?_ | refine W.seq ?_ | refine W.reg ?_)
    refine L.fadd c4 rfl rfl rfl ?_
    repeat (first | refine L.p rfl rfl ?_ | refine L.nil ?_ | refine W.seq ?_ | refine W.reg ?_)
    refine L.fmul c5 rfl rfl rfl ?_
    repeat (first | refine L.p rfl rfl ?_ | refine L.nil ?_ | refine W.seq ?_ | refine W.reg ?_)
    refine L.ld (a := ⟨_, 3, none⟩) (cell_of hrc (hcc 3 _ rfl) (.inr rfl)) rfl rfl rfl ?_
    repeat (first | refine L.p rfl rfl ?_ | refine L.nil ?_ | refine W.seq ?_ | refine W.reg ?_)
    refine L.fadd c6 rfl rfl rfl ?_
    repeat (first | refine L.p rfl rfl ?_ | refine L.nil ?_ | refine W.seq ?_ | refine W.reg ?_)
    refine L.fmul c7 rfl rfl rfl ?_
    repeat (first | refine L.p rfl rfl ?_ | refine L.nil ?_ | refine W.seq ?_ | refine W.reg ?_)
    refine L.ld (a := ⟨_, 4, none⟩) (cell_of hrc (hcc 4 _ rfl) (.inr rfl)) rfl rfl rfl ?_
    repeat (first | refine L.p rfl rfl ?_ | refine L.nil ?_ | refine W.seq ?_ | refine W.reg ?_)
    refine L.fadd c8 rfl rfl rfl ?_
    repeat (first | refine L.p rfl rfl ?_ | refine L.nil ?_ | refine W.seq ?_ | refine W.reg ?_)
    refine L.fmul c9 rfl rfl rfl ?_
    repeat (first | refine L.p rfl rfl ?_ | refine L.nil ?_ | refine W.seq ?_ | refine W.reg ?_)
    refine L.ld (a := ⟨_, 5, none⟩) (cell_of hrc (hcc 5 _ rfl) (.inr rfl)) rfl rfl rfl ?_
    repeat (first | refine L.p rfl rfl ?_ | refine L.nil ?_ | refine W.seq ?_ | refine W.reg ?_)
    refine L.fadd c10 rfl rfl rfl ?_
    repeat (first | refine L.p rfl rfl ?_ | refine L.nil ?_ | refine W.seq ?_ | refine W.reg ?_)
    refine L.fmul z5 rfl rfl rfl ?_
    repeat (first | refine L.p rfl rfl ?_ | refine L.nil ?_ | refine W.seq ?_ | refine W.reg ?_)
    refine L.fadd z6 rfl rfl rfl ?_
    repeat (first | refine L.p rfl rfl ?_ | refine L.nil ?_ | refine W.seq ?_ | refine W.reg ?_)
    refine L.fmul z7 rfl rfl rfl ?_
    repeat (first | refine L.p rfl rfl ?_ | refine L.nil ?_ | refine W.seq ?_ | refine W.reg ?_)
    refine L.ld (a := ⟨_, 0, none⟩) (cell_of hrs (hcs 0 _ rfl) (.inr rfl)) rfl rfl rfl ?_
    repeat (first | refine L.p rfl rfl ?_ | refine L.nil ?_ | refine W.seq ?_ | refine W.reg ?_)
    refine L.fmul s1 rfl rfl rfl ?_
    repeat (first | refine L.p rfl rfl ?_ | refine L.nil ?_ | refine W.seq ?_ | refine W.reg ?_)
    refine L.ld (a := ⟨_, 1, none⟩) (cell_of hrs (hcs 1 _ rfl) (.inr rfl)) rfl rfl rfl ?_
    repeat (first | refine L.p rfl rfl ?_ | refine L.nil ?_ | refine W.seq ?_ | refine W.reg ?_)
    refine L.fadd s2 rfl rfl rfl ?_
    repeat (first | refine L.p rfl rfl ?_ | refine L.nil ?_ | refine W.seq ?_ | refine W.reg ?_)
    refine L.fmul s3 rfl rfl rfl ?_
    repeat (first | refine L.p rfl rfl ?_ | refine L.nil ?_ | refine W.seq ?_ | refine W.reg ?_)
    refine L.ld (a := ⟨_, 2, none⟩) (cell_of hrs (hcs 2 _ rfl) (.inr rfl)) rfl rfl rfl ?_
    repeat (first | refine L.p rfl rfl ?_ | refine L.nil ?_ | refine W.seq ?_ | refine W.reg ?_)
    refine L.fadd s4 rfl rfl rfl ?_
    repeat (first | refine L.p rfl rfl ?_ | refine L.nil ?_ | refine W.seq ?_ | refine W.reg ?_)
    refine L.fmul s5 rfl rfl rfl ?_
    repeat (first | refine L.p rfl rfl ?_ | refine L.nil ?_ | refine W.seq ?_ | refine W.reg ?_)
    refine L.ld (a := ⟨_, 3, none⟩) (cell_of hrs (hcs 3 _ rfl) (.inr rfl)) rfl rfl rfl ?_
    repeat (first | refine L.p rfl rfl ?_ | refine L.nil ?_ | refine W.seq ?_ | refine W.reg ?_)
    refine L.fadd s6 rfl rfl rfl ?_
    repeat (first | refine L.p rfl rfl ?_ | refine L.nil ?_ | refine W.seq ?_ | refine W.reg ?_)
    refine L.fmul s7 rfl rfl rfl ?_
    repeat (first | refine L.p rfl rfl ?_ | refine L.nil ?_ | refine W.seq ?_ | refine W.reg ?_)
    refine L.ld (a := ⟨_, 4, none⟩) (cell_of hrs (hcs 4 _ rfl) (.inr rfl)) rfl rfl rfl ?_
    repeat (first | refine L.p rfl rfl ?_ | refine L.nil ?_ | refine W.seq ?_ | refine W.reg ?_)
    refine L.fadd s8 rfl rfl rfl ?_
    repeat (first | refine L.p rfl rfl ?_ | refine L.nil ?_ | refine W.seq ?_ | refine W.reg ?_)
    refine L.fmul s9 rfl rfl rfl ?_
    repeat (first | refine L.p rfl rfl ?_ | refine L.nil ?_ | refine W.seq ?_ | refine W.reg ?_)
    refine L.ld (a := ⟨_, 5, none⟩) (cell_of hrs (hcs 5 _ rfl) (.inr rfl)) rfl rfl rfl ?_
    repeat (first | refine L.p rfl rfl ?_ | refine L.nil ?_ | refine W.seq ?_ | refine W.reg ?_)
    refine L.fadd s10 rfl rfl rfl ?_
    repeat (first | refine L.p rfl rfl ?_ | refine L.nil ?_ | refine W.seq ?_ | refine W.reg ?_)
    refine L.fmul z8 rfl rfl rfl ?_
    repeat (first | refine L.p rfl rfl ?_ | refine L.nil ?_ | refine W.seq ?_ | refine W.reg ?_)
    refine L.fadd z9 rfl rfl rfl ?_
    repeat (first | refine L.p rfl rfl ?_ | refine L.nil ?_ | refine W.seq ?_ | refine W.reg ?_)
    first | refine W.condT rfl ?_ | refine W.condF rfl ?_
    repeat (first | refine W.seq ?_ | refine W.block ?_ | refine W.reg ?_ | refine W.skip ?_ | refine W.exit ?_ | refine W.ret ?_ | refine L.nil ?_ | refine L.p rfl rfl ?_ | refine L.skip rfl ?_)
    cases sg
    · first | refine W.condT rfl ?_ | refine W.condF rfl ?_
      repeat (first | refine W.seq ?_ | refine W.block ?_ | refine W.reg ?_ | refine W.skip ?_ | refine W.exit ?_ | refine W.ret ?_ | refine L.nil ?_ | refine L.p rfl rfl ?_ | refine L.skip rfl ?_)
      first | refine W.condT rfl ?_ | refine W.condF rfl ?_
      repeat (first | refine W.seq ?_ | refine W.block ?_ | refine W.reg ?_ | refine W.skip ?_ | refine W.exit ?_ | refine W.ret ?_ | refine L.nil ?_ | refine L.p rfl rfl ?_ | refine L.skip rfl ?_)
      exact ⟨.inr rfl, _, rfl, rfl, rfl⟩
    · first | refine W.condT rfl ?_ | refine W.condF rfl ?_
      repeat (first | refine W.seq ?_ | refine W.block ?_ | refine W.reg ?_ | refine W.skip ?_ | refine W.exit ?_ | refine W.ret ?_ | refine L.nil ?_ | refine L.p rfl rfl ?_ | refine L.skip rfl ?_)
      first | refine W.condT rfl ?_ | refine W.condF rfl ?_
      repeat (first | refine W.seq ?_ | refine W.block ?_ | refine W.reg ?_ | refine W.skip ?_ | refine W.exit ?_ | refine W.ret ?_ | refine L.nil ?_ | refine L.p rfl rfl ?_ | refine L.skip rfl ?_)
      exact ⟨.inr rfl, _, rfl, rfl, rfl⟩
  · obtain ⟨y, hy0, rfl⟩ : ∃ y, y = fNat 4 ∧ (4, y) = q := by
      have h0 : some (4 % 8, fNat 4) = some q := hoct
      exact ⟨_, rfl, Option.some.inj h0⟩
    unfold restO dbl at hrest
    simp only [Option.bind_eq_some_iff] at hrest
    obtain ⟨u1, e1, u2, e2, u3, e3, u4, e4, u5, e5, e6⟩ := hrest
    have hsi := congrArg Prod.fst hsgn
    have hco := congrArg Prod.snd hsgn
    simp [signO] at hsi hco
    subst hsi hco
    subst hy0
    repeat (first | refine W.seq ?_ | refine W.block ?_ | refine W.reg ?_ | refine W.skip ?_ | refine W.exit ?_ | refine W.ret ?_ | refine L.nil ?_ | refine L.p rfl rfl ?_ | refine L.skip rfl ?_)
    first | refine W.condT rfl ?_ | refine W.condF rfl ?_
    repeat (first | refine W.seq ?_ | refine W.block ?_ | refine W.reg ?_ | refine W.skip ?_ | refine W.exit ?_ | refine W.ret ?_ | refine L.nil ?_ | refine L.p rfl rfl ?_ | refine L.skip rfl ?_)
    refine L.fmul e1 rfl rfl rfl ?_
    repeat (first | refine L.p rfl rfl ?_ | refine L.nil ?_ | refine W.seq ?_ | refine W.reg ?_)
    refine L.fsub e2 rfl rfl rfl ?_
    repeat (first | refine L.p rfl rfl ?_ | refine L.nil ?_ | refine W.seq ?_ | refine W.reg ?_)
    refine L.fmul e3 rfl rfl rfl ?_
    repeat (first | refine L.p rfl rfl ?_ | refine L.nil ?_ | refine W.seq ?_ | refine W.reg ?_)
    refine L.fsub e4 rfl rfl rfl ?_
    repeat (first | refine L.p rfl rfl ?_ | refine L.nil ?_ | refine W.seq ?_ | refine W.reg ?_)
    refine L.fmul e5 rfl rfl rfl ?_
    repeat (first | refine L.p rfl rfl ?_ | refine L.nil ?_ | refine W.seq ?_ | refine W.reg ?_)
    refine L.fsub e6 rfl rfl rfl ?_
    repeat (first | refine L.p rfl rfl ?_ | refine L.nil ?_ | refine W.seq ?_ | refine W.reg ?_)
    first | refine W.condT rfl ?_ | refine W.condF rfl ?_
    repeat (first | refine W.seq ?_ | refine W.block ?_ | refine W.reg ?_ | refine W.skip ?_ | refine W.exit ?_ | refine W.ret ?_ | refine L.nil ?_ | refine L.p rfl rfl ?_ | refine L.skip rfl ?_)
    first | refine W.condT rfl ?_ | refine W.condF rfl ?_
    repeat (first | refine W.seq ?_ | refine W.block ?_ | refine W.reg ?_ | refine W.skip ?_ | refine W.exit ?_ | refine W.ret ?_ | refine L.nil ?_ | refine L.p rfl rfl ?_ | refine L.skip rfl ?_)
    refine L.fmul z1 rfl rfl rfl ?_
    repeat (first | refine L.p rfl rfl ?_ | refine L.nil ?_ | refine W.seq ?_ | refine W.reg ?_)
    refine L.fmul z2 rfl rfl rfl ?_
    repeat (first | refine L.p rfl rfl ?_ | refine L.nil ?_ | refine W.seq ?_ | refine W.reg ?_)
    refine L.fsub z3 rfl rfl rfl ?_
    repeat (first | refine L.p rfl rfl ?_ | refine L.nil ?_ | refine W.seq ?_ | refine W.reg ?_)
    refine L.fmul z4 rfl rfl rfl ?_
    repeat (first | refine L.p rfl rfl ?_ | refine L.nil ?_ | refine W.seq ?_ | refine W.reg ?_)
    refine L.ld (a := ⟨_, 0, none⟩) (cell_of hrc (hcc 0 _ rfl) (.inr rfl)) rfl rfl rfl ?_
    repeat (first | refine L.p rfl rfl ?_ | refine L.nil ?_ | refine W.seq ?_ | refine W.reg ?_)
    refine L.fmul c1 rfl rfl rfl ?_
    repeat (first | refine L.p rfl rfl ?_ | refine L.nil ?_ | refine W.seq ?_ | refine W.reg ?_)
    refine L.ld (a := ⟨_, 1, none⟩) (cell_of hrc (hcc 1 _ rfl) (.inr rfl)) rfl rfl rfl ?_
    repeat (first | refine L.p rfl rfl ?_ | refine L.nil ?_ | refine W.seq ?_ | refine W.reg ?_)
    refine L.fadd c2 rfl rfl rfl ?_
    repeat (first | refine L.p rfl rfl ?_ | refine L.nil ?_ | refine W.seq ?_ | refine W.reg ?_)
    refine L.fmul c3 rfl rfl rfl ?_
    repeat (first | refine L.p rfl rfl ?_ | refine L.nil ?_ | refine W.seq ?_ | refine W.reg ?_)
    refine L.ld (a := ⟨_, 2, none⟩) (cell_of hrc (hcc 2 _ rfl) (.inr rfl)) rfl rfl rfl ?_
    repeat (first | refine L.p rfl rfl ?_ | refine L.nil ?_ | refine W.seq ?_ | refine W.reg ?_)
    refine L.fadd c4 rfl rfl rfl ?_
    repeat (first | refine L.p rfl rfl ?_ | refine L.nil ?_ | refine W.seq ?_ | refine W.reg ?_)
    refine L.fmul c5 rfl rfl rfl ?_
    repeat (first | refine L.p rfl rfl ?_ | refine L.nil ?_ | refine W.seq ?_ | refine W.reg ?_)
    refine L.ld (a := ⟨_, 3, none⟩) (cell_of hrc (hcc 3 _ rfl) (.inr rfl)) rfl rfl rfl ?_
    repeat (first | refine L.p rfl rfl ?_ | refine L.nil ?_ | refine W.seq ?_ | refine W.reg ?_)
    refine L.fadd c6 rfl rfl rfl ?_
    repeat (first | refine L.p rfl rfl ?_ | refine L.nil ?_ | refine W.seq ?_ | refine W.reg ?_)
    refine L.fmul c7 rfl rfl rfl ?_
    repeat (first | refine L.p rfl rfl ?_ | refine L.nil ?_ | refine W.seq ?_ | refine W.reg ?_)
    refine L.ld (a := ⟨_, 4, none⟩) (cell_of hrc (hcc 4 _ rfl) (.inr rfl)) rfl rfl rfl ?_
    repeat (first | refine L.p rfl rfl ?_ | refine L.nil ?_ | refine W.seq ?_ | refine W.reg ?_)
    refine L.fadd c8 rfl rfl rfl ?_
    repeat (first | refine L.p rfl rfl ?_ | refine L.nil ?_ | refine W.seq ?_ | refine W.reg ?_)
    refine L.fmul c9 rfl rfl rfl ?_
    repeat (first | refine L.p rfl rfl ?_ | refine L.nil ?_ | refine W.seq ?_ | refine W.reg ?_)
    refine L.ld (a := ⟨_, 5, none⟩) (cell_of hrc (hcc 5 _ rfl) (.inr rfl)) rfl rfl rfl ?_
    repeat (first | refine L.p rfl rfl ?_ | refine L.nil ?_ | refine W.seq ?_ | refine W.reg ?_)
    refine L.fadd c10 rfl rfl rfl ?_
    repeat (first | refine L.p rfl rfl ?_ | refine L.nil ?_ | refine W.seq ?_ | refine W.reg ?_)
    refine L.fmul z5 rfl rfl rfl ?_
    repeat (first | refine L.p rfl rfl ?_ | refine L.nil ?_ | refine W.seq ?_ | refine W.reg ?_)
    refine L.fadd z6 rfl rfl rfl ?_
    repeat (first | refine L.p rfl rfl ?_ | refine L.nil ?_ | refine W.seq ?_ | refine W.reg ?_)
    refine L.fmul z7 rfl rfl rfl ?_
    repeat (first | refine L.p rfl rfl ?_ | refine L.nil ?_ | refine W.seq ?_ | refine W.reg ?_)
    refine L.ld (a := ⟨_, 0, none⟩) (cell_of hrs (hcs 0 _ rfl) (.inr rfl)) rfl rfl rfl ?_
    repeat (first | refine L.p rfl rfl ?_ | refine L.nil ?_ | refine W.seq ?_ | refine W.reg ?_)
    refine L.fmul s1 rfl rfl rfl ?_
    repeat (first | refine L.p rfl rfl ?_ | refine L.nil ?_ | refine W.seq ?_ | refine W.reg ?_)
    refine L.ld (a := ⟨_, 1, none⟩) (cell_of hrs (hcs 1 _ rfl) (.inr rfl)) rfl rfl rfl ?_
    repeat (first | refine L.p rfl rfl ?_ | refine L.nil ?_ | refine W.seq ?_ | refine W.reg ?_)
    refine L.fadd s2 rfl rfl rfl ?_
    repeat (first | refine L.p rfl rfl ?_ | refine L.nil ?_ | refine W.seq ?_ | refine W.reg ?_)
    refine L.fmul s3 rfl rfl rfl ?_
    repeat (first | refine L.p rfl rfl ?_ | refine L.nil ?_ | refine W.seq ?_ | refine W.reg ?_)
    refine L.ld (a := ⟨_, 2, none⟩) (cell_of hrs (hcs 2 _ rfl) (.inr rfl)) rfl rfl rfl ?_
    repeat (first | refine L.p rfl rfl ?_ | refine L.nil ?_ | refine W.seq ?_ | refine W.reg ?_)
    refine L.fadd s4 rfl rfl rfl ?_
    repeat (first | refine L.p rfl rfl ?_ | refine L.nil ?_ | refine W.seq ?_ | refine W.reg ?_)
    refine L.fmul s5 rfl rfl rfl ?_
    repeat (first | refine L.p rfl rfl ?_ | refine L.nil ?_ | refine W.seq ?_ | refine W.reg ?_)
    refine L.ld (a := ⟨_, 3, none⟩) (cell_of hrs (hcs 3 _ rfl) (.inr rfl)) rfl rfl rfl ?_
    repeat (first | refine L.p rfl rfl ?_ | refine L.nil ?_ | refine W.seq ?_ | refine W.reg ?_)
    refine L.fadd s6 rfl rfl rfl ?_
    repeat (first | refine L.p rfl rfl ?_ | refine L.nil ?_ | refine W.seq ?_ | refine W.reg ?_)
    refine L.fmul s7 rfl rfl rfl ?_
    repeat (first | refine L.p rfl rfl ?_ | refine L.nil ?_ | refine W.seq ?_ | refine W.reg ?_)
    refine L.ld (a := ⟨_, 4, none⟩) (cell_of hrs (hcs 4 _ rfl) (.inr rfl)) rfl rfl rfl ?_
    repeat (first | refine L.p rfl rfl ?_ | refine L.nil ?_ | refine W.seq ?_ | refine W.reg ?_)
    refine L.fadd s8 rfl rfl rfl ?_
    repeat (first | refine L.p rfl rfl ?_ | refine L.nil ?_ | refine W.seq ?_ | refine W.reg ?_)
    refine L.fmul s9 rfl rfl rfl ?_
    repeat (first | refine L.p rfl rfl ?_ | refine L.nil ?_ | refine W.seq ?_ | refine W.reg ?_)
    refine L.ld (a := ⟨_, 5, none⟩) (cell_of hrs (hcs 5 _ rfl) (.inr rfl)) rfl rfl rfl ?_
    repeat (first | refine L.p rfl rfl ?_ | refine L.nil ?_ | refine W.seq ?_ | refine W.reg ?_)
    refine L.fadd s10 rfl rfl rfl ?_
    repeat (first | refine L.p rfl rfl ?_ | refine L.nil ?_ | refine W.seq ?_ | refine W.reg ?_)
    refine L.fmul z8 rfl rfl rfl ?_
    repeat (first | refine L.p rfl rfl ?_ | refine L.nil ?_ | refine W.seq ?_ | refine W.reg ?_)
    refine L.fadd z9 rfl rfl rfl ?_
    repeat (first | refine L.p rfl rfl ?_ | refine L.nil ?_ | refine W.seq ?_ | refine W.reg ?_)
    first | refine W.condT rfl ?_ | refine W.condF rfl ?_
    repeat (first | refine W.seq ?_ | refine W.block ?_ | refine W.reg ?_ | refine W.skip ?_ | refine W.exit ?_ | refine W.ret ?_ | refine L.nil ?_ | refine L.p rfl rfl ?_ | refine L.skip rfl ?_)
    cases sg
    · first | refine W.condT rfl ?_ | refine W.condF rfl ?_
      repeat (first | refine W.seq ?_ | refine W.block ?_ | refine W.reg ?_ | refine W.skip ?_ | refine W.exit ?_ | refine W.ret ?_ | refine L.nil ?_ | refine L.p rfl rfl ?_ | refine L.skip rfl ?_)
      first | refine W.condT rfl ?_ | refine W.condF rfl ?_
      repeat (first | refine W.seq ?_ | refine W.block ?_ | refine W.reg ?_ | refine W.skip ?_ | refine W.exit ?_ | refine W.ret ?_ | refine L.nil ?_ | refine L.p rfl rfl ?_ | refine L.skip rfl ?_)
      exact ⟨.inr rfl, _, rfl, rfl, rfl⟩
    · first | refine W.condT rfl ?_ | refine W.condF rfl ?_
      repeat (first | refine W.seq ?_ | refine W.block ?_ | refine W.reg ?_ | refine W.skip ?_ | refine W.exit ?_ | refine W.ret ?_ | refine L.nil ?_ | refine L.p rfl rfl ?_ | refine L.skip rfl ?_)
      first | refine W.condT rfl ?_ | refine W.condF rfl ?_
      repeat (first | refine W.seq ?_ | refine W.block ?_ | refine W.reg ?_ | refine W.skip ?_ | refine W.exit ?_ | refine W.ret ?_ | refine L.nil ?_ | refine L.p rfl rfl ?_ | refine L.skip rfl ?_)
      exact ⟨.inr rfl, _, rfl, rfl, rfl⟩
  · obtain ⟨y, hy, rfl⟩ : ∃ y, Ieee.double.add (fNat 5) 4607182418800017408 = some y ∧ (6, y) = q := by
      have h0 : (Ieee.double.add (fNat 5) 4607182418800017408).map (fun y => ((5 + 1) % 8, y)) = some q := hoct
      rw [Option.map_eq_some_iff] at h0
      exact h0
    unfold restO dbl at hrest
    simp only [Option.bind_eq_some_iff] at hrest
    obtain ⟨u1, e1, u2, e2, u3, e3, u4, e4, u5, e5, e6⟩ := hrest
    have hsi := congrArg Prod.fst hsgn
    have hco := congrArg Prod.snd hsgn
    simp [signO] at hsi hco
    subst hsi hco
    repeat (first | refine W.seq ?_ | refine W.block ?_ | refine W.reg ?_ | refine W.skip ?_ | refine W.exit ?_ | refine W.ret ?_ | refine L.nil ?_ | refine L.p rfl rfl ?_ | refine L.skip rfl ?_)
    first | refine W.condT rfl ?_ | refine W.condF rfl ?_
    repeat (first | refine W.seq ?_ | refine W.block ?_ | refine W.reg ?_ | refine W.skip ?_ | refine W.exit ?_ | refine W.ret ?_ | refine L.nil ?_ | refine L.p rfl rfl ?_ | refine L.skip rfl ?_)
    refine L.fadd hy rfl rfl rfl ?_
    repeat (first | refine L.p rfl rfl ?_ | refine L.nil ?_ | refine W.seq ?_ | refine W.reg ?_)
    refine L.fmul e1 rfl rfl rfl ?_
    repeat (first | refine L.p rfl rfl ?_ | refine L.nil ?_ | refine W.seq ?_ | refine W.reg ?_)
    refine L.fsub e2 rfl rfl rfl ?_
    repeat (first | refine L.p rfl rfl ?_ | refine L.nil ?_ | refine W.seq ?_ | refine W.reg ?_)
    refine L.fmul e3 rfl rfl rfl ?_
    repeat (first | refine L.p rfl rfl ?_ | refine L.nil ?_ | refine W.seq ?_ | refine W.reg ?_)
    refine L.fsub e4 rfl rfl rfl ?_
    repeat (first | refine L.p rfl rfl ?_ | refine L.nil ?_ | refine W.seq ?_ | refine W.reg ?_)
    refine L.fmul e5 rfl rfl rfl ?_
    repeat (first | refine L.p rfl rfl ?_ | refine L.nil ?_ | refine W.seq ?_ | refine W.reg ?_)
    refine L.fsub e6 rfl rfl rfl ?_
    repeat (first | refine L.p rfl rfl ?_ | refine L.nil ?_ | refine W.seq ?_ | refine W.reg ?_)
    first | refine W.condT rfl ?_ | refine W.condF rfl ?_
    repeat (first | refine W.seq ?_ | refine W.block ?_ | refine W.reg ?_ | refine W.skip ?_ | refine W.exit ?_ | refine W.ret ?_ | refine L.nil ?_ | refine L.p rfl rfl ?_ | refine L.skip rfl ?_)
    first | refine W.condT rfl ?_ | refine W.condF rfl ?_
    repeat (first | refine W.seq ?_ | refine W.block ?_ | refine W.reg ?_ | refine W.skip ?_ | refine W.exit ?_ | refine W.ret ?_ | refine L.nil ?_ | refine L.p rfl rfl ?_ | refine L.skip rfl ?_)
    refine L.fmul z1 rfl rfl rfl ?_
    repeat (first | refine L.p rfl rfl ?_ | refine L.nil ?_ | refine W.seq ?_ | refine W.reg ?_)
    refine L.fmul z2 rfl rfl rfl ?_
    repeat (first | refine L.p rfl rfl ?_ | refine L.nil ?_ | refine W.seq ?_ | refine W.reg ?_)
    refine L.fsub z3 rfl rfl rfl ?_
    repeat (first | refine L.p rfl rfl ?_ | refine L.nil ?_ | refine W.seq ?_ | refine W.reg ?_)
    refine L.fmul z4 rfl rfl rfl ?_
    repeat (first | refine L.p rfl rfl ?_ | refine L.nil ?_ | refine W.seq ?_ | refine W.reg ?_)
    refine L.ld (a := ⟨_, 0, none⟩) (cell_of hrc (hcc 0 _ rfl) (.inr rfl)) rfl rfl rfl ?_
    repeat (first | refine L.p rfl rfl ?_ | refine L.nil ?_ | refine W.seq ?_ | refine W.reg ?_)
    refine L.fmul c1 rfl rfl rfl ?_
    repeat (first | refine L.p rfl rfl ?_ | refine L.nil ?_ | refine W.seq ?_ | refine W.reg ?_)
    refine L.ld (a := ⟨_, 1, none⟩) (cell_of hrc (hcc 1 _ rfl) (.inr rfl)) rfl rfl rfl ?_
    repeat (first | refine L.p rfl rfl ?_ | refine L.nil ?_ | refine W.seq ?_ | refine W.reg ?_)
    refine L.fadd c2 rfl rfl rfl ?_
    repeat (first | refine L.p rfl rfl ?_ | refine L.nil ?_ | refine W.seq ?_ | refine W.reg ?_)
    refine L.fmul c3 rfl rfl rfl ?_
    repeat (first | refine L.p rfl rfl ?_ | refine L.nil ?_ | refine W.seq ?_ | refine W.reg ?_)
    refine L.ld (a := ⟨_, 2, none⟩) (cell_of hrc (hcc 2 _ rfl) (.inr rfl)) rfl rfl rfl ?_
    repeat (first | refine L.p rfl rfl ?_ | refine L.nil ?_ | refine W.seq ?_ | refine W.reg ?_)
    refine L.fadd c4 rfl rfl rfl ?_
    repeat (first | refine L.p rfl rfl ?_ | refine L.nil ?_ | refine W.seq ?_ | refine W.reg ?_)
    refine L.fmul c5 rfl rfl rfl ?_
    repeat (first | refine L.p rfl rfl ?_ | refine L.nil ?_ | refine W.seq ?_ | refine W.reg ?_)
    refine L.ld (a := ⟨_, 3, none⟩) (cell_of hrc (hcc 3 _ rfl) (.inr rfl)) rfl rfl rfl ?_
    repeat (first | refine L.p rfl rfl ?_ | refine L.nil ?_ | refine W.seq ?_ | refine W.reg ?_)
    refine L.fadd c6 rfl rfl rfl ?_
    repeat (first | refine L.p rfl rfl ?_ | refine L.nil ?_ | refine W.seq ?_ | refine W.reg ?_)
    refine L.fmul c7 rfl rfl rfl ?_
    repeat (first | refine L.p rfl rfl ?_ | refine L.nil ?_ | refine W.seq ?_ | refine W.reg ?_)
    refine L.ld (a := ⟨_, 4, none⟩) (cell_of hrc (hcc 4 _ rfl) (.inr rfl)) rfl rfl rfl ?_
    repeat (first | refine L.p rfl rfl ?_ | refine L.nil ?_ | refine W.seq ?_ | refine W.reg ?_)
    refine L.fadd c8 rfl rfl rfl ?_
    repeat (first | refine L.p rfl rfl ?_ | refine L.nil ?_ | refine W.seq ?_ | refine W.reg ?_)
    refine L.fmul c9 rfl rfl rfl ?_
    repeat (first | refine L.p rfl rfl ?_ | refine L.nil ?_ | refine W.seq ?_ | refine W.reg ?_)
    refine L.ld (a := ⟨_, 5, none⟩) (cell_of hrc (hcc 5 _ rfl) (.inr rfl)) rfl rfl rfl ?_
    repeat (first | refine L.p rfl rfl ?_ | refine L.nil ?_ | refine W.seq ?_ | refine W.reg ?_)
    refine L.fadd c10 rfl rfl rfl ?_
    repeat (first | refine L.p rfl rfl ?_ | refine L.nil ?_ | refine W.seq ?_ | refine W.reg ?_)
    refine L.fmul z5 rfl rfl rfl ?_
    repeat (first | refine L.p rfl rfl ?_ | refine L.nil ?_ | refine W.seq ?_ | refine W.reg ?_)
    refine L.fadd z6 rfl rfl rfl ?_
    repeat (first | refine L.p rfl rfl ?_ | refine L.nil ?_ | refine W.seq ?_ | refine W.reg ?_)
    refine L.fmul z7 rfl rfl rfl ?_
    repeat (first | refine L.p rfl rfl ?_ | refine L.nil ?_ | refine W.seq ?_ | refine W.reg ?_)
    refine L.ld (a := ⟨_, 0, none⟩) (cell_of hrs (hcs 0 _ rfl) (.inr rfl)) rfl rfl rfl ?_
    repeat (first | refine L.p rfl rfl ?_ | refine L.nil ?_ | refine W.seq ?_ | refine W.reg ?_)
    refine L.fmul s1 rfl rfl rfl ?_
    repeat (first | refine L.p rfl rfl ?_ | refine L.nil ?_ | refine W.seq ?_ | refine W.reg ?_)
    refine L.ld (a := ⟨_, 1, none⟩) (cell_of hrs (hcs 1 _ rfl) (.inr rfl)) rfl rfl rfl ?_
    repeat (first | refine L.p rfl rfl ?_ | refine L.nil ?_ | refine W.seq ?_ | refine W.reg ?_)
    refine L.fadd s2 rfl rfl rfl ?_
    repeat (first | refine L.p rfl rfl ?_ | refine L.nil ?_ | refine W.seq ?_ | refine W.reg ?_)
    refine L.fmul s3 rfl rfl rfl ?_
    repeat (first | refine L.p rfl rfl ?_ | refine L.nil ?_ | refine W.seq ?_ | refine W.reg ?_)
    refine L.ld (a := ⟨_, 2, none⟩) (cell_of hrs (hcs 2 _ rfl) (.inr rfl)) rfl rfl rfl ?_
    repeat (first | refine L.p rfl rfl ?_ | refine L.nil ?_ | refine W.seq ?_ | refine W.reg ?_)
    refine L.fadd s4 rfl rfl rfl ?_
    repeat (first | refine L.p rfl rfl ?_ | refine L.nil ?_ | refine W.seq ?_ | refine W.reg ?_)
    refine L.fmul s5 rfl rfl rfl ?_
    repeat (first | refine L.p rfl rfl ?_ | refine L.nil ?_ | refine W.seq ?_ | refine W.reg ?_)
    refine L.ld (a := ⟨_, 3, none⟩) (cell_of hrs (hcs 3 _ rfl) (.inr rfl)) rfl rfl rfl ?_
    repeat (first | refine L.p rfl rfl ?_ | refine L.nil ?_ | refine W.seq ?_ | refine W.reg ?_)
    refine L.fadd s6 rfl rfl rfl ?_
    repeat (first | refine L.p rfl rfl ?_ | refine L.nil ?_ | refine W.seq ?_ | refine W.reg ?_)
    refine L.fmul s7 rfl rfl rfl ?_
    repeat (first | refine L.p rfl rfl ?_ | refine L.nil ?_ | refine W.seq ?_ | refine W.reg ?_)
    refine L.ld (a := ⟨_, 4, none⟩) (cell_of hrs (hcs 4 _ rfl) (.inr rfl)) rfl rfl rfl ?_
    repeat (first | refine L.p rfl rfl ?_ | refine L.nil ?_ | refine W.seq ?_ | refine W.reg ?_)
    refine L.fadd s8 rfl rfl rfl ?_
    repeat (first | refine L.p rfl rfl ?_ | refine L.nil ?_ | refine W.seq ?_ | refine W.reg ?_)
    refine L.fmul s9 rfl rfl rfl ?_
    repeat (first | refine L.p rfl rfl ?_ | refine L.nil ?_ | refine W.seq ?_ | refine W.reg ?_)
    refine L.ld (a := ⟨_, 5, none⟩) (cell_of hrs (hcs 5 _ rfl) (.inr rfl)) rfl rfl rfl ?_
    repeat (first | refine L.p rfl rfl ?_ | refine L.nil ?_ | refine W.seq ?_ | refine W.reg ?_)
    refine L.fadd s10 rfl rfl rfl ?_
    repeat (first | refine L.p rfl rfl ?_ | refine L.nil ?_ | refine W.seq ?_ | refine W.reg ?_)
    refine L.fmul z8 rfl rfl rfl ?_
    repeat (first | refine L.p rfl rfl ?_ | refine L.nil ?_ | refine W.seq ?_ | refine W.reg ?_)
    refine L.fadd z9 rfl rfl rfl ?_
    repeat (first | refine L.p rfl rfl ?_ | refine L.nil ?_ | refine W.seq ?_ | refine W.reg ?_)
    first | refine W.condT rfl ?_ | refine W.condF rfl ?_
    repeat (first | refine W.seq ?_ | refine W.block ?_ | refine W.reg ?_ | refine W.skip ?_ | refine W.exit ?_ | refine W.ret ?_ | refine L.nil ?_ | refine L.p rfl rfl ?_ | refine L.skip rfl ?_)
    cases sg
    · first | refine W.condT rfl ?_ | refine W.condF rfl ?_
      repeat (first | refine W.seq ?_ | refine W.block ?_ | refine W.reg ?_ | refine W.skip ?_ | refine W.exit ?_ | refine W.ret ?_ | refine L.nil ?_ | refine L.p rfl rfl ?_ | refine L.skip rfl ?_)
      first | refine W.condT rfl ?_ | refine W.condF rfl ?_
      repeat (first | refine W.seq ?_ | refine W.block ?_ | refine W.reg ?_ | refine W.skip ?_ | refine W.exit ?_ | refine W.ret ?_ | refine L.nil ?_ | refine L.p rfl rfl ?_ | refine L.skip rfl ?_)
      exact ⟨.inr rfl, _, rfl, rfl, rfl⟩
    · first | refine W.condT rfl ?_ | refine W.condF rfl ?_
      repeat (first | refine W.seq ?_ | refine W.block ?_ | refine W.reg ?_ | refine W.skip ?_ | refine W.exit ?_ | refine W.ret ?_ | refine L.nil ?_ | refine L.p rfl rfl ?_ | refine L.skip rfl ?_)
      first | refine W.condT rfl ?_ | refine W.condF rfl ?_
      repeat (first | refine W.seq ?_ | refine W.block ?_ | refine W.reg ?_ | refine W.skip ?_ | refine W.exit ?_ | refine W.ret ?_ | refine L.nil ?_ | refine L.p rfl rfl ?_ | refine L.skip rfl ?_)
      exact ⟨.inr rfl, _, rfl, rfl, rfl⟩
  · obtain ⟨y, hy0, rfl⟩ : ∃ y, y = fNat 6 ∧ (6, y) = q := by
      have h0 : some (6 % 8, fNat 6) = some q := hoct
      exact ⟨_, rfl, Option.some.inj h0⟩
    unfold restO dbl at hrest
    simp only [Option.bind_eq_some_iff] at hrest
    obtain ⟨u1, e1, u2, e2, u3, e3, u4, e4, u5, e5, e6⟩ := hrest
    have hsi := congrArg Prod.fst hsgn
    have hco := congrArg Prod.snd hsgn
    simp [signO] at hsi hco
    subst hsi hco
    subst hy0
    repeat (first | refine W.seq ?_ | refine W.block ?_ | refine W.reg ?_ | refine W.skip ?_ | refine W.exit ?_ | refine W.ret ?_ | refine L.nil ?_ | refine L.p rfl rfl ?_ | refine L.skip rfl ?_)
    first | refine W.condT rfl ?_ | refine W.condF rfl ?_
    repeat (first | refine W.seq ?_ | refine W.block ?_ | refine W.reg ?_ | refine W.skip ?_ | refine W.exit ?_ | refine W.ret ?_ | refine L.nil ?_ | refine L.p rfl rfl ?_ | refine L.skip rfl ?_)
    refine L.fmul e1 rfl rfl rfl ?_
    repeat (first | refine L.p rfl rfl ?_ | refine L.nil ?_ | refine W.seq ?_ | refine W.reg ?_)
    refine L.fsub e2 rfl rfl rfl ?_
    repeat (first | refine L.p rfl rfl ?_ | refine L.nil ?_ | refine W.seq ?_ | refine W.reg ?_)
    refine L.fmul e3 rfl rfl rfl ?_
    repeat (first | refine L.p rfl rfl ?_ | refine L.nil ?_ | refine W.seq ?_ | refine W.reg ?_)
    refine L.fsub e4 rfl rfl rfl ?_
    repeat (first | refine L.p rfl rfl ?_ | refine L.nil ?_ | refine W.seq ?_ | refine W.reg ?_)
    refine L.fmul e5 rfl rfl rfl ?_
    repeat (first | refine L.p rfl rfl ?_ | refine L.nil ?_ | refine W.seq ?_ | refine W.reg ?_)
    refine L.fsub e6 rfl rfl rfl ?_
    repeat (first | refine L.p rfl rfl ?_ | refine L.nil ?_ | refine W.seq ?_ | refine W.reg ?_)
    first | refine W.condT rfl ?_ | refine W.condF rfl ?_
    repeat (first | refine W.seq ?_ | refine W.block ?_ | refine W.reg ?_ | refine W.skip ?_ | refine W.exit ?_ | refine W.ret ?_ | refine L.nil ?_ | refine L.p rfl rfl ?_ | refine L.skip rfl ?_)
    first | refine W.condT rfl ?_ | refine W.condF rfl ?_
    repeat (first | refine W.seq ?_ | refine W.block ?_ | refine W.reg ?_ | refine W.skip ?_ | refine W.exit ?_ | refine W.ret ?_ | refine L.nil ?_ | refine L.p rfl rfl ?_ | refine L.skip rfl ?_)
    refine L.fmul z1 rfl rfl rfl ?_
    repeat (first | refine L.p rfl rfl ?_ | refine L.nil ?_ | refine W.seq ?_ | refine W.reg ?_)
    refine L.fmul z2 rfl rfl rfl ?_
    repeat (first | refine L.p rfl rfl ?_ | refine L.nil ?_ | refine W.seq ?_ | refine W.reg ?_)
    refine L.fsub z3 rfl rfl rfl ?_
    repeat (first | refine L.p rfl rfl ?_ | refine L.nil ?_ | refine W.seq ?_ | refine W.reg ?_)
    refine L.fmul z4 rfl rfl rfl ?_
    repeat (first | refine L.p rfl rfl ?_ | refine L.nil ?_ | refine W.seq ?_ | refine W.reg ?_)
    refine L.ld (a := ⟨_, 0, none⟩) (cell_of hrc (hcc 0 _ rfl) (.inr rfl)) rfl rfl rfl ?_
    repeat (first | refine L.p rfl rfl ?_ | refine L.nil ?_ | refine W.seq ?_ | refine W.reg ?_)
    refine L.fmul c1 rfl rfl rfl ?_
    repeat (first | refine L.p rfl rfl ?_ | refine L.nil ?_ | refine W.seq ?_ | refine W.reg ?_)
    refine L.ld (a := ⟨_, 1, none⟩) (cell_of hrc (hcc 1 _ rfl) (.inr rfl)) rfl rfl rfl ?_
    repeat (first | refine L.p rfl rfl ?_ | refine L.nil ?_ | refine W.seq ?_ | refine W.reg ?_)
    refine L.fadd c2 rfl rfl rfl ?_
    repeat (first | refine L.p rfl rfl ?_ | refine L.nil ?_ | refine W.seq ?_ | refine W.reg ?_)
    refine L.fmul c3 rfl rfl rfl ?_
    repeat (first | refine L.p rfl rfl ?_ | refine L.nil ?_ | refine W.seq ?_ | refine W.reg ?_)
    refine L.ld (a := ⟨_, 2, none⟩) (cell_of hrc (hcc 2 _ rfl) (.inr rfl)) rfl rfl rfl ?_
    repeat (first | refine L.p rfl rfl ?_ | refine L.nil ?_ | refine W.seq ?_ | refine W.reg ?_)
    refine L.fadd c4 rfl rfl rfl ?_
    repeat (first | refine L.p rfl rfl ?_ | refine L.nil ?_ | refine W.seq ?_ | refine W.reg ?_)
    refine L.fmul c5 rfl rfl rfl ?_
    repeat (first | refine L.p rfl rfl ?_ | refine L.nil ?_ | refine W.seq ?_ | refine W.reg ?_)
    refine L.ld (a := ⟨_, 3, none⟩) (cell_of hrc (hcc 3 _ rfl) (.inr rfl)) rfl rfl rfl ?_
    repeat (first | refine L.p rfl rfl ?_ | refine L.nil ?_ | refine W.seq ?_ | refine W.reg ?_)
    refine L.fadd c6 rfl rfl rfl ?_
    repeat (first | refine L.p rfl rfl ?_ | refine L.nil ?_ | refine W.seq ?_ | refine W.reg ?_)
    refine L.fmul c7 rfl rfl rfl ?_
    repeat (first | refine L.p rfl rfl ?_ | refine L.nil ?_ | refine W.seq ?_ | refine W.reg ?_)
    refine L.ld (a := ⟨_, 4, none⟩) (cell_of hrc (hcc 4 _ rfl) (.inr rfl)) rfl rfl rfl ?_
    repeat (first | refine L.p rfl rfl ?_ | refine L.nil ?_ | refine W.seq ?_ | refine W.reg ?_)
    refine L.fadd c8 rfl rfl rfl ?_
    repeat (first | refine L.p rfl rfl ?_ | refine L.nil ?_ | refine W.seq ?_ | refine W.reg ?_)
    refine L.fmul c9 rfl rfl rfl ?_
    repeat (first | refine L.p rfl rfl ?_ | refine L.nil ?_ | refine W.seq ?_ | refine W.reg ?_)
    refine L.ld (a := ⟨_, 5, none⟩) (cell_of hrc (hcc 5 _ rfl) (.inr rfl)) rfl rfl rfl ?_
    repeat (first | refine L.p rfl rfl ?_ | refine L.nil ?_ | refine W.seq ?_ | refine W.reg ?_)
    refine L.fadd c10 rfl rfl rfl ?_
    repeat (first | refine L.p rfl rfl ?_ | refine L.nil ?_ | refine W.seq ?_ | refine W.reg ?_)
    refine L.fmul z5 rfl rfl rfl ?_
    repeat (first | refine L.p rfl rfl ?_ | refine L.nil ?_ | refine W.seq ?_ | refine W.reg ?_)
    refine L.fadd z6 rfl rfl rfl ?_
    repeat (first | refine L.p rfl rfl ?_ | refine L.nil ?_ | refine W.seq ?_ | refine W.reg ?_)
    refine L.fmul z7 rfl rfl rfl ?_
    repeat (first | refine L.p rfl rfl ?_ | refine L.nil ?_ | refine W.seq ?_ | refine W.reg ?_)
    refine L.ld (a := ⟨_, 0, none⟩) (cell_of hrs (hcs 0 _ rfl) (.inr rfl)) rfl rfl rfl ?_
    repeat (first | refine L.p rfl rfl ?_ | refine L.nil ?_ | refine W.seq ?_ | refine W.reg ?_)
    refine L.fmul s1 rfl rfl rfl ?_
    repeat (first | refine L.p rfl rfl ?_ | refine L.nil ?_ | refine W.seq ?_ | refine W.reg ?_)
    refine L.ld (a := ⟨_, 1, none⟩) (cell_of hrs (hcs 1 _ rfl) (.inr rfl)) rfl rfl rfl ?_
    repeat (first | refine L.p rfl rfl ?_ | refine L.nil ?_ | refine W.seq ?_ | refine W.reg ?_)
    refine L.fadd s2 rfl rfl rfl ?_
    repeat (first | refine L.p rfl rfl ?_ | refine L.nil ?_ | refine W.seq ?_ | refine W.reg ?_)
    refine L.fmul s3 rfl rfl rfl ?_
    repeat (first | refine L.p rfl rfl ?_ | refine L.nil ?_ | refine W.seq ?_ | refine W.reg ?_)
    refine L.ld (a := ⟨_, 2, none⟩) (cell_of hrs (hcs 2 _ rfl) (.inr rfl)) rfl rfl rfl ?_
    repeat (first | refine L.p rfl rfl ?_ | refine L.nil ?_ | refine W.seq ?_ | refine W.reg ?_)
    refine L.fadd s4 rfl rfl rfl ?_
    repeat (first | refine L.p rfl rfl ?_ | refine L.nil ?_ | refine W.seq ?_ | refine W.reg ?_)
    refine L.fmul s5 rfl rfl rfl ?_
    repeat (first | refine L.p rfl rfl ?_ | refine L.nil ?_ | refine W.seq ?_ | refine W.reg ?_)
    refine L.ld (a := ⟨_, 3, none⟩) (cell_of hrs (hcs 3 _ rfl) (.inr rfl)) rfl rfl rfl ?_
    repeat (first | refine L.p rfl rfl ?_ | refine L.nil ?_ | refine W.seq ?_ | refine W.reg ?_)
    refine L.fadd s6 rfl rfl rfl ?_
    repeat (first | refine L.p rfl rfl ?_ | refine L.nil ?_ | refine W.seq ?_ | refine W.reg ?_)
    refine L.fmul s7 rfl rfl rfl ?_
    repeat (first | refine L.p rfl rfl ?_ | refine L.nil ?_ | refine W.seq ?_ | refine W.reg ?_)
    refine L.ld (a := ⟨_, 4, none⟩) (cell_of hrs (hcs 4 _ rfl) (.inr rfl)) rfl rfl rfl ?_
    repeat (first | refine L.p rfl rfl ?_ | refine L.nil ?_ | refine W.seq ?_ | refine W.reg ?_)
    refine L.fadd s8 rfl rfl rfl ?_
    repeat (first | refine L.p rfl rfl ?_ | refine L.nil ?_ | refine W.seq ?_ | refine W.reg ?_)
    refine L.fmul s9 rfl rfl rfl ?_
    repeat (first | refine L.p rfl rfl ?_ | refine L.nil ?_ | refine W.seq ?_ | refine W.reg ?_)
    refine L.ld (a := ⟨_, 5, none⟩) (cell_of hrs (hcs 5 _ rfl) (.inr rfl)) rfl rfl rfl ?_
    repeat (first | refine L.p rfl rfl ?_ | refine L.nil ?_ | refine W.seq ?_ | refine W.reg ?_)
    refine L.fadd s10 rfl rfl rfl ?_
    repeat (first | refine L.p rfl rfl ?_ | refine L.nil ?_ | refine W.seq ?_ | refine W.reg ?_)
    refine L.fmul z8 rfl rfl rfl ?_
    repeat (first | refine L.p rfl rfl ?_ | refine L.nil ?_ | refine W.seq ?_ | refine W.reg ?_)
    refine L.fadd z9 rfl rfl rfl ?_
    repeat (first | refine L.p rfl rfl ?_ | refine L.nil ?_ | refine W.seq ?_ | refine W.reg ?_)
    first | refine W.condT rfl ?_ | refine W.condF rfl ?_
    repeat (first | refine W.seq ?_ | refine W.block ?_ | refine W.reg ?_ | refine W.skip ?_ | refine W.exit ?_ | refine W.ret ?_ | refine L.nil ?_ | refine L.p rfl rfl ?_ | refine L.skip rfl ?_)
    cases sg
    · first | refine W.condT rfl ?_ | refine W.condF rfl ?_
      repeat (first | refine W.seq ?_ | refine W.block ?_ | refine W.reg ?_ | refine W.skip ?_ | refine W.exit ?_ | refine W.ret ?_ | refine L.nil ?_ | refine L.p rfl rfl ?_ | refine L.skip rfl ?_)
      first | refine W.condT rfl ?_ | refine W.condF rfl ?_
      repeat (first | refine W.seq ?_ | refine W.block ?_ | refine W.reg ?_ | refine W.skip ?_ | refine W.exit ?_ | refine W.ret ?_ | refine L.nil ?_ | refine L.p rfl rfl ?_ | refine L.skip rfl ?_)
      exact ⟨.inr rfl, _, rfl, rfl, rfl⟩
    · first | refine W.condT rfl ?_ | refine W.condF rfl ?_
      repeat (first | refine W.seq ?_ | refine W.block ?_ | refine W.reg ?_ | refine W.skip ?_ | refine W.exit ?_ | refine W.ret ?_ | refine L.nil ?_ | refine L.p rfl rfl ?_ | refine L.skip rfl ?_)
      first | refine W.condT rfl ?_ | refine W.condF rfl ?_
      repeat (first | refine W.seq ?_ | refine W.block ?_ | refine W.reg ?_ | refine W.skip ?_ | refine W.exit ?_ | refine W.ret ?_ | refine L.nil ?_ | refine L.p rfl rfl ?_ | refine L.skip rfl ?_)
      exact ⟨.inr rfl, _, rfl, rfl, rfl⟩
  · obtain ⟨y, hy, rfl⟩ : ∃ y, Ieee.double.add (fNat 7) 4607182418800017408 = some y ∧ (0, y) = q := by
      have h0 : (Ieee.double.add (fNat 7) 4607182418800017408).map (fun y => ((7 + 1) % 8, y)) = some q := hoct
      rw [Option.map_eq_some_iff] at h0
      exact h0
    unfold restO dbl at hrest
    simp only [Option.bind_eq_some_iff] at hrest
    obtain ⟨u1, e1, u2, e2, u3, e3, u4, e4, u5, e5, e6⟩ := hrest
    have hsi := congrArg Prod.fst hsgn
    have hco := congrArg Prod.snd hsgn
    simp [signO] at hsi hco
    subst hsi hco
    repeat (first | refine W.seq ?_ | refine W.block ?_ | refine W.reg ?_ | refine W.skip ?_ | refine W.exit ?_ | refine W.ret ?_ | refine L.nil ?_ | refine L.p rfl rfl ?_ | refine L.skip rfl ?_)
    first | refine W.condT rfl ?_ | refine W.condF rfl ?_
    repeat (first | refine W.seq ?_ | refine W.block ?_ | refine W.reg ?_ | refine W.skip ?_ | refine W.exit ?_ | refine W.ret ?_ | refine L.nil ?_ | refine L.p rfl rfl ?_ | refine L.skip rfl ?_)
    refine L.fadd hy rfl rfl rfl ?_
    repeat (first | refine L.p rfl rfl ?_ | refine L.nil ?_ | refine W.seq ?_ | refine W.reg ?_)
    refine L.fmul e1 rfl rfl rfl ?_
    repeat (first | refine L.p rfl rfl ?_ | refine L.nil ?_ | refine W.seq ?_ | refine W.reg ?_)
    refine L.fsub e2 rfl rfl rfl ?_
    repeat (first | refine L.p rfl rfl ?_ | refine L.nil ?_ | refine W.seq ?_ | refine W.reg ?_)
    refine L.fmul e3 rfl rfl rfl ?_
    repeat (first | refine L.p rfl rfl ?_ | refine L.nil ?_ | refine W.seq ?_ | refine W.reg ?_)
    refine L.fsub e4 rfl rfl rfl ?_
    repeat (first | refine L.p rfl rfl ?_ | refine L.nil ?_ | refine W.seq ?_ | refine W.reg ?_)
    refine L.fmul e5 rfl rfl rfl ?_
    repeat (first | refine L.p rfl rfl ?_ | refine L.nil ?_ | refine W.seq ?_ | refine W.reg ?_)
    refine L.fsub e6 rfl rfl rfl ?_
    repeat (first | refine L.p rfl rfl ?_ | refine L.nil ?_ | refine W.seq ?_ | refine W.reg ?_)
    first | refine W.condT rfl ?_ | refine W.condF rfl ?_
    repeat (first | refine W.seq ?_ | refine W.block ?_ | refine W.reg ?_ | refine W.skip ?_ | refine W.exit ?_ | refine W.ret ?_ | refine L.nil ?_ | refine L.p rfl rfl ?_ | refine L.skip rfl ?_)
    first | refine W.condT rfl ?_ | refine W.condF rfl ?_
    repeat (first | refine W.seq ?_ | refine W.block ?_ | refine W.reg ?_ | refine W.skip ?_ | refine W.exit ?_ | refine W.ret ?_ | refine L.nil ?_ | refine L.p rfl rfl ?_ | refine L.skip rfl ?_)
    refine L.fmul z1 rfl rfl rfl ?_
    repeat (first | refine L.p rfl rfl ?_ | refine L.nil ?_ | refine W.seq ?_ | refine W.reg ?_)
    refine L.fmul z2 rfl rfl rfl ?_
    repeat (first | refine L.p rfl rfl ?_ | refine L.nil ?_ | refine W.seq ?_ | refine W.reg ?_)
    refine L.fsub z3 rfl rfl rfl ?_
    repeat (first | refine L.p rfl rfl ?_ | refine L.nil ?_ | refine W.seq ?_ | refine W.reg ?_)
    refine L.fmul z4 rfl rfl rfl ?_
    repeat (first | refine L.p rfl rfl ?_ | refine L.nil ?_ | refine W.seq ?_ | refine W.reg ?_)
    refine L.ld (a := ⟨_, 0, none⟩) (cell_of hrc (hcc 0 _ rfl) (.inr rfl)) rfl rfl rfl ?_
    repeat (first | refine L.p rfl rfl ?_ | refine L.nil ?_ | refine W.seq ?_ | refine W.reg ?_)
    refine L.fmul c1 rfl rfl rfl ?_
    repeat (first | refine L.p rfl rfl ?_ | refine L.nil ?_ | refine W.seq ?_ | refine W.reg ?_)
    refine L.ld (a := ⟨_, 1, none⟩) (cell_of hrc (hcc 1 _ rfl) (.inr rfl)) rfl rfl rfl ?_
    repeat (first | refine L.p rfl rfl ?_ | refine L.nil ?_ | refine W.seq ?_ | refine W.reg ?_)
    refine L.fadd c2 rfl rfl rfl ?_
    repeat (first | refine L.p rfl rfl ?_ | refine L.nil ?_ | refine W.seq ?_ | refine W.reg ?_)
    refine L.fmul c3 rfl rfl rfl ?_
    repeat (first | refine L.p rfl rfl ?_ | refine L.nil ?_ | refine W.seq ?_ | refine W.reg ?_)
    refine L.ld (a := ⟨_, 2, none⟩) (cell_of hrc (hcc 2 _ rfl) (.inr rfl)) rfl rfl rfl ?_
    repeat (first | refine L.p rfl rfl ?_ | refine L.nil ?_ | refine W.seq ?_ | refine W.reg ?_)
    refine L.fadd c4 rfl rfl rfl ?_
    repeat (first | refine L.p rfl rfl ?_ | refine L.nil ?_ | refine W.seq ?_ | refine W.reg ?_)
    refine L.fmul c5 rfl rfl rfl ?_
    repeat (first | refine L.p rfl rfl ?_ | refine L.nil ?_ | refine W.seq ?_ | refine W.reg ?_)
    refine L.ld (a := ⟨_, 3, none⟩) (cell_of hrc (hcc 3 _ rfl) (.inr rfl)) rfl rfl rfl ?_
    repeat (first | refine L.p rfl rfl ?_ | refine L.nil ?_ | refine W.seq ?_ | refine W.reg ?_)
    refine L.fadd c6 rfl rfl rfl ?_
    repeat (first | refine L.p rfl rfl ?_ | refine L.nil ?_ | refine W.seq ?_ | refine W.reg ?_)
    refine L.fmul c7 rfl rfl rfl ?_
    repeat (first | refine L.p rfl rfl ?_ | refine L.nil ?_ | refine W.seq ?_ | refine W.reg ?_)
    refine L.ld (a := ⟨_, 4, none⟩) (cell_of hrc (hcc 4 _ rfl) (.inr rfl)) rfl rfl rfl ?_
    repeat (first | refine L.p rfl rfl ?_ | refine L.nil ?_ | refine W.seq ?_ | refine W.reg ?_)
    refine L.fadd c8 rfl rfl rfl ?_
    repeat (first | refine L.p rfl rfl ?_ | refine L.nil ?_ | refine W.seq ?_ | refine W.reg ?_)
    refine L.fmul c9 rfl rfl rfl ?_
    repeat (first | refine L.p rfl rfl ?_ | refine L.nil ?_ | refine W.seq ?_ | refine W.reg ?_)
    refine L.ld (a := ⟨_, 5, none⟩) (cell_of hrc (hcc 5 _ rfl) (.inr rfl)) rfl rfl rfl ?_
    repeat (first | refine L.p rfl rfl ?_ | refine L.nil ?_ | refine W.seq ?_ | refine W.reg ?_)
    refine L.fadd c10 rfl rfl rfl ?_
    repeat (first | refine L.p rfl rfl ?_ | refine L.nil ?_ | refine W.seq ?_ | refine W.reg ?_)
    refine L.fmul z5 rfl rfl rfl ?_
    repeat (first | refine L.p rfl rfl ?_ | refine L.nil ?_ | refine W.seq ?_ | refine W.reg ?_)
    refine L.fadd z6 rfl rfl rfl ?_
    repeat (first | refine L.p rfl rfl ?_ | refine L.nil ?_ | refine W.seq ?_ | refine W.reg ?_)
    refine L.fmul z7 rfl rfl rfl ?_
    repeat (first | refine L.p rfl rfl ?_ | refine L.nil ?_ | refine W.seq ?_ | refine W.reg ?_)
    refine L.ld (a := ⟨_, 0, none⟩) (cell_of hrs (hcs 0 _ rfl) (.inr rfl)) rfl rfl rfl ?_
    repeat (first | refine L.p rfl rfl ?_ | refine L.nil ?_ | refine W.seq ?_ | refine W.reg ?_)
    refine L.fmul s1 rfl rfl rfl ?_
    repeat (first | refine L.p rfl rfl ?_ | refine L.nil ?_ | refine W.seq ?_ | refine W.reg ?_)
    refine L.ld (a := ⟨_, 1, none⟩) (cell_of hrs (hcs 1 _ rfl) (.inr rfl)) rfl rfl rfl ?_
    repeat (first | refine L.p rfl rfl ?_ | refine L.nil ?_ | refine W.seq ?_ | refine W.reg ?_)
    refine L.fadd s2 rfl rfl rfl ?_
    repeat (first | refine L.p rfl rfl ?_ | refine L.nil ?_ | refine W.seq ?_ | refine W.reg ?_)
    refine L.fmul s3 rfl rfl rfl ?_
    repeat (first | refine L.p rfl rfl ?_ | refine L.nil ?_ | refine W.seq ?_ | refine W.reg ?_)
    refine L.ld (a := ⟨_, 2, none⟩) (cell_of hrs (hcs 2 _ rfl) (.inr rfl)) rfl rfl rfl ?_
    repeat (first | refine L.p rfl rfl ?_ | refine L.nil ?_ | refine W.seq ?_ | refine W.reg ?_)
    refine L.fadd s4 rfl rfl rfl ?_
    repeat (first | refine L.p rfl rfl ?_ | refine L.nil ?_ | refine W.seq ?_ | refine W.reg ?_)
    refine L.fmul s5 rfl rfl rfl ?_
    repeat (first | refine L.p rfl rfl ?_ | refine L.nil ?_ | refine W.seq ?_ | refine W.reg ?_)
    refine L.ld (a := ⟨_, 3, none⟩) (cell_of hrs (hcs 3 _ rfl) (.inr rfl)) rfl rfl rfl ?_
    repeat (first | refine L.p rfl rfl ?_ | refine L.nil ?_ | refine W.seq ?_ | refine W.reg ?_)
    refine L.fadd s6 rfl rfl rfl ?_
    repeat (first | refine L.p rfl rfl ?_ | refine L.nil ?_ | refine W.seq ?_ | refine W.reg ?_)
    refine L.fmul s7 rfl rfl rfl ?_
    repeat (first | refine L.p rfl rfl ?_ | refine L.nil ?_ | refine W.seq ?_ | refine W.reg ?_)
    refine L.ld (a := ⟨_, 4, none⟩) (cell_of hrs (hcs 4 _ rfl) (.inr rfl)) rfl rfl rfl ?_
    repeat (first | refine L.p rfl rfl ?_ | refine L.nil ?_ | refine W.seq ?_ | refine W.reg ?_)
    refine L.fadd s8 rfl rfl rfl ?_
    repeat (first | refine L.p rfl rfl ?_ | refine L.nil ?_ | refine W.seq ?_ | refine W.reg ?_)
    refine L.fmul s9 rfl rfl rfl ?_
    repeat (first | refine L.p rfl rfl ?_ | refine L.nil ?_ | refine W.seq ?_ | refine W.reg ?_)
    refine L.ld (a := ⟨_, 5, none⟩) (cell_of hrs (hcs 5 _ rfl) (.inr rfl)) rfl rfl rfl ?_
    repeat (first | refine L.p rfl rfl ?_ | refine L.nil ?_ | refine W.seq ?_ | refine W.reg ?_)
    refine L.fadd s10 rfl rfl rfl ?_
    repeat (first | refine L.p rfl rfl ?_ | refine L.nil ?_ | refine W.seq ?_ | refine W.reg ?_)
    refine L.fmul z8 rfl rfl rfl ?_
    repeat (first | refine L.p rfl rfl ?_ | refine L.nil ?_ | refine W.seq ?_ | refine W.reg ?_)
    refine L.fadd z9 rfl rfl rfl ?_
    repeat (first | refine L.p rfl rfl ?_ | refine L.nil ?_ | refine W.seq ?_ | refine W.reg ?_)
    first | refine W.condT rfl ?_ | refine W.condF rfl ?_
    repeat (first | refine W.seq ?_ | refine W.block ?_ | refine W.reg ?_ | refine W.skip ?_ | refine W.exit ?_ | refine W.ret ?_ | refine L.nil ?_ | refine L.p rfl rfl ?_ | refine L.skip rfl ?_)
    cases sg
    · first | refine W.condT rfl ?_ | refine W.condF rfl ?_
      repeat (first | refine W.seq ?_ | refine W.block ?_ | refine W.reg ?_ | refine W.skip ?_ | refine W.exit ?_ | refine W.ret ?_ | refine L.nil ?_ | refine L.p rfl rfl ?_ | refine L.skip rfl ?_)
      first | refine W.condT rfl ?_ | refine W.condF rfl ?_
      repeat (first | refine W.seq ?_ | refine W.block ?_ | refine W.reg ?_ | refine W.skip ?_ | refine W.exit ?_ | refine W.ret ?_ | refine L.nil ?_ | refine L.p rfl rfl ?_ | refine L.skip rfl ?_)
      exact ⟨.inr rfl, _, rfl, rfl, rfl⟩
    · first | refine W.condT rfl ?_ | refine W.condF rfl ?_
      repeat (first | refine W.seq ?_ | refine W.block ?_ | refine W.reg ?_ | refine W.skip ?_ | refine W.exit ?_ | refine W.ret ?_ | refine L.nil ?_ | refine L.p rfl rfl ?_ | refine L.skip rfl ?_)
      first | refine W.condT rfl ?_ | refine W.condF rfl ?_
      repeat (first | refine W.seq ?_ | refine W.block ?_ | refine W.reg ?_ | refine W.skip ?_ | refine W.exit ?_ | refine W.ret ?_ | refine L.nil ?_ | refine L.p rfl rfl ?_ | refine L.skip rfl ?_)
      exact ⟨.inr rfl, _, rfl, rfl, rfl⟩
  · obtain ⟨y, hy0, rfl⟩ : ∃ y, y = fNat 8 ∧ (0, y) = q := by
      have h0 : some (8 % 8, fNat 8) = some q := hoct
      exact ⟨_, rfl, Option.some.inj h0⟩
    unfold restO dbl at hrest
    simp only [Option.bind_eq_some_iff] at hrest
    obtain ⟨u1, e1, u2, e2, u3, e3, u4, e4, u5, e5, e6⟩ := hrest
    have hsi := congrArg Prod.fst hsgn
    have hco := congrArg Prod.snd hsgn
    simp [signO] at hsi hco
    subst hsi hco
    subst hy0
    repeat (first | refine W.seq ?_ | refine W.block ?_ | refine W.reg ?_ | refine W.skip ?_ | refine W.exit ?_ | refine W.ret ?_ | refine L.nil ?_ | refine L.p rfl rfl ?_ | refine L.skip rfl ?_)
    first | refine W.condT rfl ?_ | refine W.condF rfl ?_
    repeat (first | refine W.seq ?_ | refine W.block ?_ | refine W.reg ?_ | refine W.skip ?_ | refine W.exit ?_ | refine W.ret ?_ | refine L.nil ?_ | refine L.p rfl rfl ?_ | refine L.skip rfl ?_)
    refine L.fmul e1 rfl rfl rfl ?_
    repeat (first | refine L.p rfl rfl ?_ | refine L.nil ?_ | refine W.seq ?_ | refine W.reg ?_)
    refine L.fsub e2 rfl rfl rfl ?_
    repeat (first | refine L.p rfl rfl ?_ | refine L.nil ?_ | refine W.seq ?_ | refine W.reg ?_)
    refine L.fmul e3 rfl rfl rfl ?_
    repeat (first | refine L.p rfl rfl ?_ | refine L.nil ?_ | refine W.seq ?_ | refine W.reg ?_)
    refine L.fsub e4 rfl rfl rfl ?_
    repeat (first | refine L.p rfl rfl ?_ | refine L.nil ?_ | refine W.seq ?_ | refine W.reg ?_)
    refine L.fmul e5 rfl rfl rfl ?_
    repeat (first | refine L.p rfl rfl ?_ | refine L.nil ?_ | refine W.seq ?_ | refine W.reg ?_)
    refine L.fsub e6 rfl rfl rfl ?_
    repeat (first | refine L.p rfl rfl ?_ | refine L.nil ?_ | refine W.seq ?_ | refine W.reg ?_)
    first | refine W.condT rfl ?_ | refine W.condF rfl ?_
    repeat (first | refine W.seq ?_ | refine W.block ?_ | refine W.reg ?_ | refine W.skip ?_ | refine W.exit ?_ | refine W.ret ?_ | refine L.nil ?_ | refine L.p rfl rfl ?_ | refine L.skip rfl ?_)
    first | refine W.condT rfl ?_ | refine W.condF rfl ?_
    repeat (first | refine W.seq ?_ | refine W.block ?_ | refine W.reg ?_ | refine W.skip ?_ | refine W.exit ?_ | refine W.ret ?_ | refine L.nil ?_ | refine L.p rfl rfl ?_ | refine L.skip rfl ?_)
    refine L.fmul z1 rfl rfl rfl ?_
    repeat (first | refine L.p rfl rfl ?_ | refine L.nil ?_ | refine W.seq ?_ | refine W.reg ?_)
    refine L.fmul z2 rfl rfl rfl ?_
    repeat (first | refine L.p rfl rfl ?_ | refine L.nil ?_ | refine W.seq ?_ | refine W.reg ?_)
    refine L.fsub z3 rfl rfl rfl ?_
    repeat (first | refine L.p rfl rfl ?_ | refine L.nil ?_ | refine W.seq ?_ | refine W.reg ?_)
    refine L.fmul z4 rfl rfl rfl ?_
    repeat (first | refine L.p rfl rfl ?_ | refine L.nil ?_ | refine W.seq ?_ | refine W.reg ?_)
    refine L.ld (a := ⟨_, 0, none⟩) (cell_of hrc (hcc 0 _ rfl) (.inr rfl)) rfl rfl rfl ?_
    repeat (first | refine L.p rfl rfl ?_ | refine L.nil ?_ | refine W.seq ?_ | refine W.reg ?_)
    refine L.fmul c1 rfl rfl rfl ?_
    repeat (first | refine L.p rfl rfl ?_ | refine L.nil ?_ | refine W.seq ?_ | refine W.reg ?_)
    refine L.ld (a := ⟨_, 1, none⟩) (cell_of hrc (hcc 1 _ rfl) (.inr rfl)) rfl rfl rfl ?_
    repeat (first | refine L.p rfl rfl ?_ | refine L.nil ?_ | refine W.seq ?_ | refine W.reg ?_)
    refine L.fadd c2 rfl rfl rfl ?_
    repeat (first | refine L.p rfl rfl ?_ | refine L.nil ?_ | refine W.seq ?_ | refine W.reg ?_)
    refine L.fmul c3 rfl rfl rfl ?_
    repeat (first | refine L.p rfl rfl ?_ | refine L.nil ?_ | refine W.seq ?_ | refine W.reg ?_)
    refine L.ld (a := ⟨_, 2, none⟩) (cell_of hrc (hcc 2 _ rfl) (.inr rfl)) rfl rfl rfl ?_
    repeat (first | refine L.p rfl rfl ?_ | refine L.nil ?_ | refine W.seq ?_ | refine W.reg ?_)
    refine L.fadd c4 rfl rfl rfl ?_
    repeat (first | refine L.p rfl rfl ?_ | refine L.nil ?_ | refine W.seq ?_ | refine W.reg ?_)
    refine L.fmul c5 rfl rfl rfl ?_
    repeat (first | refine L.p rfl rfl ?_ | refine L.nil ?_ | refine W.seq ?_ | refine W.reg ?_)
    refine L.ld (a := ⟨_, 3, none⟩) (cell_of hrc (hcc 3 _ rfl) (.inr rfl)) rfl rfl rfl ?_
    repeat (first | refine L.p rfl rfl ?_ | refine L.nil ?_ | refine W.seq ?_ | refine W.reg ?_)
    refine L.fadd c6 rfl rfl rfl ?_
    repeat (first | refine L.p rfl rfl ?_ | refine L.nil ?_ | refine W.seq ?_ | refine W.reg ?_)
    refine L.fmul c7 rfl rfl rfl ?_
    repeat (first | refine L.p rfl rfl ?_ | refine L.nil ?_ | refine W.seq ?_ | refine W.reg ?_)
    refine L.ld (a := ⟨_, 4, none⟩) (cell_of hrc (hcc 4 _ rfl) (.inr rfl)) rfl rfl rfl ?_
    repeat (first | refine L.p rfl rfl ?_ | refine L.nil ?_ | refine W.seq ?_ | refine W.reg ?_)
    refine L.fadd c8 rfl rfl rfl ?_
    repeat (first | refine L.p rfl rfl ?_ | refine L.nil ?_ | refine W.seq ?_ | refine W.reg ?_)
    refine L.fmul c9 rfl rfl rfl ?_
    repeat (first | refine L.p rfl rfl ?_ | refine L.nil ?_ | refine W.seq ?_ | refine W.reg ?_)
    refine L.ld (a := ⟨_, 5, none⟩) (cell_of hrc (hcc 5 _ rfl) (.inr rfl)) rfl rfl rfl ?_
    repeat (first | refine L.p rfl rfl ?_ | refine L.nil ?_ | refine W.seq ?_ | refine W.reg ?_)
    refine L.fadd c10 rfl rfl rfl ?_
    repeat (first | refine L.p rfl rfl ?_ | refine L.nil ?_ | refine W.seq ?_ | refine W.reg ?_)
    refine L.fmul z5 rfl rfl rfl ?_
    repeat (first | refine L.p rfl rfl ?_ | refine L.nil ?_ | refine W.seq ?_ | refine W.reg ?_)
    refine L.fadd z6 rfl rfl rfl ?_
    repeat (first | refine L.p rfl rfl ?_ | refine L.nil ?_ | refine W.seq ?_ | refine W.reg ?_)
    refine L.fmul z7 rfl rfl rfl ?_
    repeat (first | refine L.p rfl rfl ?_ | refine L.nil ?_ | refine W.seq ?_ | refine W.reg ?_)
    refine L.ld (a := ⟨_, 0, none⟩) (cell_of hrs (hcs 0 _ rfl) (.inr rfl)) rfl rfl rfl ?_
    repeat (first | refine L.p rfl rfl ?_ | refine L.nil ?_ | refine W.seq ?_ | refine W.reg ?_)
    refine L.fmul s1 rfl rfl rfl ?_
    repeat (first | refine L.p rfl rfl ?_ | refine L.nil ?_ | refine W.seq ?_ | refine W.reg ?_)
    refine L.ld (a := ⟨_, 1, none⟩) (cell_of hrs (hcs 1 _ rfl) (.inr rfl)) rfl rfl rfl ?_
    repeat (first | refine L.p rfl rfl ?_ | refine L.nil ?_ | refine W.seq ?_ | refine W.reg ?_)
    refine L.fadd s2 rfl rfl rfl ?_
    repeat (first | refine L.p rfl rfl ?_ | refine L.nil ?_ | refine W.seq ?_ | refine W.reg ?_)
    refine L.fmul s3 rfl rfl rfl ?_
    repeat (first | refine L.p rfl rfl ?_ | refine L.nil ?_ | refine W.seq ?_ | refine W.reg ?_)
    refine L.ld (a := ⟨_, 2, none⟩) (cell_of hrs (hcs 2 _ rfl) (.inr rfl)) rfl rfl rfl ?_
    repeat (first | refine L.p rfl rfl ?_ | refine L.nil ?_ | refine W.seq ?_ | refine W.reg ?_)
    refine L.fadd s4 rfl rfl rfl ?_
    repeat (first | refine L.p rfl rfl ?_ | refine L.nil ?_ | refine W.seq ?_ | refine W.reg ?_)
    refine L.fmul s5 rfl rfl rfl ?_
    repeat (first | refine L.p rfl rfl ?_ | refine L.nil ?_ | refine W.seq ?_ | refine W.reg ?_)
    refine L.ld (a := ⟨_, 3, none⟩) (cell_of hrs (hcs 3 _ rfl) (.inr rfl)) rfl rfl rfl ?_
    repeat (first | refine L.p rfl rfl ?_ | refine L.nil ?_ | refine W.seq ?_ | refine W.reg ?_)
    refine L.fadd s6 rfl rfl rfl ?_
    repeat (first | refine L.p rfl rfl ?_ | refine L.nil ?_ | refine W.seq ?_ | refine W.reg ?_)
    refine L.fmul s7 rfl rfl rfl ?_
    repeat (first | refine L.p rfl rfl ?_ | refine L.nil ?_ | refine W.seq ?_ | refine W.reg ?_)
    refine L.ld (a := ⟨_, 4, none⟩) (cell_of hrs (hcs 4 _ rfl) (.inr rfl)) rfl rfl rfl ?_
    repeat (first | refine L.p rfl rfl ?_ | refine L.nil ?_ | refine W.seq ?_ | refine W.reg ?_)
    refine L.fadd s8 rfl rfl rfl ?_
    repeat (first | refine L.p rfl rfl ?_ | refine L.nil ?_ | refine W.seq ?_ | refine W.reg ?_)
    refine L.fmul s9 rfl rfl rfl ?_
    repeat (first | refine L.p rfl rfl ?_ | refine L.nil ?_ | refine W.seq ?_ | refine W.reg ?_)
    refine L.ld (a := ⟨_, 5, none⟩) (cell_of hrs (hcs 5 _ rfl) (.inr rfl)) rfl rfl rfl ?_
    repeat (first | refine L.p rfl rfl ?_ | refine L.nil ?_ | refine W.seq ?_ | refine W.reg ?_)
    refine L.fadd s10 rfl rfl rfl ?_
    repeat (first | refine L.p rfl rfl ?_ | refine L.nil ?_ | refine W.seq ?_ | refine W.reg ?_)
    refine L.fmul z8 rfl rfl rfl ?_
    repeat (first | refine L.p rfl rfl ?_ | refine L.nil ?_ | refine W.seq ?_ | refine W.reg ?_)
    refine L.fadd z9 rfl rfl rfl ?_
    repeat (first | refine L.p rfl rfl ?_ | refine L.nil ?_ | refine W.seq ?_ | refine W.reg ?_)
    first | refine W.condT rfl ?_ | refine W.condF rfl ?_
    repeat (first | refine W.seq ?_ | refine W.block ?_ | refine W.reg ?_ | refine W.skip ?_ | refine W.exit ?_ | refine W.ret ?_ | refine L.nil ?_ | refine L.p rfl rfl ?_ | refine L.skip rfl ?_)
    cases sg
    · first | refine W.condT rfl ?_ | refine W.condF rfl ?_
      repeat (first | refine W.seq ?_ | refine W.block ?_ | refine W.reg ?_ | refine W.skip ?_ | refine W.exit ?_ | refine W.ret ?_ | refine L.nil ?_ | refine L.p rfl rfl ?_ | refine L.skip rfl ?_)
      first | refine W.condT rfl ?_ | refine W.condF rfl ?_
      repeat (first | refine W.seq ?_ | refine W.block ?_ | refine W.reg ?_ | refine W.skip ?_ | refine W.exit ?_ | refine W.ret ?_ | refine L.nil ?_ | refine L.p rfl rfl ?_ | refine L.skip rfl ?_)
      exact ⟨.inr rfl, _, rfl, rfl, rfl⟩
    · first | refine W.condT rfl ?_ | refine W.condF rfl ?_
      repeat (first | refine W.seq ?_ | refine W.block ?_ | refine W.reg ?_ | refine W.skip ?_ | refine W.exit ?_ | refine W.ret ?_ | refine L.nil ?_ | refine L.p rfl rfl ?_ | refine L.skip rfl ?_)
      first | refine W.condT rfl ?_ | refine W.condF rfl ?_
      repeat (first | refine W.seq ?_ | refine W.block ?_ | refine W.reg ?_ | refine W.skip ?_ | refine W.exit ?_ | refine W.ret ?_ | refine L.nil ?_ | refine L.p rfl rfl ?_ | refine L.skip rfl ?_)
      exact ⟨.inr rfl, _, rfl, rfl, rfl⟩
end Go.Proofs.YtbdnkneedengcaaDoor

/- The table of factors, row by row, part 1 (printed by twid.py). Conditions: none. -/
set_option linter.unusedSimpArgs false
set_option linter.unusedVariables false
set_option maxRecDepth 100000
namespace Go.Proofs.YtbdnkneedengcaaDoor.Ie.Tw
theorem r0 : rowL fastO 0 (1267650600228229401496703205376) (0) = true := by kernel_rfl
theorem r1 : rowL fastO 1 (1267644634423113846968036898775) (3889097232048075534265022357) = true := by kernel_rfl
theorem r2 : rowL fastO 2 (1267626737063919613192537442168) (7778157858431849463462493803) = true := by kernel_rfl
theorem r3 : rowL fastO 3 (1267596908319103461073648327390) (11667145273831566636113051669) = true := by kernel_rfl
theorem r4 : rowL fastO 4 (1267555148469424897028567089014) (15556022873616561564911268890) = true := by kernel_rfl
theorem r5 : rowL fastO 5 (1267501457907943530372844305496) (19444754054189795151337043979) = true := by kernel_rfl
theorem r6 : rowL fastO 6 (1267435837140015373693644889952) (23333302213332381681381765559) = true := by kernel_rfl
theorem r7 : rowL fastO 7 (1267358286783288086246493966429) (27221630750548102849569955393) = true := by kernel_rfl
theorem r8 : rowL fastO 8 (1267268807567695160420278293038) (31109703067407905568579188451) = true := by kernel_rfl
theorem r9 : rowL fastO 9 (1267167400335449051325222437426) (34997482567894380321913704686) = true := by kernel_rfl
theorem r10 : rowL fastO 10 (1267054066041033249568506639139) (38884932658746216817270263395) = true := by kernel_rfl
theorem r11 : rowL fastO 11 (1266928805751193297292140413817) (42772016749802633698448445540) = true := by kernel_rfl
theorem r12 : rowL fastO 12 (1266791620644926747557652372289) (46658698254347779073901780293) = true := by kernel_rfl
theorem r13 : rowL fastO 13 (1266642512013472067172102349799) (50544940589455098620300756940) = true := by kernel_rfl
theorem r14 : rowL fastO 14 (1266481481260296483059866673277) (54430707176331668019783979631) = true := by kernel_rfl
theorem r15 : rowL fastO 15 (1266308529901082772294591144091) (58315961440662486489909427357) = true := by kernel_rfl
theorem r16 : rowL fastO 16 (1266123659563714995915648986524) (62200666812954728165683991876) = true := by kernel_rfl
theorem r17 : rowL fastO 17 (1265926871988263176663382514718) (66084786728881948093446178589) = true := by kernel_rfl
theorem r18 : rowL fastO 18 (1265718169026966920777347509434) (69968284629628239596804065900) = true := by kernel_rfl
theorem r19 : rowL fastO 19 (1265497552644217984011718177157) (73851123962232339775288323321) = true := by kernel_rfl
theorem r20 : rowL fastO 20 (1265265024916541782031947994246) (77733268179931679896868283233) = true := by kernel_rfl
theorem r21 : rowL fastO 21 (1265020588032577845366717624476) (81614680742506377445997741145) = true := by kernel_rfl
theorem r22 : rowL fastO 22 (1264764244293059219099135345927) (85495325116623166589406319692) = true := by kernel_rfl
theorem r23 : rowL fastO 23 (1264495996110790807491087939220) (89375164776179263822431867223) = true := by kernel_rfl
theorem r24 : rowL fastO 24 (1264215846010626663744570680107) (93254163202646165559299467271) = true := by kernel_rfl
theorem r25 : rowL fastO 25 (1263923796629446225113753851924) (97132283885413374431393204703) = true := by kernel_rfl
theorem r26 : rowL fastO 26 (1263619850716129493591469953928) (101009490322132051058237861848) = true := by kernel_rfl
theorem r27 : rowL fastO 27 (1263304011131531162403730436691) (104885746019058588056609197158) = true := by kernel_rfl
theorem r28 : rowL fastO 28 (1262976280848453688555803252012) (108761014491398103053923383301) = true := by kernel_rfl
theorem r29 : rowL fastO 29 (1262636662951619311683302668930) (112635259263647847472818544153) = true := by kernel_rfl
theorem r30 : rowL fastO 30 (1262285160637641019471660585934) (116508443869940527854634123775) = true := by kernel_rfl
theorem r31 : rowL fastO 31 (1261921777214992459917263869055) (120380531854387536490317037668) = true := by kernel_rfl
theorem r32 : rowL fastO 32 (1261546516103976800713454972864) (124251486771422088128137189636) = true := by kernel_rfl
theorem r33 : rowL fastO 33 (1261159380836694536054503163167) (128121272186142259528478978425) = true := by kernel_rfl
theorem r34 : rowL fastO 34 (1260760375057010241160560963121) (131989851674653928636889858634) = true := by kernel_rfl
theorem r35 : rowL fastO 35 (1260349502520518274836524895346) (135857188824413610147511851575) = true := by kernel_rfl
theorem r36 : rowL fastO 36 (1259926767094507430387621098132) (139723247234571184229997114959) = true := by kernel_rfl
theorem r37 : rowL fastO 37 (1259492172757924535224434860868) (143587990516312515194014266229) = true := by kernel_rfl
theorem r38 : rowL fastO 38 (1259045723601336999499998459158) (147451382293201956866488103703) = true := by kernel_rfl
theorem r39 : rowL fastO 39 (1258587423826894314131443780618) (151313386201524741457781672574) = true := by kernel_rfl
theorem r40 : rowL fastO 40 (1258117277748288498568615024951) (155173965890629248694126269257) = true := by kernel_rfl
theorem r41 : rowL fastO 41 (1257635289790713498681922143483) (159033085023269151994731957263) = true := by kernel_rfl
theorem r42 : rowL fastO 42 (1257141464490823535151597560914) (162890707275945438473168470065) = true := by kernel_rfl
theorem r43 : rowL fastO 43 (1256635806496690402750397002509) (166746796339248299543793990434) = true := by kernel_rfl
theorem r44 : rowL fastO 44 (1256118320567759720921659840422) (170601315918198888915227210315) = true := by kernel_rfl
theorem r45 : rowL fastO 45 (1255589011574806136064515180314) (174454229732590944754106278940) = true := by kernel_rfl
theorem r46 : rowL fastO 46 (1255047884499887475947886841003) (178305501517332272803656727886) = true := by kernel_rfl
theorem r47 : rowL fastO 47 (1254494944436297856684813342727) (182155095022786087242899208068) = true := by kernel_rfl
theorem r48 : rowL fastO 48 (1253930196588519742708457920809) (186002974015112206073666872939) = true := by kernel_rfl
theorem r49 : rowL fastO 49 (1253353646272174960201038328367) (189849102276608097823971481821) = true := by kernel_rfl
theorem r50 : rowL fastO 50 (1252765298913974664436756691407) (193693443606049776357656764457) = true := by kernel_rfl
theorem r51 : rowL fastO 51 (1252165160051668261509655839453) (197535961819032540581707269325) = true := by kernel_rfl
theorem r52 : rowL fastO 52 (1251553235333991284927170262183) (201376620748311555844040800613) = true := by kernel_rfl
theorem r53 : rowL fastO 53 (1250929530520612227559977044635) (205215384244142273816102618203) = true := by kernel_rfl
theorem r54 : rowL fastO 54 (1250294051482078329448584717922) (209052216174620687656099817568) = true := by kernel_rfl
theorem r55 : rowL fastO 55 (1249646804199760321976925836425) (212887080426023419250264707846) = true := by kernel_rfl
theorem r56 : rowL fastO 56 (1248987794765796128933042163662) (216719940903147635331116551886) = true := by kernel_rfl
theorem r57 : rowL fastO 57 (1248317029383033524986769524985) (220550761529650789273301706931) = true := by kernel_rfl
theorem r58 : rowL fastO 58 (1247634514364971752124142573517) (224379506248390185369232993621) = true := by kernel_rfl
theorem r59 : rowL fastO 59 (1246940256135702094588047823960) (228206139021762362388420008744) = true := by kernel_rfl
theorem r60 : rowL fastO 60 (1246234261229847412884456244736) (232030623832042293226083067883) = true := by kernel_rfl
theorem r61 : rowL fastO 61 (1245516536292500637423364370139) (235852924681722397448374501808) = true := by kernel_rfl
theorem r62 : rowL fastO 62 (1244787088079162222373365208507) (239673005593851363543292118869) = true := by kernel_rfl
theorem r63 : rowL fastO 63 (1244045923455676560318557087747) (243490830612372777688160768116) = true := by kernel_rfl
def t0 : List (Int × Int) := [(1267650600228229401496703205376, 0), (1267644634423113846968036898775, 3889097232048075534265022357), (1267626737063919613192537442168, 7778157858431849463462493803), (1267596908319103461073648327390, 11667145273831566636113051669), (1267555148469424897028567089014, 15556022873616561564911268890), (1267501457907943530372844305496, 19444754054189795151337043979), (1267435837140015373693644889952, 23333302213332381681381765559), (1267358286783288086246493966429, 27221630750548102849569955393), (1267268807567695160420278293038, 31109703067407905568579188451), (1267167400335449051325222437426, 34997482567894380321913704686), (1267054066041033249568506639139, 38884932658746216817270263395), (1266928805751193297292140413817, 42772016749802633698448445540), (1266791620644926747557652372289, 46658698254347779073901780293), (1266642512013472067172102349799, 50544940589455098620300756940), (1266481481260296483059866673277, 54430707176331668019783979631), (1266308529901082772294591144091, 58315961440662486489909427357), (1266123659563714995915648986524, 62200666812954728165683991876), (1265926871988263176663382514718, 66084786728881948093446178589), (1265718169026966920777347509434, 69968284629628239596804065900), (1265497552644217984011718177157, 73851123962232339775288323321), (1265265024916541782031947994246, 77733268179931679896868283233), (1265020588032577845366717624476, 81614680742506377445997741145), (1264764244293059219099135345927, 85495325116623166589406319692), (1264495996110790807491087939220, 89375164776179263822431867223), (1264215846010626663744570680107, 93254163202646165559299467271), (1263923796629446225113753851924, 97132283885413374431393204703), (1263619850716129493591469953928, 101009490322132051058237861848), (1263304011131531162403730436691, 104885746019058588056609197158), (1262976280848453688555803252012, 108761014491398103053923383301), (1262636662951619311683302668930, 112635259263647847472818544153), (1262285160637641019471660585934, 116508443869940527854634123775), (1261921777214992459917263869055, 120380531854387536490317037668), (1261546516103976800713454972864, 124251486771422088128137189636), (1261159380836694536054503163167, 128121272186142259528478978425), (1260760375057010241160560963121, 131989851674653928636889858634), (1260349502520518274836524895346, 135857188824413610147511851575), (1259926767094507430387621098132, 139723247234571184229997114959), (1259492172757924535224434860868, 143587990516312515194014266229), (1259045723601336999499998459158, 147451382293201956866488103703), (1258587423826894314131443780618, 151313386201524741457781672574), (1258117277748288498568615024951, 155173965890629248694126269257), (1257635289790713498681922143483, 159033085023269151994731957263), (1257141464490823535151597560914, 162890707275945438473168470065), (1256635806496690402750397002509, 166746796339248299543793990434), (1256118320567759720921659840422, 170601315918198888915227210315), (1255589011574806136064515180314, 174454229732590944754106278940), (1255047884499887475947886841003, 178305501517332272803656727886), (1254494944436297856684813342727, 182155095022786087242899208068), (1253930196588519742708457920809, 186002974015112206073666872939), (1253353646272174960201038328367, 189849102276608097823971481821), (1252765298913974664436756691407, 193693443606049776357656764457), (1252165160051668261509655839453, 197535961819032540581707269325), (1251553235333991284927170262183, 201376620748311555844040800613), (1250929530520612227559977044635, 205215384244142273816102618203), (1250294051482078329448584717922, 209052216174620687656099817568), (1249646804199760321976925836425, 212887080426023419250264707846), (1248987794765796128933042163662, 216719940903147635331116551886), (1248317029383033524986769524985, 220550761529650789273301706931), (1247634514364971752124142573517, 224379506248390185369232993621), (1246940256135702094588047823960, 228206139021762362388420008744), (1246234261229847412884456244736, 232030623832042293226083067883), (1245516536292500637423364370139, 235852924681722397448374501808), (1244787088079162222373365208507, 239673005593851363543292118869), (1244045923455676560318557087747, 243490830612372777688160768116)]
theorem b0 : rowsB fastO 0 t0 = true := (and_t r0 (and_t r1 (and_t r2 (and_t r3 (and_t r4 (and_t r5 (and_t r6 (and_t r7 (and_t r8 (and_t r9 (and_t r10 (and_t r11 (and_t r12 (and_t r13 (and_t r14 (and_t r15 (and_t r16 (and_t r17 (and_t r18 (and_t r19 (and_t r20 (and_t r21 (and_t r22 (and_t r23 (and_t r24 (and_t r25 (and_t r26 (and_t r27 (and_t r28 (and_t r29 (and_t r30 (and_t r31 (and_t r32 (and_t r33 (and_t r34 (and_t r35 (and_t r36 (and_t r37 (and_t r38 (and_t r39 (and_t r40 (and_t r41 (and_t r42 (and_t r43 (and_t r44 (and_t r45 (and_t r46 (and_t r47 (and_t r48 (and_t r49 (and_t r50 (and_t r51 (and_t r52 (and_t r53 (and_t r54 (and_t r55 (and_t r56 (and_t r57 (and_t r58 (and_t r59 (and_t r60 (and_t r61 (and_t r62 (and_t r63 rfl))))))))))))))))))))))))))))))))))))))))))))))))))))))))))))))))
theorem s0 : stepB 1267650600228229401496703205376 0 t0.tail = true := by kernel_rfl
theorem r64 : rowL fastO 64 (1243293049398167358316279903722) (247306363802463555846379077651) = true := by kernel_rfl
theorem r65 : rowL fastO 65 (1242528472992971975963943927950) (251119569250872176007979582553) = true := by kernel_rfl
theorem r66 : rowL fastO 66 (1241752201436574726092986296831) (254930411066256707390431579268) = true := by kernel_rfl
theorem r67 : rowL fastO 67 (1240964242035539138717754453150) (258738853379522633418027130880) = true := by kernel_rfl
theorem r68 : rowL fastO 68 (1240164602206439188876874050075) (262544860344160465300131682196) = true := by kernel_rfl
theorem r69 : rowL fastO 69 (1239353289475789489014411066430) (266348396136583143030551706801) = true := by kernel_rfl
theorem r70 : rowL fastO 70 (1238530311479974446557884027790) (270149424956463220632272681659) = true := by kernel_rfl
theorem r71 : rowL fastO 71 (1237695675965176387359922189334) (273947911027069832473851449580) = true := by kernel_rfl
theorem r72 : rowL fastO 72 (1236849390787302645680099221585) (277743818595605437485807666828) = true := by kernel_rfl
theorem r73 : rowL fastO 73 (1235991463911911621393199257620) (281537111933542338107449522954) = true := by kernel_rfl
theorem r74 : rowL fastO 74 (1235121903414137805119893018498) (285327755336958970796689242878) = true := by kernel_rfl
theorem r75 : rowL fastO 75 (1234240717478615771985516040981) (289115713126875964937554017375) = true := by kernel_rfl
theorem r76 : rowL fastO 76 (1233347914399403144722348696728) (292900949649591966982277937237) = true := by kernel_rfl
theorem r77 : rowL fastO 77 (1232443502579902526840498623625) (296683429277019226667070207897) = true := by kernel_rfl
theorem r78 : rowL fastO 78 (1231527490532782406602180296469) (300463116407018942142894374481) = true := by kernel_rfl
theorem r79 : rowL fastO 79 (1230599886879897032543873654634) (304239975463736360864862470985) = true := by kernel_rfl
theorem r80 : rowL fastO 80 (1229660700352205261300523887368) (308013970897935633086146900220) = true := by kernel_rfl
theorem r81 : rowL fastO 81 (1228709939789688378495617561979) (311785067187334414804641431644) = true := by kernel_rfl
theorem r82 : rowL fastO 82 (1227747614141266893470636175231) (315553228836938217012960950368) = true := by kernel_rfl
theorem r83 : rowL fastO 83 (1226773732464716308637046822865) (319318420379374498104757480210) = true := by kernel_rfl
theorem r84 : rowL fastO 84 (1225788303926581864243640925355) (323080606375226496292747514239) = true := by kernel_rfl
theorem r85 : rowL fastO 85 (1224791337802092259361675728963) (326839751413366798896292795037) = true := by kernel_rfl
theorem r86 : rowL fastO 86 (1223782843475072349899909529100) (330595820111290645358853370896) = true := by kernel_rfl
theorem r87 : rowL fastO 87 (1222762830437854824471250147238) (334348777115448960858137990002) = true := by kernel_rfl
theorem r88 : rowL fastO 88 (1221731308291190858942357042519) (338098587101581117374312658801) = true := by kernel_rfl
theorem r89 : rowL fastO 89 (1220688286744159750507150464211) (341845214775047419084193459297) = true := by kernel_rfl
theorem r90 : rowL fastO 90 (1219633775614077532134786160791) (345588624871161308951944468856) = true := by kernel_rfl
theorem r91 : rowL fastO 91 (1218567784826404568252251265293) (349328782155521293389425830763) = true := by kernel_rfl
theorem r92 : rowL fastO 92 (1217490324414652132531325984298) (353065651424342581861990659610) = true := by kernel_rfl
theorem r93 : rowL fastO 93 (1216401404520287968659236539309) (356799197504788438318212507581) = true := by kernel_rfl
theorem r94 : rowL fastO 94 (1215301035392640834981897354089) (360529385255301241324737540635) = true := by kernel_rfl
theorem r95 : rowL fastO 95 (1214189227388804033918204659712) (364256179565933249790197351871) = true := by kernel_rfl
theorem r96 : rowL fastO 96 (1213065990973537927053399410597) (367979545358677071164889447262) = true := by kernel_rfl
theorem r97 : rowL fastO 97 (1211931336719171436829064579684) (371699447587795829005732850321) = true := by kernel_rfl
theorem r98 : rowL fastO 98 (1210785275305502535756860439356) (375415851240153026798835960803) = true := by kernel_rfl
theorem r99 : rowL fastO 99 (1209627817519697724092631246874) (379128721335542104934872741557) = true := by kernel_rfl
theorem r100 : rowL fastO 100 (1208458974256190496917037749333) (382838022927015687735351470299) = true := by kernel_rfl
theorem r101 : rowL fastO 101 (1207278756516578801578382013786) (386543721101214517430777652093) = true := by kernel_rfl
theorem r102 : rowL fastO 102 (1206087175409521486462794183782) (390245780978696071994659216348) = true := by kernel_rfl
theorem r103 : rowL fastO 103 (1204884242150633742066444774542) (393944167714262863740277791331) = true := by kernel_rfl
theorem r104 : rowL fastO 104 (1203669968062381535353930956149) (397638846497290415590154631644) = true := by kernel_rfl
theorem r105 : rowL fastO 105 (1202444364573975038396460848041) (401329782552054911931173641447) = true := by kernel_rfl
theorem r106 : rowL fastO 106 (1201207443221261052292926069672) (405016941138060520971386859958) = true := by kernel_rfl
theorem r107 : rowL fastO 107 (1199959215646614427386409572301) (408700287550366385517619727018) = true := by kernel_rfl
theorem r108 : rowL fastO 108 (1198699693598828480798123026495) (412379787119913279096114396232) = true := by kernel_rfl
theorem r109 : rowL fastO 109 (1197428888933004412310205670155) (416055405213849924341599281972) = true := by kernel_rfl
theorem r110 : rowL fastO 110 (1196146813610439719638244443862) (419727107235858970583351884726) = true := by kernel_rfl
theorem r111 : rowL fastO 111 (1194853479698515614143793365363) (423394858626482627560029706966) = true := by kernel_rfl
theorem r112 : rowL fastO 112 (1193548899370583438046578334433) (427058624863447952198280718716) = true := by kernel_rfl
theorem r113 : rowL fastO 113 (1192233084905850084205471824572) (430718371461991785393410327826) = true := by kernel_rfl
theorem r114 : rowL fastO 114 (1190906048689262419546710120622) (434374063975185335733676123904) = true := by kernel_rfl
theorem r115 : rowL fastO 115 (1189567803211390713227203812975) (438025667994258407113104765891) = true := by kernel_rfl
theorem r116 : rowL fastO 116 (1188218361068311070630160071422) (441673149148923267181077240124) = true := by kernel_rfl
theorem r117 : rowL fastO 117 (1186857734961486874299592706566) (445316473107698153580309296851) = true := by kernel_rfl
theorem r118 : rowL fastO 118 (1185485937697649232929643096149) (448955605578230414928263146722) = true := by kernel_rfl
theorem r119 : rowL fastO 119 (1184102982188676439533971619510) (452590512307619283500464432742) = true := by kernel_rfl
theorem r120 : rowL fastO 120 (1182708881451472439929805217954) (456221159082738276577665055068) = true := by kernel_rfl
theorem r121 : rowL fastO 121 (1181303648607844312680541994152) (459847511730557223422287583370) = true := by kernel_rfl
theorem r122 : rowL fastO 122 (1179887296884378761650118292265) (463469536118463914853110711234) = true := by kernel_rfl
theorem r123 : rowL fastO 123 (1178459839612317622331637374609) (467087198154585372390707456182) = true := by kernel_rfl
theorem r124 : rowL fastO 124 (1177021290227432383122041542928) (470700463788108733949728553845) = true := by kernel_rfl
theorem r125 : rowL fastO 125 (1175571662269897722723881255339) (474309299009601753057732701952) = true := by kernel_rfl
theorem r126 : rowL fastO 126 (1174110969384164064864495376488) (477913669851332908583902945130) = true := by kernel_rfl
theorem r127 : rowL fastO 127 (1172639225318829151532166081222) (481513542387591121964654520794) = true := by kernel_rfl
def t1 : List (Int × Int) := [(1243293049398167358316279903722, 247306363802463555846379077651), (1242528472992971975963943927950, 251119569250872176007979582553), (1241752201436574726092986296831, 254930411066256707390431579268), (1240964242035539138717754453150, 258738853379522633418027130880), (1240164602206439188876874050075, 262544860344160465300131682196), (1239353289475789489014411066430, 266348396136583143030551706801), (1238530311479974446557884027790, 270149424956463220632272681659), (1237695675965176387359922189334, 273947911027069832473851449580), (1236849390787302645680099221585, 277743818595605437485807666828), (1235991463911911621393199257620, 281537111933542338107449522954), (1235121903414137805119893018498, 285327755336958970796689242878), (1234240717478615771985516040981, 289115713126875964937554017375), (1233347914399403144722348696728, 292900949649591966982277937237), (1232443502579902526840498623625, 296683429277019226667070207897), (1231527490532782406602180296469, 300463116407018942142894374481), (1230599886879897032543873654634, 304239975463736360864862470985), (1229660700352205261300523887368, 308013970897935633086146900220), (1228709939789688378495617561979, 311785067187334414804641431644), (1227747614141266893470636175231, 315553228836938217012960950368), (1226773732464716308637046822865, 319318420379374498104757480210), (1225788303926581864243640925355, 323080606375226496292747514239), (1224791337802092259361675728963, 326839751413366798896292795037), (1223782843475072349899909529100, 330595820111290645358853370896), (1222762830437854824471250147238, 334348777115448960858137990002), (1221731308291190858942357042519, 338098587101581117374312658801), (1220688286744159750507150464211, 341845214775047419084193459297), (1219633775614077532134786160791, 345588624871161308951944468856), (1218567784826404568252251265293, 349328782155521293389425830763), (1217490324414652132531325984298, 353065651424342581861990659610), (1216401404520287968659236539309, 356799197504788438318212507581), (1215301035392640834981897354089, 360529385255301241324737540635), (1214189227388804033918204659712, 364256179565933249790197351871), (1213065990973537927053399410597, 367979545358677071164889447262), (1211931336719171436829064579684, 371699447587795829005732850321), (1210785275305502535756860439356, 375415851240153026798835960803), (1209627817519697724092631246874, 379128721335542104934872741557), (1208458974256190496917037749333, 382838022927015687735351470299), (1207278756516578801578382013786, 386543721101214517430777652093), (1206087175409521486462794183782, 390245780978696071994659216348), (1204884242150633742066444774542, 393944167714262863740277791331), (1203669968062381535353930956149, 397638846497290415590154631644), (1202444364573975038396460848041, 401329782552054911931173641447), (1201207443221261052292926069672, 405016941138060520971386859958), (1199959215646614427386409572301, 408700287550366385517619727018), (1198699693598828480798123026495, 412379787119913279096114396232), (1197428888933004412310205670155, 416055405213849924341599281972), (1196146813610439719638244443862, 419727107235858970583351884726), (1194853479698515614143793365363, 423394858626482627560029706966), (1193548899370583438046578334433, 427058624863447952198280718716), (1192233084905850084205471824572, 430718371461991785393410327826), (1190906048689262419546710120622, 434374063975185335733676123904), (1189567803211390713227203812975, 438025667994258407113104765891), (1188218361068311070630160071422, 441673149148923267181077240124), (1186857734961486874299592706566, 445316473107698153580309296851), (1185485937697649232929643096149, 448955605578230414928263146722), (1184102982188676439533971619510, 452590512307619283500464432742), (1182708881451472439929805217954, 456221159082738276577665055068), (1181303648607844312680541994152, 459847511730557223422287583370), (1179887296884378761650118292265, 463469536118463914853110711234), (1178459839612317622331637374609, 467087198154585372390707456182), (1177021290227432383122041542928, 470700463788108733949728553845), (1175571662269897722723881255339, 474309299009601753057732701952), (1174110969384164064864495376488, 477913669851332908583902945130), (1172639225318829151532166081222, 481513542387591121964654520794)]
theorem b1 : rowsB fastO 64 t1 = true := (and_t r64 (and_t r65 (and_t r66 (and_t r67 (and_t r68 (and_t r69 (and_t r70 (and_t r71 (and_t r72 (and_t r73 (and_t r74 (and_t r75 (and_t r76 (and_t r77 (and_t r78 (and_t r79 (and_t r80 (and_t r81 (and_t r82 (and_t r83 (and_t r84 (and_t r85 (and_t r86 (and_t r87 (and_t r88 (and_t r89 (and_t r90 (and_t r91 (and_t r92 (and_t r93 (and_t r94 (and_t r95 (and_t r96 (and_t r97 (and_t r98 (and_t r99 (and_t r100 (and_t r101 (and_t r102 (and_t r103 (and_t r104 (and_t r105 (and_t r106 (and_t r107 (and_t r108 (and_t r109 (and_t r110 (and_t r111 (and_t r112 (and_t r113 (and_t r114 (and_t r115 (and_t r116 (and_t r117 (and_t r118 (and_t r119 (and_t r120 (and_t r121 (and_t r122 (and_t r123 (and_t r124 (and_t r125 (and_t r126 (and_t r127 rfl))))))))))))))))))))))))))))))))))))))))))))))))))))))))))))))))
theorem s1 : stepB (1244045923455676560318557087747) (243490830612372777688160768116) t1 = true := by kernel_rfl
theorem r128 : rowL fastO 128 (1171156443926508635938050024125) (485108882735005078916833875150) = true := by kernel_rfl
theorem r129 : rowL fastO 129 (1169662639163705696421914101584) (488699657052862152632931271757) = true := by kernel_rfl
theorem r130 : rowL fastO 130 (1168157825090679672528919382844) (492285831543426925456480418158) = true := by kernel_rfl
theorem r131 : rowL fastO 131 (1166642015871313724493900484999) (495867372452259306039597793473) = true := by kernel_rfl
theorem r132 : rowL fastO 132 (1165115225772981517378779727459) (499444246068532238988421836039) = true := by kernel_rfl
theorem r133 : rowL fastO 133 (1163577469166412931117935737585) (503016418725349004006047809231) = true := by kernel_rfl
theorem r134 : rowL fastO 134 (1162028760525558797735514704499) (506583856800060101546417969534) = true := by kernel_rfl
theorem r135 : rowL fastO 135 (1160469114427454667007829106243) (510146526714579721996518577297) = true := by kernel_rfl
theorem r136 : rowL fastO 136 (1158898545552083601853133380328) (513704394935701795408155280774) = true := by kernel_rfl
theorem r137 : rowL fastO 137 (1157317068682238004740198583151) (517257427975415618804526431194) = true := by kernel_rfl
theorem r138 : rowL fastO 138 (1155724698703380476416228503863) (520805592391221058090789913459) = true := by kernel_rfl
theorem r139 : rowL fastO 139 (1154121450603503708263767877181) (524348854786443321601823066317) = true := by kernel_rfl
theorem r140 : rowL fastO 140 (1152507339472989409605349191575) (527887181810547302324407179719) = true := by kernel_rfl
theorem r141 : rowL fastO 141 (1150882380504466271283708028712) (531420540159451485835127857664) = true := by kernel_rfl
theorem r142 : rowL fastO 142 (1149246588992666966854467811399) (534948896575841420999370183910) = true := by kernel_rfl
theorem r143 : rowL fastO 143 (1147599980334284192737253195249) (538472217849482750480903087024) = true := by kernel_rfl
theorem r144 : rowL fastO 144 (1145942570027825748680237028548) (541990470817533798115690531633) = true := by kernel_rfl
theorem r145 : rowL fastO 145 (1144274373673468659902158740279) (545503622364857710207738125392) = true := by kernel_rfl
theorem r146 : rowL fastO 146 (1142595406972912342284872112870) (549011639424334147808982386883) = true := by kernel_rfl
theorem r147 : rowL fastO 147 (1140905685729230811998487569094) (552514488977170527049456228844) = true := by kernel_rfl
theorem r148 : rowL fastO 148 (1139205225846723940950168266896) (556012138053212804588218134074) = true := by kernel_rfl
theorem r149 : rowL fastO 149 (1137494043330767759456620367105) (559504553731255805259813997944) = true := by kernel_rfl
theorem r150 : rowL fastO 150 (1135772154287663807549285732413) (562991703139353088995349641468) = true := by kernel_rfl
theorem r151 : rowL fastO 151 (1134039574924487536330199947361) (566473553455126354101588521702) = true := by kernel_rfl
theorem r152 : rowL fastO 152 (1132296321548935760805419833983) (569950071906074373985853141096) = true := by kernel_rfl
theorem r153 : rowL fastO 153 (1130542410569173165631852492114) (573421225769881464418900043191) = true := by kernel_rfl
theorem r154 : rowL fastO 154 (1128777858493677865222232233139) (576886982374725478432357037454) = true := by kernel_rfl
theorem r155 : rowL fastO 155 (1127002681931086019661892517209) (580347309099585325951757379435) = true := by kernel_rfl
theorem r156 : rowL fastO 156 (1125216897590035507899867062935) (583802173374548015270679001993) = true := by kernel_rfl
theorem r157 : rowL fastO 157 (1123420522279008659685727591610) (587251542681115213475997506974) = true := by kernel_rfl
theorem r158 : rowL fastO 158 (1121613572906174047732425111617) (590695384552509322938789442031) = true := by kernel_rfl
theorem r159 : rowL fastO 159 (1119796066479227341594247159448) (594133666573979070989977361697) = true := by kernel_rfl
theorem r160 : rowL fastO 160 (1117968020105231224757834908425) (597566356383104609904390262426) = true := by kernel_rfl
theorem r161 : rowL fastO 161 (1116129450990454376453021451671) (600993421670102124321522145008) = true := by kernel_rfl
theorem r162 : rowL fastO 162 (1114280376440209519699055779121) (604414830178127943235907651160) = true := by kernel_rfl
theorem r163 : rowL fastO 163 (1112420813858690537110565916541) (607830549703582153694696900539) = true := by kernel_rfl
theorem r164 : rowL fastO 164 (1110550780748808655996389294880) (611240548096411713344701776029) = true := by kernel_rfl
theorem r165 : rowL fastO 165 (1108670294712027704293158588300) (614644793260413058975902924811) = true := by kernel_rfl
theorem r166 : rowL fastO 166 (1106779373448198438884276916358) (618043253153534208213150615965) = true := by kernel_rfl
theorem r167 : rowL fastO 167 (1104878034755391947863647367815) (621435895788176351512563277598) = true := by kernel_rfl
theorem r168 : rowL fastO 168 (1102966296529732128312238188214) (624822689231494931623924982784) = true := by kernel_rfl
theorem r169 : rowL fastO 169 (1101044176765227241164266598635) (628203601605700207685207318835) = true := by kernel_rfl
theorem r170 : rowL fastO 170 (1099111693553600544748470997046) (631578601088357301120191913117) = true := by kernel_rfl
theorem r171 : rowL fastO 171 (1097168865084120008598613154606) (634947655912685720515047355223) = true := by kernel_rfl
theorem r172 : rowL fastO 172 (1095215709643427109136008875581) (638310734367858362654618303804) = true := by kernel_rfl
theorem r173 : rowL fastO 173 (1093252245615364708835527359649) (641667804799299986904115150672) = true := by kernel_rfl
theorem r174 : rowL fastO 174 (1091278491480804020495126108025) (645018835608985160126849688431) = true := by kernel_rfl
theorem r175 : rowL fastO 175 (1089294465817470658237599568803) (648363795255735669333645744289) = true := by kernel_rfl
theorem r176 : rowL fastO 176 (1087300187299769776881815741115) (651702652255517399264563654893) = true := by kernel_rfl
theorem r177 : rowL fastO 177 (1085295674698610301329295571298) (655035375181736672108613717856) = true := by kernel_rfl
theorem r178 : rowL fastO 178 (1083280946881228247620555096403) (658361932665536046572196317748) = true := by kernel_rfl
theorem r179 : rowL fastO 179 (1081256022811009137324179840522) (661682293396089573512095240015) = true := by kernel_rfl
theorem r180 : rowL fastO 180 (1079220921547309506930134867021) (664996426120897505353965707670) = true := by kernel_rfl
theorem r181 : rowL fastO 181 (1077175662245277513927332054582) (668304299646080456522399854558) = true := by kernel_rfl
theorem r182 : rowL fastO 182 (1075120264155672641253978516739) (671605882836673012113819637110) = true := by kernel_rfl
theorem r183 : rowL fastO 183 (1073054746624684501817716543373) (674901144616916782048640535141) = true := by kernel_rfl
theorem r184 : rowL fastO 184 (1070979129093750744791035928476) (678190053970552897944368752540) = true := by kernel_rfl
theorem r185 : rowL fastO 185 (1068893431099374065395893981727) (681472579941113949956539951510) = true := by kernel_rfl
theorem r186 : rowL fastO 186 (1066797672272938319899916822436) (684748691632215360839678789989) = true := by kernel_rfl
theorem r187 : rowL fastO 187 (1064691872340523747554977643771) (688018358207846194485755631360) = true := by kernel_rfl
theorem r188 : rowL fastO 188 (1062576051122721301217353433675) (691281548892659396202939708757) = true := by kernel_rfl
theorem r189 : rowL fastO 189 (1060450228534446088397051067291) (694538232972261462002796703003) = true := by kernel_rfl
theorem r190 : rowL fastO 190 (1058314424584749924492266665194) (697788379793501534169453083214) = true := by kernel_rfl
theorem r191 : rowL fastO 191 (1056168659376632999973298563343) (701031958764759920389649611719) = true := by kernel_rfl
def t2 : List (Int × Int) := [(1171156443926508635938050024125, 485108882735005078916833875150), (1169662639163705696421914101584, 488699657052862152632931271757), (1168157825090679672528919382844, 492285831543426925456480418158), (1166642015871313724493900484999, 495867372452259306039597793473), (1165115225772981517378779727459, 499444246068532238988421836039), (1163577469166412931117935737585, 503016418725349004006047809231), (1162028760525558797735514704499, 506583856800060101546417969534), (1160469114427454667007829106243, 510146526714579721996518577297), (1158898545552083601853133380328, 513704394935701795408155280774), (1157317068682238004740198583151, 517257427975415618804526431194), (1155724698703380476416228503863, 520805592391221058090789913459), (1154121450603503708263767877181, 524348854786443321601823066317), (1152507339472989409605349191575, 527887181810547302324407179719), (1150882380504466271283708028712, 531420540159451485835127857664), (1149246588992666966854467811399, 534948896575841420999370183910), (1147599980334284192737253195249, 538472217849482750480903087024), (1145942570027825748680237028548, 541990470817533798115690531633), (1144274373673468659902158740279, 545503622364857710207738125392), (1142595406972912342284872112870, 549011639424334147808982386883), (1140905685729230811998487569094, 552514488977170527049456228844), (1139205225846723940950168266896, 556012138053212804588218134074), (1137494043330767759456620367105, 559504553731255805259813997944), (1135772154287663807549285732413, 562991703139353088995349641468), (1134039574924487536330199947361, 566473553455126354101588521702), (1132296321548935760805419833983, 569950071906074373985853141096), (1130542410569173165631852492114, 573421225769881464418900043191), (1128777858493677865222232233139, 576886982374725478432357037454), (1127002681931086019661892517209, 580347309099585325951757379435), (1125216897590035507899867062935, 583802173374548015270679001993), (1123420522279008659685727591610, 587251542681115213475997506974), (1121613572906174047732425111617, 590695384552509322938789442031), (1119796066479227341594247159448, 594133666573979070989977361697), (1117968020105231224757834908425, 597566356383104609904390262426), (1116129450990454376453021451671, 600993421670102124321522145008), (1114280376440209519699055779121, 604414830178127943235907651160), (1112420813858690537110565916541, 607830549703582153694696900539), (1110550780748808655996389294880, 611240548096411713344701776029), (1108670294712027704293158588300, 614644793260413058975902924811), (1106779373448198438884276916358, 618043253153534208213150615965), (1104878034755391947863647367815, 621435895788176351512563277598), (1102966296529732128312238188214, 624822689231494931623924982784), (1101044176765227241164266598635, 628203601605700207685207318835), (1099111693553600544748470997046, 631578601088357301120191913117), (1097168865084120008598613154606, 634947655912685720515047355223), (1095215709643427109136008875581, 638310734367858362654618303804), (1093252245615364708835527359649, 641667804799299986904115150672), (1091278491480804020495126108025, 645018835608985160126849688431), (1089294465817470658237599568803, 648363795255735669333645744289), (1087300187299769776881815741115, 651702652255517399264563654893), (1085295674698610301329295571298, 655035375181736672108613717856), (1083280946881228247620555096403, 658361932665536046572196317748), (1081256022811009137324179840522, 661682293396089573512095240015), (1079220921547309506930134867021, 664996426120897505353965707670), (1077175662245277513927332054582, 668304299646080456522399854558), (1075120264155672641253978516739, 671605882836673012113819637110), (1073054746624684501817716543373, 674901144616916782048640535141), (1070979129093750744791035928476, 678190053970552897944368752540), (1068893431099374065395893981727, 681472579941113949956539951510), (1066797672272938319899916822436, 684748691632215360839678789989), (1064691872340523747554977643771, 688018358207846194485755631360), (1062576051122721301217353433675, 691281548892659396202939708757), (1060450228534446088397051067291, 694538232972261462002796703003), (1058314424584749924492266665194, 697788379793501534169453083214), (1056168659376632999973298563343, 701031958764759920389649611719)]
theorem b2 : rowsB fastO 128 t2 = true := (and_t r128 (and_t r129 (and_t r130 (and_t r131 (and_t r132 (and_t r133 (and_t r134 (and_t r135 (and_t r136 (and_t r137 (and_t r138 (and_t r139 (and_t r140 (and_t r141 (and_t r142 (and_t r143 (and_t r144 (and_t r145 (and_t r146 (and_t r147 (and_t r148 (and_t r149 (and_t r150 (and_t r151 (and_t r152 (and_t r153 (and_t r154 (and_t r155 (and_t r156 (and_t r157 (and_t r158 (and_t r159 (and_t r160 (and_t r161 (and_t r162 (and_t r163 (and_t r164 (and_t r165 (and_t r166 (and_t r167 (and_t r168 (and_t r169 (and_t r170 (and_t r171 (and_t r172 (and_t r173 (and_t r174 (and_t r175 (and_t r176 (and_t r177 (and_t r178 (and_t r179 (and_t r180 (and_t r181 (and_t r182 (and_t r183 (and_t r184 (and_t r185 (and_t r186 (and_t r187 (and_t r188 (and_t r189 (and_t r190 (and_t r191 rfl))))))))))))))))))))))))))))))))))))))))))))))))))))))))))))))))
theorem s2 : stepB (1172639225318829151532166081222) (481513542387591121964654520794) t2 = true := by kernel_rfl
theorem r192 : rowL fastO 192 (1054012953106854663288574085890) (704268939356236033728032079398) = true := by kernel_rfl
theorem r193 : rowL fastO 193 (1051847326065743321273773472198) (707499291100235750737478562744) = true := by kernel_rfl
theorem r194 : rowL fastO 194 (1049671798637005458853340706386) (710722983591458184999739228573) = true := by kernel_rfl
theorem r195 : rowL fastO 195 (1047486391297533779831960553175) (713939986487281873397166904862) = true := by kernel_rfl
theorem r196 : rowL fastO 196 (1045291124617214470581853739784) (717150269508050372421844234806) = true := by kernel_rfl
theorem r197 : rowL fastO 197 (1043086019258733588439997862231) (720353802437357261833966183911) = true := by kernel_rfl
theorem r198 : rowL fastO 198 (1040871095977382576637620157912) (723550555122330552986914924446) = true := by kernel_rfl
theorem r199 : rowL fastO 199 (1038646375620862907592529697265) (726740497473916499142067625411) = true := by kernel_rfl
theorem r200 : rowL fastO 200 (1036411879129089856403060728229) (729923599467162805102006376547) = true := by kernel_rfl
theorem r201 : rowL fastO 201 (1034167627533995406390585780906) (733099831141501233496453318905) = true := by kernel_rfl
theorem r202 : rowL fastO 202 (1031913641959330288545726629261) (736269162601029605060932988796) = true := by kernel_rfl
theorem r203 : rowL fastO 203 (1029649943620465156741543234926) (739431564014793190253867853214) = true := by kernel_rfl
theorem r204 : rowL fastO 204 (1027376553824190900585115288540) (742587005617065489563541969296) = true := by kernel_rfl
theorem r205 : rowL fastO 205 (1025093493968518097787047839909) (745735457707628399862121584142) = true := by kernel_rfl
theorem r206 : rowL fastO 206 (1022800785542475607936531693309) (748876890652051764169700250264) = true := by kernel_rfl
theorem r207 : rowL fastO 207 (1020498450125908309577670662136) (752011274881972302197139611596) = true := by kernel_rfl
theorem r208 : rowL fastO 208 (1018186509389273982490851351886) (755138580895371919042305360801) = true := by kernel_rfl
theorem r209 : rowL fastO 209 (1015864985093439337090976796110) (758258779256855389420150925693) = true := by kernel_rfl
theorem r210 : rowL fastO 210 (1013533899089475192862412930901) (761371840597927414812979155830) = true := by kernel_rfl
theorem r211 : rowL fastO 211 (1011193273318450807758506484006) (764477735617269050933114594457) = true := by kernel_rfl
theorem r212 : rowL fastO 212 (1008843129811227360501524299467) (767576435081013502896145780370) = true := by kernel_rfl
theorem r213 : rowL fastO 213 (1006483490688250587726837342550) (770667909823021285508848373201) = true := by kernel_rfl
theorem r214 : rowL fastO 214 (1004114378159342577923127557550) (773752130745154746081875678041) = true := by kernel_rfl
theorem r215 : rowL fastO 215 (1001735814523492724128332308044) (776829068817551947183303304989) = true := by kernel_rfl
theorem r216 : rowL fastO 216 (999347822168647837348959240534) (779898695078899906755139179655) = true := by kernel_rfl
theorem r217 : rowL fastO 217 (996950423571501422678304003705) (782960980636707193020958865170) = true := by kernel_rfl
theorem r218 : rowL fastO 218 (994543641297282120096984252323) (786015896667575871618899107911) = true := by kernel_rfl
theorem r219 : rowL fastO 219 (992127497999541311947065692979) (789063414417472802400339620770) = true := by kernel_rfl
theorem r220 : rowL fastO 220 (989702016419939899078899514398) (792103505202000283340724312025) = true := by kernel_rfl
theorem r221 : rowL fastO 221 (987267219388034247677615314082) (795136140406666039015118397075) = true := by kernel_rfl
theorem r222 : rowL fastO 222 (984823129821061308784019511987) (798161291487152551097267036599) = true := by kernel_rfl
theorem r223 : rowL fastO 223 (982369770723722912532436157268) (801178929969585728347114270128) = true := by kernel_rfl
theorem r224 : rowL fastO 224 (979907165187969239135794912562) (804189027450802913557958000150) = true := by kernel_rfl
theorem r225 : rowL fastO 225 (977435336392781468656019768736) (807191555598620224940657570323) = true := by kernel_rfl
theorem r226 : rowL fastO 226 (974954307603953611605501628520) (810186486152099229428575013282) = true := by kernel_rfl
theorem r227 : rowL fastO 227 (972464102173873522433148227274) (813173790921812945393219260034) = true := by kernel_rfl
theorem r228 : rowL fastO 228 (969964743541303097956195860688) (816153441790111172266874444791) = true := by kernel_rfl
theorem r229 : rowL fastO 229 (967456255231157662806638990113) (819125410711385144574828846891) = true := by kernel_rfl
theorem r230 : rowL fastO 230 (964938660854284543968785924264) (822089669712331507886179925606) = true := by kernel_rfl
theorem r231 : rowL fastO 231 (962411984107240836492081359191) (825046190892215614198573264234) = true := by kernel_rfl
theorem r232 : rowL fastO 232 (959876248772070362470949524838) (827994946423134134278638986882) = true := by kernel_rfl
theorem r233 : rowL fastO 233 (957331478716079825391004964557) (830935908550276984486318284461) = true := by kernel_rfl
theorem r234 : rowL fastO 234 (954777697891614161948551492132) (833869049592188565617725025109) = true := by kernel_rfl
theorem r235 : rowL fastO 235 (952214930335831093457843557929) (836794341941028311307662967835) = true := by kernel_rfl
theorem r236 : rowL fastO 236 (949643200170474878968118040585) (839711758062830543539417785634) = true := by kernel_rfl
theorem r237 : rowL fastO 237 (947062531601649272219918292338) (842621270497763632815964874558) = true := by kernel_rfl
theorem r238 : rowL fastO 238 (944472948919589684577726033883) (845522851860388460553278716783) = true := by kernel_rfl
theorem r239 : rowL fastO 239 (941874476498434556083390348036) (848416474839916181262997317051) = true := by kernel_rfl
theorem r240 : rowL fastO 240 (939267138795995936782296490130) (851302112200465282098285881127) = true := by kernel_rfl
theorem r241 : rowL fastO 241 (936650960353529280481650446810) (854179736781317937343357390076) = true := by kernel_rfl
theorem r242 : rowL fastO 242 (934025965795502453107668063760) (857049321497175655433743982981) = true := by kernel_rfl
theorem r243 : rowL fastO 243 (931392179829363957835850057117) (859910839338414216101072030746) = true := by kernel_rfl
theorem r244 : rowL fastO 244 (928749627245310379175896253348) (862764263371337895242775402144) = true := by kernel_rfl
theorem r245 : rowL fastO 245 (926098332916053048200163898752) (865609566738432975123885627421) = true := by kernel_rfl
theorem r246 : rowL fastO 246 (923438321796583931111905773330) (868446722658620537524764391439) = true := by kernel_rfl
theorem r247 : rowL fastO 247 (920769618923940743356834065568) (871275704427508537455392974230) = true := by kernel_rfl
theorem r248 : rowL fastO 248 (918092249416971291488845445826) (874096485417643155063604838379) = true := by kernel_rfl
theorem r249 : rowL fastO 249 (915406238476097045008011447976) (876909039078759423371441476161) = true := by kernel_rfl
theorem r250 : rowL fastO 250 (912711611383075940396186063243) (879713338938031129480627810879) = true := by kernel_rfl
theorem r251 : rowL fastO 251 (910008393500764419582809298629) (882509358600319986895001832162) = true := by kernel_rfl
theorem r252 : rowL fastO 252 (907296610272878705080691286877) (885297071748424076614593669837) = true := by kernel_rfl
theorem r253 : rowL fastO 253 (904576287223755314038746287771) (888076452143325554662931910681) = true := by kernel_rfl
theorem r254 : rowL fastO 254 (901847449958110813465809524115) (890847473624437623716059572222) = true := by kernel_rfl
theorem r255 : rowL fastO 255 (899110124160800818886812182471) (893610110109850766508668702724) = true := by kernel_rfl
def t3 : List (Int × Int) := [(1054012953106854663288574085890, 704268939356236033728032079398), (1051847326065743321273773472198, 707499291100235750737478562744), (1049671798637005458853340706386, 710722983591458184999739228573), (1047486391297533779831960553175, 713939986487281873397166904862), (1045291124617214470581853739784, 717150269508050372421844234806), (1043086019258733588439997862231, 720353802437357261833966183911), (1040871095977382576637620157912, 723550555122330552986914924446), (1038646375620862907592529697265, 726740497473916499142067625411), (1036411879129089856403060728229, 729923599467162805102006376547), (1034167627533995406390585780906, 733099831141501233496453318905), (1031913641959330288545726629261, 736269162601029605060932988796), (1029649943620465156741543234926, 739431564014793190253867853214), (1027376553824190900585115288540, 742587005617065489563541969296), (1025093493968518097787047839909, 745735457707628399862121584142), (1022800785542475607936531693309, 748876890652051764169700250264), (1020498450125908309577670662136, 752011274881972302197139611596), (1018186509389273982490851351886, 755138580895371919042305360801), (1015864985093439337090976796110, 758258779256855389420150925693), (1013533899089475192862412930901, 761371840597927414812979155830), (1011193273318450807758506484006, 764477735617269050933114594457), (1008843129811227360501524299467, 767576435081013502896145780370), (1006483490688250587726837342550, 770667909823021285508848373201), (1004114378159342577923127557550, 773752130745154746081875678041), (1001735814523492724128332308044, 776829068817551947183303304989), (999347822168647837348959240534, 779898695078899906755139179655), (996950423571501422678304003705, 782960980636707193020958865170), (994543641297282120096984252323, 786015896667575871618899107911), (992127497999541311947065692979, 789063414417472802400339620770), (989702016419939899078899514398, 792103505202000283340724312025), (987267219388034247677615314082, 795136140406666039015118397075), (984823129821061308784019511987, 798161291487152551097267036599), (982369770723722912532436157268, 801178929969585728347114270128), (979907165187969239135794912562, 804189027450802913557958000150), (977435336392781468656019768736, 807191555598620224940657570323), (974954307603953611605501628520, 810186486152099229428575013282), (972464102173873522433148227274, 813173790921812945393219260034), (969964743541303097956195860688, 816153441790111172266874444791), (967456255231157662806638990113, 819125410711385144574828846891), (964938660854284543968785924264, 822089669712331507886179925606), (962411984107240836492081359191, 825046190892215614198573264234), (959876248772070362470949524838, 827994946423134134278638986882), (957331478716079825391004964557, 830935908550276984486318284461), (954777697891614161948551492132, 833869049592188565617725025109), (952214930335831093457843557929, 836794341941028311307662967835), (949643200170474878968118040585, 839711758062830543539417785634), (947062531601649272219918292338, 842621270497763632815964874558), (944472948919589684577726033883, 845522851860388460553278716783), (941874476498434556083390348036, 848416474839916181262997317051), (939267138795995936782296490130, 851302112200465282098285881127), (936650960353529280481650446810, 854179736781317937343357390076), (934025965795502453107668063760, 857049321497175655433743982981), (931392179829363957835850057117, 859910839338414216101072030746), (928749627245310379175896253348, 862764263371337895242775402144), (926098332916053048200163898752, 865609566738432975123885627421), (923438321796583931111905773330, 868446722658620537524764391439), (920769618923940743356834065568, 871275704427508537455392974230), (918092249416971291488845445826, 874096485417643155063604838379), (915406238476097045008011447976, 876909039078759423371441476161), (912711611383075940396186063243, 879713338938031129480627810879), (910008393500764419582809298629, 882509358600319986895001832162), (907296610272878705080691286877, 885297071748424076614593669837), (904576287223755314038746287771, 888076452143325554662931910681), (901847449958110813465809524115, 890847473624437623716059572222), (899110124160800818886812182471, 893610110109850766508668702724)]
theorem b3 : rowsB fastO 192 t3 = true := (and_t r192 (and_t r193 (and_t r194 (and_t r195 (and_t r196 (and_t r197 (and_t r198 (and_t r199 (and_t r200 (and_t r201 (and_t r202 (and_t r203 (and_t r204 (and_t r205 (and_t r206 (and_t r207 (and_t r208 (and_t r209 (and_t r210 (and_t r211 (and_t r212 (and_t r213 (and_t r214 (and_t r215 (and_t r216 (and_t r217 (and_t r218 (and_t r219 (and_t r220 (and_t r221 (and_t r222 (and_t r223 (and_t r224 (and_t r225 (and_t r226 (and_t r227 (and_t r228 (and_t r229 (and_t r230 (and_t r231 (and_t r232 (and_t r233 (and_t r234 (and_t r235 (and_t r236 (and_t r237 (and_t r238 (and_t r239 (and_t r240 (and_t r241 (and_t r242 (and_t r243 (and_t r244 (and_t r245 (and_t r246 (and_t r247 (and_t r248 (and_t r249 (and_t r250 (and_t r251 (and_t r252 (and_t r253 (and_t r254 (and_t r255 rfl))))))))))))))))))))))))))))))))))))))))))))))))))))))))))))))))
theorem s3 : stepB (1056168659376632999973298563343) (701031958764759920389649611719) t3 = true := by kernel_rfl
end Go.Proofs.YtbdnkneedengcaaDoor.Ie.Tw

/- The table of factors, row by row, part 2 (printed by twid.py). Conditions: none. -/
set_option linter.unusedSimpArgs false
set_option linter.unusedVariables false
set_option maxRecDepth 100000
namespace Go.Proofs.YtbdnkneedengcaaDoor.Ie.Tw
theorem r256 : rowL fastO 256 (896364335596578238699711011546) (896364335596578238699711011396) = true := by kernel_rfl
theorem r257 : rowL fastO 257 (893610110109850766508668702874) (899110124160800818886812182320) = true := by kernel_rfl
theorem r258 : rowL fastO 258 (890847473624437623716059572371) (901847449958110813465809523963) = true := by kernel_rfl
theorem r259 : rowL fastO 259 (888076452143325554662931910829) (904576287223755314038746287618) = true := by kernel_rfl
theorem r260 : rowL fastO 260 (885297071748424076614593669985) (907296610272878705080691286723) = true := by kernel_rfl
theorem r261 : rowL fastO 261 (882509358600319986895001832310) (910008393500764419582809298475) = true := by kernel_rfl
theorem r262 : rowL fastO 262 (879713338938031129480627811026) (912711611383075940396186063088) = true := by kernel_rfl
theorem r263 : rowL fastO 263 (876909039078759423371441476308) (915406238476097045008011447821) = true := by kernel_rfl
theorem r264 : rowL fastO 264 (874096485417643155063604838525) (918092249416971291488845445670) = true := by kernel_rfl
theorem r265 : rowL fastO 265 (871275704427508537455392974375) (920769618923940743356834065411) = true := by kernel_rfl
theorem r266 : rowL fastO 266 (868446722658620537524764391583) (923438321796583931111905773172) = true := by kernel_rfl
theorem r267 : rowL fastO 267 (865609566738432975123885627564) (926098332916053048200163898593) = true := by kernel_rfl
theorem r268 : rowL fastO 268 (862764263371337895242775402287) (928749627245310379175896253189) = true := by kernel_rfl
theorem r269 : rowL fastO 269 (859910839338414216101072030888) (931392179829363957835850056957) = true := by kernel_rfl
theorem r270 : rowL fastO 270 (857049321497175655433743983122) (934025965795502453107668063599) = true := by kernel_rfl
theorem r271 : rowL fastO 271 (854179736781317937343357390217) (936650960353529280481650446648) = true := by kernel_rfl
theorem r272 : rowL fastO 272 (851302112200465282098285881268) (939267138795995936782296489967) = true := by kernel_rfl
theorem r273 : rowL fastO 273 (848416474839916181262997317191) (941874476498434556083390347872) = true := by kernel_rfl
theorem r274 : rowL fastO 274 (845522851860388460553278716922) (944472948919589684577726033718) = true := by kernel_rfl
theorem r275 : rowL fastO 275 (842621270497763632815964874696) (947062531601649272219918292172) = true := by kernel_rfl
theorem r276 : rowL fastO 276 (839711758062830543539417785771) (949643200170474878968118040418) = true := by kernel_rfl
theorem r277 : rowL fastO 277 (836794341941028311307662967971) (952214930335831093457843557761) = true := by kernel_rfl
theorem r278 : rowL fastO 278 (833869049592188565617725025245) (954777697891614161948551491963) = true := by kernel_rfl
theorem r279 : rowL fastO 279 (830935908550276984486318284597) (957331478716079825391004964387) = true := by kernel_rfl
theorem r280 : rowL fastO 280 (827994946423134134278638987018) (959876248772070362470949524667) = true := by kernel_rfl
theorem r281 : rowL fastO 281 (825046190892215614198573264369) (962411984107240836492081359019) = true := by kernel_rfl
theorem r282 : rowL fastO 282 (822089669712331507886179925740) (964938660854284543968785924091) = true := by kernel_rfl
theorem r283 : rowL fastO 283 (819125410711385144574828847024) (967456255231157662806638989939) = true := by kernel_rfl
theorem r284 : rowL fastO 284 (816153441790111172266874444923) (969964743541303097956195860513) = true := by kernel_rfl
theorem r285 : rowL fastO 285 (813173790921812945393219260166) (972464102173873522433148227098) = true := by kernel_rfl
theorem r286 : rowL fastO 286 (810186486152099229428575013414) (974954307603953611605501628343) = true := by kernel_rfl
theorem r287 : rowL fastO 287 (807191555598620224940657570455) (977435336392781468656019768558) = true := by kernel_rfl
theorem r288 : rowL fastO 288 (804189027450802913557958000281) (979907165187969239135794912383) = true := by kernel_rfl
theorem r289 : rowL fastO 289 (801178929969585728347114270258) (982369770723722912532436157088) = true := by kernel_rfl
theorem r290 : rowL fastO 290 (798161291487152551097267036728) (984823129821061308784019511806) = true := by kernel_rfl
theorem r291 : rowL fastO 291 (795136140406666039015118397203) (987267219388034247677615313900) = true := by kernel_rfl
theorem r292 : rowL fastO 292 (792103505202000283340724312152) (989702016419939899078899514215) = true := by kernel_rfl
theorem r293 : rowL fastO 293 (789063414417472802400339620896) (992127497999541311947065692795) = true := by kernel_rfl
theorem r294 : rowL fastO 294 (786015896667575871618899108037) (994543641297282120096984252137) = true := by kernel_rfl
theorem r295 : rowL fastO 295 (782960980636707193020958865295) (996950423571501422678304003518) = true := by kernel_rfl
theorem r296 : rowL fastO 296 (779898695078899906755139179779) (999347822168647837348959240346) = true := by kernel_rfl
theorem r297 : rowL fastO 297 (776829068817551947183303305113) (1001735814523492724128332307855) = true := by kernel_rfl
theorem r298 : rowL fastO 298 (773752130745154746081875678164) (1004114378159342577923127557360) = true := by kernel_rfl
theorem r299 : rowL fastO 299 (770667909823021285508848373323) (1006483490688250587726837342359) = true := by kernel_rfl
theorem r300 : rowL fastO 300 (767576435081013502896145780492) (1008843129811227360501524299275) = true := by kernel_rfl
theorem r301 : rowL fastO 301 (764477735617269050933114594579) (1011193273318450807758506483813) = true := by kernel_rfl
theorem r302 : rowL fastO 302 (761371840597927414812979155952) (1013533899089475192862412930707) = true := by kernel_rfl
theorem r303 : rowL fastO 303 (758258779256855389420150925814) (1015864985093439337090976795915) = true := by kernel_rfl
theorem r304 : rowL fastO 304 (755138580895371919042305360922) (1018186509389273982490851351690) = true := by kernel_rfl
theorem r305 : rowL fastO 305 (752011274881972302197139611716) (1020498450125908309577670661939) = true := by kernel_rfl
theorem r306 : rowL fastO 306 (748876890652051764169700250384) (1022800785542475607936531693111) = true := by kernel_rfl
theorem r307 : rowL fastO 307 (745735457707628399862121584261) (1025093493968518097787047839710) = true := by kernel_rfl
theorem r308 : rowL fastO 308 (742587005617065489563541969414) (1027376553824190900585115288340) = true := by kernel_rfl
theorem r309 : rowL fastO 309 (739431564014793190253867853331) (1029649943620465156741543234725) = true := by kernel_rfl
theorem r310 : rowL fastO 310 (736269162601029605060932988912) (1031913641959330288545726629059) = true := by kernel_rfl
theorem r311 : rowL fastO 311 (733099831141501233496453319021) (1034167627533995406390585780703) = true := by kernel_rfl
theorem r312 : rowL fastO 312 (729923599467162805102006376662) (1036411879129089856403060728025) = true := by kernel_rfl
theorem r313 : rowL fastO 313 (726740497473916499142067625525) (1038646375620862907592529697060) = true := by kernel_rfl
theorem r314 : rowL fastO 314 (723550555122330552986914924560) (1040871095977382576637620157706) = true := by kernel_rfl
theorem r315 : rowL fastO 315 (720353802437357261833966184025) (1043086019258733588439997862024) = true := by kernel_rfl
theorem r316 : rowL fastO 316 (717150269508050372421844234920) (1045291124617214470581853739576) = true := by kernel_rfl
theorem r317 : rowL fastO 317 (713939986487281873397166904976) (1047486391297533779831960552966) = true := by kernel_rfl
theorem r318 : rowL fastO 318 (710722983591458184999739228687) (1049671798637005458853340706176) = true := by kernel_rfl
theorem r319 : rowL fastO 319 (707499291100235750737478562857) (1051847326065743321273773471987) = true := by kernel_rfl
def t4 : List (Int × Int) := [(896364335596578238699711011546, 896364335596578238699711011396), (893610110109850766508668702874, 899110124160800818886812182320), (890847473624437623716059572371, 901847449958110813465809523963), (888076452143325554662931910829, 904576287223755314038746287618), (885297071748424076614593669985, 907296610272878705080691286723), (882509358600319986895001832310, 910008393500764419582809298475), (879713338938031129480627811026, 912711611383075940396186063088), (876909039078759423371441476308, 915406238476097045008011447821), (874096485417643155063604838525, 918092249416971291488845445670), (871275704427508537455392974375, 920769618923940743356834065411), (868446722658620537524764391583, 923438321796583931111905773172), (865609566738432975123885627564, 926098332916053048200163898593), (862764263371337895242775402287, 928749627245310379175896253189), (859910839338414216101072030888, 931392179829363957835850056957), (857049321497175655433743983122, 934025965795502453107668063599), (854179736781317937343357390217, 936650960353529280481650446648), (851302112200465282098285881268, 939267138795995936782296489967), (848416474839916181262997317191, 941874476498434556083390347872), (845522851860388460553278716922, 944472948919589684577726033718), (842621270497763632815964874696, 947062531601649272219918292172), (839711758062830543539417785771, 949643200170474878968118040418), (836794341941028311307662967971, 952214930335831093457843557761), (833869049592188565617725025245, 954777697891614161948551491963), (830935908550276984486318284597, 957331478716079825391004964387), (827994946423134134278638987018, 959876248772070362470949524667), (825046190892215614198573264369, 962411984107240836492081359019), (822089669712331507886179925740, 964938660854284543968785924091), (819125410711385144574828847024, 967456255231157662806638989939), (816153441790111172266874444923, 969964743541303097956195860513), (813173790921812945393219260166, 972464102173873522433148227098), (810186486152099229428575013414, 974954307603953611605501628343), (807191555598620224940657570455, 977435336392781468656019768558), (804189027450802913557958000281, 979907165187969239135794912383), (801178929969585728347114270258, 982369770723722912532436157088), (798161291487152551097267036728, 984823129821061308784019511806), (795136140406666039015118397203, 987267219388034247677615313900), (792103505202000283340724312152, 989702016419939899078899514215), (789063414417472802400339620896, 992127497999541311947065692795), (786015896667575871618899108037, 994543641297282120096984252137), (782960980636707193020958865295, 996950423571501422678304003518), (779898695078899906755139179779, 999347822168647837348959240346), (776829068817551947183303305113, 1001735814523492724128332307855), (773752130745154746081875678164, 1004114378159342577923127557360), (770667909823021285508848373323, 1006483490688250587726837342359), (767576435081013502896145780492, 1008843129811227360501524299275), (764477735617269050933114594579, 1011193273318450807758506483813), (761371840597927414812979155952, 1013533899089475192862412930707), (758258779256855389420150925814, 1015864985093439337090976795915), (755138580895371919042305360922, 1018186509389273982490851351690), (752011274881972302197139611716, 1020498450125908309577670661939), (748876890652051764169700250384, 1022800785542475607936531693111), (745735457707628399862121584261, 1025093493968518097787047839710), (742587005617065489563541969414, 1027376553824190900585115288340), (739431564014793190253867853331, 1029649943620465156741543234725), (736269162601029605060932988912, 1031913641959330288545726629059), (733099831141501233496453319021, 1034167627533995406390585780703), (729923599467162805102006376662, 1036411879129089856403060728025), (726740497473916499142067625525, 1038646375620862907592529697060), (723550555122330552986914924560, 1040871095977382576637620157706), (720353802437357261833966184025, 1043086019258733588439997862024), (717150269508050372421844234920, 1045291124617214470581853739576), (713939986487281873397166904976, 1047486391297533779831960552966), (710722983591458184999739228687, 1049671798637005458853340706176), (707499291100235750737478562857, 1051847326065743321273773471987)]
theorem b4 : rowsB fastO 256 t4 = true := (and_t r256 (and_t r257 (and_t r258 (and_t r259 (and_t r260 (and_t r261 (and_t r262 (and_t r263 (and_t r264 (and_t r265 (and_t r266 (and_t r267 (and_t r268 (and_t r269 (and_t r270 (and_t r271 (and_t r272 (and_t r273 (and_t r274 (and_t r275 (and_t r276 (and_t r277 (and_t r278 (and_t r279 (and_t r280 (and_t r281 (and_t r282 (and_t r283 (and_t r284 (and_t r285 (and_t r286 (and_t r287 (and_t r288 (and_t r289 (and_t r290 (and_t r291 (and_t r292 (and_t r293 (and_t r294 (and_t r295 (and_t r296 (and_t r297 (and_t r298 (and_t r299 (and_t r300 (and_t r301 (and_t r302 (and_t r303 (and_t r304 (and_t r305 (and_t r306 (and_t r307 (and_t r308 (and_t r309 (and_t r310 (and_t r311 (and_t r312 (and_t r313 (and_t r314 (and_t r315 (and_t r316 (and_t r317 (and_t r318 (and_t r319 rfl))))))))))))))))))))))))))))))))))))))))))))))))))))))))))))))))
theorem s4 : stepB (899110124160800818886812182471) (893610110109850766508668702724) t4 = true := by kernel_rfl
theorem r320 : rowL fastO 320 (704268939356236033728032079511) (1054012953106854663288574085678) = true := by kernel_rfl
theorem r321 : rowL fastO 321 (701031958764759920389649611831) (1056168659376632999973298563130) = true := by kernel_rfl
theorem r322 : rowL fastO 322 (697788379793501534169453083326) (1058314424584749924492266664979) = true := by kernel_rfl
theorem r323 : rowL fastO 323 (694538232972261462002796703114) (1060450228534446088397051067075) = true := by kernel_rfl
theorem r324 : rowL fastO 324 (691281548892659396202939708867) (1062576051122721301217353433457) = true := by kernel_rfl
theorem r325 : rowL fastO 325 (688018358207846194485755631469) (1064691872340523747554977643552) = true := by kernel_rfl
theorem r326 : rowL fastO 326 (684748691632215360839678790097) (1066797672272938319899916822216) = true := by kernel_rfl
theorem r327 : rowL fastO 327 (681472579941113949956539951617) (1068893431099374065395893981506) = true := by kernel_rfl
theorem r328 : rowL fastO 328 (678190053970552897944368752646) (1070979129093750744791035928254) = true := by kernel_rfl
theorem r329 : rowL fastO 329 (674901144616916782048640535247) (1073054746624684501817716543150) = true := by kernel_rfl
theorem r330 : rowL fastO 330 (671605882836673012113819637216) (1075120264155672641253978516514) = true := by kernel_rfl
theorem r331 : rowL fastO 331 (668304299646080456522399854664) (1077175662245277513927332054355) = true := by kernel_rfl
theorem r332 : rowL fastO 332 (664996426120897505353965707776) (1079220921547309506930134866793) = true := by kernel_rfl
theorem r333 : rowL fastO 333 (661682293396089573512095240121) (1081256022811009137324179840293) = true := by kernel_rfl
theorem r334 : rowL fastO 334 (658361932665536046572196317854) (1083280946881228247620555096173) = true := by kernel_rfl
theorem r335 : rowL fastO 335 (655035375181736672108613717962) (1085295674698610301329295571067) = true := by kernel_rfl
theorem r336 : rowL fastO 336 (651702652255517399264563654999) (1087300187299769776881815740883) = true := by kernel_rfl
theorem r337 : rowL fastO 337 (648363795255735669333645744395) (1089294465817470658237599568570) = true := by kernel_rfl
theorem r338 : rowL fastO 338 (645018835608985160126849688537) (1091278491480804020495126107791) = true := by kernel_rfl
theorem r339 : rowL fastO 339 (641667804799299986904115150778) (1093252245615364708835527359414) = true := by kernel_rfl
theorem r340 : rowL fastO 340 (638310734367858362654618303909) (1095215709643427109136008875345) = true := by kernel_rfl
theorem r341 : rowL fastO 341 (634947655912685720515047355327) (1097168865084120008598613154369) = true := by kernel_rfl
theorem r342 : rowL fastO 342 (631578601088357301120191913221) (1099111693553600544748470996808) = true := by kernel_rfl
theorem r343 : rowL fastO 343 (628203601605700207685207318939) (1101044176765227241164266598396) = true := by kernel_rfl
theorem r344 : rowL fastO 344 (624822689231494931623924982888) (1102966296529732128312238187974) = true := by kernel_rfl
theorem r345 : rowL fastO 345 (621435895788176351512563277702) (1104878034755391947863647367574) = true := by kernel_rfl
theorem r346 : rowL fastO 346 (618043253153534208213150616069) (1106779373448198438884276916116) = true := by kernel_rfl
theorem r347 : rowL fastO 347 (614644793260413058975902924915) (1108670294712027704293158588057) = true := by kernel_rfl
theorem r348 : rowL fastO 348 (611240548096411713344701776133) (1110550780748808655996389294636) = true := by kernel_rfl
theorem r349 : rowL fastO 349 (607830549703582153694696900643) (1112420813858690537110565916296) = true := by kernel_rfl
theorem r350 : rowL fastO 350 (604414830178127943235907651264) (1114280376440209519699055778875) = true := by kernel_rfl
theorem r351 : rowL fastO 351 (600993421670102124321522145112) (1116129450990454376453021451423) = true := by kernel_rfl
theorem r352 : rowL fastO 352 (597566356383104609904390262530) (1117968020105231224757834908176) = true := by kernel_rfl
theorem r353 : rowL fastO 353 (594133666573979070989977361801) (1119796066479227341594247159198) = true := by kernel_rfl
theorem r354 : rowL fastO 354 (590695384552509322938789442135) (1121613572906174047732425111365) = true := by kernel_rfl
theorem r355 : rowL fastO 355 (587251542681115213475997507078) (1123420522279008659685727591357) = true := by kernel_rfl
theorem r356 : rowL fastO 356 (583802173374548015270679002097) (1125216897590035507899867062681) = true := by kernel_rfl
theorem r357 : rowL fastO 357 (580347309099585325951757379539) (1127002681931086019661892516953) = true := by kernel_rfl
theorem r358 : rowL fastO 358 (576886982374725478432357037558) (1128777858493677865222232232882) = true := by kernel_rfl
theorem r359 : rowL fastO 359 (573421225769881464418900043295) (1130542410569173165631852491856) = true := by kernel_rfl
theorem r360 : rowL fastO 360 (569950071906074373985853141200) (1132296321548935760805419833724) = true := by kernel_rfl
theorem r361 : rowL fastO 361 (566473553455126354101588521806) (1134039574924487536330199947100) = true := by kernel_rfl
theorem r362 : rowL fastO 362 (562991703139353088995349641572) (1135772154287663807549285732151) = true := by kernel_rfl
theorem r363 : rowL fastO 363 (559504553731255805259813998048) (1137494043330767759456620366842) = true := by kernel_rfl
theorem r364 : rowL fastO 364 (556012138053212804588218134178) (1139205225846723940950168266632) = true := by kernel_rfl
theorem r365 : rowL fastO 365 (552514488977170527049456228948) (1140905685729230811998487568829) = true := by kernel_rfl
theorem r366 : rowL fastO 366 (549011639424334147808982386987) (1142595406972912342284872112604) = true := by kernel_rfl
theorem r367 : rowL fastO 367 (545503622364857710207738125496) (1144274373673468659902158740011) = true := by kernel_rfl
theorem r368 : rowL fastO 368 (541990470817533798115690531737) (1145942570027825748680237028279) = true := by kernel_rfl
theorem r369 : rowL fastO 369 (538472217849482750480903087128) (1147599980334284192737253194979) = true := by kernel_rfl
theorem r370 : rowL fastO 370 (534948896575841420999370184015) (1149246588992666966854467811127) = true := by kernel_rfl
theorem r371 : rowL fastO 371 (531420540159451485835127857769) (1150882380504466271283708028438) = true := by kernel_rfl
theorem r372 : rowL fastO 372 (527887181810547302324407179824) (1152507339472989409605349191300) = true := by kernel_rfl
theorem r373 : rowL fastO 373 (524348854786443321601823066422) (1154121450603503708263767876904) = true := by kernel_rfl
theorem r374 : rowL fastO 374 (520805592391221058090789913564) (1155724698703380476416228503584) = true := by kernel_rfl
theorem r375 : rowL fastO 375 (517257427975415618804526431299) (1157317068682238004740198582870) = true := by kernel_rfl
theorem r376 : rowL fastO 376 (513704394935701795408155280879) (1158898545552083601853133380046) = true := by kernel_rfl
theorem r377 : rowL fastO 377 (510146526714579721996518577402) (1160469114427454667007829105959) = true := by kernel_rfl
theorem r378 : rowL fastO 378 (506583856800060101546417969639) (1162028760525558797735514704213) = true := by kernel_rfl
theorem r379 : rowL fastO 379 (503016418725349004006047809336) (1163577469166412931117935737298) = true := by kernel_rfl
theorem r380 : rowL fastO 380 (499444246068532238988421836144) (1165115225772981517378779727170) = true := by kernel_rfl
theorem r381 : rowL fastO 381 (495867372452259306039597793578) (1166642015871313724493900484709) = true := by kernel_rfl
theorem r382 : rowL fastO 382 (492285831543426925456480418263) (1168157825090679672528919382553) = true := by kernel_rfl
theorem r383 : rowL fastO 383 (488699657052862152632931271863) (1169662639163705696421914101291) = true := by kernel_rfl
def t5 : List (Int × Int) := [(704268939356236033728032079511, 1054012953106854663288574085678), (701031958764759920389649611831, 1056168659376632999973298563130), (697788379793501534169453083326, 1058314424584749924492266664979), (694538232972261462002796703114, 1060450228534446088397051067075), (691281548892659396202939708867, 1062576051122721301217353433457), (688018358207846194485755631469, 1064691872340523747554977643552), (684748691632215360839678790097, 1066797672272938319899916822216), (681472579941113949956539951617, 1068893431099374065395893981506), (678190053970552897944368752646, 1070979129093750744791035928254), (674901144616916782048640535247, 1073054746624684501817716543150), (671605882836673012113819637216, 1075120264155672641253978516514), (668304299646080456522399854664, 1077175662245277513927332054355), (664996426120897505353965707776, 1079220921547309506930134866793), (661682293396089573512095240121, 1081256022811009137324179840293), (658361932665536046572196317854, 1083280946881228247620555096173), (655035375181736672108613717962, 1085295674698610301329295571067), (651702652255517399264563654999, 1087300187299769776881815740883), (648363795255735669333645744395, 1089294465817470658237599568570), (645018835608985160126849688537, 1091278491480804020495126107791), (641667804799299986904115150778, 1093252245615364708835527359414), (638310734367858362654618303909, 1095215709643427109136008875345), (634947655912685720515047355327, 1097168865084120008598613154369), (631578601088357301120191913221, 1099111693553600544748470996808), (628203601605700207685207318939, 1101044176765227241164266598396), (624822689231494931623924982888, 1102966296529732128312238187974), (621435895788176351512563277702, 1104878034755391947863647367574), (618043253153534208213150616069, 1106779373448198438884276916116), (614644793260413058975902924915, 1108670294712027704293158588057), (611240548096411713344701776133, 1110550780748808655996389294636), (607830549703582153694696900643, 1112420813858690537110565916296), (604414830178127943235907651264, 1114280376440209519699055778875), (600993421670102124321522145112, 1116129450990454376453021451423), (597566356383104609904390262530, 1117968020105231224757834908176), (594133666573979070989977361801, 1119796066479227341594247159198), (590695384552509322938789442135, 1121613572906174047732425111365), (587251542681115213475997507078, 1123420522279008659685727591357), (583802173374548015270679002097, 1125216897590035507899867062681), (580347309099585325951757379539, 1127002681931086019661892516953), (576886982374725478432357037558, 1128777858493677865222232232882), (573421225769881464418900043295, 1130542410569173165631852491856), (569950071906074373985853141200, 1132296321548935760805419833724), (566473553455126354101588521806, 1134039574924487536330199947100), (562991703139353088995349641572, 1135772154287663807549285732151), (559504553731255805259813998048, 1137494043330767759456620366842), (556012138053212804588218134178, 1139205225846723940950168266632), (552514488977170527049456228948, 1140905685729230811998487568829), (549011639424334147808982386987, 1142595406972912342284872112604), (545503622364857710207738125496, 1144274373673468659902158740011), (541990470817533798115690531737, 1145942570027825748680237028279), (538472217849482750480903087128, 1147599980334284192737253194979), (534948896575841420999370184015, 1149246588992666966854467811127), (531420540159451485835127857769, 1150882380504466271283708028438), (527887181810547302324407179824, 1152507339472989409605349191300), (524348854786443321601823066422, 1154121450603503708263767876904), (520805592391221058090789913564, 1155724698703380476416228503584), (517257427975415618804526431299, 1157317068682238004740198582870), (513704394935701795408155280879, 1158898545552083601853133380046), (510146526714579721996518577402, 1160469114427454667007829105959), (506583856800060101546417969639, 1162028760525558797735514704213), (503016418725349004006047809336, 1163577469166412931117935737298), (499444246068532238988421836144, 1165115225772981517378779727170), (495867372452259306039597793578, 1166642015871313724493900484709), (492285831543426925456480418263, 1168157825090679672528919382553), (488699657052862152632931271863, 1169662639163705696421914101291)]
theorem b5 : rowsB fastO 320 t5 = true := (and_t r320 (and_t r321 (and_t r322 (and_t r323 (and_t r324 (and_t r325 (and_t r326 (and_t r327 (and_t r328 (and_t r329 (and_t r330 (and_t r331 (and_t r332 (and_t r333 (and_t r334 (and_t r335 (and_t r336 (and_t r337 (and_t r338 (and_t r339 (and_t r340 (and_t r341 (and_t r342 (and_t r343 (and_t r344 (and_t r345 (and_t r346 (and_t r347 (and_t r348 (and_t r349 (and_t r350 (and_t r351 (and_t r352 (and_t r353 (and_t r354 (and_t r355 (and_t r356 (and_t r357 (and_t r358 (and_t r359 (and_t r360 (and_t r361 (and_t r362 (and_t r363 (and_t r364 (and_t r365 (and_t r366 (and_t r367 (and_t r368 (and_t r369 (and_t r370 (and_t r371 (and_t r372 (and_t r373 (and_t r374 (and_t r375 (and_t r376 (and_t r377 (and_t r378 (and_t r379 (and_t r380 (and_t r381 (and_t r382 (and_t r383 rfl))))))))))))))))))))))))))))))))))))))))))))))))))))))))))))))))
theorem s5 : stepB (707499291100235750737478562857) (1051847326065743321273773471987) t5 = true := by kernel_rfl
theorem r384 : rowL fastO 384 (485108882735005078916833875256) (1171156443926508635938050023831) = true := by kernel_rfl
theorem r385 : rowL fastO 385 (481513542387591121964654520900) (1172639225318829151532166080927) = true := by kernel_rfl
theorem r386 : rowL fastO 386 (477913669851332908583902945236) (1174110969384164064864495376191) = true := by kernel_rfl
theorem r387 : rowL fastO 387 (474309299009601753057732702058) (1175571662269897722723881255040) = true := by kernel_rfl
theorem r388 : rowL fastO 388 (470700463788108733949728553951) (1177021290227432383122041542627) = true := by kernel_rfl
theorem r389 : rowL fastO 389 (467087198154585372390707456288) (1178459839612317622331637374306) = true := by kernel_rfl
theorem r390 : rowL fastO 390 (463469536118463914853110711341) (1179887296884378761650118291960) = true := by kernel_rfl
theorem r391 : rowL fastO 391 (459847511730557223422287583478) (1181303648607844312680541993846) = true := by kernel_rfl
theorem r392 : rowL fastO 392 (456221159082738276577665055176) (1182708881451472439929805217647) = true := by kernel_rfl
theorem r393 : rowL fastO 393 (452590512307619283500464432851) (1184102982188676439533971619202) = true := by kernel_rfl
theorem r394 : rowL fastO 394 (448955605578230414928263146832) (1185485937697649232929643095839) = true := by kernel_rfl
theorem r395 : rowL fastO 395 (445316473107698153580309296961) (1186857734961486874299592706255) = true := by kernel_rfl
theorem r396 : rowL fastO 396 (441673149148923267181077240235) (1188218361068311070630160071109) = true := by kernel_rfl
theorem r397 : rowL fastO 397 (438025667994258407113104766002) (1189567803211390713227203812661) = true := by kernel_rfl
theorem r398 : rowL fastO 398 (434374063975185335733676124016) (1190906048689262419546710120306) = true := by kernel_rfl
theorem r399 : rowL fastO 399 (430718371461991785393410327939) (1192233084905850084205471824255) = true := by kernel_rfl
theorem r400 : rowL fastO 400 (427058624863447952198280718829) (1193548899370583438046578334114) = true := by kernel_rfl
theorem r401 : rowL fastO 401 (423394858626482627560029707079) (1194853479698515614143793365043) = true := by kernel_rfl
theorem r402 : rowL fastO 402 (419727107235858970583351884839) (1196146813610439719638244443540) = true := by kernel_rfl
theorem r403 : rowL fastO 403 (416055405213849924341599282086) (1197428888933004412310205669831) = true := by kernel_rfl
theorem r404 : rowL fastO 404 (412379787119913279096114396346) (1198699693598828480798123026169) = true := by kernel_rfl
theorem r405 : rowL fastO 405 (408700287550366385517619727133) (1199959215646614427386409571974) = true := by kernel_rfl
theorem r406 : rowL fastO 406 (405016941138060520971386860074) (1201207443221261052292926069344) = true := by kernel_rfl
theorem r407 : rowL fastO 407 (401329782552054911931173641564) (1202444364573975038396460847711) = true := by kernel_rfl
theorem r408 : rowL fastO 408 (397638846497290415590154631761) (1203669968062381535353930955817) = true := by kernel_rfl
theorem r409 : rowL fastO 409 (393944167714262863740277791448) (1204884242150633742066444774209) = true := by kernel_rfl
theorem r410 : rowL fastO 410 (390245780978696071994659216465) (1206087175409521486462794183448) = true := by kernel_rfl
theorem r411 : rowL fastO 411 (386543721101214517430777652211) (1207278756516578801578382013451) = true := by kernel_rfl
theorem r412 : rowL fastO 412 (382838022927015687735351470417) (1208458974256190496917037748996) = true := by kernel_rfl
theorem r413 : rowL fastO 413 (379128721335542104934872741676) (1209627817519697724092631246536) = true := by kernel_rfl
theorem r414 : rowL fastO 414 (375415851240153026798835960922) (1210785275305502535756860439016) = true := by kernel_rfl
theorem r415 : rowL fastO 415 (371699447587795829005732850441) (1211931336719171436829064579343) = true := by kernel_rfl
theorem r416 : rowL fastO 416 (367979545358677071164889447382) (1213065990973537927053399410255) = true := by kernel_rfl
theorem r417 : rowL fastO 417 (364256179565933249790197351992) (1214189227388804033918204659369) = true := by kernel_rfl
theorem r418 : rowL fastO 418 (360529385255301241324737540756) (1215301035392640834981897353744) = true := by kernel_rfl
theorem r419 : rowL fastO 419 (356799197504788438318212507702) (1216401404520287968659236538963) = true := by kernel_rfl
theorem r420 : rowL fastO 420 (353065651424342581861990659732) (1217490324414652132531325983950) = true := by kernel_rfl
theorem r421 : rowL fastO 421 (349328782155521293389425830886) (1218567784826404568252251264943) = true := by kernel_rfl
theorem r422 : rowL fastO 422 (345588624871161308951944468979) (1219633775614077532134786160439) = true := by kernel_rfl
theorem r423 : rowL fastO 423 (341845214775047419084193459420) (1220688286744159750507150463858) = true := by kernel_rfl
theorem r424 : rowL fastO 424 (338098587101581117374312658925) (1221731308291190858942357042164) = true := by kernel_rfl
theorem r425 : rowL fastO 425 (334348777115448960858137990127) (1222762830437854824471250146882) = true := by kernel_rfl
theorem r426 : rowL fastO 426 (330595820111290645358853371022) (1223782843475072349899909528743) = true := by kernel_rfl
theorem r427 : rowL fastO 427 (326839751413366798896292795163) (1224791337802092259361675728605) = true := by kernel_rfl
theorem r428 : rowL fastO 428 (323080606375226496292747514366) (1225788303926581864243640924995) = true := by kernel_rfl
theorem r429 : rowL fastO 429 (319318420379374498104757480338) (1226773732464716308637046822504) = true := by kernel_rfl
theorem r430 : rowL fastO 430 (315553228836938217012960950496) (1227747614141266893470636174869) = true := by kernel_rfl
theorem r431 : rowL fastO 431 (311785067187334414804641431773) (1228709939789688378495617561616) = true := by kernel_rfl
theorem r432 : rowL fastO 432 (308013970897935633086146900350) (1229660700352205261300523887004) = true := by kernel_rfl
theorem r433 : rowL fastO 433 (304239975463736360864862471115) (1230599886879897032543873654269) = true := by kernel_rfl
theorem r434 : rowL fastO 434 (300463116407018942142894374611) (1231527490532782406602180296102) = true := by kernel_rfl
theorem r435 : rowL fastO 435 (296683429277019226667070208028) (1232443502579902526840498623256) = true := by kernel_rfl
theorem r436 : rowL fastO 436 (292900949649591966982277937369) (1233347914399403144722348696358) = true := by kernel_rfl
theorem r437 : rowL fastO 437 (289115713126875964937554017508) (1234240717478615771985516040610) = true := by kernel_rfl
theorem r438 : rowL fastO 438 (285327755336958970796689243012) (1235121903414137805119893018126) = true := by kernel_rfl
theorem r439 : rowL fastO 439 (281537111933542338107449523089) (1235991463911911621393199257247) = true := by kernel_rfl
theorem r440 : rowL fastO 440 (277743818595605437485807666963) (1236849390787302645680099221210) = true := by kernel_rfl
theorem r441 : rowL fastO 441 (273947911027069832473851449716) (1237695675965176387359922188957) = true := by kernel_rfl
theorem r442 : rowL fastO 442 (270149424956463220632272681796) (1238530311479974446557884027411) = true := by kernel_rfl
theorem r443 : rowL fastO 443 (266348396136583143030551706939) (1239353289475789489014411066050) = true := by kernel_rfl
theorem r444 : rowL fastO 444 (262544860344160465300131682335) (1240164602206439188876874049694) = true := by kernel_rfl
theorem r445 : rowL fastO 445 (258738853379522633418027131019) (1240964242035539138717754452767) = true := by kernel_rfl
theorem r446 : rowL fastO 446 (254930411066256707390431579408) (1241752201436574726092986296447) = true := by kernel_rfl
theorem r447 : rowL fastO 447 (251119569250872176007979582694) (1242528472992971975963943927564) = true := by kernel_rfl
def t6 : List (Int × Int) := [(485108882735005078916833875256, 1171156443926508635938050023831), (481513542387591121964654520900, 1172639225318829151532166080927), (477913669851332908583902945236, 1174110969384164064864495376191), (474309299009601753057732702058, 1175571662269897722723881255040), (470700463788108733949728553951, 1177021290227432383122041542627), (467087198154585372390707456288, 1178459839612317622331637374306), (463469536118463914853110711341, 1179887296884378761650118291960), (459847511730557223422287583478, 1181303648607844312680541993846), (456221159082738276577665055176, 1182708881451472439929805217647), (452590512307619283500464432851, 1184102982188676439533971619202), (448955605578230414928263146832, 1185485937697649232929643095839), (445316473107698153580309296961, 1186857734961486874299592706255), (441673149148923267181077240235, 1188218361068311070630160071109), (438025667994258407113104766002, 1189567803211390713227203812661), (434374063975185335733676124016, 1190906048689262419546710120306), (430718371461991785393410327939, 1192233084905850084205471824255), (427058624863447952198280718829, 1193548899370583438046578334114), (423394858626482627560029707079, 1194853479698515614143793365043), (419727107235858970583351884839, 1196146813610439719638244443540), (416055405213849924341599282086, 1197428888933004412310205669831), (412379787119913279096114396346, 1198699693598828480798123026169), (408700287550366385517619727133, 1199959215646614427386409571974), (405016941138060520971386860074, 1201207443221261052292926069344), (401329782552054911931173641564, 1202444364573975038396460847711), (397638846497290415590154631761, 1203669968062381535353930955817), (393944167714262863740277791448, 1204884242150633742066444774209), (390245780978696071994659216465, 1206087175409521486462794183448), (386543721101214517430777652211, 1207278756516578801578382013451), (382838022927015687735351470417, 1208458974256190496917037748996), (379128721335542104934872741676, 1209627817519697724092631246536), (375415851240153026798835960922, 1210785275305502535756860439016), (371699447587795829005732850441, 1211931336719171436829064579343), (367979545358677071164889447382, 1213065990973537927053399410255), (364256179565933249790197351992, 1214189227388804033918204659369), (360529385255301241324737540756, 1215301035392640834981897353744), (356799197504788438318212507702, 1216401404520287968659236538963), (353065651424342581861990659732, 1217490324414652132531325983950), (349328782155521293389425830886, 1218567784826404568252251264943), (345588624871161308951944468979, 1219633775614077532134786160439), (341845214775047419084193459420, 1220688286744159750507150463858), (338098587101581117374312658925, 1221731308291190858942357042164), (334348777115448960858137990127, 1222762830437854824471250146882), (330595820111290645358853371022, 1223782843475072349899909528743), (326839751413366798896292795163, 1224791337802092259361675728605), (323080606375226496292747514366, 1225788303926581864243640924995), (319318420379374498104757480338, 1226773732464716308637046822504), (315553228836938217012960950496, 1227747614141266893470636174869), (311785067187334414804641431773, 1228709939789688378495617561616), (308013970897935633086146900350, 1229660700352205261300523887004), (304239975463736360864862471115, 1230599886879897032543873654269), (300463116407018942142894374611, 1231527490532782406602180296102), (296683429277019226667070208028, 1232443502579902526840498623256), (292900949649591966982277937369, 1233347914399403144722348696358), (289115713126875964937554017508, 1234240717478615771985516040610), (285327755336958970796689243012, 1235121903414137805119893018126), (281537111933542338107449523089, 1235991463911911621393199257247), (277743818595605437485807666963, 1236849390787302645680099221210), (273947911027069832473851449716, 1237695675965176387359922188957), (270149424956463220632272681796, 1238530311479974446557884027411), (266348396136583143030551706939, 1239353289475789489014411066050), (262544860344160465300131682335, 1240164602206439188876874049694), (258738853379522633418027131019, 1240964242035539138717754452767), (254930411066256707390431579408, 1241752201436574726092986296447), (251119569250872176007979582694, 1242528472992971975963943927564)]
theorem b6 : rowsB fastO 384 t6 = true := (and_t r384 (and_t r385 (and_t r386 (and_t r387 (and_t r388 (and_t r389 (and_t r390 (and_t r391 (and_t r392 (and_t r393 (and_t r394 (and_t r395 (and_t r396 (and_t r397 (and_t r398 (and_t r399 (and_t r400 (and_t r401 (and_t r402 (and_t r403 (and_t r404 (and_t r405 (and_t r406 (and_t r407 (and_t r408 (and_t r409 (and_t r410 (and_t r411 (and_t r412 (and_t r413 (and_t r414 (and_t r415 (and_t r416 (and_t r417 (and_t r418 (and_t r419 (and_t r420 (and_t r421 (and_t r422 (and_t r423 (and_t r424 (and_t r425 (and_t r426 (and_t r427 (and_t r428 (and_t r429 (and_t r430 (and_t r431 (and_t r432 (and_t r433 (and_t r434 (and_t r435 (and_t r436 (and_t r437 (and_t r438 (and_t r439 (and_t r440 (and_t r441 (and_t r442 (and_t r443 (and_t r444 (and_t r445 (and_t r446 (and_t r447 rfl))))))))))))))))))))))))))))))))))))))))))))))))))))))))))))))))
theorem s6 : stepB (488699657052862152632931271863) (1169662639163705696421914101291) t6 = true := by kernel_rfl
theorem r448 : rowL fastO 448 (247306363802463555846379077793) (1243293049398167358316279903335) = true := by kernel_rfl
theorem r449 : rowL fastO 449 (243490830612372777688160768258) (1244045923455676560318557087359) = true := by kernel_rfl
theorem r450 : rowL fastO 450 (239673005593851363543292119012) (1244787088079162222373365208117) = true := by kernel_rfl
theorem r451 : rowL fastO 451 (235852924681722397448374501952) (1245516536292500637423364369748) = true := by kernel_rfl
theorem r452 : rowL fastO 452 (232030623832042293226083068028) (1246234261229847412884456244343) = true := by kernel_rfl
theorem r453 : rowL fastO 453 (228206139021762362388420008890) (1246940256135702094588047823565) = true := by kernel_rfl
theorem r454 : rowL fastO 454 (224379506248390185369232993768) (1247634514364971752124142573120) = true := by kernel_rfl
theorem r455 : rowL fastO 455 (220550761529650789273301707079) (1248317029383033524986769524586) = true := by kernel_rfl
theorem r456 : rowL fastO 456 (216719940903147635331116552035) (1248987794765796128933042163262) = true := by kernel_rfl
theorem r457 : rowL fastO 457 (212887080426023419250264707996) (1249646804199760321976925836023) = true := by kernel_rfl
theorem r458 : rowL fastO 458 (209052216174620687656099817719) (1250294051482078329448584717519) = true := by kernel_rfl
theorem r459 : rowL fastO 459 (205215384244142273816102618355) (1250929530520612227559977044231) = true := by kernel_rfl
theorem r460 : rowL fastO 460 (201376620748311555844040800766) (1251553235333991284927170261778) = true := by kernel_rfl
theorem r461 : rowL fastO 461 (197535961819032540581707269479) (1252165160051668261509655839047) = true := by kernel_rfl
theorem r462 : rowL fastO 462 (193693443606049776357656764612) (1252765298913974664436756690999) = true := by kernel_rfl
theorem r463 : rowL fastO 463 (189849102276608097823971481977) (1253353646272174960201038327958) = true := by kernel_rfl
theorem r464 : rowL fastO 464 (186002974015112206073666873096) (1253930196588519742708457920398) = true := by kernel_rfl
theorem r465 : rowL fastO 465 (182155095022786087242899208226) (1254494944436297856684813342315) = true := by kernel_rfl
theorem r466 : rowL fastO 466 (178305501517332272803656728045) (1255047884499887475947886840590) = true := by kernel_rfl
theorem r467 : rowL fastO 467 (174454229732590944754106279100) (1255589011574806136064515179900) = true := by kernel_rfl
theorem r468 : rowL fastO 468 (170601315918198888915227210476) (1256118320567759720921659840007) = true := by kernel_rfl
theorem r469 : rowL fastO 469 (166746796339248299543793990596) (1256635806496690402750397002092) = true := by kernel_rfl
theorem r470 : rowL fastO 470 (162890707275945438473168470228) (1257141464490823535151597560496) = true := by kernel_rfl
theorem r471 : rowL fastO 471 (159033085023269151994731957427) (1257635289790713498681922143064) = true := by kernel_rfl
theorem r472 : rowL fastO 472 (155173965890629248694126269422) (1258117277748288498568615024531) = true := by kernel_rfl
theorem r473 : rowL fastO 473 (151313386201524741457781672740) (1258587423826894314131443780197) = true := by kernel_rfl
theorem r474 : rowL fastO 474 (147451382293201956866488103870) (1259045723601336999499998458735) = true := by kernel_rfl
theorem r475 : rowL fastO 475 (143587990516312515194014266397) (1259492172757924535224434860444) = true := by kernel_rfl
theorem r476 : rowL fastO 476 (139723247234571184229997115128) (1259926767094507430387621097707) = true := by kernel_rfl
theorem r477 : rowL fastO 477 (135857188824413610147511851745) (1260349502520518274836524894920) = true := by kernel_rfl
theorem r478 : rowL fastO 478 (131989851674653928636889858805) (1260760375057010241160560962694) = true := by kernel_rfl
theorem r479 : rowL fastO 479 (128121272186142259528478978597) (1261159380836694536054503162739) = true := by kernel_rfl
theorem r480 : rowL fastO 480 (124251486771422088128137189809) (1261546516103976800713454972435) = true := by kernel_rfl
theorem r481 : rowL fastO 481 (120380531854387536490317037842) (1261921777214992459917263868625) = true := by kernel_rfl
theorem r482 : rowL fastO 482 (116508443869940527854634123950) (1262285160637641019471660585503) = true := by kernel_rfl
theorem r483 : rowL fastO 483 (112635259263647847472818544330) (1262636662951619311683302668497) = true := by kernel_rfl
theorem r484 : rowL fastO 484 (108761014491398103053923383479) (1262976280848453688555803251577) = true := by kernel_rfl
theorem r485 : rowL fastO 485 (104885746019058588056609197337) (1263304011131531162403730436255) = true := by kernel_rfl
theorem r486 : rowL fastO 486 (101009490322132051058237862029) (1263619850716129493591469953491) = true := by kernel_rfl
theorem r487 : rowL fastO 487 (97132283885413374431393204885) (1263923796629446225113753851485) = true := by kernel_rfl
theorem r488 : rowL fastO 488 (93254163202646165559299467454) (1264215846010626663744570679667) = true := by kernel_rfl
theorem r489 : rowL fastO 489 (89375164776179263822431867407) (1264495996110790807491087938778) = true := by kernel_rfl
theorem r490 : rowL fastO 490 (85495325116623166589406319877) (1264764244293059219099135345484) = true := by kernel_rfl
theorem r491 : rowL fastO 491 (81614680742506377445997741331) (1265020588032577845366717624032) = true := by kernel_rfl
theorem r492 : rowL fastO 492 (77733268179931679896868283420) (1265265024916541782031947993801) = true := by kernel_rfl
theorem r493 : rowL fastO 493 (73851123962232339775288323509) (1265497552644217984011718176711) = true := by kernel_rfl
theorem r494 : rowL fastO 494 (69968284629628239596804066089) (1265718169026966920777347508987) = true := by kernel_rfl
theorem r495 : rowL fastO 495 (66084786728881948093446178780) (1265926871988263176663382514270) = true := by kernel_rfl
theorem r496 : rowL fastO 496 (62200666812954728165683992069) (1266123659563714995915648986075) = true := by kernel_rfl
theorem r497 : rowL fastO 497 (58315961440662486489909427551) (1266308529901082772294591143641) = true := by kernel_rfl
theorem r498 : rowL fastO 498 (54430707176331668019783979826) (1266481481260296483059866672826) = true := by kernel_rfl
theorem r499 : rowL fastO 499 (50544940589455098620300757136) (1266642512013472067172102349347) = true := by kernel_rfl
theorem r500 : rowL fastO 500 (46658698254347779073901780490) (1266791620644926747557652371836) = true := by kernel_rfl
theorem r501 : rowL fastO 501 (42772016749802633698448445739) (1266928805751193297292140413363) = true := by kernel_rfl
theorem r502 : rowL fastO 502 (38884932658746216817270263595) (1267054066041033249568506638684) = true := by kernel_rfl
theorem r503 : rowL fastO 503 (34997482567894380321913704887) (1267167400335449051325222436970) = true := by kernel_rfl
theorem r504 : rowL fastO 504 (31109703067407905568579188653) (1267268807567695160420278292580) = true := by kernel_rfl
theorem r505 : rowL fastO 505 (27221630750548102849569955597) (1267358286783288086246493965970) = true := by kernel_rfl
theorem r506 : rowL fastO 506 (23333302213332381681381765764) (1267435837140015373693644889492) = true := by kernel_rfl
theorem r507 : rowL fastO 507 (19444754054189795151337044185) (1267501457907943530372844305035) = true := by kernel_rfl
theorem r508 : rowL fastO 508 (15556022873616561564911269098) (1267555148469424897028567088551) = true := by kernel_rfl
theorem r509 : rowL fastO 509 (11667145273831566636113051878) (1267596908319103461073648326925) = true := by kernel_rfl
theorem r510 : rowL fastO 510 (7778157858431849463462494014) (1267626737063919613192537441702) = true := by kernel_rfl
theorem r511 : rowL fastO 511 (3889097232048075534265022570) (1267644634423113846968036898308) = true := by kernel_rfl
def t7 : List (Int × Int) := [(247306363802463555846379077793, 1243293049398167358316279903335), (243490830612372777688160768258, 1244045923455676560318557087359), (239673005593851363543292119012, 1244787088079162222373365208117), (235852924681722397448374501952, 1245516536292500637423364369748), (232030623832042293226083068028, 1246234261229847412884456244343), (228206139021762362388420008890, 1246940256135702094588047823565), (224379506248390185369232993768, 1247634514364971752124142573120), (220550761529650789273301707079, 1248317029383033524986769524586), (216719940903147635331116552035, 1248987794765796128933042163262), (212887080426023419250264707996, 1249646804199760321976925836023), (209052216174620687656099817719, 1250294051482078329448584717519), (205215384244142273816102618355, 1250929530520612227559977044231), (201376620748311555844040800766, 1251553235333991284927170261778), (197535961819032540581707269479, 1252165160051668261509655839047), (193693443606049776357656764612, 1252765298913974664436756690999), (189849102276608097823971481977, 1253353646272174960201038327958), (186002974015112206073666873096, 1253930196588519742708457920398), (182155095022786087242899208226, 1254494944436297856684813342315), (178305501517332272803656728045, 1255047884499887475947886840590), (174454229732590944754106279100, 1255589011574806136064515179900), (170601315918198888915227210476, 1256118320567759720921659840007), (166746796339248299543793990596, 1256635806496690402750397002092), (162890707275945438473168470228, 1257141464490823535151597560496), (159033085023269151994731957427, 1257635289790713498681922143064), (155173965890629248694126269422, 1258117277748288498568615024531), (151313386201524741457781672740, 1258587423826894314131443780197), (147451382293201956866488103870, 1259045723601336999499998458735), (143587990516312515194014266397, 1259492172757924535224434860444), (139723247234571184229997115128, 1259926767094507430387621097707), (135857188824413610147511851745, 1260349502520518274836524894920), (131989851674653928636889858805, 1260760375057010241160560962694), (128121272186142259528478978597, 1261159380836694536054503162739), (124251486771422088128137189809, 1261546516103976800713454972435), (120380531854387536490317037842, 1261921777214992459917263868625), (116508443869940527854634123950, 1262285160637641019471660585503), (112635259263647847472818544330, 1262636662951619311683302668497), (108761014491398103053923383479, 1262976280848453688555803251577), (104885746019058588056609197337, 1263304011131531162403730436255), (101009490322132051058237862029, 1263619850716129493591469953491), (97132283885413374431393204885, 1263923796629446225113753851485), (93254163202646165559299467454, 1264215846010626663744570679667), (89375164776179263822431867407, 1264495996110790807491087938778), (85495325116623166589406319877, 1264764244293059219099135345484), (81614680742506377445997741331, 1265020588032577845366717624032), (77733268179931679896868283420, 1265265024916541782031947993801), (73851123962232339775288323509, 1265497552644217984011718176711), (69968284629628239596804066089, 1265718169026966920777347508987), (66084786728881948093446178780, 1265926871988263176663382514270), (62200666812954728165683992069, 1266123659563714995915648986075), (58315961440662486489909427551, 1266308529901082772294591143641), (54430707176331668019783979826, 1266481481260296483059866672826), (50544940589455098620300757136, 1266642512013472067172102349347), (46658698254347779073901780490, 1266791620644926747557652371836), (42772016749802633698448445739, 1266928805751193297292140413363), (38884932658746216817270263595, 1267054066041033249568506638684), (34997482567894380321913704887, 1267167400335449051325222436970), (31109703067407905568579188653, 1267268807567695160420278292580), (27221630750548102849569955597, 1267358286783288086246493965970), (23333302213332381681381765764, 1267435837140015373693644889492), (19444754054189795151337044185, 1267501457907943530372844305035), (15556022873616561564911269098, 1267555148469424897028567088551), (11667145273831566636113051878, 1267596908319103461073648326925), (7778157858431849463462494014, 1267626737063919613192537441702), (3889097232048075534265022570, 1267644634423113846968036898308)]
theorem b7 : rowsB fastO 448 t7 = true := (and_t r448 (and_t r449 (and_t r450 (and_t r451 (and_t r452 (and_t r453 (and_t r454 (and_t r455 (and_t r456 (and_t r457 (and_t r458 (and_t r459 (and_t r460 (and_t r461 (and_t r462 (and_t r463 (and_t r464 (and_t r465 (and_t r466 (and_t r467 (and_t r468 (and_t r469 (and_t r470 (and_t r471 (and_t r472 (and_t r473 (and_t r474 (and_t r475 (and_t r476 (and_t r477 (and_t r478 (and_t r479 (and_t r480 (and_t r481 (and_t r482 (and_t r483 (and_t r484 (and_t r485 (and_t r486 (and_t r487 (and_t r488 (and_t r489 (and_t r490 (and_t r491 (and_t r492 (and_t r493 (and_t r494 (and_t r495 (and_t r496 (and_t r497 (and_t r498 (and_t r499 (and_t r500 (and_t r501 (and_t r502 (and_t r503 (and_t r504 (and_t r505 (and_t r506 (and_t r507 (and_t r508 (and_t r509 (and_t r510 (and_t r511 rfl))))))))))))))))))))))))))))))))))))))))))))))))))))))))))))))))
theorem s7 : stepB (251119569250872176007979582694) (1242528472992971975963943927564) t7 = true := by kernel_rfl
end Go.Proofs.YtbdnkneedengcaaDoor.Ie.Tw
