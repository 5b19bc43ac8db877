/- What a block does, in the reference. Conditions: none. -/
import Derived.Test.YteadbbimikcmgaaShaE
set_option linter.unusedSimpArgs false
set_option linter.unusedVariables false
set_option maxRecDepth 100000
set_option maxHeartbeats 4000000
namespace Go.Proofs.Yteadbbimikcmgaa
open Go
variable {G : Nat} {Ext : FuncId → List Value → Mem → Outc → Mem → Prop}

theorem cells5_set (st : St) (y : BitVec 32) {k : Nat} (h : k < 5) : (cells5 st).set k (v32 y) = cells5 (fun j => if j = k then y else st j) := match k, h with
  | 0, _ => rfl
  | 1, _ => rfl
  | 2, _ => rfl
  | 3, _ => rfl
  | 4, _ => rfl
theorem cells5_congr {s s' : St} (h : ∀ j, j < 5 → s j = s' j) : cells5 s = cells5 s' := by
  unfold cells5; rw [h 0 (by omega), h 1 (by omega), h 2 (by omega), h 3 (by omega), h 4 (by omega)]
theorem Cons.row' {S S1 : Mem} {b : Nat} {r : Row} (h : Cons S S1) (hr : S.row? b = some r) : S1.row? b = some r := Cons.row (h := h) hr

theorem block_C (st : St) (blk : BL) (v : Value) (S : Mem) (hs : Slv S 1 v 64 (bv blk)) :
    C Try.prog G Ext 26 [.agg (cells5 st).toArray, v] S fun v S' => v = .agg (cells5 (comp st blk)).toArray ∧ Cons S S' := by
  have hl : blk.length = 64 := by have := hs.1; rw [bv_len] at this; omega
  obtain ⟨_, a1, c1, rfl, _⟩ := id hs
  refine C.fn Try.func26 rfl (by kernel_rfl) rfl ?_
  repeat (first | refine W.seq ?_ | refine W.block ?_ | refine W.reg ?_ | refine W.skip ?_ | refine W.exit ?_ | refine W.ret ?_ | refine L.nil ?_ | refine L.p rfl rfl ?_ | refine L.skip rfl ?_)
  refine L.eff (v := .pointer (some ⟨S.length, 0, none⟩)) (S1 := S ++ [newR (cells5 st) 51]) rfl rfl ?_
  refine L.eff (v := .pointer (some ⟨List.length (S ++ [newR (cells5 st) 51]), 0, none⟩)) (S1 := S ++ [newR (cells5 st) 51] ++ [newR (cells5 fun _ => 0#32) 51]) rfl rfl ?_
  repeat (first | refine W.seq ?_ | refine W.block ?_ | refine W.reg ?_ | refine W.skip ?_ | refine W.exit ?_ | refine W.ret ?_ | refine L.nil ?_ | refine L.p rfl rfl ?_ | refine L.skip rfl ?_)
  refine L.eff (v := .pointer (some ⟨List.length (S ++ [newR (cells5 st) 51] ++ [newR (cells5 fun _ => 0#32) 51]), 0, none⟩)) (S1 := S ++ [newR (cells5 st) 51] ++ [newR (cells5 fun _ => 0#32) 51] ++ [newR (wcells blk 0) 57]) rfl rfl ?_
  obtain ⟨M, hM⟩ : ∃ M : Mem, M = S ++ [newR (cells5 st) 51] ++ [newR (cells5 fun _ => 0#32) 51] ++ [newR (wcells blk 0) 57] := ⟨_, rfl⟩
  have hc1 : Cons (S ++ [newR (cells5 st) 51]) M := by rw [hM]; exact (Cons.push _ _).pushr _
  have hc : Cons S M := (Cons.push _ _).trans hc1
  have hh : M.row? S.length = some (newR (cells5 st) 51) := hc1.row' (row_push_new rfl)
  have hr : M.row? (List.length (S ++ [newR (cells5 st) 51])) = some (newR (cells5 fun _ => 0#32) 51) := by rw [hM]; exact (Cons.push _ _).row' (row_push_new rfl)
  have hw : M.row? (List.length (S ++ [newR (cells5 st) 51] ++ [newR (cells5 fun _ => 0#32) 51])) = some (newR (wcells blk 0) 57) := by rw [hM]; exact row_push_new rfl
  have hln : S.length + 1 = List.length (S ++ [newR (cells5 st) 51]) := by simp
  have hln2 : S.length + 2 = List.length (S ++ [newR (cells5 st) 51] ++ [newR (cells5 fun _ => 0#32) 51]) := by simp
  rw [← hM]
  clear hM hc1
  generalize List.length (S ++ [newR (cells5 st) 51] ++ [newR (cells5 fun _ => 0#32) 51]) = rw at *
  generalize List.length (S ++ [newR (cells5 st) 51]) = rr at *
  obtain ⟨rh, hrh⟩ : ∃ rh, rh = S.length := ⟨_, rfl⟩
  rw [← hrh] at hh hln hln2 ⊢
  repeat (first | refine W.seq ?_ | refine W.block ?_ | refine W.reg ?_ | refine W.skip ?_ | refine W.exit ?_ | refine W.ret ?_ | refine L.nil ?_ | refine L.p rfl rfl ?_ | refine L.skip rfl ?_)
  refine W.loop (fun j e S' => ∃ i, j = 80 - i ∧ i ≤ 80 ∧ Cons S S' ∧ S'.row? rh = some (newR (cells5 st) 51) ∧ S'.row? rr = some (newR (cells5 fun _ => 0#32) 51) ∧ S'.row? rw = some (newR (wcells blk i) 57) ∧ e 1 = .slice a1 64 c1 ∧ e 2 = .pointer (some ⟨rh, 0, none⟩) ∧ e 4 = .pointer (some ⟨rr, 0, none⟩) ∧ e 5 = .pointer (some ⟨rw, 0, none⟩) ∧ e 6 = vi i) 80 ⟨0, by omega, by omega, hc, hh, hr, hw, rfl, rfl, rfl, rfl, rfl⟩ ?_
  clear hc hh hr hw M
  rintro j e S' ⟨i, rfl, hi, hc, hh, hr, hw, e1, e2, e4, e5, e6⟩
  refine W.env5 e1 e2 e4 e5 e6 ?_
  have hs' := hs.cons hc
  repeat (first | refine W.seq ?_ | refine W.block ?_ | refine W.reg ?_ | refine W.skip ?_ | refine W.exit ?_ | refine W.ret ?_ | refine L.nil ?_ | refine L.p rfl rfl ?_ | refine L.skip rfl ?_)
  refine W.ite rfl (fun h => ?_) (fun h => ?_)
  · have hin : i < 80 := by simp at h; omega
    repeat (first | refine W.seq ?_ | refine W.block ?_ | refine W.reg ?_ | refine W.skip ?_ | refine W.exit ?_ | refine W.ret ?_ | refine L.nil ?_ | refine L.p rfl rfl ?_ | refine L.skip rfl ?_)
    refine W.ite rfl (fun h => ?_) (fun h => ?_)
    · have h16 : i < 16 := by simp at h; omega
      have hget : ∀ k, k < 4 → (bv blk)[4 * i + k]? = some (v8 (blk.getD (4 * i + k) 0)) := fun k hk => bvd _ (by omega)
      repeat (first | refine W.seq ?_ | refine W.block ?_ | refine W.reg ?_ | refine W.skip ?_ | refine W.exit ?_ | refine W.ret ?_ | refine L.nil ?_ | refine L.p rfl rfl ?_ | refine L.skip rfl ?_)
      refine L.el (k := 4 * i) hs' (by rw [wrap64 (by omega) (by omega)]; omega) (hget 0 (by omega)) rfl rfl rfl rfl (fun _ => rfl) rfl (fun p => ?_)
      repeat (first | refine W.seq ?_ | refine W.block ?_ | refine W.reg ?_ | refine W.skip ?_ | refine W.exit ?_ | refine W.ret ?_ | refine L.nil ?_ | refine L.p rfl rfl ?_ | refine L.skip rfl ?_)
      refine L.el (k := 4 * i + 1) hs' (by rw [wrap64 (x := 4 * _) (by omega) (by omega), wrap64 (by omega) (by omega)]; omega) (hget 1 (by omega)) rfl rfl rfl rfl (fun _ => rfl) rfl (fun p => ?_)
      repeat (first | refine W.seq ?_ | refine W.block ?_ | refine W.reg ?_ | refine W.skip ?_ | refine W.exit ?_ | refine W.ret ?_ | refine L.nil ?_ | refine L.p rfl rfl ?_ | refine L.skip rfl ?_)
      refine L.el (k := 4 * i + 2) hs' (by rw [wrap64 (x := 4 * _) (by omega) (by omega), wrap64 (by omega) (by omega)]; omega) (hget 2 (by omega)) rfl rfl rfl rfl (fun _ => rfl) rfl (fun p => ?_)
      repeat (first | refine W.seq ?_ | refine W.block ?_ | refine W.reg ?_ | refine W.skip ?_ | refine W.exit ?_ | refine W.ret ?_ | refine L.nil ?_ | refine L.p rfl rfl ?_ | refine L.skip rfl ?_)
      refine L.el (k := 4 * i + 3) hs' (by rw [wrap64 (x := 4 * _) (by omega) (by omega), wrap64 (by omega) (by omega)]; omega) (hget 3 (by omega)) rfl rfl rfl rfl (fun _ => rfl) rfl (fun p => ?_)
      repeat (first | refine W.seq ?_ | refine W.block ?_ | refine W.reg ?_ | refine W.skip ?_ | refine W.exit ?_ | refine W.ret ?_ | refine L.nil ?_ | refine L.p rfl rfl ?_ | refine L.skip rfl ?_)
      refine L.elstA (k := i) (w := v32 (word blk i)) (o := 0) (b := rw) hw rfl (by simp [newR, wcells_len _ hi]) rfl (by omega) rfl rfl rfl rfl (fun _ => rfl) (fun p => ?_) rfl rfl (fun p => ?_)
      · refine (force_eq rfl).trans ?_
        simp only [v32, Value.int.injEq, true_and, wrap_u32, bits_u32, ofInt_toNat, ofInt_8_32, ofInt_shl, word]
        rfl
      repeat (first | refine W.seq ?_ | refine W.block ?_ | refine W.reg ?_ | refine W.skip ?_ | refine W.exit ?_ | refine W.ret ?_ | refine L.nil ?_ | refine L.p rfl rfl ?_ | refine L.skip rfl ?_)
      refine ⟨80 - (i + 1), by omega, i + 1, rfl, by omega, hc.set _ _ (by omega), (row_set_other _ (by omega)).trans hh, (row_set_other _ (by omega)).trans hr, (row_set_same hw rfl).trans ?_, rfl, rfl, rfl, rfl, ?_⟩
      · refine congrArg (fun c => some (newR c 57)) ?_
        rw [← wcells_set blk hin, nextW, if_pos h16]
        simp [newR]
      · refine (force_eq rfl).trans ?_
        rw [wrap64 (by omega) (by omega)]; rfl
    · have h16 : ¬ i < 16 := by simp at h; omega
      have hg : ∀ k, k < i → (newR (wcells blk i) 57).cells[0 + k]? = some (v32 ((sched blk i).getD k 0)) := fun k hk => by rw [Nat.zero_add]; exact wcells_get blk hk
      repeat (first | refine W.seq ?_ | refine W.block ?_ | refine W.reg ?_ | refine W.skip ?_ | refine W.exit ?_ | refine W.ret ?_ | refine L.nil ?_ | refine L.p rfl rfl ?_ | refine L.skip rfl ?_)
      refine L.elA (k := i - 3) (o := 0) (b := rw) hw (hg _ (by omega)) (by rw [wrap64 (by omega) (by omega)]; omega) (by omega) rfl rfl rfl rfl (fun _ => rfl) rfl (fun p => ?_)
      repeat (first | refine W.seq ?_ | refine W.block ?_ | refine W.reg ?_ | refine W.skip ?_ | refine W.exit ?_ | refine W.ret ?_ | refine L.nil ?_ | refine L.p rfl rfl ?_ | refine L.skip rfl ?_)
      refine L.elA (k := i - 8) (o := 0) (b := rw) hw (hg _ (by omega)) (by rw [wrap64 (by omega) (by omega)]; omega) (by omega) rfl rfl rfl rfl (fun _ => rfl) rfl (fun p => ?_)
      repeat (first | refine W.seq ?_ | refine W.block ?_ | refine W.reg ?_ | refine W.skip ?_ | refine W.exit ?_ | refine W.ret ?_ | refine L.nil ?_ | refine L.p rfl rfl ?_ | refine L.skip rfl ?_)
      refine L.elA (k := i - 14) (o := 0) (b := rw) hw (hg _ (by omega)) (by rw [wrap64 (by omega) (by omega)]; omega) (by omega) rfl rfl rfl rfl (fun _ => rfl) rfl (fun p => ?_)
      repeat (first | refine W.seq ?_ | refine W.block ?_ | refine W.reg ?_ | refine W.skip ?_ | refine W.exit ?_ | refine W.ret ?_ | refine L.nil ?_ | refine L.p rfl rfl ?_ | refine L.skip rfl ?_)
      refine L.elA (k := i - 16) (o := 0) (b := rw) hw (hg _ (by omega)) (by rw [wrap64 (by omega) (by omega)]; omega) (by omega) rfl rfl rfl rfl (fun _ => rfl) rfl (fun p => ?_)
      repeat (first | refine W.seq ?_ | refine W.block ?_ | refine W.reg ?_ | refine W.skip ?_ | refine W.exit ?_ | refine W.ret ?_ | refine L.nil ?_ | refine L.p rfl rfl ?_ | refine L.skip rfl ?_)
      refine L.cl (f := 28) (args := [v32 ((sched blk i).getD (i - 3) 0 ^^^ (sched blk i).getD (i - 8) 0 ^^^ (sched blk i).getD (i - 14) 0 ^^^ (sched blk i).getD (i - 16) 0), vi 1]) (turn_C _ 1 (.inl rfl) _) rfl (acall_eq (list2 ((force_eq rfl).trans ?_) rfl)) ?_
      · simp only [v32, Value.int.injEq, true_and, wrap_u32, bits_u32, ofInt_toNat]
        rfl
      rintro _ _ ⟨rfl, rfl⟩
      refine ⟨fun _ => Cons.refl _, ?_⟩
      repeat (first | refine W.seq ?_ | refine W.block ?_ | refine W.reg ?_ | refine W.skip ?_ | refine W.exit ?_ | refine W.ret ?_ | refine L.nil ?_ | refine L.p rfl rfl ?_ | refine L.skip rfl ?_)
      refine L.elstA (k := i) (w := v32 (nextW blk (sched blk i) i)) (o := 0) (b := rw) hw rfl (by simp [newR, wcells_len _ hi]) rfl (by omega) rfl rfl rfl rfl (fun _ => rfl) (fun p => ?_) rfl rfl (fun p => ?_)
      · rw [nextW, if_neg h16]; rfl
      repeat (first | refine W.seq ?_ | refine W.block ?_ | refine W.reg ?_ | refine W.skip ?_ | refine W.exit ?_ | refine W.ret ?_ | refine L.nil ?_ | refine L.p rfl rfl ?_ | refine L.skip rfl ?_)
      refine ⟨80 - (i + 1), by omega, i + 1, rfl, by omega, hc.set _ _ (by omega), (row_set_other _ (by omega)).trans hh, (row_set_other _ (by omega)).trans hr, (row_set_same hw rfl).trans ?_, rfl, rfl, rfl, rfl, ?_⟩
      · refine congrArg (fun c => some (newR c 57)) ?_
        rw [← wcells_set blk hin]
        simp [newR]
      · refine (force_eq rfl).trans ?_
        rw [wrap64 (by omega) (by omega)]; rfl
  · have hin : i = 80 := by simp at h; omega
    subst hin
    repeat (first | refine W.seq ?_ | refine W.block ?_ | refine W.reg ?_ | refine W.skip ?_ | refine W.exit ?_ | refine W.ret ?_ | refine L.nil ?_ | refine L.p rfl rfl ?_ | refine L.skip rfl ?_)
    refine L.ldA (a := ⟨rh, 0, none⟩) (n := 5) (l := cells5 st) (cellsAt_of (o := 0) (n := 5) hh (by simp [newR, cells5])) rfl rfl rfl ?_
    have hrwlt := row_lt hw
    refine L.eff (v := .pointer (some ⟨S'.length, 0, none⟩)) (S1 := S' ++ [newR (cells5 fun _ => 0#32) 51]) rfl rfl ?_
    have hx0 : Mem.row? (S' ++ [newR (cells5 fun _ => 0#32) 51]) S'.length = some (newR (cells5 fun _ => 0#32) 51) := row_push_new rfl
    refine L.st (ad := ⟨S'.length, 0, none⟩) (vs := cells5 st) (write_of (o := 0) hx0 rfl (by simp [newR, cells5]) (by simp [cells5, oneCell])) rfl rfl rfl rfl ?_
    obtain ⟨M, hM⟩ : ∃ M : Mem, M = List.set (S' ++ [newR (cells5 fun _ => 0#32) 51]) S'.length { newR (cells5 fun _ => 0#32) 51 with cells := putFrom (newR (cells5 fun _ => 0#32) 51).cells 0 (cells5 st) } := ⟨_, rfl⟩
    have hcM : Cons S' M := by rw [hM, set_push]; exact Cons.push _ _
    have hx : M.row? S'.length = some (newR (cells5 st) 51) := by rw [hM, set_push]; exact row_push_new rfl
    rw [← hM]
    have hc' := hc.trans hcM
    have hh' := hcM.row' hh
    have hr' := hcM.row' hr
    have hw' := hcM.row' hw
    have hlt := hc.len
    clear hM hcM hc hh hr hw hx0 hs'
    generalize S'.length = rx at *
    clear S'
    repeat (first | refine W.seq ?_ | refine W.block ?_ | refine W.reg ?_ | refine W.skip ?_ | refine W.exit ?_ | refine W.ret ?_ | refine L.nil ?_ | refine L.p rfl rfl ?_ | refine L.skip rfl ?_)
    refine W.loop (fun j e S' => ∃ i, j = 80 - i ∧ i ≤ 80 ∧ Cons S S' ∧ S'.row? rh = some (newR (cells5 st) 51) ∧ S'.row? rr = some (newR (cells5 fun _ => 0#32) 51) ∧ S'.row? rw = some (newR (wcells blk 80) 57) ∧ S'.row? rx = some (newR (cells5 (rnds blk i st)) 51) ∧ e 2 = .pointer (some ⟨rh, 0, none⟩) ∧ e 4 = .pointer (some ⟨rr, 0, none⟩) ∧ e 5 = .pointer (some ⟨rw, 0, none⟩) ∧ e 7 = .pointer (some ⟨rx, 0, none⟩) ∧ e 8 = vi i) 80 ⟨0, by omega, by omega, hc', hh', hr', hw', hx, rfl, rfl, rfl, rfl, rfl⟩ ?_
    clear hc' hh' hr' hw' hx M h hi e1 e2 e4 e5 e6 e
    rintro j e S' ⟨i, rfl, hi, hc, hh, hr, hw, hx, e2, e4, e5, e7, e8⟩
    refine W.env5 e2 e4 e5 e7 e8 ?_
    repeat (first | refine W.seq ?_ | refine W.block ?_ | refine W.reg ?_ | refine W.skip ?_ | refine W.exit ?_ | refine W.ret ?_ | refine L.nil ?_ | refine L.p rfl rfl ?_ | refine L.skip rfl ?_)
    refine W.ite rfl (fun h => ?_) (fun h => ?_)
    · have hin : i < 80 := by simp at h; omega
      repeat (first | refine W.seq ?_ | refine W.block ?_ | refine W.reg ?_ | refine W.skip ?_ | refine W.exit ?_ | refine W.ret ?_ | refine L.nil ?_ | refine L.p rfl rfl ?_ | refine L.skip rfl ?_)
      refine L.ld (a := ⟨rx, 1, none⟩) (v := v32 (rnds blk i st 1)) (cell_of hx rfl) rfl rfl rfl ?_
      repeat (first | refine W.seq ?_ | refine W.block ?_ | refine W.reg ?_ | refine W.skip ?_ | refine W.exit ?_ | refine W.ret ?_ | refine L.nil ?_ | refine L.p rfl rfl ?_ | refine L.skip rfl ?_)
      refine L.ld (a := ⟨rx, 2, none⟩) (v := v32 (rnds blk i st 2)) (cell_of hx rfl) rfl rfl rfl ?_
      repeat (first | refine W.seq ?_ | refine W.block ?_ | refine W.reg ?_ | refine W.skip ?_ | refine W.exit ?_ | refine W.ret ?_ | refine L.nil ?_ | refine L.p rfl rfl ?_ | refine L.skip rfl ?_)
      refine L.ld (a := ⟨rx, 3, none⟩) (v := v32 (rnds blk i st 3)) (cell_of hx rfl) rfl rfl rfl ?_
      repeat (first | refine W.seq ?_ | refine W.block ?_ | refine W.reg ?_ | refine W.skip ?_ | refine W.exit ?_ | refine W.ret ?_ | refine L.nil ?_ | refine L.p rfl rfl ?_ | refine L.skip rfl ?_)
      refine L.cl (mixed_C i (rnds blk i st 1) (rnds blk i st 2) (rnds blk i st 3) _) rfl rfl ?_
      rintro _ _ ⟨rfl, rfl⟩
      refine ⟨fun _ => Cons.refl _, ?_⟩
      repeat (first | refine W.seq ?_ | refine W.block ?_ | refine W.reg ?_ | refine W.skip ?_ | refine W.exit ?_ | refine W.ret ?_ | refine L.nil ?_ | refine L.p rfl rfl ?_ | refine L.skip rfl ?_)
      refine L.ld (a := ⟨rx, 0, none⟩) (v := v32 (rnds blk i st 0)) (cell_of hx rfl) rfl rfl rfl ?_
      repeat (first | refine W.seq ?_ | refine W.block ?_ | refine W.reg ?_ | refine W.skip ?_ | refine W.exit ?_ | refine W.ret ?_ | refine L.nil ?_ | refine L.p rfl rfl ?_ | refine L.skip rfl ?_)
      refine L.cl (turn_C (rnds blk i st 0) 5 (.inr (.inl rfl)) _) rfl rfl ?_
      rintro _ _ ⟨rfl, rfl⟩
      refine ⟨fun _ => Cons.refl _, ?_⟩
      repeat (first | refine W.seq ?_ | refine W.block ?_ | refine W.reg ?_ | refine W.skip ?_ | refine W.exit ?_ | refine W.ret ?_ | refine L.nil ?_ | refine L.p rfl rfl ?_ | refine L.skip rfl ?_)
      refine L.ld (a := ⟨rx, 4, none⟩) (v := v32 (rnds blk i st 4)) (cell_of hx rfl) rfl rfl rfl ?_
      repeat (first | refine W.seq ?_ | refine W.block ?_ | refine W.reg ?_ | refine W.skip ?_ | refine W.exit ?_ | refine W.ret ?_ | refine L.nil ?_ | refine L.p rfl rfl ?_ | refine L.skip rfl ?_)
      refine L.elA (k := i) (w := v32 ((sched blk 80).getD i 0)) (o := 0) (b := rw) hw (by rw [Nat.zero_add]; exact wcells_get blk hin) rfl (by omega) rfl rfl rfl rfl (fun _ => rfl) rfl (fun p => ?_)
      repeat (first | refine W.seq ?_ | refine W.block ?_ | refine W.reg ?_ | refine W.skip ?_ | refine W.exit ?_ | refine W.ret ?_ | refine L.nil ?_ | refine L.p rfl rfl ?_ | refine L.skip rfl ?_)
      refine L.ld (a := ⟨rx, 0, none⟩) (v := v32 (rnds blk i st 0)) (cell_of hx rfl) rfl rfl rfl ?_
      repeat (first | refine W.seq ?_ | refine W.block ?_ | refine W.reg ?_ | refine W.skip ?_ | refine W.exit ?_ | refine W.ret ?_ | refine L.nil ?_ | refine L.p rfl rfl ?_ | refine L.skip rfl ?_)
      refine L.ld (a := ⟨rx, 1, none⟩) (v := v32 (rnds blk i st 1)) (cell_of hx rfl) rfl rfl rfl ?_
      repeat (first | refine W.seq ?_ | refine W.block ?_ | refine W.reg ?_ | refine W.skip ?_ | refine W.exit ?_ | refine W.ret ?_ | refine L.nil ?_ | refine L.p rfl rfl ?_ | refine L.skip rfl ?_)
      refine L.cl (turn_C (rnds blk i st 1) 30 (.inr (.inr rfl)) _) rfl rfl ?_
      rintro _ _ ⟨rfl, rfl⟩
      refine ⟨fun _ => Cons.refl _, ?_⟩
      repeat (first | refine W.seq ?_ | refine W.block ?_ | refine W.reg ?_ | refine W.skip ?_ | refine W.exit ?_ | refine W.ret ?_ | refine L.nil ?_ | refine L.p rfl rfl ?_ | refine L.skip rfl ?_)
      refine L.ld (a := ⟨rx, 2, none⟩) (v := v32 (rnds blk i st 2)) (cell_of hx rfl) rfl rfl rfl ?_
      repeat (first | refine W.seq ?_ | refine W.block ?_ | refine W.reg ?_ | refine W.skip ?_ | refine W.exit ?_ | refine W.ret ?_ | refine L.nil ?_ | refine L.p rfl rfl ?_ | refine L.skip rfl ?_)
      refine L.ld (a := ⟨rx, 3, none⟩) (v := v32 (rnds blk i st 3)) (cell_of hx rfl) rfl rfl rfl ?_
      repeat (first | refine W.seq ?_ | refine W.block ?_ | refine W.reg ?_ | refine W.skip ?_ | refine W.exit ?_ | refine W.ret ?_ | refine L.nil ?_ | refine L.p rfl rfl ?_ | refine L.skip rfl ?_)
      obtain ⟨nx, hnx⟩ : ∃ nx : Value, nx = .int .u32 (IntKind.u32.wrap (IntKind.u32.wrap (IntKind.u32.wrap (IntKind.u32.wrap (((rnds blk i st 0 <<< 5 ||| rnds blk i st 0 >>> (32 - 5)).toNat : Int) + ((fR i (rnds blk i st 1) (rnds blk i st 2) (rnds blk i st 3)).toNat : Int)) + ((rnds blk i st 4).toNat : Int)) + ((kR i).toNat : Int)) + (((sched blk 80).getD i 0).toNat : Int))) := ⟨_, rfl⟩
      have hnext : nx = v32 (rnds blk (i + 1) st 0) := by
        rw [hnx]
        show _ = v32 (rl 5 (rnds blk i st 0) + fR i (rnds blk i st 1) (rnds blk i st 2) (rnds blk i st 3) + rnds blk i st 4 + kR i + (sched blk 80).getD i 0)
        simp only [v32, rl, Value.int.injEq, true_and, wrap_u32, bits_u32, ofInt_toNat, BitVec.ofInt_add]
      have hcells : ([nx, v32 (rnds blk i st 0), v32 (rnds blk i st 1 <<< 30 ||| rnds blk i st 1 >>> (32 - 30)), v32 (rnds blk i st 2), v32 (rnds blk i st 3)] : List Value) = cells5 (rnds blk (i + 1) st) := list5 hnext rfl rfl rfl rfl
      refine L.bd #[.int .u32 (IntKind.u32.wrap (IntKind.u32.wrap (IntKind.u32.wrap (IntKind.u32.wrap (((rnds blk i st 0 <<< 5 ||| rnds blk i st 0 >>> (32 - 5)).toNat : Int) + ((fR i (rnds blk i st 1) (rnds blk i st 2) (rnds blk i st 3)).toNat : Int)) + ((rnds blk i st 4).toNat : Int)) + ((kR i).toNat : Int)) + (((sched blk 80).getD i 0).toNat : Int))), v32 (rnds blk i st 0), v32 (rnds blk i st 1 <<< 30 ||| rnds blk i st 1 >>> (32 - 30)), v32 (rnds blk i st 2), v32 (rnds blk i st 3)] rfl rfl rfl rfl rfl ?_
      rw [← hnx]
      refine L.st (ad := ⟨rx, 0, none⟩) (vs := [nx, v32 (rnds blk i st 0), v32 (rnds blk i st 1 <<< 30 ||| rnds blk i st 1 >>> (32 - 30)), v32 (rnds blk i st 2), v32 (rnds blk i st 3)]) (write_of (o := 0) hx rfl (by simp [newR, cells5]) (by rw [hnx]; simp [oneCell])) rfl rfl rfl rfl ?_
      repeat (first | refine W.seq ?_ | refine W.block ?_ | refine W.reg ?_ | refine W.skip ?_ | refine W.exit ?_ | refine W.ret ?_ | refine L.nil ?_ | refine L.p rfl rfl ?_ | refine L.skip rfl ?_)
      refine ⟨80 - (i + 1), by omega, i + 1, rfl, by omega, hc.set _ _ (by omega), (row_set_other _ (by omega)).trans hh, (row_set_other _ (by omega)).trans hr, (row_set_other _ (by omega)).trans hw, (row_set_same hx rfl).trans ?_, rfl, rfl, rfl, rfl, ?_⟩
      · refine congrArg (fun c => some (newR c 51)) ?_
        rw [← hcells]
        rfl
      · refine (force_eq rfl).trans ?_
        rw [wrap64 (by omega) (by omega)]; rfl
    · have hin : i = 80 := by simp at h; omega
      subst hin
      repeat (first | refine W.seq ?_ | refine W.block ?_ | refine W.reg ?_ | refine W.skip ?_ | refine W.exit ?_ | refine W.ret ?_ | refine L.nil ?_ | refine L.p rfl rfl ?_ | refine L.skip rfl ?_)
      have hcomp : ∀ j, comp st blk j = rnds blk 80 st j + st j := fun j => BitVec.add_comm _ _
      generalize rnds blk 80 st = X at hcomp hx ⊢
      clear hw
      refine W.loop (fun j e S' => ∃ i, j = 5 - i ∧ i ≤ 5 ∧ Cons S S' ∧ S'.row? rh = some (newR (cells5 st) 51) ∧ S'.row? rr = some (newR (cells5 fun _ => 0#32) 51) ∧ S'.row? rx = some (newR (cells5 fun j => if j < i then X j + st j else X j) 51) ∧ e 2 = .pointer (some ⟨rh, 0, none⟩) ∧ e 4 = .pointer (some ⟨rr, 0, none⟩) ∧ e 7 = .pointer (some ⟨rx, 0, none⟩) ∧ e 12 = vi i) 5 ⟨0, by omega, by omega, hc, hh, hr, hx, rfl, rfl, rfl, rfl⟩ ?_
      clear hc hh hr hx S' h hi e2 e4 e5 e7 e8 e
      rintro j e S' ⟨i, rfl, hi, hc, hh, hr, hx, e2, e4, e7, e12⟩
      refine W.env4 e2 e4 e7 e12 ?_
      repeat (first | refine W.seq ?_ | refine W.block ?_ | refine W.reg ?_ | refine W.skip ?_ | refine W.exit ?_ | refine W.ret ?_ | refine L.nil ?_ | refine L.p rfl rfl ?_ | refine L.skip rfl ?_)
      refine W.ite rfl (fun h => ?_) (fun h => ?_)
      · have hin : i < 5 := by simp at h; omega
        repeat (first | refine W.seq ?_ | refine W.block ?_ | refine W.reg ?_ | refine W.skip ?_ | refine W.exit ?_ | refine W.ret ?_ | refine L.nil ?_ | refine L.p rfl rfl ?_ | refine L.skip rfl ?_)
        refine L.elA (k := i) (w := v32 (X i)) (o := 0) (b := rx) hx (by rw [Nat.zero_add]; show (cells5 (fun j => if j < i then X j + st j else X j))[i]? = _; refine (cells5_get _ hin).trans ?_; simp) rfl hin rfl rfl rfl rfl (fun _ => rfl) rfl (fun p => ?_)
        repeat (first | refine W.seq ?_ | refine W.block ?_ | refine W.reg ?_ | refine W.skip ?_ | refine W.exit ?_ | refine W.ret ?_ | refine L.nil ?_ | refine L.p rfl rfl ?_ | refine L.skip rfl ?_)
        refine L.elA (k := i) (w := v32 (st i)) (o := 0) (b := rh) hh (by rw [Nat.zero_add]; exact cells5_get _ hin) rfl hin rfl rfl rfl rfl (fun _ => rfl) rfl (fun p => ?_)
        repeat (first | refine W.seq ?_ | refine W.block ?_ | refine W.reg ?_ | refine W.skip ?_ | refine W.exit ?_ | refine W.ret ?_ | refine L.nil ?_ | refine L.p rfl rfl ?_ | refine L.skip rfl ?_)
        refine L.elstA (k := i) (w := v32 (X i + st i)) (o := 0) (b := rx) hx rfl (by simp [newR, cells5]) rfl hin rfl rfl rfl rfl (fun _ => rfl) (fun p => ?_) rfl rfl (fun p => ?_)
        · refine (force_eq rfl).trans ?_
          simp only [v32, Value.int.injEq, true_and, wrap_u32, bits_u32, ofInt_toNat, BitVec.ofInt_add]
        repeat (first | refine W.seq ?_ | refine W.block ?_ | refine W.reg ?_ | refine W.skip ?_ | refine W.exit ?_ | refine W.ret ?_ | refine L.nil ?_ | refine L.p rfl rfl ?_ | refine L.skip rfl ?_)
        refine ⟨5 - (i + 1), by omega, i + 1, rfl, by omega, hc.set _ _ (by omega), (row_set_other _ (by omega)).trans hh, (row_set_other _ (by omega)).trans hr, (row_set_same hx rfl).trans ?_, rfl, rfl, rfl, ?_⟩
        · refine congrArg (fun c => some (newR c 51)) ?_
          rw [Nat.zero_add]
          show (cells5 (fun j => if j < i then X j + st j else X j)).set i _ = _
          refine (cells5_set _ _ hin).trans (cells5_congr fun j hj => ?_)
          by_cases h1 : j = i
          · simp [h1]
          · have : j < i + 1 ↔ j < i := by omega
            simp [h1, this]
        · refine (force_eq rfl).trans ?_
          rw [wrap64 (by omega) (by omega)]; rfl
      · have hin : i = 5 := by simp at h; omega
        subst hin
        have hx' : S'.row? rx = some (newR (cells5 (comp st blk)) 51) := by rw [hx, cells5_congr (s' := comp st blk) fun j hj => by simp [hj, hcomp]]
        repeat (first | refine W.seq ?_ | refine W.block ?_ | refine W.reg ?_ | refine W.skip ?_ | refine W.exit ?_ | refine W.ret ?_ | refine L.nil ?_ | refine L.p rfl rfl ?_ | refine L.skip rfl ?_)
        refine L.ldA (a := ⟨rx, 0, none⟩) (n := 5) (l := cells5 (comp st blk)) (cellsAt_of (o := 0) (n := 5) hx' (by simp [newR, cells5])) rfl rfl rfl ?_
        refine L.st (ad := ⟨rr, 0, none⟩) (vs := cells5 (comp st blk)) (write_of (o := 0) hr rfl (by simp [newR, cells5]) (by simp [cells5, oneCell])) rfl rfl rfl rfl ?_
        repeat (first | refine W.seq ?_ | refine W.block ?_ | refine W.reg ?_ | refine W.skip ?_ | refine W.exit ?_ | refine W.ret ?_ | refine L.nil ?_ | refine L.p rfl rfl ?_ | refine L.skip rfl ?_)
        refine ⟨.inr rfl, .agg (cells5 (comp st blk)).toArray, ?_, rfl, hc.set _ _ (by omega)⟩
        show aloadAt Try.prog 51 (.pointer (some ⟨rr, 0, none⟩)) _ = _
        refine aload_agg (a := ⟨rr, 0, none⟩) (n := 5) (l := cells5 (comp st blk)) rfl rfl ?_
        refine (cellsAt_of (o := 0) (n := 5) (row_set_same hr rfl) (by simp [newR, cells5, putFrom])).trans ?_
        rfl
end Go.Proofs.Yteadbbimikcmgaa
