/- What a block does to a hash's state. Conditions: none. -/
import Derived.Test.YteadbbimikcmgaaShaD
import Derived.Test.YteadbbimikcmgaaSlC
set_option linter.unusedSimpArgs false
set_option linter.unusedVariables false
set_option maxRecDepth 100000
set_option maxHeartbeats 4000000
namespace Go.Proofs.Yteadbbimikcmgaa
open Go
variable {G : Nat} {Ext : FuncId → List Value → Mem → Outc → Mem → Prop}

def word (blk : BL) (i : Nat) : BitVec 32 := (blk.getD (4 * i) 0).setWidth 32 <<< 24 ||| (blk.getD (4 * i + 1) 0).setWidth 32 <<< 16 ||| (blk.getD (4 * i + 2) 0).setWidth 32 <<< 8 ||| (blk.getD (4 * i + 3) 0).setWidth 32
def rl (n : Nat) (x : BitVec 32) : BitVec 32 := x <<< n ||| x >>> (32 - n)
def nextW (blk : BL) (l : List (BitVec 32)) (n : Nat) : BitVec 32 := if n < 16 then word blk n else rl 1 (l.getD (n - 3) 0 ^^^ l.getD (n - 8) 0 ^^^ l.getD (n - 14) 0 ^^^ l.getD (n - 16) 0)
def sched (blk : BL) : Nat → List (BitVec 32)
  | 0 => []
  | n + 1 => sched blk n ++ [nextW blk (sched blk n) n]
theorem sched_len (blk : BL) (n : Nat) : (sched blk n).length = n := by induction n with
  | zero => rfl
  | succ n ih => simp [sched, ih]
def wcells (blk : BL) (i : Nat) : List Value := (sched blk i).map v32 ++ List.replicate (80 - i) (v32 0#32)
theorem wcells_len (blk : BL) {i : Nat} (h : i ≤ 80) : (wcells blk i).length = 80 := by simp [wcells, sched_len]; omega
theorem wcells_get (blk : BL) {i k : Nat} (h : k < i) : (wcells blk i)[k]? = some (v32 ((sched blk i).getD k 0)) := by
  unfold wcells
  rw [List.getElem?_append_left (by simpa [sched_len] using h), List.getElem?_map, List.getD_eq_getElem?_getD]
  rw [List.getElem?_eq_getElem (by rw [sched_len]; exact h)]
  rfl
theorem wcells_set (blk : BL) {i : Nat} (h : i < 80) : (wcells blk i).set i (v32 (nextW blk (sched blk i) i)) = wcells blk (i + 1) := by
  unfold wcells
  rw [List.set_append_right _ _ (by simp [sched_len])]
  simp only [List.length_map, sched_len, Nat.sub_self]
  rw [show 80 - i = (80 - (i + 1)) + 1 by omega, List.replicate_succ, List.set_cons_zero]
  simp [sched]
theorem bvd (l : BL) {k : Nat} (h : k < l.length) : (bv l)[k]? = some (v8 (l.getD k 0)) := by
  rw [bv_get' l h, List.getD_eq_getElem?_getD, List.getElem?_eq_getElem h]; rfl
theorem ofInt_8_32 (x : BitVec 8) : BitVec.ofInt 32 (x.toNat : Int) = x.setWidth 32 := by apply BitVec.eq_of_toNat_eq; simp [BitVec.toNat_ofInt]
theorem min_24 : min (Int.toNat 24) 32 = 24 := rfl
theorem min_16 : min (Int.toNat 16) 32 = 16 := rfl
theorem min_8 : min (Int.toNat 8) 32 = 8 := rfl

def fP (t : Nat) (b c d : BitVec 32) : BitVec 32 := if t < 20 then d ^^^ (b &&& (c ^^^ d)) else if t < 40 then b ^^^ c ^^^ d else if t < 60 then (b &&& c) ||| (d &&& (b ||| c)) else b ^^^ c ^^^ d
theorem fP_eq (t : Nat) (b c d : BitVec 32) : fP t b c d = fR t b c d := by
  unfold fP fR
  split
  · apply BitVec.eq_of_getLsbD_eq
    intro i hi
    simp only [BitVec.getLsbD_xor, BitVec.getLsbD_and, BitVec.getLsbD_or, BitVec.getLsbD_not]
    cases b.getLsbD i <;> cases c.getLsbD i <;> cases d.getLsbD i <;> simp [hi]
  · split
    · rfl
    · split
      · apply BitVec.eq_of_getLsbD_eq
        intro i hi
        simp only [BitVec.getLsbD_xor, BitVec.getLsbD_and, BitVec.getLsbD_or, BitVec.getLsbD_not]
        cases b.getLsbD i <;> cases c.getLsbD i <;> cases d.getLsbD i <;> simp
      · rfl
def rnd (t : Nat) (w : BitVec 32) (x : St) : St := fun j => match j with
  | 0 => rl 5 (x 0) + fR t (x 1) (x 2) (x 3) + x 4 + kR t + w
  | 1 => x 0
  | 2 => rl 30 (x 1)
  | 3 => x 2
  | _ => x 3
def rnds (blk : BL) : Nat → St → St
  | 0, x => x
  | n + 1, x => rnd n ((sched blk 80).getD n 0) (rnds blk n x)
def comp (st : St) (blk : BL) : St := fun j => st j + rnds blk 80 st j

theorem hash_blk (st : St) (blk : BL) (n : BitVec 64) (k : Nat) (hk : k < blk.length) : (hashCells st blk n)[5 + k]? = some (v8 (blk.getD k 0)) := by
  unfold hashCells
  rw [List.getElem?_append_right (by simp [cells5])]
  rw [List.getElem?_append_left (by rw [bv_len]; simp [cells5]; exact hk)]
  rw [show 5 + k - (cells5 st).length = k by simp [cells5]]
  exact bvd _ hk

theorem cells5_get (st : St) {k : Nat} (h : k < 5) : (cells5 st)[k]? = some (v32 (st k)) := match k, h with
  | 0, _ => rfl
  | 1, _ => rfl
  | 2, _ => rfl
  | 3, _ => rfl
  | 4, _ => rfl
theorem hash_get (st : St) (blk : BL) (n : BitVec 64) {k : Nat} (h : k < 5) : (hashCells st blk n)[k]? = some (v32 (st k)) := by
  unfold hashCells; rw [List.getElem?_append_left (by simpa [cells5] using h)]; exact cells5_get st h
theorem hash_set (st : St) (blk : BL) (n : BitVec 64) (y : BitVec 32) {k : Nat} (h : k < 5) : (hashCells st blk n).set k (v32 y) = hashCells (fun j => if j = k then y else st j) blk n := match k, h with
  | 0, _ => rfl
  | 1, _ => rfl
  | 2, _ => rfl
  | 3, _ => rfl
  | 4, _ => rfl
theorem hash_congr {s s' : St} (blk : BL) (n : BitVec 64) (h : ∀ j, j < 5 → s j = s' j) : hashCells s blk n = hashCells s' blk n := by
  unfold hashCells cells5; rw [h 0 (by omega), h 1 (by omega), h 2 (by omega), h 3 (by omega), h 4 (by omega)]
theorem set_same {S : Mem} {b : Nat} {r : Row} (h : S.row? b = some r) : S.set b r = S := by
  have h1 := (Mem.row?_some h).1
  obtain ⟨h2, h3⟩ := List.getElem?_eq_some_iff.1 h1
  rw [← h3]; exact List.set_getElem_self h2
theorem set_set' (S : Mem) (b : Nat) (x y : Row) : List.set (S.set b x) b y = S.set b y := List.set_set ..
theorem hash_len (st : St) {blk : BL} (n : BitVec 64) (h : blk.length = 64) : (hashCells st blk n).length = 70 := by simp [hashCells, cells5, bv_len, h]
theorem wcells_all (blk : BL) : ((newR (wcells blk 80) 57).cells.drop 0).take 80 = wcells blk 80 := by
  rw [List.drop_zero]; exact List.take_of_length_le (by simp [newR, wcells_len])
theorem mix_C (b : Nat) (st : St) (blk : BL) (n : BitVec 64) (S : Mem) (hr : S.row? b = some (newR (hashCells st blk n) 55)) (hl : blk.length = 64) :
    C Try.prog G Ext 27 [.pointer (some ⟨b, 0, none⟩)] S fun v S' => Keep b S S' ∧ S'.row? b = some (newR (hashCells (comp st blk) blk n) 55) := by
  have hb := row_lt hr
  refine C.fn Try.func27 rfl (by kernel_rfl) rfl ?_
  repeat (first | refine W.seq ?_ | refine W.block ?_ | refine W.reg ?_ | refine W.skip ?_ | refine W.exit ?_ | refine W.ret ?_ | refine L.nil ?_ | refine L.p rfl rfl ?_ | refine L.skip rfl ?_)
  refine L.eff (v := .pointer (some ⟨S.length, 0, none⟩)) (S1 := S ++ [newR (wcells blk 0) 57]) rfl rfl ?_
  repeat (first | refine W.seq ?_ | refine W.block ?_ | refine W.reg ?_ | refine W.skip ?_ | refine W.exit ?_ | refine W.ret ?_ | refine L.nil ?_ | refine L.p rfl rfl ?_ | refine L.skip rfl ?_)
  refine W.loop (fun j e S' => ∃ i, j = 80 - i ∧ i ≤ 80 ∧ S' = S ++ [newR (wcells blk i) 57] ∧ e 0 = .pointer (some ⟨b, 0, none⟩) ∧ e 2 = .pointer (some ⟨S.length, 0, none⟩) ∧ e 16 = vi i) 80 ⟨0, by omega, by omega, rfl, rfl, rfl, rfl⟩ ?_
  rintro j e S' ⟨i, rfl, hi, rfl, e0, e2, e16⟩
  refine W.env3 e0 e2 e16 ?_
  have hrS : Mem.row? (S ++ [newR (wcells blk i) 57]) b = some (newR (hashCells st blk n) 55) := (row_push_old hb).trans hr
  repeat (first | refine W.seq ?_ | refine W.block ?_ | refine W.reg ?_ | refine W.skip ?_ | refine W.exit ?_ | refine W.ret ?_ | refine L.nil ?_ | refine L.p rfl rfl ?_ | refine L.skip rfl ?_)
  refine W.ite rfl (fun h => ?_) (fun h => ?_)
  · have hin : i < 80 := by simp at h; omega
    repeat (first | refine W.seq ?_ | refine W.block ?_ | refine W.reg ?_ | refine W.skip ?_ | refine W.exit ?_ | refine W.ret ?_ | refine L.nil ?_ | refine L.p rfl rfl ?_ | refine L.skip rfl ?_)
    refine W.ite rfl (fun h => ?_) (fun h => ?_)
    · have h16 : i < 16 := by simp at h; omega
      repeat (first | refine W.seq ?_ | refine W.block ?_ | refine W.reg ?_ | refine W.skip ?_ | refine W.exit ?_ | refine W.ret ?_ | refine L.nil ?_ | refine L.p rfl rfl ?_ | refine L.skip rfl ?_)
      have hsl : Slv (S ++ [newR (wcells blk i) 57]) 1 (.slice (some ⟨b, 5 + 4 * i * 1, none⟩) (64 - 4 * i) (64 - 4 * i)) (64 - 4 * i) (bv (blk.drop (4 * i))) := by
        have := Slv.of (sz := 1) (n := 64 - 4 * i) (o := 5 + 4 * i * 1) (c := 64 - 4 * i) hrS (by simp [newR, hashCells, cells5, bv_len, hl]; omega)
        have hd : ((newR (hashCells st blk n) 55).cells.drop (5 + 4 * i * 1)).take ((64 - 4 * i) * 1) = bv (blk.drop (4 * i)) := by
          simp only [newR, hashCells, Nat.mul_one]
          rw [List.drop_append, List.drop_eq_nil_of_le (by simp [cells5]), List.nil_append, show 5 + 4 * i - (cells5 st).length = 4 * i by simp [cells5], List.drop_append_of_le_length (by rw [bv_len]; omega), List.take_append_of_le_length (by simp [bv_len, hl])]
          rw [List.take_of_length_le (by simp [bv_len, hl])]
          simp [bv, List.map_drop]
        rwa [hd] at this
      refine L.is (.slice (some ⟨b, 5 + 4 * i * 1, none⟩) (64 - 4 * i) (64 - 4 * i)) ?_ rfl ?_
      · rw [slice_arr (a := ⟨b, 5, none⟩) (n := 64) (sz := 1) rfl rfl rfl (by decide)]
        refine aslice_lo (kd := .i64) ?_ (by decide) (by omega) (by omega)
        refine (force_eq rfl).trans ?_
        rw [wrap64 (by omega) (by omega)]
        congr 1
      have hget : ∀ k, k < 4 → (bv (blk.drop (4 * i)))[k]? = some (v8 (blk.getD (4 * i + k) 0)) := fun k hk => by
        rw [bvd _ (by rw [List.length_drop]; omega)]
        simp [List.getD_eq_getElem?_getD, List.getElem?_drop]
      repeat (first | refine W.seq ?_ | refine W.block ?_ | refine W.reg ?_ | refine W.skip ?_ | refine W.exit ?_ | refine W.ret ?_ | refine L.nil ?_ | refine L.p rfl rfl ?_ | refine L.skip rfl ?_)
      refine L.el (k := 0) hsl rfl (hget 0 (by omega)) rfl rfl rfl rfl (fun _ => rfl) rfl (fun p => ?_)
      repeat (first | refine W.seq ?_ | refine W.block ?_ | refine W.reg ?_ | refine W.skip ?_ | refine W.exit ?_ | refine W.ret ?_ | refine L.nil ?_ | refine L.p rfl rfl ?_ | refine L.skip rfl ?_)
      refine L.el (k := 1) hsl rfl (hget 1 (by omega)) rfl rfl rfl rfl (fun _ => rfl) rfl (fun p => ?_)
      repeat (first | refine W.seq ?_ | refine W.block ?_ | refine W.reg ?_ | refine W.skip ?_ | refine W.exit ?_ | refine W.ret ?_ | refine L.nil ?_ | refine L.p rfl rfl ?_ | refine L.skip rfl ?_)
      refine L.el (k := 2) hsl rfl (hget 2 (by omega)) rfl rfl rfl rfl (fun _ => rfl) rfl (fun p => ?_)
      repeat (first | refine W.seq ?_ | refine W.block ?_ | refine W.reg ?_ | refine W.skip ?_ | refine W.exit ?_ | refine W.ret ?_ | refine L.nil ?_ | refine L.p rfl rfl ?_ | refine L.skip rfl ?_)
      refine L.el (k := 3) hsl rfl (hget 3 (by omega)) rfl rfl rfl rfl (fun _ => rfl) rfl (fun p => ?_)
      repeat (first | refine W.seq ?_ | refine W.block ?_ | refine W.reg ?_ | refine W.skip ?_ | refine W.exit ?_ | refine W.ret ?_ | refine L.nil ?_ | refine L.p rfl rfl ?_ | refine L.skip rfl ?_)
      refine L.elstA (k := i) (w := v32 (word blk i)) (row_push_new rfl) rfl (by simp [newR, wcells_len _ hi]) rfl (by omega) rfl rfl rfl rfl (fun _ => rfl) (fun p => ?_) rfl rfl (fun p => ?_)
      · refine (force_eq rfl).trans ?_
        simp only [v32, Value.int.injEq, true_and, wrap_u32, bits_u32, ofInt_toNat, ofInt_8_32, ofInt_shl, word]
        rfl
      rw [set_push]
      repeat (first | refine W.seq ?_ | refine W.block ?_ | refine W.reg ?_ | refine W.skip ?_ | refine W.exit ?_ | refine W.ret ?_ | refine L.nil ?_ | refine L.p rfl rfl ?_ | refine L.skip rfl ?_)
      refine ⟨80 - (i + 1), by omega, i + 1, rfl, by omega, ?_, rfl, rfl, ?_⟩
      · refine congrArg (fun c => S ++ [newR c 57]) ?_
        rw [← wcells_set blk hin, nextW, if_pos h16]
        simp [newR]
      · refine (force_eq rfl).trans ?_
        rw [wrap64 (by omega) (by omega)]; rfl
    · have h16 : ¬ i < 16 := by simp at h; omega
      have hw : ∀ k, k < i → (newR (wcells blk i) 57).cells[0 + k]? = some (v32 ((sched blk i).getD k 0)) := fun k hk => by rw [Nat.zero_add]; exact wcells_get blk hk
      repeat (first | refine W.seq ?_ | refine W.block ?_ | refine W.reg ?_ | refine W.skip ?_ | refine W.exit ?_ | refine W.ret ?_ | refine L.nil ?_ | refine L.p rfl rfl ?_ | refine L.skip rfl ?_)
      refine L.elA (k := i - 3) (row_push_new rfl) (hw _ (by omega)) (by rw [wrap64 (by omega) (by omega)]; omega) (by omega) rfl rfl rfl rfl (fun _ => rfl) rfl (fun p => ?_)
      repeat (first | refine W.seq ?_ | refine W.block ?_ | refine W.reg ?_ | refine W.skip ?_ | refine W.exit ?_ | refine W.ret ?_ | refine L.nil ?_ | refine L.p rfl rfl ?_ | refine L.skip rfl ?_)
      refine L.elA (k := i - 8) (row_push_new rfl) (hw _ (by omega)) (by rw [wrap64 (by omega) (by omega)]; omega) (by omega) rfl rfl rfl rfl (fun _ => rfl) rfl (fun p => ?_)
      repeat (first | refine W.seq ?_ | refine W.block ?_ | refine W.reg ?_ | refine W.skip ?_ | refine W.exit ?_ | refine W.ret ?_ | refine L.nil ?_ | refine L.p rfl rfl ?_ | refine L.skip rfl ?_)
      refine L.elA (k := i - 14) (row_push_new rfl) (hw _ (by omega)) (by rw [wrap64 (by omega) (by omega)]; omega) (by omega) rfl rfl rfl rfl (fun _ => rfl) rfl (fun p => ?_)
      repeat (first | refine W.seq ?_ | refine W.block ?_ | refine W.reg ?_ | refine W.skip ?_ | refine W.exit ?_ | refine W.ret ?_ | refine L.nil ?_ | refine L.p rfl rfl ?_ | refine L.skip rfl ?_)
      refine L.elA (k := i - 16) (row_push_new rfl) (hw _ (by omega)) (by rw [wrap64 (by omega) (by omega)]; omega) (by omega) rfl rfl rfl rfl (fun _ => rfl) rfl (fun p => ?_)
      repeat (first | refine W.seq ?_ | refine W.block ?_ | refine W.reg ?_ | refine W.skip ?_ | refine W.exit ?_ | refine W.ret ?_ | refine L.nil ?_ | refine L.p rfl rfl ?_ | refine L.skip rfl ?_)
      refine L.cl (f := 30) (args := [v32 ((sched blk i).getD (i - 3) 0 ^^^ (sched blk i).getD (i - 8) 0 ^^^ (sched blk i).getD (i - 14) 0 ^^^ (sched blk i).getD (i - 16) 0), vi 1]) (rot_C _ 1 (.inl rfl) _) rfl (acall_eq (list2 ((force_eq rfl).trans ?_) rfl)) ?_
      · simp only [v32, Value.int.injEq, true_and, wrap_u32, bits_u32, ofInt_toNat]
        rfl
      rintro _ _ ⟨rfl, rfl⟩
      refine ⟨fun _ => Cons.refl _, ?_⟩
      repeat (first | refine W.seq ?_ | refine W.block ?_ | refine W.reg ?_ | refine W.skip ?_ | refine W.exit ?_ | refine W.ret ?_ | refine L.nil ?_ | refine L.p rfl rfl ?_ | refine L.skip rfl ?_)
      refine L.elstA (k := i) (w := v32 (nextW blk (sched blk i) i)) (row_push_new rfl) rfl (by simp [newR, wcells_len _ hi]) rfl (by omega) rfl rfl rfl rfl (fun _ => rfl) (fun p => ?_) rfl rfl (fun p => ?_)
      · rw [nextW, if_neg h16]; rfl
      rw [set_push]
      repeat (first | refine W.seq ?_ | refine W.block ?_ | refine W.reg ?_ | refine W.skip ?_ | refine W.exit ?_ | refine W.ret ?_ | refine L.nil ?_ | refine L.p rfl rfl ?_ | refine L.skip rfl ?_)
      refine ⟨80 - (i + 1), by omega, i + 1, rfl, by omega, ?_, rfl, rfl, ?_⟩
      · refine congrArg (fun c => S ++ [newR c 57]) ?_
        rw [← wcells_set blk hin]
        simp [newR]
      · refine (force_eq rfl).trans ?_
        rw [wrap64 (by omega) (by omega)]; rfl
  · have hin : i = 80 := by simp at h; omega
    subst hin
    repeat (first | refine W.seq ?_ | refine W.block ?_ | refine W.reg ?_ | refine W.skip ?_ | refine W.exit ?_ | refine W.ret ?_ | refine L.nil ?_ | refine L.p rfl rfl ?_ | refine L.skip rfl ?_)
    refine L.ld (a := ⟨b, 0, none⟩) (v := v32 (st 0)) (cell_of hrS rfl) rfl rfl rfl ?_
    repeat (first | refine W.seq ?_ | refine W.block ?_ | refine W.reg ?_ | refine W.skip ?_ | refine W.exit ?_ | refine W.ret ?_ | refine L.nil ?_ | refine L.p rfl rfl ?_ | refine L.skip rfl ?_)
    refine L.ld (a := ⟨b, 1, none⟩) (v := v32 (st 1)) (cell_of hrS rfl) rfl rfl rfl ?_
    repeat (first | refine W.seq ?_ | refine W.block ?_ | refine W.reg ?_ | refine W.skip ?_ | refine W.exit ?_ | refine W.ret ?_ | refine L.nil ?_ | refine L.p rfl rfl ?_ | refine L.skip rfl ?_)
    refine L.ld (a := ⟨b, 2, none⟩) (v := v32 (st 2)) (cell_of hrS rfl) rfl rfl rfl ?_
    repeat (first | refine W.seq ?_ | refine W.block ?_ | refine W.reg ?_ | refine W.skip ?_ | refine W.exit ?_ | refine W.ret ?_ | refine L.nil ?_ | refine L.p rfl rfl ?_ | refine L.skip rfl ?_)
    refine L.ld (a := ⟨b, 3, none⟩) (v := v32 (st 3)) (cell_of hrS rfl) rfl rfl rfl ?_
    repeat (first | refine W.seq ?_ | refine W.block ?_ | refine W.reg ?_ | refine W.skip ?_ | refine W.exit ?_ | refine W.ret ?_ | refine L.nil ?_ | refine L.p rfl rfl ?_ | refine L.skip rfl ?_)
    refine L.ld (a := ⟨b, 4, none⟩) (v := v32 (st 4)) (cell_of hrS rfl) rfl rfl rfl ?_
    repeat (first | refine W.seq ?_ | refine W.block ?_ | refine W.reg ?_ | refine W.skip ?_ | refine W.exit ?_ | refine W.ret ?_ | refine L.nil ?_ | refine L.p rfl rfl ?_ | refine L.skip rfl ?_)
    refine L.ldA (a := ⟨S.length, 0, none⟩) (n := 80) (l := wcells blk 80) ((cellsAt_of (o := 0) (n := 80) (row_push_new rfl) (by simp [newR, wcells_len])).trans (congrArg some (wcells_all blk))) rfl rfl rfl ?_
    repeat (first | refine W.seq ?_ | refine W.block ?_ | refine W.reg ?_ | refine W.skip ?_ | refine W.exit ?_ | refine W.ret ?_ | refine L.nil ?_ | refine L.p rfl rfl ?_ | refine L.skip rfl ?_)
    refine W.loop (fun j e S' => ∃ i, j = 80 - i ∧ i ≤ 80 ∧ S' = S ++ [newR (wcells blk 80) 57] ∧ e 0 = .pointer (some ⟨b, 0, none⟩) ∧ e 99 = .agg (wcells blk 80).toArray ∧ e 5 = v32 (rnds blk i st 0) ∧ e 6 = v32 (rnds blk i st 1) ∧ e 7 = v32 (rnds blk i st 2) ∧ e 8 = v32 (rnds blk i st 3) ∧ e 9 = v32 (rnds blk i st 4) ∧ e 100 = vi i) 80 ⟨0, by omega, by omega, rfl, rfl, rfl, rfl, rfl, rfl, rfl, rfl, rfl⟩ ?_
    clear e e0 e2 hi e16 h
    rintro j e S' ⟨i, rfl, hi, rfl, e0, e99, e5, e6, e7, e8, e9, e100⟩
    refine W.env8 e0 e99 e5 e6 e7 e8 e9 e100 ?_
    repeat (first | refine W.seq ?_ | refine W.block ?_ | refine W.reg ?_ | refine W.skip ?_ | refine W.exit ?_ | refine W.ret ?_ | refine L.nil ?_ | refine L.p rfl rfl ?_ | refine L.skip rfl ?_)
    refine W.ite rfl (fun h => ?_) (fun h => ?_)
    · have hin : i < 80 := by simp at h; omega
      repeat (first | refine W.seq ?_ | refine W.block ?_ | refine W.reg ?_ | refine W.skip ?_ | refine W.exit ?_ | refine W.ret ?_ | refine L.nil ?_ | refine L.p rfl rfl ?_ | refine L.skip rfl ?_)
      refine L.ia (k := i) (w := v32 ((sched blk 80).getD i 0)) rfl rfl rfl hin rfl rfl rfl (by rw [List.getElem?_toArray]; exact wcells_get blk hin) rfl ?_
      repeat (first | refine W.seq ?_ | refine W.block ?_ | refine W.reg ?_ | refine W.skip ?_ | refine W.exit ?_ | refine W.ret ?_ | refine L.nil ?_ | refine L.p rfl rfl ?_ | refine L.skip rfl ?_)
      refine W.ite rfl (fun h => ?_) (fun h => ?_)
      · have h1 : i < 20 := by simp at h; omega
        repeat (first | refine W.seq ?_ | refine W.block ?_ | refine W.reg ?_ | refine W.skip ?_ | refine W.exit ?_ | refine W.ret ?_ | refine L.nil ?_ | refine L.p rfl rfl ?_ | refine L.skip rfl ?_)
        refine L.cl (rot_C (rnds blk i st 0) 5 (.inr (.inl rfl)) _) rfl rfl ?_
        rintro _ _ ⟨rfl, rfl⟩
        refine ⟨fun _ => Cons.refl _, ?_⟩
        repeat (first | refine W.seq ?_ | refine W.block ?_ | refine W.reg ?_ | refine W.skip ?_ | refine W.exit ?_ | refine W.ret ?_ | refine L.nil ?_ | refine L.p rfl rfl ?_ | refine L.skip rfl ?_)
        refine L.cl (rot_C (rnds blk i st 1) 30 (.inr (.inr rfl)) _) rfl rfl ?_
        rintro _ _ ⟨rfl, rfl⟩
        refine ⟨fun _ => Cons.refl _, ?_⟩
        repeat (first | refine W.seq ?_ | refine W.block ?_ | refine W.reg ?_ | refine W.skip ?_ | refine W.exit ?_ | refine W.ret ?_ | refine L.nil ?_ | refine L.p rfl rfl ?_ | refine L.skip rfl ?_)
        refine ⟨80 - (i + 1), by omega, i + 1, rfl, by omega, rfl, rfl, rfl, ?_, rfl, rfl, rfl, rfl, ?_⟩
        · refine (force_eq rfl).trans ?_
          show _ = v32 (rl 5 (rnds blk i st 0) + fR i (rnds blk i st 1) (rnds blk i st 2) (rnds blk i st 3) + rnds blk i st 4 + kR i + (sched blk 80).getD i 0)
          rw [← fP_eq]
          simp only [fP, kR, rl, h1, if_true, if_false, v32, Value.int.injEq, true_and, wrap_u32, bits_u32, ofInt_toNat, BitVec.ofInt_add]
          rfl
        · refine (force_eq rfl).trans ?_
          rw [wrap64 (by omega) (by omega)]; rfl
      · have h1 : ¬ i < 20 := by simp at h; omega
        repeat (first | refine W.seq ?_ | refine W.block ?_ | refine W.reg ?_ | refine W.skip ?_ | refine W.exit ?_ | refine W.ret ?_ | refine L.nil ?_ | refine L.p rfl rfl ?_ | refine L.skip rfl ?_)
        refine W.ite rfl (fun h => ?_) (fun h => ?_)
        · have h2 : i < 40 := by simp at h; omega
          repeat (first | refine W.seq ?_ | refine W.block ?_ | refine W.reg ?_ | refine W.skip ?_ | refine W.exit ?_ | refine W.ret ?_ | refine L.nil ?_ | refine L.p rfl rfl ?_ | refine L.skip rfl ?_)
          refine L.cl (rot_C (rnds blk i st 0) 5 (.inr (.inl rfl)) _) rfl rfl ?_
          rintro _ _ ⟨rfl, rfl⟩
          refine ⟨fun _ => Cons.refl _, ?_⟩
          repeat (first | refine W.seq ?_ | refine W.block ?_ | refine W.reg ?_ | refine W.skip ?_ | refine W.exit ?_ | refine W.ret ?_ | refine L.nil ?_ | refine L.p rfl rfl ?_ | refine L.skip rfl ?_)
          refine L.cl (rot_C (rnds blk i st 1) 30 (.inr (.inr rfl)) _) rfl rfl ?_
          rintro _ _ ⟨rfl, rfl⟩
          refine ⟨fun _ => Cons.refl _, ?_⟩
          repeat (first | refine W.seq ?_ | refine W.block ?_ | refine W.reg ?_ | refine W.skip ?_ | refine W.exit ?_ | refine W.ret ?_ | refine L.nil ?_ | refine L.p rfl rfl ?_ | refine L.skip rfl ?_)
          refine ⟨80 - (i + 1), by omega, i + 1, rfl, by omega, rfl, rfl, rfl, ?_, rfl, rfl, rfl, rfl, ?_⟩
          · refine (force_eq rfl).trans ?_
            show _ = v32 (rl 5 (rnds blk i st 0) + fR i (rnds blk i st 1) (rnds blk i st 2) (rnds blk i st 3) + rnds blk i st 4 + kR i + (sched blk 80).getD i 0)
            rw [← fP_eq]
            simp only [fP, kR, rl, h1,h2, if_true, if_false, v32, Value.int.injEq, true_and, wrap_u32, bits_u32, ofInt_toNat, BitVec.ofInt_add]
            rfl
          · refine (force_eq rfl).trans ?_
            rw [wrap64 (by omega) (by omega)]; rfl
        · have h2 : ¬ i < 40 := by simp at h; omega
          repeat (first | refine W.seq ?_ | refine W.block ?_ | refine W.reg ?_ | refine W.skip ?_ | refine W.exit ?_ | refine W.ret ?_ | refine L.nil ?_ | refine L.p rfl rfl ?_ | refine L.skip rfl ?_)
          refine W.ite rfl (fun h => ?_) (fun h => ?_)
          · have h3 : i < 60 := by simp at h; omega
            repeat (first | refine W.seq ?_ | refine W.block ?_ | refine W.reg ?_ | refine W.skip ?_ | refine W.exit ?_ | refine W.ret ?_ | refine L.nil ?_ | refine L.p rfl rfl ?_ | refine L.skip rfl ?_)
            refine L.cl (rot_C (rnds blk i st 0) 5 (.inr (.inl rfl)) _) rfl rfl ?_
            rintro _ _ ⟨rfl, rfl⟩
            refine ⟨fun _ => Cons.refl _, ?_⟩
            repeat (first | refine W.seq ?_ | refine W.block ?_ | refine W.reg ?_ | refine W.skip ?_ | refine W.exit ?_ | refine W.ret ?_ | refine L.nil ?_ | refine L.p rfl rfl ?_ | refine L.skip rfl ?_)
            refine L.cl (rot_C (rnds blk i st 1) 30 (.inr (.inr rfl)) _) rfl rfl ?_
            rintro _ _ ⟨rfl, rfl⟩
            refine ⟨fun _ => Cons.refl _, ?_⟩
            repeat (first | refine W.seq ?_ | refine W.block ?_ | refine W.reg ?_ | refine W.skip ?_ | refine W.exit ?_ | refine W.ret ?_ | refine L.nil ?_ | refine L.p rfl rfl ?_ | refine L.skip rfl ?_)
            refine ⟨80 - (i + 1), by omega, i + 1, rfl, by omega, rfl, rfl, rfl, ?_, rfl, rfl, rfl, rfl, ?_⟩
            · refine (force_eq rfl).trans ?_
              show _ = v32 (rl 5 (rnds blk i st 0) + fR i (rnds blk i st 1) (rnds blk i st 2) (rnds blk i st 3) + rnds blk i st 4 + kR i + (sched blk 80).getD i 0)
              rw [← fP_eq]
              simp only [fP, kR, rl, h1,h2,h3, if_true, if_false, v32, Value.int.injEq, true_and, wrap_u32, bits_u32, ofInt_toNat, BitVec.ofInt_add]
              rfl
            · refine (force_eq rfl).trans ?_
              rw [wrap64 (by omega) (by omega)]; rfl
          · have h3 : ¬ i < 60 := by simp at h; omega
            repeat (first | refine W.seq ?_ | refine W.block ?_ | refine W.reg ?_ | refine W.skip ?_ | refine W.exit ?_ | refine W.ret ?_ | refine L.nil ?_ | refine L.p rfl rfl ?_ | refine L.skip rfl ?_)
            refine L.cl (rot_C (rnds blk i st 0) 5 (.inr (.inl rfl)) _) rfl rfl ?_
            rintro _ _ ⟨rfl, rfl⟩
            refine ⟨fun _ => Cons.refl _, ?_⟩
            repeat (first | refine W.seq ?_ | refine W.block ?_ | refine W.reg ?_ | refine W.skip ?_ | refine W.exit ?_ | refine W.ret ?_ | refine L.nil ?_ | refine L.p rfl rfl ?_ | refine L.skip rfl ?_)
            refine L.cl (rot_C (rnds blk i st 1) 30 (.inr (.inr rfl)) _) rfl rfl ?_
            rintro _ _ ⟨rfl, rfl⟩
            refine ⟨fun _ => Cons.refl _, ?_⟩
            repeat (first | refine W.seq ?_ | refine W.block ?_ | refine W.reg ?_ | refine W.skip ?_ | refine W.exit ?_ | refine W.ret ?_ | refine L.nil ?_ | refine L.p rfl rfl ?_ | refine L.skip rfl ?_)
            refine ⟨80 - (i + 1), by omega, i + 1, rfl, by omega, rfl, rfl, rfl, ?_, rfl, rfl, rfl, rfl, ?_⟩
            · refine (force_eq rfl).trans ?_
              show _ = v32 (rl 5 (rnds blk i st 0) + fR i (rnds blk i st 1) (rnds blk i st 2) (rnds blk i st 3) + rnds blk i st 4 + kR i + (sched blk 80).getD i 0)
              rw [← fP_eq]
              simp only [fP, kR, rl, h1,h2,h3, if_true, if_false, v32, Value.int.injEq, true_and, wrap_u32, bits_u32, ofInt_toNat, BitVec.ofInt_add]
              rfl
            · refine (force_eq rfl).trans ?_
              rw [wrap64 (by omega) (by omega)]; rfl
    · have hin : i = 80 := by simp at h; omega
      subst hin
      repeat (first | refine W.seq ?_ | refine W.block ?_ | refine W.reg ?_ | refine W.skip ?_ | refine W.exit ?_ | refine W.ret ?_ | refine L.nil ?_ | refine L.p rfl rfl ?_ | refine L.skip rfl ?_)
      have hcomp : ∀ j, comp st blk j = st j + rnds blk 80 st j := fun _ => rfl
      have hwc : (wcells blk 80).length = 80 := wcells_len blk (Nat.le_refl _)
      generalize rnds blk 80 st = X at hcomp ⊢
      generalize wcells blk 80 = wc at hrS ⊢
      refine L.bd (cells5 (X)).toArray rfl rfl rfl rfl rfl ?_
      repeat (first | refine W.seq ?_ | refine W.block ?_ | refine W.reg ?_ | refine W.skip ?_ | refine W.exit ?_ | refine W.ret ?_ | refine L.nil ?_ | refine L.p rfl rfl ?_ | refine L.skip rfl ?_)
      refine W.loop (fun j e S' => ∃ i, j = 5 - i ∧ i ≤ 5 ∧ S' = (S ++ [newR (wc) 57]).set b (newR (hashCells (fun j => if j < i then (st j + X j) else st j) blk n) 55) ∧ e 0 = .pointer (some ⟨b, 0, none⟩) ∧ e 155 = .agg (cells5 (X)).toArray ∧ e 156 = vi i) 5 ⟨0, by omega, by omega, (set_same hrS).symm, rfl, rfl, rfl⟩ ?_
      clear e e0 hi h e99 e5 e6 e7 e8 e9 e100 hwc
      rintro j e S' ⟨i, rfl, hi, rfl, e0, e155, e156⟩
      refine W.env3 e0 e155 e156 ?_
      have hrow : Mem.row? ((S ++ [newR (wc) 57]).set b (newR (hashCells (fun j => if j < i then (st j + X j) else st j) blk n) 55)) b = _ := row_set_same hrS rfl
      repeat (first | refine W.seq ?_ | refine W.block ?_ | refine W.reg ?_ | refine W.skip ?_ | refine W.exit ?_ | refine W.ret ?_ | refine L.nil ?_ | refine L.p rfl rfl ?_ | refine L.skip rfl ?_)
      refine W.ite rfl (fun h => ?_) (fun h => ?_)
      · have hin : i < 5 := by simp at h; omega
        repeat (first | refine W.seq ?_ | refine W.block ?_ | refine W.reg ?_ | refine W.skip ?_ | refine W.exit ?_ | refine W.ret ?_ | refine L.nil ?_ | refine L.p rfl rfl ?_ | refine L.skip rfl ?_)
        refine L.ia (k := i) (w := v32 (X i)) rfl rfl rfl hin rfl rfl rfl (by rw [List.getElem?_toArray]; exact cells5_get _ hin) rfl ?_
        repeat (first | refine W.seq ?_ | refine W.block ?_ | refine W.reg ?_ | refine W.skip ?_ | refine W.exit ?_ | refine W.ret ?_ | refine L.nil ?_ | refine L.p rfl rfl ?_ | refine L.skip rfl ?_)
        refine L.elA (k := i) (w := v32 (st i)) (o := 0) (b := b) hrow (by rw [Nat.zero_add]; refine (hash_get _ _ _ hin).trans ?_; simp) rfl hin rfl rfl rfl rfl (fun _ => rfl) rfl (fun p => ?_)
        repeat (first | refine W.seq ?_ | refine W.block ?_ | refine W.reg ?_ | refine W.skip ?_ | refine W.exit ?_ | refine W.ret ?_ | refine L.nil ?_ | refine L.p rfl rfl ?_ | refine L.skip rfl ?_)
        refine L.elstA (k := i) (w := v32 (st i + X i)) (o := 0) (b := b) hrow rfl (by simp only [newR, hash_len _ n hl]; omega) rfl hin rfl rfl rfl rfl (fun _ => rfl) (fun p => ?_) rfl rfl (fun p => ?_)
        · refine (force_eq rfl).trans ?_
          simp only [v32, Value.int.injEq, true_and, wrap_u32, bits_u32, ofInt_toNat, BitVec.ofInt_add]
        rw [set_set']
        repeat (first | refine W.seq ?_ | refine W.block ?_ | refine W.reg ?_ | refine W.skip ?_ | refine W.exit ?_ | refine W.ret ?_ | refine L.nil ?_ | refine L.p rfl rfl ?_ | refine L.skip rfl ?_)
        refine ⟨5 - (i + 1), by omega, i + 1, rfl, by omega, ?_, rfl, rfl, ?_⟩
        · refine congrArg (fun c => List.set (S ++ [newR (wc) 57]) b (newR c 55)) ?_
          rw [Nat.zero_add]
          refine (hash_set _ _ _ _ hin).trans (hash_congr _ _ fun j hj => ?_)
          by_cases h1 : j = i
          · simp [h1]
          · have : j < i + 1 ↔ j < i := by omega
            simp [h1, this]
        · refine (force_eq rfl).trans ?_
          rw [wrap64 (by omega) (by omega)]; rfl
      · have hin : i = 5 := by simp at h; omega
        subst hin
        repeat (first | refine W.seq ?_ | refine W.block ?_ | refine W.reg ?_ | refine W.skip ?_ | refine W.exit ?_ | refine W.ret ?_ | refine L.nil ?_ | refine L.p rfl rfl ?_ | refine L.skip rfl ?_)
        refine ⟨.inl rfl, _, rfl, ((Cons.push S _).keep b).trans (Keep.set b _ _), ?_⟩
        refine hrow.trans ?_
        rw [hash_congr (s' := comp st blk) blk n (fun j hj => by simp [hj, hcomp])]
end Go.Proofs.Yteadbbimikcmgaa
