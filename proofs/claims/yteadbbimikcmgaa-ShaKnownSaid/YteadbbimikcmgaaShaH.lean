/- The sums. Conditions: none. -/
import Derived.Test.YteadbbimikcmgaaShaG
import Derived.Test.YteadbbimikcmgaaShaF
set_option linter.unusedSimpArgs false
set_option linter.unusedVariables false
set_option maxRecDepth 100000
set_option maxHeartbeats 4000000
namespace Go.Proofs.Yteadbbimikcmgaa
open Go
variable {G : Nat} {Ext : FuncId → List Value → Mem → Outc → Mem → Prop}

theorem tdiv_nat (a b : Nat) : Int.tdiv (a : Int) (b : Int) = ((a / b : Nat) : Int) := (Int.ofNat_tdiv a b).symm
def digAt (s : St) (i : Nat) : BitVec 8 := (s (i / 4) >>> (24 - 8 * (i % 4))).setWidth 8
def dig (s : St) : BL := (List.range 20).map (digAt s)
theorem dig_len (s : St) : (dig s).length = 20 := by simp [dig]
def fillB (s : St) (i : Nat) : BL := (dig s).take i ++ List.replicate (20 - i) 0#8
theorem fillB_len (s : St) {i : Nat} (h : i ≤ 20) : (fillB s i).length = 20 := by simp [fillB, dig_len]; omega
theorem fillB_set (s : St) {i : Nat} (h : i < 20) : (bv (fillB s i)).set i (v8 (digAt s i)) = bv (fillB s (i + 1)) := by
  unfold fillB
  rw [bv_app, bv_app, List.set_append_right _ _ (by simp [bv_len, dig_len]; omega), List.take_add_one, bv_app]
  have h1 : (dig s)[i]? = some (digAt s i) := by simp [dig, h]
  rw [h1, show i - (bv ((dig s).take i)).length = 0 by simp [bv_len, dig_len]; omega, show 20 - i = (20 - (i + 1)) + 1 by omega, List.replicate_succ]
  simp [bv]
theorem fillB_all (s : St) : fillB s 20 = dig s := by simp [fillB, List.take_of_length_le, dig_len]
/-- the sum of a message -/
def total (m : BL) : BL := m ++ padL (BitVec.ofNat 64 m.length)
def sumL (m : BL) : BL := dig (hst (total m) ((total m).length / 64))
theorem total_len {m : BL} (h : m.length < 18446744073709551616) : (total m).length % 64 = 0 ∧ (total m).length = m.length + (padK (BitVec.ofNat 64 m.length) + 9) := by
  unfold total
  rw [List.length_append, padL_len]
  refine ⟨?_, rfl⟩
  unfold padK
  rw [ofNat_toNat h]
  omega
theorem u8_of_v32 (x : BitVec 32) : IntKind.u8.wrap (x.toNat : Int) = ((x.setWidth 8).toNat : Int) := by
  rw [wrap_u8, show BitVec.ofInt 8 (x.toNat : Int) = x.setWidth 8 by apply BitVec.eq_of_toNat_eq; simp [BitVec.toNat_ofInt]]
theorem row_fresh {S : Mem} {x : Row} (hx : x.st = .live) {b : Nat} {r : Row} (hr : S.row? b = some r) : Mem.row? (S ++ [x]) b = some r := (row_push_old (row_lt hr)).trans hr

theorem hsum_C (b : Nat) (m : BL) (r : Row) (S : Mem) (hr : S.row? b = some r) (hm : HS m r) (hlen : m.length < 2305843009213693952) :
    C Try.prog G Ext 15 [.pointer (some ⟨b, 0, none⟩)] S fun v S' => v = .agg (bv (sumL m)).toArray ∧ Cons S S' := by
  have htot := total_len (m := m) (by omega)
  obtain ⟨blk, hb, rfl, htk⟩ := id hm
  refine C.fn Try.func15 rfl (by kernel_rfl) rfl ?_
  repeat (first | refine W.seq ?_ | refine W.block ?_ | refine W.reg ?_ | refine W.skip ?_ | refine W.exit ?_ | refine W.ret ?_ | refine L.nil ?_ | refine L.p rfl rfl ?_ | refine L.skip rfl ?_)
  refine L.eff (v := .pointer (some ⟨S.length, 0, none⟩)) (S1 := S ++ [newR (bv (List.replicate 20 0#8)) 24]) rfl rfl ?_
  have h0 : Mem.row? (S ++ [newR (bv (List.replicate 20 0#8)) 24]) S.length = some (newR (bv (List.replicate 20 0#8)) 24) := row_push_new rfl
  have hr1 : Mem.row? (S ++ [newR (bv (List.replicate 20 0#8)) 24]) b = _ := row_fresh rfl hr
  have hc1 : Cons S (S ++ [newR (bv (List.replicate 20 0#8)) 24]) := Cons.push _ _
  have hlt1 : S.length < List.length (S ++ [newR (bv (List.replicate 20 0#8)) 24]) := by simp
  obtain ⟨r0, hr0⟩ : ∃ r0, r0 = S.length := ⟨_, rfl⟩
  rw [← hr0] at h0 hlt1 ⊢
  generalize S ++ [newR (bv (List.replicate 20 0#8)) 24] = M1 at *
  repeat (first | refine W.seq ?_ | refine W.block ?_ | refine W.reg ?_ | refine W.skip ?_ | refine W.exit ?_ | refine W.ret ?_ | refine L.nil ?_ | refine L.p rfl rfl ?_ | refine L.skip rfl ?_)
  refine L.ldA (a := ⟨b, 0, none⟩) (n := 70) (l := hashCells (hst m (m.length / 64)) blk (BitVec.ofNat 64 m.length)) ((cellsAt_of (o := 0) (n := 70) hr1 (by simp only [newR, hash_len _ _ hb]; decide)).trans ?_) rfl rfl rfl ?_
  · rw [List.drop_zero, List.take_of_length_le (by simp only [newR, hash_len _ _ hb]; decide)]
    rfl
  refine L.eff (v := .pointer (some ⟨M1.length, 0, none⟩)) (S1 := M1 ++ [newR (hashCells (fun _ => 0#32) (List.replicate 64 0#8) 0#64) 55]) rfl rfl ?_
  refine L.st (ad := ⟨M1.length, 0, none⟩) (vs := hashCells (hst m (m.length / 64)) blk (BitVec.ofNat 64 m.length)) (write_of (o := 0) (row_push_new rfl) rfl (by simp only [newR, hash_len _ _ hb]; decide) (by simp [hashCells, cells5, oneCell, bv])) rfl rfl rfl (by rw [hash_len _ _ hb]; rfl) ?_
  rw [set_push, show putFrom (newR (hashCells (fun _ => 0#32) (List.replicate 64 0#8) 0#64) 55).cells 0 (hashCells (hst m (m.length / 64)) blk (BitVec.ofNat 64 m.length)) = hashCells (hst m (m.length / 64)) blk (BitVec.ofNat 64 m.length) from by
    unfold putFrom
    rw [List.drop_eq_nil_of_le (by simp only [newR, hash_len _ _ hb]; decide)]
    simp]
  have hh : Mem.row? (M1 ++ [newR (hashCells (hst m (m.length / 64)) blk (BitVec.ofNat 64 m.length)) 55]) M1.length = some (newR (hashCells (hst m (m.length / 64)) blk (BitVec.ofNat 64 m.length)) 55) := row_push_new rfl
  have hr2 : Mem.row? (M1 ++ [newR (hashCells (hst m (m.length / 64)) blk (BitVec.ofNat 64 m.length)) 55]) b = _ := row_fresh rfl hr1
  have h02 : Mem.row? (M1 ++ [newR (hashCells (hst m (m.length / 64)) blk (BitVec.ofNat 64 m.length)) 55]) r0 = _ := row_fresh rfl h0
  have hc2 : Cons S (M1 ++ [newR (hashCells (hst m (m.length / 64)) blk (BitVec.ofNat 64 m.length)) 55]) := hc1.pushr _
  have hlt2 : M1.length < List.length (M1 ++ [newR (hashCells (hst m (m.length / 64)) blk (BitVec.ofNat 64 m.length)) 55]) := by simp
  have hSl : S.length ≤ M1.length := hc1.len
  obtain ⟨rh, hrh⟩ : ∃ rh, rh = M1.length := ⟨_, rfl⟩
  obtain ⟨M2, hM2⟩ : ∃ M2, M2 = M1 ++ [newR (hashCells (hst m (m.length / 64)) blk (BitVec.ofNat 64 m.length)) 55] := ⟨_, rfl⟩
  rw [← hM2, ← hrh] at hh hlt2
  rw [← hM2] at hr2 h02 hc2
  rw [← hrh] at hlt1 hSl
  have hgoalM : (M1 ++ [{ newR (hashCells (fun _ => 0#32) (List.replicate 64 0#8) 0#64) 55 with cells := hashCells (hst m (m.length / 64)) blk (BitVec.ofNat 64 m.length) }]) = M2 := hM2.symm
  rw [hgoalM, ← hrh]
  clear hgoalM hM2 hrh hr1 h0 hc1 M1
  repeat (first | refine W.seq ?_ | refine W.block ?_ | refine W.reg ?_ | refine W.skip ?_ | refine W.exit ?_ | refine W.ret ?_ | refine L.nil ?_ | refine L.p rfl rfl ?_ | refine L.skip rfl ?_)
  refine L.ld (a := ⟨b, 69, none⟩) (v := v64 (BitVec.ofNat 64 m.length)) (cell_of hr2 (hash_n _ _ hb)) rfl rfl rfl ?_
  refine L.cl (pad_C (BitVec.ofNat 64 m.length) _) rfl rfl ?_
  rintro _ _ ⟨rfl, rfl⟩
  refine ⟨nofun, ?_⟩
  have hk : padK (BitVec.ofNat 64 m.length) < 64 := Nat.mod_lt _ (by decide)
  have hpl : (padL (BitVec.ofNat 64 m.length)).length = padK (BitVec.ofNat 64 m.length) + 9 := padL_len _
  generalize hP : padL (BitVec.ofNat 64 m.length) = P at *
  rw [← hpl]
  refine L.cl (write_C rh m P _ _ _ _ (row_fresh rfl hh) ⟨blk, hb, rfl, htk⟩ (Slv.all (row_push_new rfl) rfl (by rw [bv_len, Nat.mul_one])) (.inl ⟨by unfold UNK; omega, Nat.le_refl _⟩) (by rintro _ a' ⟨⟩; show M2.length ≠ rh; omega) (by omega)) rfl rfl ?_
  rintro v M3 ⟨hk3, r', hr3, hm3⟩
  refine ⟨nofun, ?_⟩
  have hc3 : Cons S M3 := Keep.mono (hc2.pushr _) hSl hk3
  have h03 : M3.row? r0 = some (newR (bv (List.replicate 20 0#8)) 24) := hk3.row (row_fresh rfl h02) (by omega)
  obtain ⟨blk', hb', rfl, _⟩ := hm3
  have htt : m ++ P = total m := by rw [total, hP]
  rw [htt] at hr3
  have hsl : sumL m = dig (hst (total m) ((total m).length / 64)) := rfl
  rw [hsl]
  generalize Go.Proofs.Yteadbbimikcmgaa.hst (total m) ((total m).length / 64) = st at *
  clear hr2 h02 hc2 hlt2 hk3 hh
  repeat (first | refine W.seq ?_ | refine W.block ?_ | refine W.reg ?_ | refine W.skip ?_ | refine W.exit ?_ | refine W.ret ?_ | refine L.nil ?_ | refine L.p rfl rfl ?_ | refine L.skip rfl ?_)
  refine L.eff (v := .pointer (some ⟨M3.length, 0, none⟩)) (S1 := M3 ++ [newR (bv (fillB st 0)) 24]) rfl rfl ?_
  have h1 : Mem.row? (M3 ++ [newR (bv (fillB st 0)) 24]) M3.length = some (newR (bv (fillB st 0)) 24) := row_push_new rfl
  have h2 : Mem.row? (M3 ++ [newR (bv (fillB st 0)) 24]) rh = _ := row_fresh rfl hr3
  have h3 : Mem.row? (M3 ++ [newR (bv (fillB st 0)) 24]) r0 = _ := row_fresh rfl h03
  have h4 : Cons S (M3 ++ [newR (bv (fillB st 0)) 24]) := hc3.pushr _
  have h5 : rh < M3.length := row_lt hr3
  have h6 : S.length ≤ M3.length := hc3.len
  generalize M3 ++ [newR (bv (fillB st 0)) 24] = M4 at *
  generalize M3.length = ro at *
  clear hr3 h03 hc3 M3
  repeat (first | refine W.seq ?_ | refine W.block ?_ | refine W.reg ?_ | refine W.skip ?_ | refine W.exit ?_ | refine W.ret ?_ | refine L.nil ?_ | refine L.p rfl rfl ?_ | refine L.skip rfl ?_)
  refine W.loop (fun j e S' => ∃ i, j = 20 - i ∧ i ≤ 20 ∧ Cons S S' ∧ S'.row? ro = some (newR (bv (fillB st i)) 24) ∧ S'.row? rh = some (newR (hashCells st blk' (BitVec.ofNat 64 (total m).length)) 55) ∧ S'.row? r0 = some (newR (bv (List.replicate 20 0#8)) 24) ∧ e 2 = .pointer (some ⟨r0, 0, none⟩) ∧ e 3 = .pointer (some ⟨rh, 0, none⟩) ∧ e 4 = .pointer (some ⟨ro, 0, none⟩) ∧ e 15 = vi i) 20 ⟨0, by omega, by omega, h4, h1, h2, h3, rfl, rfl, rfl, rfl⟩ ?_
  clear h1 h2 h3 h4 M4
  rintro j e S' ⟨i, rfl, hi, hc, h1, h2, h3, e2, e3, e4, e15⟩
  refine W.env4 e2 e3 e4 e15 ?_
  repeat (first | refine W.seq ?_ | refine W.block ?_ | refine W.reg ?_ | refine W.skip ?_ | refine W.exit ?_ | refine W.ret ?_ | refine L.nil ?_ | refine L.p rfl rfl ?_ | refine L.skip rfl ?_)
  refine W.ite rfl (fun h => ?_) (fun h => ?_)
  · have hin : i < 20 := by simp at h; omega
    repeat (first | refine W.seq ?_ | refine W.block ?_ | refine W.reg ?_ | refine W.skip ?_ | refine W.exit ?_ | refine W.ret ?_ | refine L.nil ?_ | refine L.p rfl rfl ?_ | refine L.skip rfl ?_)
    refine L.elA (k := i / 4) (w := v32 (st (i / 4))) (o := 0) (b := rh) h2 (by rw [Nat.zero_add]; exact hash_get _ _ _ (by omega)) ?_ (by omega) rfl rfl rfl rfl (fun _ => rfl) rfl (fun p => ?_)
    · have := tdiv_nat i 4
      rw [show ((4 : Nat) : Int) = 4 from rfl] at this
      rw [this, wrap64 (by omega) (by omega)]
    repeat (first | refine W.seq ?_ | refine W.block ?_ | refine W.reg ?_ | refine W.skip ?_ | refine W.exit ?_ | refine W.ret ?_ | refine L.nil ?_ | refine L.p rfl rfl ?_ | refine L.skip rfl ?_)
    refine L.shr (24 - 8 * (i % 4)) rfl rfl ?_ (by show 24 - 8 * (i % 4) ≤ 32; omega) rfl ?_
    · have := tmod_nat i 4
      rw [show ((4 : Nat) : Int) = 4 from rfl] at this
      rw [this, wrap64 (x := 8 * _) (by omega) (by omega), wrap64 (by omega) (by omega)]
      omega
    repeat (first | refine W.seq ?_ | refine W.block ?_ | refine W.reg ?_ | refine W.skip ?_ | refine W.exit ?_ | refine W.ret ?_ | refine L.nil ?_ | refine L.p rfl rfl ?_ | refine L.skip rfl ?_)
    refine L.elstA (k := i) (w := v8 (digAt st i)) (o := 0) (b := ro) h1 rfl (by simp [newR, bv_len, fillB_len _ hi]) rfl (by omega) rfl rfl rfl rfl (fun _ => rfl) (fun p => ?_) rfl rfl (fun p => ?_)
    · refine (force_eq rfl).trans ?_
      rw [fdiv_shr, u8_of_v32]; rfl
    repeat (first | refine W.seq ?_ | refine W.block ?_ | refine W.reg ?_ | refine W.skip ?_ | refine W.exit ?_ | refine W.ret ?_ | refine L.nil ?_ | refine L.p rfl rfl ?_ | refine L.skip rfl ?_)
    refine ⟨20 - (i + 1), by omega, i + 1, rfl, by omega, hc.set _ _ h6, (row_set_same h1 rfl).trans ?_, (row_set_other _ (by omega)).trans h2, (row_set_other _ (by omega)).trans h3, rfl, rfl, rfl, ?_⟩
    · refine congrArg (fun c => some (newR c 24)) ?_
      rw [Nat.zero_add]; exact fillB_set st hin
    · refine (force_eq rfl).trans ?_
      rw [wrap64 (by omega) (by omega)]; rfl
  · have hin : i = 20 := by simp at h; omega
    subst hin
    rw [fillB_all] at h1
    repeat (first | refine W.seq ?_ | refine W.block ?_ | refine W.reg ?_ | refine W.skip ?_ | refine W.exit ?_ | refine W.ret ?_ | refine L.nil ?_ | refine L.p rfl rfl ?_ | refine L.skip rfl ?_)
    refine L.ldA (a := ⟨ro, 0, none⟩) (n := 20) (l := bv (dig st)) ((cellsAt_of (o := 0) (n := 20) h1 (by simp [newR, bv_len, dig_len])).trans ?_) rfl rfl rfl ?_
    · rw [List.drop_zero, List.take_of_length_le (by simp [newR, bv_len, dig_len])]; rfl
    refine L.st (ad := ⟨r0, 0, none⟩) (vs := bv (dig st)) (write_of (o := 0) h3 rfl (by simp [newR, bv_len, dig_len]) (bv_one _)) rfl rfl rfl (by simp [bv_len, dig_len]; rfl) ?_
    repeat (first | refine W.seq ?_ | refine W.block ?_ | refine W.reg ?_ | refine W.skip ?_ | refine W.exit ?_ | refine W.ret ?_ | refine L.nil ?_ | refine L.p rfl rfl ?_ | refine L.skip rfl ?_)
    refine ⟨.inr rfl, .agg (bv (dig st)).toArray, ?_, rfl, hc.set _ _ (by omega)⟩
    show aloadAt Try.prog 24 (.pointer (some ⟨r0, 0, none⟩)) _ = _
    refine aload_agg (a := ⟨r0, 0, none⟩) (n := 20) (l := bv (dig st)) rfl rfl ?_
    have hp : putFrom (newR (bv (List.replicate 20 0#8)) 24).cells 0 (bv (dig st)) = bv (dig st) := by
      unfold putFrom
      rw [List.drop_eq_nil_of_le (by simp [newR, bv_len, dig_len])]
      simp
    refine (cellsAt_of (o := 0) (n := 20) (row_set_same h3 rfl) (by rw [hp]; simp [bv_len, dig_len])).trans ?_
    rw [hp, List.drop_zero, List.take_of_length_le (by simp [bv_len, dig_len])]
end Go.Proofs.Yteadbbimikcmgaa
