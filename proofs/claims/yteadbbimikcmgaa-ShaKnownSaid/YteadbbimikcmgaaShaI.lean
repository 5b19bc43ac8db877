/- Sums of all at once; the reference's sum. Conditions: none. -/
import Derived.Test.YteadbbimikcmgaaShaH
set_option linter.unusedSimpArgs false
set_option linter.unusedVariables false
set_option maxRecDepth 100000
set_option maxHeartbeats 4000000
namespace Go.Proofs.Yteadbbimikcmgaa
open Go
variable {G : Nat} {Ext : FuncId → List Value → Mem → Outc → Mem → Prop}

theorem Slv.blk {S : Mem} {n c : Nat} {a : Option Addr} {l : List Value} (h : Slv S 1 (.slice a n c) n l) (hn : 0 < n) : ∀ x, a = some x → x.block < S.length := by
  obtain ⟨h1, a2, c2, hv, h3⟩ := h
  cases hv
  rcases h3 with h3 | ⟨b, o, r, rfl, e2, e3, e4, e5⟩
  · omega
  · rintro x ⟨⟩; exact row_lt e2
theorem HS_new : HS [] (newR (hashCells st0 (List.replicate 64 0#8) 0#64) 55) := ⟨List.replicate 64 0#8, rfl, rfl, rfl⟩
/-- the result's row is written: an array of 20 bytes -/
theorem res20 {S M : Mem} {r0 : Nat} {l x : BL} (h : M.row? r0 = some (newR (bv x) 24)) (hx : x.length = 20) (hl : l.length = 20) :
    aloadAt Try.prog 24 (.pointer (some ⟨r0, 0, none⟩)) (M.set r0 { newR (bv x) 24 with cells := putFrom (newR (bv x) 24).cells 0 (bv l) }) = some (.agg (bv l).toArray) := by
  refine aload_agg (a := ⟨r0, 0, none⟩) (n := 20) (l := bv l) rfl rfl ?_
  have hp : putFrom (newR (bv x) 24).cells 0 (bv l) = bv l := by
    unfold putFrom
    rw [List.drop_eq_nil_of_le (by simp [newR, bv_len, hl, hx])]
    simp
  refine (cellsAt_of (o := 0) (n := 20) (row_set_same h rfl) (by rw [hp]; simp [bv_len, hl])).trans ?_
  rw [hp, List.drop_zero, List.take_of_length_le (by simp [bv_len, hl])]

theorem sum_C (l : BL) (a : Option Addr) (c : Nat) (S : Mem) (hs : Slv S 1 (.slice a l.length c) l.length (bv l)) (hc : Cut l.length c) (hlen : l.length < 2305843009213693952) :
    C Try.prog G Ext 11 [.slice a l.length c] S fun v S' => v = .agg (bv (sumL l)).toArray ∧ Cons S S' := by
  refine C.fn Try.func11 rfl (by kernel_rfl) rfl ?_
  repeat (first | refine W.seq ?_ | refine W.block ?_ | refine W.reg ?_ | refine W.skip ?_ | refine W.exit ?_ | refine W.ret ?_ | refine L.nil ?_ | refine L.p rfl rfl ?_ | refine L.skip rfl ?_)
  refine L.eff (v := .pointer (some ⟨S.length, 0, none⟩)) (S1 := S ++ [newR (bv (List.replicate 20 0#8)) 24]) rfl rfl ?_
  have h0 : Mem.row? (S ++ [newR (bv (List.replicate 20 0#8)) 24]) S.length = some (newR (bv (List.replicate 20 0#8)) 24) := row_push_new rfl
  have hc1 : Cons S (S ++ [newR (bv (List.replicate 20 0#8)) 24]) := Cons.push _ _
  have hlt : S.length < List.length (S ++ [newR (bv (List.replicate 20 0#8)) 24]) := by simp
  generalize S ++ [newR (bv (List.replicate 20 0#8)) 24] = M1 at *
  repeat (first | refine W.seq ?_ | refine W.block ?_ | refine W.reg ?_ | refine W.skip ?_ | refine W.exit ?_ | refine W.ret ?_ | refine L.nil ?_ | refine L.p rfl rfl ?_ | refine L.skip rfl ?_)
  refine L.cl (new_C _) rfl rfl ?_
  rintro _ _ ⟨rfl, rfl⟩
  refine ⟨nofun, ?_⟩
  repeat (first | refine W.seq ?_ | refine W.block ?_ | refine W.reg ?_ | refine W.skip ?_ | refine W.exit ?_ | refine W.ret ?_ | refine L.nil ?_ | refine L.p rfl rfl ?_ | refine L.skip rfl ?_)
  have hs1 : Slv (M1 ++ [newR (hashCells st0 (List.replicate 64 0#8) 0#64) 55]) 1 (.slice a l.length c) l.length (bv l) := hs.cons (hc1.pushr _)
  refine L.cl (write_C M1.length [] l _ _ _ _ (row_push_new rfl) HS_new hs1 hc (fun hn x hx => by have := hs.blk hn x hx; omega) (by simp; omega)) rfl rfl ?_
  rintro v M3 ⟨hk3, r', hr3, hm3⟩
  refine ⟨nofun, ?_⟩
  rw [List.nil_append] at hm3
  have hc3 : Cons M1 M3 := Keep.mono (Cons.push _ _) (Nat.le_refl _) hk3
  have h03 : M3.row? S.length = _ := hc3.row' h0
  repeat (first | refine W.seq ?_ | refine W.block ?_ | refine W.reg ?_ | refine W.skip ?_ | refine W.exit ?_ | refine W.ret ?_ | refine L.nil ?_ | refine L.p rfl rfl ?_ | refine L.skip rfl ?_)
  refine L.cl (hsum_C M1.length l r' M3 hr3 hm3 hlen) rfl rfl ?_
  rintro _ M4 ⟨rfl, hc4⟩
  refine ⟨nofun, ?_⟩
  have h04 : M4.row? S.length = _ := hc4.row' h03
  repeat (first | refine W.seq ?_ | refine W.block ?_ | refine W.reg ?_ | refine W.skip ?_ | refine W.exit ?_ | refine W.ret ?_ | refine L.nil ?_ | refine L.p rfl rfl ?_ | refine L.skip rfl ?_)
  refine L.st (ad := ⟨S.length, 0, none⟩) (vs := bv (sumL l)) (write_of (o := 0) h04 rfl (by simp [newR, bv_len, sumL, dig_len]) (bv_one _)) rfl rfl rfl (by simp [bv_len, sumL, dig_len]; rfl) ?_
  repeat (first | refine W.seq ?_ | refine W.block ?_ | refine W.reg ?_ | refine W.skip ?_ | refine W.exit ?_ | refine W.ret ?_ | refine L.nil ?_ | refine L.p rfl rfl ?_ | refine L.skip rfl ?_)
  refine ⟨.inr rfl, .agg (bv (sumL l)).toArray, ?_, rfl, ((hc1.trans hc3).trans hc4).set _ _ (Nat.le_refl _)⟩
  exact res20 (S := S) h04 (by simp) (by simp [sumL, dig_len])

theorem refsum_C (l : BL) (a : Option Addr) (c : Nat) (S : Mem) (hs : Slv S 1 (.slice a l.length c) l.length (bv l)) (hlen : l.length < 4294967296) :
    C Try.prog G Ext 10 [.slice a l.length c] S fun v S' => v = .agg (bv (sumL l)).toArray ∧ Cons S S' := by
  have htot := total_len (m := l) (by omega)
  refine C.fn Try.func10 rfl (by kernel_rfl) rfl ?_
  repeat (first | refine W.seq ?_ | refine W.block ?_ | refine W.reg ?_ | refine W.skip ?_ | refine W.exit ?_ | refine W.ret ?_ | refine L.nil ?_ | refine L.p rfl rfl ?_ | refine L.skip rfl ?_)
  refine L.eff (v := .pointer (some ⟨S.length, 0, none⟩)) (S1 := S ++ [newR (bv (List.replicate 20 0#8)) 24]) rfl rfl ?_
  have h0 : Mem.row? (S ++ [newR (bv (List.replicate 20 0#8)) 24]) S.length = some (newR (bv (List.replicate 20 0#8)) 24) := row_push_new rfl
  have hc1 : Cons S (S ++ [newR (bv (List.replicate 20 0#8)) 24]) := Cons.push _ _
  have hlt : S.length < List.length (S ++ [newR (bv (List.replicate 20 0#8)) 24]) := by simp
  generalize S ++ [newR (bv (List.replicate 20 0#8)) 24] = M1 at *
  repeat (first | refine W.seq ?_ | refine W.block ?_ | refine W.reg ?_ | refine W.skip ?_ | refine W.exit ?_ | refine W.ret ?_ | refine L.nil ?_ | refine L.p rfl rfl ?_ | refine L.skip rfl ?_)
  refine L.app (N := M1.length) (sz := 1) rfl (Nat.le_refl _) (Grow.nil _ _ _ _) rfl rfl (hs.cons hc1) (bv_one _) (by omega) rfl rfl (fun a2 c2 M2 hg2 hl2 hA2 => ?_)
  rw [List.nil_append, Nat.zero_add] at hg2
  have hc2 : Cons M1 M2 := hA2.cons
  rw [show (0 + l.length) = l.length from Nat.zero_add _]
  repeat (first | refine W.seq ?_ | refine W.block ?_ | refine W.reg ?_ | refine W.skip ?_ | refine W.exit ?_ | refine W.ret ?_ | refine L.nil ?_ | refine L.p rfl rfl ?_ | refine L.skip rfl ?_)
  have hpk : padK (BitVec.ofNat 64 l.length) < 64 := Nat.mod_lt _ (by decide)
  refine L.cl (f := 20) (args := [v64 (BitVec.ofNat 64 l.length)]) (refpad_C (BitVec.ofNat 64 l.length) _) rfl (acall_eq (list1 ((force_eq rfl).trans ?_))) ?_
  · rw [wrapU64 (by omega) (by omega), v64, ofNat_toNat (by omega)]
  rintro _ M3 ⟨hc3, a3, c3, rfl, hs3⟩
  refine ⟨nofun, ?_⟩
  refine L.app (N := M1.length) (sz := 1) rfl (Nat.le_trans hl2 hc3.len) (hg2.cons hc3) rfl rfl hs3 (bv_one _) (by omega) rfl rfl (fun a4 c4 M4 hg4 hl4 hA4 => ?_)
  have hc4 : Cons M1 M4 := (hc2.trans hc3).trans' hA4
  rw [← bv_app, ← htot.2] at hg4
  rw [← htot.2]
  have hall := hg4.slv
  have hkc : (total l).length ≤ knownCap c4 ∧ 0 < (total l).length := by
    refine ⟨?_, by omega⟩
    obtain ⟨_, ⟨hv, h00⟩ | ⟨bb, _, hv, _⟩⟩ := hg4
    · omega
    · cases hv; rw [knownCap_unk]; exact Nat.le_refl _
  repeat (first | refine W.seq ?_ | refine W.block ?_ | refine W.reg ?_ | refine W.skip ?_ | refine W.exit ?_ | refine W.ret ?_ | refine L.nil ?_ | refine L.p rfl rfl ?_ | refine L.skip rfl ?_)
  refine L.bd (cells5 st0).toArray rfl rfl rfl rfl rfl ?_
  refine L.eff (v := .pointer (some ⟨M4.length, 0, none⟩)) (S1 := M4 ++ [newR (cells5 fun _ => 0#32) 51]) rfl rfl ?_
  refine L.st (ad := ⟨M4.length, 0, none⟩) (vs := cells5 st0) (write_of (o := 0) (row_push_new rfl) rfl (by simp [newR, cells5]) (by simp [cells5, oneCell])) rfl rfl rfl rfl ?_
  rw [set_push]
  have hgoalM : (M4 ++ [{ newR (cells5 fun _ => 0#32) 51 with cells := putFrom (newR (cells5 fun _ => 0#32) 51).cells 0 (cells5 st0) }]) = M4 ++ [newR (cells5 (hst (total l) 0)) 51] := rfl
  rw [hgoalM]
  have h5 : Cons M1 (M4 ++ [newR (cells5 (hst (total l) 0)) 51]) := hc4.pushr _
  have h6 : Cons M4 (M4 ++ [newR (cells5 (hst (total l) 0)) 51]) := Cons.push _ _
  have h7 : Mem.row? (M4 ++ [newR (cells5 (hst (total l) 0)) 51]) M4.length = some (newR (cells5 (hst (total l) 0)) 51) := row_push_new rfl
  have h8 : M1.length ≤ M4.length := hc4.len
  generalize M4 ++ [newR (cells5 (hst (total l) 0)) 51] = M5 at *
  rw [show l ++ padL (BitVec.ofNat 64 l.length) = total l from rfl] at hall
  obtain ⟨rh, hrh⟩ : ∃ rh, rh = M4.length := ⟨_, rfl⟩
  rw [← hrh] at h7 h8 ⊢
  obtain ⟨K, hK⟩ : ∃ K, (total l).length = 64 * K := ⟨(total l).length / 64, by omega⟩
  rw [hK] at hall hkc ⊢
  repeat (first | refine W.seq ?_ | refine W.block ?_ | refine W.reg ?_ | refine W.skip ?_ | refine W.exit ?_ | refine W.ret ?_ | refine L.nil ?_ | refine L.p rfl rfl ?_ | refine L.skip rfl ?_)
  refine W.loop (fun j e S' => ∃ i, j = K - i ∧ i ≤ K ∧ Cons M4 S' ∧ S'.row? rh = some (newR (cells5 (hst (total l) i)) 51) ∧ e 2 = .pointer (some ⟨S.length, 0, none⟩) ∧ e 3 = .slice a4 (64 * K) c4 ∧ e 4 = .pointer (some ⟨rh, 0, none⟩) ∧ e 5 = vi (64 * i)) K ⟨0, by omega, by omega, h6, h7, rfl, rfl, rfl, rfl⟩ ?_
  clear hgoalM h5 h6 h7 M5
  rintro j e S' ⟨i, rfl, hi, hc, hh, e2, e3, e4, e5⟩
  refine W.env4 e2 e3 e4 e5 ?_
  repeat (first | refine W.seq ?_ | refine W.block ?_ | refine W.reg ?_ | refine W.skip ?_ | refine W.exit ?_ | refine W.ret ?_ | refine L.nil ?_ | refine L.p rfl rfl ?_ | refine L.skip rfl ?_)
  refine W.ite rfl (fun h => ?_) (fun h => ?_)
  · have hin : i < K := by simp at h; omega
    have hall' := hall.cons hc
    obtain ⟨a6, c6, hsl, hs6, _⟩ := slv_mid (k := 64 * i) (h := 64 * i + 64) (kd := .i64) (kd' := .i64) (lv := .int .i64 ((64 * i : Nat) : Int)) (hv := .int .i64 ((64 * i + 64 : Nat) : Int)) hall' rfl rfl (by omega) (by omega) (.of (by omega))
    rw [show 64 * i + 64 - 64 * i = 64 by omega] at hsl hs6
    rw [show ((bv (total l)).drop (64 * i)).take 64 = bv (((total l).drop (64 * i)).take 64) by simp [bv, List.map_take, List.map_drop]] at hs6
    repeat (first | refine W.seq ?_ | refine W.block ?_ | refine W.reg ?_ | refine W.skip ?_ | refine W.exit ?_ | refine W.ret ?_ | refine L.nil ?_ | refine L.p rfl rfl ?_ | refine L.skip rfl ?_)
    refine L.ldA (a := ⟨rh, 0, none⟩) (n := 5) (l := cells5 (hst (total l) i)) (cellsAt_of (o := 0) (n := 5) hh (by simp [newR, cells5])) rfl rfl rfl ?_
    repeat (first | refine W.seq ?_ | refine W.block ?_ | refine W.reg ?_ | refine W.skip ?_ | refine W.exit ?_ | refine W.ret ?_ | refine L.nil ?_ | refine L.p rfl rfl ?_ | refine L.skip rfl ?_)
    refine L.is (.slice a6 64 c6) ?_ rfl ?_
    · rw [slice_at (a := a4) (n := 64 * K) (c := c4) rfl rfl rfl (fun hn => ?_)]
      · refine Eq.trans ?_ hsl
        refine congrArg (fun x => aslice 1 a4 (64 * K) c4 (some (.int .i64 ((64 * i : Nat) : Int))) (some x) none) ?_
        refine (force_eq rfl).trans ?_
        rw [wrap64 (by omega) (by omega)]; rfl
      · subst hn
        exfalso
        obtain ⟨_, a3', c3', hv3, h3 | ⟨b3, o3, r3, h3, _⟩⟩ := hall
        · omega
        · cases hv3; cases h3
    refine L.cl (block_C (hst (total l) i) (((total l).drop (64 * i)).take 64) _ _ hs6) rfl rfl ?_
    rintro _ M6 ⟨rfl, hc6⟩
    refine ⟨fun _ => hc6, ?_⟩
    have hh6 := hc6.row' hh
    refine L.st (ad := ⟨rh, 0, none⟩) (vs := cells5 (hst (total l) (i + 1))) (write_of (o := 0) hh6 rfl (by simp [newR, cells5]) (by simp [cells5, oneCell])) rfl rfl rfl rfl ?_
    repeat (first | refine W.seq ?_ | refine W.block ?_ | refine W.reg ?_ | refine W.skip ?_ | refine W.exit ?_ | refine W.ret ?_ | refine L.nil ?_ | refine L.p rfl rfl ?_ | refine L.skip rfl ?_)
    refine ⟨K - (i + 1), by omega, i + 1, rfl, by omega, (hc.trans hc6).set _ _ (by omega), (row_set_same hh6 rfl).trans rfl, rfl, rfl, rfl, ?_⟩
    refine (force_eq rfl).trans ?_
    rw [wrap64 (by omega) (by omega)]; congr 1
  · have hin : i = K := by simp at h; omega
    subst hin
    have h03 : S'.row? S.length = _ := hc.row' (hc4.row' h0)
    have hsl : sumL l = dig (hst (total l) i) := by rw [sumL, hK, show 64 * i / 64 = i by omega]
    rw [hsl]
    have hcS : Cons S S' := (hc1.trans hc4).trans hc
    have hSr : S.length ≤ rh := by have := hc1.len; omega
    obtain ⟨r0, hr0⟩ : ∃ r0, r0 = S.length := ⟨_, rfl⟩
    rw [← hr0] at h03 ⊢
    generalize hst (total l) i = st at *
    clear hall hc hkc hg4 hc4 hl4 hA4 hs3 hc3 hg2 hl2 hA2 hc2 hs h0 e2 e3 e4 e5 h
    have hlt2 := row_lt hh
    repeat (first | refine W.seq ?_ | refine W.block ?_ | refine W.reg ?_ | refine W.skip ?_ | refine W.exit ?_ | refine W.ret ?_ | refine L.nil ?_ | refine L.p rfl rfl ?_ | refine L.skip rfl ?_)
    refine L.eff (v := .pointer (some ⟨S'.length, 0, none⟩)) (S1 := S' ++ [newR (bv (fillB st 0)) 24]) rfl rfl ?_
    have h1 : Mem.row? (S' ++ [newR (bv (fillB st 0)) 24]) S'.length = some (newR (bv (fillB st 0)) 24) := row_push_new rfl
    have h2 : Mem.row? (S' ++ [newR (bv (fillB st 0)) 24]) rh = _ := row_fresh rfl hh
    have h3 : Mem.row? (S' ++ [newR (bv (fillB st 0)) 24]) r0 = _ := row_fresh rfl h03
    have h4 : Cons S (S' ++ [newR (bv (fillB st 0)) 24]) := hcS.pushr _
    have h5 : S.length ≤ S'.length := hcS.len
    have h6 : r0 < S'.length := row_lt h03
    generalize S' ++ [newR (bv (fillB st 0)) 24] = M7 at *
    generalize S'.length = ro at *
    clear hh h03 hcS S'
    repeat (first | refine W.seq ?_ | refine W.block ?_ | refine W.reg ?_ | refine W.skip ?_ | refine W.exit ?_ | refine W.ret ?_ | refine L.nil ?_ | refine L.p rfl rfl ?_ | refine L.skip rfl ?_)
    refine W.loop (fun j e S' => ∃ i, j = 20 - i ∧ i ≤ 20 ∧ Cons S S' ∧ S'.row? ro = some (newR (bv (fillB st i)) 24) ∧ S'.row? rh = some (newR (cells5 st) 51) ∧ S'.row? r0 = some (newR (bv (List.replicate 20 0#8)) 24) ∧ e 2 = .pointer (some ⟨r0, 0, none⟩) ∧ e 4 = .pointer (some ⟨rh, 0, none⟩) ∧ e 6 = .pointer (some ⟨ro, 0, none⟩) ∧ e 7 = vi i) 20 ⟨0, by omega, by omega, h4, h1, h2, h3, rfl, rfl, rfl, rfl⟩ ?_
    clear h1 h2 h3 h4 M7 hi hK e i
    rintro j e S' ⟨i, rfl, hi, hc, h1, h2, h3, e2, e4, e6, e7⟩
    refine W.env4 e2 e4 e6 e7 ?_
    repeat (first | refine W.seq ?_ | refine W.block ?_ | refine W.reg ?_ | refine W.skip ?_ | refine W.exit ?_ | refine W.ret ?_ | refine L.nil ?_ | refine L.p rfl rfl ?_ | refine L.skip rfl ?_)
    refine W.ite rfl (fun h => ?_) (fun h => ?_)
    · have hin : i < 20 := by simp at h; omega
      repeat (first | refine W.seq ?_ | refine W.block ?_ | refine W.reg ?_ | refine W.skip ?_ | refine W.exit ?_ | refine W.ret ?_ | refine L.nil ?_ | refine L.p rfl rfl ?_ | refine L.skip rfl ?_)
      refine L.elA (k := i / 4) (w := v32 (st (i / 4))) (o := 0) (b := rh) h2 (by rw [Nat.zero_add]; exact cells5_get _ (by omega)) ?_ (by omega) rfl rfl rfl rfl (fun _ => rfl) rfl (fun p => ?_)
      · have := tdiv_nat i 4
        rw [show ((4 : Nat) : Int) = 4 from rfl] at this
        rw [this, wrap64 (by omega) (by omega)]
      repeat (first | refine W.seq ?_ | refine W.block ?_ | refine W.reg ?_ | refine W.skip ?_ | refine W.exit ?_ | refine W.ret ?_ | refine L.nil ?_ | refine L.p rfl rfl ?_ | refine L.skip rfl ?_)
      refine L.shr (24 - 8 * (i % 4)) rfl rfl ?_ (by show 24 - 8 * (i % 4) ≤ 32; omega) rfl ?_
      · have := tmod_nat i 4
        rw [show ((4 : Nat) : Int) = 4 from rfl] at this
        rw [this, wrap64 (x := 8 * _) (by omega) (by omega), wrap64 (by omega) (by omega)]
        omega
      repeat (first | refine W.seq ?_ | refine W.block ?_ | refine W.reg ?_ | refine W.skip ?_ | refine W.exit ?_ | refine W.ret ?_ | refine L.nil ?_ | refine L.p rfl rfl ?_ | refine L.skip rfl ?_)
      refine L.elstA (k := i) (w := v8 (digAt st i)) (o := 0) (b := ro) h1 rfl (by simp [newR, bv_len, fillB_len _ hi]) rfl (by omega) rfl rfl rfl rfl (fun _ => rfl) (fun p => ?_) rfl rfl (fun p => ?_)
      · refine (force_eq rfl).trans ?_
        rw [fdiv_shr, u8_of_v32]; rfl
      repeat (first | refine W.seq ?_ | refine W.block ?_ | refine W.reg ?_ | refine W.skip ?_ | refine W.exit ?_ | refine W.ret ?_ | refine L.nil ?_ | refine L.p rfl rfl ?_ | refine L.skip rfl ?_)
      refine ⟨20 - (i + 1), by omega, i + 1, rfl, by omega, hc.set _ _ h5, (row_set_same h1 rfl).trans ?_, (row_set_other _ (by omega)).trans h2, (row_set_other _ (by omega)).trans h3, rfl, rfl, rfl, ?_⟩
      · refine congrArg (fun c => some (newR c 24)) ?_
        rw [Nat.zero_add]; exact fillB_set st hin
      · refine (force_eq rfl).trans ?_
        rw [wrap64 (by omega) (by omega)]; rfl
    · have hin : i = 20 := by simp at h; omega
      subst hin
      rw [fillB_all] at h1
      repeat (first | refine W.seq ?_ | refine W.block ?_ | refine W.reg ?_ | refine W.skip ?_ | refine W.exit ?_ | refine W.ret ?_ | refine L.nil ?_ | refine L.p rfl rfl ?_ | refine L.skip rfl ?_)
      refine L.ldA (a := ⟨ro, 0, none⟩) (n := 20) (l := bv (dig st)) ((cellsAt_of (o := 0) (n := 20) h1 (by simp [newR, bv_len, dig_len])).trans ?_) rfl rfl rfl ?_
      · rw [List.drop_zero, List.take_of_length_le (by simp [newR, bv_len, dig_len])]; rfl
      refine L.st (ad := ⟨r0, 0, none⟩) (vs := bv (dig st)) (write_of (o := 0) h3 rfl (by simp [newR, bv_len, dig_len]) (bv_one _)) rfl rfl rfl (by simp [bv_len, dig_len]; rfl) ?_
      repeat (first | refine W.seq ?_ | refine W.block ?_ | refine W.reg ?_ | refine W.skip ?_ | refine W.exit ?_ | refine W.ret ?_ | refine L.nil ?_ | refine L.p rfl rfl ?_ | refine L.skip rfl ?_)
      refine ⟨.inr rfl, .agg (bv (dig st)).toArray, ?_, rfl, hc.set _ _ (by omega)⟩
      exact res20 (S := S) h3 (by simp) (dig_len st)
end Go.Proofs.Yteadbbimikcmgaa
