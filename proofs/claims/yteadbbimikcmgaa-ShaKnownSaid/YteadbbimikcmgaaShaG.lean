/- Writing bytes to a hash. Conditions: none. -/
import Derived.Test.YteadbbimikcmgaaShaE
set_option linter.unusedSimpArgs false
set_option linter.unusedVariables false
set_option maxRecDepth 100000
set_option maxHeartbeats 4000000
namespace Go.Proofs.Yteadbbimikcmgaa
open Go
variable {G : Nat} {Ext : FuncId → List Value → Mem → Outc → Mem → Prop}

/-- the state behind the first k blocks -/
def hst (m : BL) : Nat → St
  | 0 => st0
  | k + 1 => comp (hst m k) ((m.drop (64 * k)).take 64)
theorem hst_app (m x : BL) (k : Nat) (h : 64 * k ≤ m.length) : hst (m ++ x) k = hst m k := by
  induction k with
  | zero => rfl
  | succ k ih =>
    have e1 : ((m ++ x).drop (64 * k)).take 64 = (m.drop (64 * k)).take 64 := by
      rw [List.drop_append_of_le_length (by omega), List.take_append_of_le_length (by simp; omega)]
    show comp _ _ = comp _ _
    rw [ih (by omega), e1]
/-- a hash to which m was written -/
def HS (m : BL) (r : Row) : Prop := ∃ blk : BL, blk.length = 64 ∧ r = newR (hashCells (hst m (m.length / 64)) blk (BitVec.ofNat 64 m.length)) 55 ∧ blk.take (m.length % 64) = m.drop (64 * (m.length / 64))
theorem ofNat_toNat {k : Nat} (h : k < 18446744073709551616) : (BitVec.ofNat 64 k).toNat = k := by rw [BitVec.toNat_ofNat]; exact Nat.mod_eq_of_lt h
theorem hash_n (st : St) {blk : BL} (n : BitVec 64) (h : blk.length = 64) : (hashCells st blk n)[69]? = some (v64 n) := by
  unfold hashCells
  rw [List.getElem?_append_right (by simp [cells5]), List.getElem?_append_right (by simp [cells5, bv_len, h])]
  simp [cells5, bv_len, h]
theorem hash_setn (st : St) {blk : BL} (n n' : BitVec 64) (h : blk.length = 64) : (hashCells st blk n).set 69 (v64 n') = hashCells st blk n' := by
  unfold hashCells
  rw [List.set_append_right _ _ (by simp [cells5]), List.set_append_right _ _ (by simp [cells5, bv_len, h])]
  simp [cells5, bv_len, h]
theorem hash_put (st : St) {blk x : BL} (n : BitVec 64) (q : Nat) (h : blk.length = 64) (hx : q + x.length ≤ 64) : putFrom (hashCells st blk n) (5 + q) (bv x) = hashCells st (blk.take q ++ x ++ blk.drop (q + x.length)) n := by
  unfold putFrom hashCells
  rw [List.take_append, List.take_of_length_le (by simp [cells5]), List.take_append_of_le_length (by simp [cells5, bv_len, h]; omega)]
  rw [List.drop_append, List.drop_eq_nil_of_le (by simp [cells5]; omega), List.nil_append, List.drop_append_of_le_length (by simp [cells5, bv_len, h]; omega)]
  have e1 : 5 + q - (cells5 st).length = q := by simp [cells5]
  have e2 : 5 + q + (bv x).length - (cells5 st).length = q + x.length := by simp [cells5, bv_len]; omega
  rw [e1, e2]
  simp [bv, List.map_take, List.map_drop]

theorem HS_step (m x blk : BL) (hb : blk.length = 64) (htk : blk.take (m.length % 64) = m.drop (64 * (m.length / 64))) (hx : m.length % 64 + x.length ≤ 64) (hx0 : 0 < x.length) :
    (blk.take (m.length % 64) ++ x ++ blk.drop (m.length % 64 + x.length)).length = 64 ∧
    ((m.length + x.length) % 64 ≠ 0 → HS (m ++ x) (newR (hashCells (hst m (m.length / 64)) (blk.take (m.length % 64) ++ x ++ blk.drop (m.length % 64 + x.length)) (BitVec.ofNat 64 (m.length + x.length))) 55)) ∧
    ((m.length + x.length) % 64 = 0 → HS (m ++ x) (newR (hashCells (comp (hst m (m.length / 64)) (blk.take (m.length % 64) ++ x ++ blk.drop (m.length % 64 + x.length))) (blk.take (m.length % 64) ++ x ++ blk.drop (m.length % 64 + x.length)) (BitVec.ofNat 64 (m.length + x.length))) 55)) := by
  have hq : m.length % 64 < 64 := Nat.mod_lt _ (by decide)
  have h1 : (blk.take (m.length % 64) ++ x ++ blk.drop (m.length % 64 + x.length)).length = 64 := by simp [hb]; omega
  have htl : (blk.take (m.length % 64)).length = m.length % 64 := by simp [hb]; omega
  refine ⟨h1, fun h => ?_, fun h => ?_⟩
  · have e1 : (m.length + x.length) / 64 = m.length / 64 := by omega
    have e2 : (m.length + x.length) % 64 = m.length % 64 + x.length := by omega
    refine ⟨_, h1, ?_, ?_⟩
    · rw [List.length_append, e1, hst_app _ _ _ (by omega)]
    · rw [List.length_append, e1, e2, List.take_append_of_le_length (by simp [hb]; omega), List.take_of_length_le (by simp [hb]; omega), List.drop_append_of_le_length (by omega), htk]
  · have e1 : (m.length + x.length) / 64 = m.length / 64 + 1 := by omega
    have e3 : m.length % 64 + x.length = 64 := by omega
    refine ⟨_, h1, ?_, ?_⟩
    · rw [List.length_append, e1]
      refine congrArg (fun s => newR (hashCells s _ _) 55) ?_
      show _ = comp (hst (m ++ x) (m.length / 64)) (((m ++ x).drop (64 * (m.length / 64))).take 64)
      rw [hst_app _ _ _ (by omega), List.drop_append_of_le_length (by omega), ← htk, e3, List.drop_eq_nil_of_le (by omega), List.append_nil]
      rw [List.take_of_length_le (Nat.le_of_eq (by simp [hb]; omega : (blk.take (m.length % 64) ++ x).length = 64))]
    · rw [List.length_append, h, e1, List.take_zero, List.drop_eq_nil_of_le (by simp; omega)]
theorem write_C (b : Nat) (m l : BL) (r : Row) (a : Option Addr) (c : Nat) (S : Mem) (hr : S.row? b = some r) (hm : HS m r) (hs : Slv S 1 (.slice a l.length c) l.length (bv l)) (hc : Cut l.length c) (hfar : 0 < l.length → ∀ a', a = some a' → a'.block ≠ b) (hlen : m.length + l.length < 4611686018427387904) :
    C Try.prog G Ext 17 [.pointer (some ⟨b, 0, none⟩), .slice a l.length c] S fun v S' => Keep b S S' ∧ ∃ r', S'.row? b = some r' ∧ HS (m ++ l) r' := by
  refine C.fn Try.func17 rfl (by kernel_rfl) rfl ?_
  repeat (first | refine W.seq ?_ | refine W.block ?_ | refine W.reg ?_ | refine W.skip ?_ | refine W.exit ?_ | refine W.ret ?_ | refine L.nil ?_ | refine L.p rfl rfl ?_ | refine L.skip rfl ?_)
  refine W.loop (fun j e S' => ∃ w a' c' r', j = l.length - w ∧ w ≤ l.length ∧ Keep b S S' ∧ S'.row? b = some r' ∧ HS (m ++ l.take w) r' ∧ e 0 = .pointer (some ⟨b, 0, none⟩) ∧ e 1 = .slice a' (l.length - w) c' ∧ Slv S 1 (.slice a' (l.length - w) c') (l.length - w) (bv (l.drop w)) ∧ Cut (l.length - w) c' ∧ (0 < l.length → ∀ x, a' = some x → x.block ≠ b)) l.length ⟨0, a, c, r, by omega, by omega, Keep.refl _ _, hr, by simpa using hm, rfl, rfl, hs, hc, hfar⟩ ?_
  clear hr hm hs hc hfar
  rintro j e S' ⟨w, a', c', r', rfl, hw, hk, hr, hm, e0, e1, hs, hc, hfar⟩
  refine W.env2 e0 e1 ?_
  repeat (first | refine W.seq ?_ | refine W.block ?_ | refine W.reg ?_ | refine W.skip ?_ | refine W.exit ?_ | refine W.ret ?_ | refine L.nil ?_ | refine L.p rfl rfl ?_ | refine L.skip rfl ?_)
  refine W.ite rfl (fun h => ?_) (fun h => ?_)
  · have hpos : 0 < l.length - w := by simp at h; omega
    obtain ⟨blk, hb, rfl, htk⟩ := hm
    have hml : (m ++ l.take w).length = m.length + w := by simp; omega
    rw [hml] at htk hr
    have hq : (m.length + w) % 64 < 64 := Nat.mod_lt _ (by decide)
    obtain ⟨M, hM⟩ : ∃ M, M = m.length + w := ⟨_, rfl⟩
    rw [← hM] at htk hr hq hml
    obtain ⟨q, hqd⟩ : ∃ q, q = M % 64 := ⟨_, rfl⟩
    obtain ⟨k, hkd⟩ : ∃ k, k = Nat.min (l.length - w) (64 - q) := ⟨_, rfl⟩
    have hk1 : k ≤ l.length - w := by rw [hkd]; exact Nat.min_le_left _ _
    have hk2 : k ≤ 64 - q := by rw [hkd]; exact Nat.min_le_right _ _
    have hk3 : 0 < k := by rw [hkd]; exact Nat.lt_min.2 ⟨hpos, by omega⟩
    have hMb : M < 18446744073709551616 := by omega
    have hdl : (l.drop w).length = l.length - w := List.length_drop ..
    obtain ⟨x, hx⟩ : ∃ x, x = (l.drop w).take k := ⟨_, rfl⟩
    have hxl : x.length = k := by rw [hx, List.length_take, hdl]; exact Nat.min_eq_left hk1
    have hstep := HS_step (m ++ l.take w) x blk hb (by rw [hml]; exact htk) (by rw [hml, hxl, ← hqd]; omega) (by omega)
    rw [hml, hxl, ← hqd] at hstep
    have hmx : (m ++ l.take w) ++ x = m ++ l.take (w + k) := by rw [List.append_assoc, hx, ← List.take_add]
    rw [hmx] at hstep
    repeat (first | refine W.seq ?_ | refine W.block ?_ | refine W.reg ?_ | refine W.skip ?_ | refine W.exit ?_ | refine W.ret ?_ | refine L.nil ?_ | refine L.p rfl rfl ?_ | refine L.skip rfl ?_)
    refine L.ld (a := ⟨b, 69, none⟩) (cell_of hr (hash_n _ _ hb)) rfl rfl rfl ?_
    repeat (first | refine W.seq ?_ | refine W.block ?_ | refine W.reg ?_ | refine W.skip ?_ | refine W.exit ?_ | refine W.ret ?_ | refine L.nil ?_ | refine L.p rfl rfl ?_ | refine L.skip rfl ?_)
    refine L.is (.slice (some ⟨b, 5 + q * 1, none⟩) (64 - q) (64 - q)) ?_ rfl ?_
    · rw [slice_arr (a := ⟨b, 5, none⟩) (n := 64) (sz := 1) rfl rfl rfl (by decide)]
      refine aslice_lo (kd := .u64) ?_ (by decide) (by omega) (by omega)
      refine (force_eq rfl).trans ?_
      rw [ofNat_toNat hMb]
      have := tmod_nat M 64
      rw [show ((64 : Nat) : Int) = 64 from rfl] at this
      rw [this, hqd]
    repeat (first | refine W.seq ?_ | refine W.block ?_ | refine W.reg ?_ | refine W.skip ?_ | refine W.exit ?_ | refine W.ret ?_ | refine L.nil ?_ | refine L.p rfl rfl ?_ | refine L.skip rfl ?_)
    have hs' := hs.keepb hk (hfar (by omega))
    refine L.cp (b := b) (o := 5 + q * 1) (n := 64 - q) (k := k) hr rfl (by simp only [newR, hash_len _ _ hb]; omega) rfl rfl rfl hs' hkd.symm hk3 (bv_one _) rfl ?_
    rw [show (bv (l.drop w)).take k = bv x by rw [hx]; simp [bv, List.map_take]]
    have hput : putFrom (newR (hashCells (hst (m ++ l.take w) (M / 64)) blk (BitVec.ofNat 64 M)) 55).cells (5 + q * 1) (bv x) = hashCells (hst (m ++ l.take w) (M / 64)) (blk.take q ++ x ++ blk.drop (q + x.length)) (BitVec.ofNat 64 M) := by
      rw [Nat.mul_one]; exact hash_put _ _ _ hb (by omega)
    rw [hput, hxl]
    obtain ⟨a2, c2, hsl, hs2, hc2, hf2⟩ := slv_cut (lv := vi k) hs rfl hk1 hpos hc
    repeat (first | refine W.seq ?_ | refine W.block ?_ | refine W.reg ?_ | refine W.skip ?_ | refine W.exit ?_ | refine W.ret ?_ | refine L.nil ?_ | refine L.p rfl rfl ?_ | refine L.skip rfl ?_)
    refine L.is (.slice a2 (l.length - w - k) c2) ?_ rfl ?_
    · rw [slice_at rfl rfl rfl (fun hn => ?_)]
      · exact hsl
      · subst hn
        obtain ⟨hx1, hx2⟩ | ⟨hx1, hx2⟩ := hc
        · exact hx1
        · exfalso
          obtain ⟨_, a3, c3, hv3, h3 | ⟨b3, o3, r3, h3, _⟩⟩ := hs
          · omega
          · cases hv3; cases h3
    repeat (first | refine W.seq ?_ | refine W.block ?_ | refine W.reg ?_ | refine W.skip ?_ | refine W.exit ?_ | refine W.ret ?_ | refine L.nil ?_ | refine L.p rfl rfl ?_ | refine L.skip rfl ?_)
    obtain ⟨hBl, hne, heq⟩ := hstep
    have hdrop : (bv (l.drop w)).drop k = bv (l.drop (w + k)) := by simp [bv, List.map_drop, List.drop_drop]
    rw [hdrop] at hs2
    have hlen2 : l.length - w - k = l.length - (w + k) := by omega
    have hf3 : 0 < l.length → ∀ x, a2 = some x → x.block ≠ b := fun h0 x hx => by obtain ⟨y, hy, hyb⟩ := hf2 x hx; rw [← hyb]; exact hfar h0 y hy
    generalize hB : blk.take q ++ x ++ blk.drop (q + k) = B at *
    generalize hX : hst (m ++ l.take w) (M / 64) = X at *
    refine L.ld (a := ⟨b, 69, none⟩) (v := v64 (BitVec.ofNat 64 M)) (cell_of (r := newR (hashCells X B (BitVec.ofNat 64 M)) 55) (row_set_same hr rfl) (hash_n _ _ hBl)) rfl rfl rfl ?_
    repeat (first | refine W.seq ?_ | refine W.block ?_ | refine W.reg ?_ | refine W.skip ?_ | refine W.exit ?_ | refine W.ret ?_ | refine L.nil ?_ | refine L.p rfl rfl ?_ | refine L.skip rfl ?_)
    refine L.st (ad := ⟨b, 69, none⟩) (vs := [.int .u64 (IntKind.u64.wrap (((BitVec.ofNat 64 M).toNat : Int) + IntKind.u64.wrap (k : Int)))]) (write_of (r := newR (hashCells X B (BitVec.ofNat 64 M)) 55) (row_set_same hr rfl) rfl (by simp [newR, hash_len _ _ hBl]) rfl) rfl rfl rfl rfl ?_
    rw [set_set', show putFrom (newR (hashCells X B (BitVec.ofNat 64 M)) 55).cells 69 [.int .u64 (IntKind.u64.wrap (((BitVec.ofNat 64 M).toNat : Int) + IntKind.u64.wrap (k : Int)))] = hashCells X B (BitVec.ofNat 64 (M + k)) from by
      rw [putFrom_one _ _ _ (by simp only [newR, hash_len _ _ hBl]; decide), ← hash_setn X (BitVec.ofNat 64 M) (BitVec.ofNat 64 (M + k)) hBl]
      refine congrArg (fun v => List.set _ 69 (Value.int .u64 v)) ?_
      rw [ofNat_toNat hMb, ofNat_toNat (by omega), wrapU64 (x := (k : Int)) (by omega) (by omega), wrapU64 (by omega) (by omega)]
      omega]
    have hr2 : Mem.row? (S'.set b (newR (hashCells X B (BitVec.ofNat 64 (M + k))) 55)) b = some (newR (hashCells X B (BitVec.ofNat 64 (M + k))) 55) := row_set_same hr rfl
    have hk2' : Keep b S (S'.set b (newR (hashCells X B (BitVec.ofNat 64 (M + k))) 55)) := hk.trans (Keep.set b _ _)
    repeat (first | refine W.seq ?_ | refine W.block ?_ | refine W.reg ?_ | refine W.skip ?_ | refine W.exit ?_ | refine W.ret ?_ | refine L.nil ?_ | refine L.p rfl rfl ?_ | refine L.skip rfl ?_)
    refine L.ld (a := ⟨b, 69, none⟩) (v := v64 (BitVec.ofNat 64 (M + k))) (cell_of hr2 (hash_n _ _ hBl)) rfl rfl rfl ?_
    repeat (first | refine W.seq ?_ | refine W.block ?_ | refine W.reg ?_ | refine W.skip ?_ | refine W.exit ?_ | refine W.ret ?_ | refine L.nil ?_ | refine L.p rfl rfl ?_ | refine L.skip rfl ?_)
    have htm : ((BitVec.ofNat 64 (M + k)).toNat : Int).tmod 64 = (((M + k) % 64 : Nat) : Int) := by
      rw [ofNat_toNat (by omega)]; exact tmod_nat _ 64
    refine W.ite rfl (fun h => ?_) (fun h => ?_)
    · have hz : (M + k) % 64 = 0 := by rw [htm] at h; simp at h; omega
      repeat (first | refine W.seq ?_ | refine W.block ?_ | refine W.reg ?_ | refine W.skip ?_ | refine W.exit ?_ | refine W.ret ?_ | refine L.nil ?_ | refine L.p rfl rfl ?_ | refine L.skip rfl ?_)
      refine L.cl (mix_C b X B _ _ hr2 hBl) rfl rfl ?_
      rintro v S1 ⟨hk4, hr4⟩
      refine ⟨nofun, ?_⟩
      repeat (first | refine W.seq ?_ | refine W.block ?_ | refine W.reg ?_ | refine W.skip ?_ | refine W.exit ?_ | refine W.ret ?_ | refine L.nil ?_ | refine L.p rfl rfl ?_ | refine L.skip rfl ?_)
      exact ⟨l.length - (w + k), by omega, w + k, a2, c2, _, rfl, by omega, hk2'.trans hk4, hr4, heq hz, rfl, by rw [← hlen2]; rfl, hlen2 ▸ hs2, hlen2 ▸ hc2, hf3⟩
    · have hz : (M + k) % 64 ≠ 0 := by rw [htm] at h; simp at h; omega
      repeat (first | refine W.seq ?_ | refine W.block ?_ | refine W.reg ?_ | refine W.skip ?_ | refine W.exit ?_ | refine W.ret ?_ | refine L.nil ?_ | refine L.p rfl rfl ?_ | refine L.skip rfl ?_)
      exact ⟨l.length - (w + k), by omega, w + k, a2, c2, _, rfl, by omega, hk2', hr2, hne hz, rfl, by rw [← hlen2]; rfl, hlen2 ▸ hs2, hlen2 ▸ hc2, hf3⟩
  · have hpos : w = l.length := by simp at h; omega
    subst hpos
    repeat (first | refine W.seq ?_ | refine W.block ?_ | refine W.reg ?_ | refine W.skip ?_ | refine W.exit ?_ | refine W.ret ?_ | refine L.nil ?_ | refine L.p rfl rfl ?_ | refine L.skip rfl ?_)
    refine ⟨.inl rfl, _, rfl, hk, r', hr, ?_⟩
    rwa [List.take_length] at hm
end Go.Proofs.Yteadbbimikcmgaa
