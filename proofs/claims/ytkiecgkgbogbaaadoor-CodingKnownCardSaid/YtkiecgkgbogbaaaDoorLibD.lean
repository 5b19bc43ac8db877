/- What several proofs share, part 4: a model of memory, contracts of functions. Conditions: none. -/
import Derived.Test.YtkiecgkgbogbaaaDoorLibC
import Derived.Test.YtkiecgkgbogbaaaDoorRows
import Derived.ProofKit
import Derived.LaidMore
import Derived.OpenShut
import Derived.Stop.Joined
import Derived.MakeChecks
import Derived.WalkKit
import Derived.ShutString
import Derived.ChangeOld
import Derived.Below

/- Layer 6: bytes in base64. Conditions: none. -/
set_option linter.unusedSimpArgs false
set_option linter.unusedVariables false
set_option maxRecDepth 100000
namespace Go.Proofs.YtkiecgkgbogbaaaDoor
open Go
variable {Ext : FuncId → List Value → Mem → Outc → Mem → Prop}
/-- up to three bytes as one number -/
def n0 (m : BL) (i : Nat) : Nat := (m.getD i 0#8).toNat
def numX (m : BL) : Nat := 65536 * n0 m 0 + 256 * n0 m 1 + n0 m 2
/-- up to three bytes in four letters -/
def grpL (m : BL) (k : Nat) : BitVec 8 := if k ≤ m.length then b64D (numX m / 2 ^ (18 - 6 * k) % 64) else 61#8
def grp (m : BL) : BL := [grpL m 0, grpL m 1, grpL m 2, grpL m 3]
/-- bytes in base64 -/
def b64S : BL → BL
  | [] => []
  | [a] => grp [a]
  | [a, b] => grp [a, b]
  | a :: b :: c :: r => grp [a, b, c] ++ b64S r
theorem grp_more (a b c : BitVec 8) (r : BL) : grp (a :: b :: c :: r) = grp [a, b, c] := by
  unfold grp grpL
  have h : ∀ k, k ≤ 3 → (k ≤ (a :: b :: c :: r).length ↔ k ≤ [a, b, c].length) := fun k hk => by simp; omega
  simp only [h 0 (by omega), h 1 (by omega), h 2 (by omega), h 3 (by omega)]
  rfl
theorem b64S_step {m : BL} (h : m ≠ []) : b64S m = grp m ++ b64S (m.drop 3) := by
  match m with
  | [] => exact absurd rfl h
  | [a] => show grp [a] = grp [a] ++ []; rw [List.append_nil]
  | [a, b] => show grp [a, b] = grp [a, b] ++ []; rw [List.append_nil]
  | a :: b :: c :: r => rw [grp_more]; rfl
theorem b64S_len (l : BL) : (b64S l).length = (l.length + 2) / 3 * 4 := by
  match l with
  | [] => rfl
  | [a] => show 4 = 3 / 3 * 4; rfl
  | [a, b] => show 4 = 4 / 3 * 4; rfl
  | a :: b :: c :: r =>
    show (grp [a, b, c] ++ b64S r).length = _
    rw [List.length_append, b64S_len r]
    show 4 + _ = (r.length + 1 + 1 + 1 + 2) / 3 * 4
    omega
theorem orI {x y k : Nat} (hy : y < 2 ^ k) (hx : x * 2 ^ k + y < 4611686018427387904) : IntKind.i64.wrap ((BitVec.ofInt IntKind.i64.bits ((x * 2 ^ k : Nat) : Int) ||| BitVec.ofInt IntKind.i64.bits (y : Int)).toNat : Int) = ((x * 2 ^ k + y : Nat) : Int) := by
  have h1 : (BitVec.ofInt IntKind.i64.bits ((x * 2 ^ k : Nat) : Int) ||| BitVec.ofInt IntKind.i64.bits (y : Int)).toNat = x * 2 ^ k + y := by
    rw [BitVec.toNat_or, BitVec.toNat_ofInt, BitVec.toNat_ofInt]
    show ((((x * 2 ^ k : Nat) : Int) % ((2 ^ 64 : Nat) : Int)).toNat ||| (((y : Int) % ((2 ^ 64 : Nat) : Int)).toNat)) = _
    rw [← Int.natCast_emod, ← Int.natCast_emod, Int.toNat_natCast, Int.toNat_natCast, Nat.mod_eq_of_lt (by omega), Nat.mod_eq_of_lt (by omega)]
    rw [← Nat.shiftLeft_eq, Nat.shiftLeft_add_eq_or_of_lt hy]
  rw [h1, wrap64 (by omega) (by omega)]
theorem and63 {x : Nat} (h : x < 4611686018427387904) : IntKind.i64.wrap ((BitVec.ofInt IntKind.i64.bits (x : Int) &&& BitVec.ofInt IntKind.i64.bits 63).toNat : Int) = ((x % 64 : Nat) : Int) := by
  have h1 : (BitVec.ofInt IntKind.i64.bits (x : Int) &&& BitVec.ofInt IntKind.i64.bits 63).toNat = x % 64 := by
    rw [BitVec.toNat_and, BitVec.toNat_ofInt, BitVec.toNat_ofInt]
    show ((((x : Int) % ((2 ^ 64 : Nat) : Int)).toNat) &&& 63) = _
    rw [← Int.natCast_emod, Int.toNat_natCast, Nat.mod_eq_of_lt (by omega)]
    exact Nat.and_two_pow_sub_one_eq_mod x 6
  rw [h1, wrap64 (by omega) (by omega)]
theorem shl16 (a : BitVec 8) : IntKind.i64.wrap (IntKind.i64.wrap (a.toNat : Int) * 2 ^ min (Int.toNat 16) IntKind.i64.bits) = ((65536 * a.toNat : Nat) : Int) := by
  have := a.isLt
  rw [show min (Int.toNat 16) IntKind.i64.bits = 16 from rfl, wrap64 (x := (a.toNat : Int)) (by omega) (by omega), wrap64 (by omega) (by omega)]
  omega
theorem shl8 (a : BitVec 8) : IntKind.i64.wrap (IntKind.i64.wrap (a.toNat : Int) * 2 ^ min (Int.toNat 8) IntKind.i64.bits) = ((256 * a.toNat : Nat) : Int) := by
  have := a.isLt
  rw [show min (Int.toNat 8) IntKind.i64.bits = 8 from rfl, wrap64 (x := (a.toNat : Int)) (by omega) (by omega), wrap64 (by omega) (by omega)]
  omega
theorem numX_lt (m : BL) : numX m < 16777216 := by
  have h0 : ∀ i, n0 m i < 256 := fun i => (m.getD i 0#8).isLt
  have h1 := h0 0
  have h2 := h0 1
  have h3 := h0 2
  unfold numX
  omega
theorem grp_snoc {m : BL} {k : Nat} (h : k < 4) : (grp m).take (k + 1) = (grp m).take k ++ [grpL m k] := by
  have : k = 0 ∨ k = 1 ∨ k = 2 ∨ k = 3 := by omega
  rcases this with rfl | rfl | rfl | rfl <;> rfl
theorem fdiv_nat (x k : Nat) : (x : Int).fdiv (2 ^ k) = ((x / 2 ^ k : Nat) : Int) := by
  rw [Int.fdiv_eq_ediv_of_nonneg _ (Int.le_of_lt (Int.pow_pos (by decide)))]
  push_cast; rfl
theorem BIn.partT {S : Mem} {a : Option Addr} {c k h : Nat} {l : BL} {lo hi : Option Value} (hI : BIn S a c l) (hl : LoIs lo k) (hh : HiIs hi l.length h) (hk : k ≤ h) (hn : h ≤ l.length) :
    ∃ a' c', aslice 1 a l.length c lo hi none = some (.slice a' ((l.drop k).take (h - k)).length c') ∧ ∀ T, BIn T a c l → BIn T a' c' ((l.drop k).take (h - k)) := by
  obtain ⟨a', c', h1, h2⟩ := hI.part hl hh hk hn
  refine ⟨a', c', h1, fun T hT => ?_⟩
  obtain ⟨a2, c2, h3, h4⟩ := hT.part hl hh hk hn
  rw [h1] at h3
  simp only [Option.some.injEq, Value.slice.injEq] at h3
  obtain ⟨rfl, _, rfl⟩ := h3
  exact h4
theorem BIn.fromT {S : Mem} {a : Option Addr} {c k : Nat} {l : BL} {lv : Value} {kd : IntKind} (hI : BIn S a c l) (hl : lv = .int kd (k : Int)) (hk : k ≤ l.length) :
    ∃ a' c', aslice 1 a l.length c (some lv) none none = some (.slice a' (l.drop k).length c') ∧ ∀ T, BIn T a c l → BIn T a' c' (l.drop k) := by
  subst hl
  obtain ⟨a', c', h1, h2⟩ := hI.partT (.inr ⟨kd, rfl⟩) (.inl ⟨rfl, rfl⟩) hk (Nat.le_refl _)
  rw [List.take_of_length_le (by rw [List.length_drop]; omega)] at h1 h2
  exact ⟨a', c', h1, h2⟩
theorem base64_C (a : Option Addr) (c : Nat) (l : BL) (S : Mem) (hI : BIn S a c l) (hl : l.length < 100000) (hR : RowsOk S) :
    C Tryd.prog 1 Ext 11 [.slice a l.length c] S fun v S' => v = .string (strB (b64S l)) ∧ Cons S S' := by
  refine C.fn Tryd.func11 rfl (by kernel_rfl) rfl ?_
  repeat (first | refine W.seq ?_ | refine W.block ?_ | refine W.reg ?_ | refine W.skip ?_ | refine W.exit ?_ | refine W.ret ?_ | refine L.nil ?_ | refine L.p rfl rfl ?_ | refine L.skip rfl ?_)
  refine L.eff (v := .pointer (some ⟨S.length, 0, none⟩)) (S1 := S ++ [bldR (.pointer none) (.slice none 0 0)]) rfl rfl ?_
  have hB := BldS.new S
  generalize S ++ [bldR (.pointer none) (.slice none 0 0)] = T at *
  repeat (first | refine W.seq ?_ | refine W.block ?_ | refine W.reg ?_ | refine W.skip ?_ | refine W.exit ?_ | refine W.ret ?_ | refine L.nil ?_ | refine L.p rfl rfl ?_ | refine L.skip rfl ?_)
  obtain ⟨rb, hrb⟩ : ∃ r, r = S.length := ⟨_, rfl⟩
  rw [← hrb] at hB ⊢
  refine W.loop (fun j e T' => ∃ (m out : BL) (a' : Option Addr) (c' : Nat), j = m.length ∧ m.length ≤ l.length ∧ BldS S T' rb out ∧ out.length + (m.length + 2) / 3 * 4 ≤ 4 * l.length + 4 ∧ b64S l = out ++ b64S m ∧ (∀ T, Cons S T → BIn T a' c' m) ∧ e 0 = .slice a' m.length c' ∧ e 3 = .pointer (some ⟨rb, 0, none⟩)) l.length
    ⟨l, [], a, c, rfl, by omega, hB, by simp; omega, rfl, fun T h => hI.cons h, rfl, rfl⟩ ?_
  clear hB
  rintro j e T ⟨m, out, a', c', rfl, hml, hB, hol, hbs, hm, e0, e3⟩
  refine W.env2 e0 e3 ?_
  repeat (first | refine W.seq ?_ | refine W.block ?_ | refine W.reg ?_ | refine W.skip ?_ | refine W.exit ?_ | refine W.ret ?_ | refine L.nil ?_ | refine L.p rfl rfl ?_ | refine L.skip rfl ?_)
  refine W.ite rfl (fun h => ?_) (fun h => ?_)
  · have hpos : 0 < m.length := by have := of_decide_eq_true h; omega
    clear h
    obtain ⟨x0, hx0⟩ : ∃ x, m[0]? = some x := ⟨_, List.getElem?_eq_getElem hpos⟩
    have hn0 : n0 m 0 = x0.toNat := by unfold n0; rw [List.getD_eq_getElem?_getD, hx0]; rfl
    repeat (first | refine W.seq ?_ | refine W.block ?_ | refine W.reg ?_ | refine W.skip ?_ | refine W.exit ?_ | refine W.ret ?_ | refine L.nil ?_ | refine L.p rfl rfl ?_ | refine L.skip rfl ?_)
    refine L.el (hm T hB.1).1 (k := 0) rfl (bv_get hx0) rfl rfl rfl rfl (fun _ => rfl) rfl (fun p => ?_)
    repeat (first | refine W.seq ?_ | refine W.block ?_ | refine W.reg ?_ | refine W.skip ?_ | refine W.exit ?_ | refine W.ret ?_ | refine L.nil ?_ | refine L.p rfl rfl ?_ | refine L.skip rfl ?_)
    rw [shl16]
    refine W.ite rfl (fun h => ?_) (fun h => ?_)
    · have h1 : 1 < m.length := by have := of_decide_eq_true h; omega
      clear h
      obtain ⟨x1, hx1⟩ : ∃ x, m[1]? = some x := ⟨_, List.getElem?_eq_getElem h1⟩
      have hn1 : n0 m 1 = x1.toNat := by unfold n0; rw [List.getD_eq_getElem?_getD, hx1]; rfl
      have hl1 := x1.isLt
      have hl0 := x0.isLt
      repeat (first | refine W.seq ?_ | refine W.block ?_ | refine W.reg ?_ | refine W.skip ?_ | refine W.exit ?_ | refine W.ret ?_ | refine L.nil ?_ | refine L.p rfl rfl ?_ | refine L.skip rfl ?_)
      refine L.el (hm T hB.1).1 (k := 1) rfl (bv_get hx1) rfl rfl rfl rfl (fun _ => rfl) rfl (fun p => ?_)
      repeat (first | refine W.seq ?_ | refine W.block ?_ | refine W.reg ?_ | refine W.skip ?_ | refine W.exit ?_ | refine W.ret ?_ | refine L.nil ?_ | refine L.p rfl rfl ?_ | refine L.skip rfl ?_)
      rw [shl8]
      rw [show (65536 * x0.toNat) = x0.toNat * 2 ^ 16 by omega, orI (by omega) (by omega)]
      repeat (first | refine W.seq ?_ | refine W.block ?_ | refine W.reg ?_ | refine W.skip ?_ | refine W.exit ?_ | refine W.ret ?_ | refine L.nil ?_ | refine L.p rfl rfl ?_ | refine L.skip rfl ?_)
      refine W.ite rfl (fun h => ?_) (fun h => ?_)
      · have h2 : 2 < m.length := by have := of_decide_eq_true h; omega
        clear h
        obtain ⟨x2, hx2⟩ : ∃ x, m[2]? = some x := ⟨_, List.getElem?_eq_getElem h2⟩
        have hn2 : n0 m 2 = x2.toNat := by unfold n0; rw [List.getD_eq_getElem?_getD, hx2]; rfl
        have hl2 := x2.isLt
        repeat (first | refine W.seq ?_ | refine W.block ?_ | refine W.reg ?_ | refine W.skip ?_ | refine W.exit ?_ | refine W.ret ?_ | refine L.nil ?_ | refine L.p rfl rfl ?_ | refine L.skip rfl ?_)
        refine L.el (hm T hB.1).1 (k := 2) rfl (bv_get hx2) rfl rfl rfl rfl (fun _ => rfl) rfl (fun p => ?_)
        repeat (first | refine W.seq ?_ | refine W.block ?_ | refine W.reg ?_ | refine W.skip ?_ | refine W.exit ?_ | refine W.ret ?_ | refine L.nil ?_ | refine L.p rfl rfl ?_ | refine L.skip rfl ?_)
        rw [wrap64 (x := (x2.toNat : Int)) (by omega) (by omega), show x0.toNat * 2 ^ 16 + 256 * x1.toNat = (256 * x0.toNat + x1.toNat) * 2 ^ 8 by omega, orI (by omega) (by omega)]
        have hX : ((256 * x0.toNat + x1.toNat) * 2 ^ 8 + x2.toNat) = numX m := by unfold numX; rw [hn0, hn1, hn2]; omega
        rw [hX]
        clear hX
        repeat (first | refine W.seq ?_ | refine W.block ?_ | refine W.reg ?_ | refine W.skip ?_ | refine W.exit ?_ | refine W.ret ?_ | refine L.nil ?_ | refine L.p rfl rfl ?_ | refine L.skip rfl ?_)
        refine W.loop (fun j e T' => ∃ k, j = 4 - k ∧ k ≤ 4 ∧ BldS S T' rb (out ++ (grp m).take k) ∧ e 0 = .slice a' m.length c' ∧ e 3 = .pointer (some ⟨rb, 0, none⟩) ∧ e 4 = vi (numX m) ∧ e 38 = vi k) 4
          ⟨0, rfl, by omega, by simpa using hB, rfl, rfl, rfl, rfl⟩ ?_
        clear hB e0 e3 p
        rintro j e T ⟨k, rfl, hk4, hB, e0, e3, e4, e38⟩
        refine W.env4 e0 e3 e4 e38 ?_
        repeat (first | refine W.seq ?_ | refine W.block ?_ | refine W.reg ?_ | refine W.skip ?_ | refine W.exit ?_ | refine W.ret ?_ | refine L.nil ?_ | refine L.p rfl rfl ?_ | refine L.skip rfl ?_)
        refine W.ite rfl (fun h => ?_) (fun h => ?_)
        · have hk : k < 4 := by have := of_decide_eq_true h; omega
          clear h
          repeat (first | refine W.seq ?_ | refine W.block ?_ | refine W.reg ?_ | refine W.skip ?_ | refine W.exit ?_ | refine W.ret ?_ | refine L.nil ?_ | refine L.p rfl rfl ?_ | refine L.skip rfl ?_)
          have hol2 : (out ++ (grp m).take k).length < 1000000 := by rw [List.length_append, List.length_take]; have : (grp m).length = 4 := rfl; omega
          refine W.ite rfl (fun h => ?_) (fun h => ?_)
          · have hkm : ¬ k ≤ m.length := by have := of_decide_eq_true h; omega
            clear h
            repeat (first | refine W.seq ?_ | refine W.block ?_ | refine W.reg ?_ | refine W.skip ?_ | refine W.exit ?_ | refine W.ret ?_ | refine L.nil ?_ | refine L.p rfl rfl ?_ | refine L.skip rfl ?_)
            refine L.cl (writeByte_C rb 61#8 _ T hB (by omega)) rfl rfl ?_
            rintro _ T2 hB2
            refine ⟨nofun, ?_⟩
            repeat (first | refine W.seq ?_ | refine W.block ?_ | refine W.reg ?_ | refine W.skip ?_ | refine W.exit ?_ | refine W.ret ?_ | refine L.nil ?_ | refine L.p rfl rfl ?_ | refine L.skip rfl ?_)
            refine ⟨4 - (k + 1), by omega, k + 1, rfl, by omega, ?_, rfl, rfl, rfl, ?_⟩
            · rw [grp_snoc hk, ← List.append_assoc]
              unfold grpL
              rw [if_neg hkm]; exact hB2
            · refine (force_eq rfl).trans ?_
              rw [wrap64 (by omega) (by omega)]; rfl
          · have hkm : k ≤ m.length := by have := of_decide_eq_false h; omega
            clear h
            repeat (first | refine W.seq ?_ | refine W.block ?_ | refine W.reg ?_ | refine W.skip ?_ | refine W.exit ?_ | refine W.ret ?_ | refine L.nil ?_ | refine L.p rfl rfl ?_ | refine L.skip rfl ?_)
            rw [wrap64 (x := 6 * (k : Int)) (by omega) (by omega), wrap64 (x := 18 - 6 * (k : Int)) (by omega) (by omega)]
            refine L.shr (18 - 6 * k) rfl rfl (by omega) (by rw [bits_i64]; omega) rfl ?_
            rw [fdiv_nat]
            repeat (first | refine W.seq ?_ | refine W.block ?_ | refine W.reg ?_ | refine W.skip ?_ | refine W.exit ?_ | refine W.ret ?_ | refine L.nil ?_ | refine L.p rfl rfl ?_ | refine L.skip rfl ?_)
            have hxm := numX_lt m
            rw [and63 (Nat.lt_of_le_of_lt (Nat.div_le_self _ _) (by omega))]
            refine L.cl (letter_C _ (Nat.mod_lt _ (by omega)) T (hR.cons hB.1)) rfl rfl ?_
            rintro _ _ ⟨rfl, rfl⟩
            refine ⟨fun _ => Cons.refl _, ?_⟩
            refine L.cl (writeByte_C rb (b64D (numX m / 2 ^ (18 - 6 * k) % 64)) _ _ hB (by omega)) rfl rfl ?_
            rintro _ T2 hB2
            refine ⟨nofun, ?_⟩
            repeat (first | refine W.seq ?_ | refine W.block ?_ | refine W.reg ?_ | refine W.skip ?_ | refine W.exit ?_ | refine W.ret ?_ | refine L.nil ?_ | refine L.p rfl rfl ?_ | refine L.skip rfl ?_)
            refine ⟨4 - (k + 1), by omega, k + 1, rfl, by omega, ?_, rfl, rfl, rfl, ?_⟩
            · rw [grp_snoc hk, ← List.append_assoc]
              unfold grpL
              rw [if_pos hkm]; exact hB2
            · refine (force_eq rfl).trans ?_
              rw [wrap64 (by omega) (by omega)]; rfl
        · have hk : k = 4 := by have := of_decide_eq_false h; omega
          subst hk
          repeat (first | refine W.seq ?_ | refine W.block ?_ | refine W.reg ?_ | refine W.skip ?_ | refine W.exit ?_ | refine W.ret ?_ | refine L.nil ?_ | refine L.p rfl rfl ?_ | refine L.skip rfl ?_)
          refine L.min (c := ((min 3 m.length : Nat) : Int)) rfl rfl rfl (by split <;> omega) ?_
          obtain ⟨a2, c2, q1, q2⟩ := (hm T hB.1).fromT (lv := .int .i64 ((min 3 m.length : Nat) : Int)) rfl (Nat.min_le_right _ _)
          refine L.is (.slice a2 (m.drop (min 3 m.length)).length c2) ((slice_at0 rfl rfl rfl).trans q1) rfl ?_
          repeat (first | refine W.seq ?_ | refine W.block ?_ | refine W.reg ?_ | refine W.skip ?_ | refine W.exit ?_ | refine W.ret ?_ | refine L.nil ?_ | refine L.p rfl rfl ?_ | refine L.skip rfl ?_)
          have hne : m ≠ [] := fun e => by rw [e] at hpos; cases hpos
          have hdr : m.drop (min 3 m.length) = m.drop 3 := by
            rcases Nat.le_total 3 m.length with h | h
            · rw [Nat.min_eq_left h]
            · rw [Nat.min_eq_right h, List.drop_length, List.drop_eq_nil_of_le h]
          rw [hdr] at q2
          have hg4 : (grp m).take 4 = grp m := rfl
          rw [hg4] at hB
          refine ⟨(m.drop 3).length, by rw [List.length_drop]; omega, m.drop 3, out ++ grp m, a2, c2, rfl, by rw [List.length_drop]; omega, hB, ?_, ?_, fun T h => q2 T (hm T h), ?_, rfl⟩
          · rw [List.length_append, List.length_drop]; have : (grp m).length = 4 := rfl; omega
          · rw [hbs, b64S_step hne, List.append_assoc]
          · refine (force_eq rfl).trans ?_
            rw [hdr]
      · have h2 : n0 m 2 = 0 := by unfold n0; rw [List.getD_eq_getElem?_getD, List.getElem?_eq_none (by have := of_decide_eq_false h; omega)]; rfl
        clear h
        have hX : (x0.toNat * 2 ^ 16 + 256 * x1.toNat) = numX m := by unfold numX; rw [hn0, hn1, h2]; omega
        rw [hX]
        clear hX
        repeat (first | refine W.seq ?_ | refine W.block ?_ | refine W.reg ?_ | refine W.skip ?_ | refine W.exit ?_ | refine W.ret ?_ | refine L.nil ?_ | refine L.p rfl rfl ?_ | refine L.skip rfl ?_)
        refine W.loop (fun j e T' => ∃ k, j = 4 - k ∧ k ≤ 4 ∧ BldS S T' rb (out ++ (grp m).take k) ∧ e 0 = .slice a' m.length c' ∧ e 3 = .pointer (some ⟨rb, 0, none⟩) ∧ e 4 = vi (numX m) ∧ e 38 = vi k) 4
          ⟨0, rfl, by omega, by simpa using hB, rfl, rfl, rfl, rfl⟩ ?_
        clear hB e0 e3 p
        rintro j e T ⟨k, rfl, hk4, hB, e0, e3, e4, e38⟩
        refine W.env4 e0 e3 e4 e38 ?_
        repeat (first | refine W.seq ?_ | refine W.block ?_ | refine W.reg ?_ | refine W.skip ?_ | refine W.exit ?_ | refine W.ret ?_ | refine L.nil ?_ | refine L.p rfl rfl ?_ | refine L.skip rfl ?_)
        refine W.ite rfl (fun h => ?_) (fun h => ?_)
        · have hk : k < 4 := by have := of_decide_eq_true h; omega
          clear h
          repeat (first | refine W.seq ?_ | refine W.block ?_ | refine W.reg ?_ | refine W.skip ?_ | refine W.exit ?_ | refine W.ret ?_ | refine L.nil ?_ | refine L.p rfl rfl ?_ | refine L.skip rfl ?_)
          have hol2 : (out ++ (grp m).take k).length < 1000000 := by rw [List.length_append, List.length_take]; have : (grp m).length = 4 := rfl; omega
          refine W.ite rfl (fun h => ?_) (fun h => ?_)
          · have hkm : ¬ k ≤ m.length := by have := of_decide_eq_true h; omega
            clear h
            repeat (first | refine W.seq ?_ | refine W.block ?_ | refine W.reg ?_ | refine W.skip ?_ | refine W.exit ?_ | refine W.ret ?_ | refine L.nil ?_ | refine L.p rfl rfl ?_ | refine L.skip rfl ?_)
            refine L.cl (writeByte_C rb 61#8 _ T hB (by omega)) rfl rfl ?_
            rintro _ T2 hB2
            refine ⟨nofun, ?_⟩
            repeat (first | refine W.seq ?_ | refine W.block ?_ | refine W.reg ?_ | refine W.skip ?_ | refine W.exit ?_ | refine W.ret ?_ | refine L.nil ?_ | refine L.p rfl rfl ?_ | refine L.skip rfl ?_)
            refine ⟨4 - (k + 1), by omega, k + 1, rfl, by omega, ?_, rfl, rfl, rfl, ?_⟩
            · rw [grp_snoc hk, ← List.append_assoc]
              unfold grpL
              rw [if_neg hkm]; exact hB2
            · refine (force_eq rfl).trans ?_
              rw [wrap64 (by omega) (by omega)]; rfl
          · have hkm : k ≤ m.length := by have := of_decide_eq_false h; omega
            clear h
            repeat (first | refine W.seq ?_ | refine W.block ?_ | refine W.reg ?_ | refine W.skip ?_ | refine W.exit ?_ | refine W.ret ?_ | refine L.nil ?_ | refine L.p rfl rfl ?_ | refine L.skip rfl ?_)
            rw [wrap64 (x := 6 * (k : Int)) (by omega) (by omega), wrap64 (x := 18 - 6 * (k : Int)) (by omega) (by omega)]
            refine L.shr (18 - 6 * k) rfl rfl (by omega) (by rw [bits_i64]; omega) rfl ?_
            rw [fdiv_nat]
            repeat (first | refine W.seq ?_ | refine W.block ?_ | refine W.reg ?_ | refine W.skip ?_ | refine W.exit ?_ | refine W.ret ?_ | refine L.nil ?_ | refine L.p rfl rfl ?_ | refine L.skip rfl ?_)
            have hxm := numX_lt m
            rw [and63 (Nat.lt_of_le_of_lt (Nat.div_le_self _ _) (by omega))]
            refine L.cl (letter_C _ (Nat.mod_lt _ (by omega)) T (hR.cons hB.1)) rfl rfl ?_
            rintro _ _ ⟨rfl, rfl⟩
            refine ⟨fun _ => Cons.refl _, ?_⟩
            refine L.cl (writeByte_C rb (b64D (numX m / 2 ^ (18 - 6 * k) % 64)) _ _ hB (by omega)) rfl rfl ?_
            rintro _ T2 hB2
            refine ⟨nofun, ?_⟩
            repeat (first | refine W.seq ?_ | refine W.block ?_ | refine W.reg ?_ | refine W.skip ?_ | refine W.exit ?_ | refine W.ret ?_ | refine L.nil ?_ | refine L.p rfl rfl ?_ | refine L.skip rfl ?_)
            refine ⟨4 - (k + 1), by omega, k + 1, rfl, by omega, ?_, rfl, rfl, rfl, ?_⟩
            · rw [grp_snoc hk, ← List.append_assoc]
              unfold grpL
              rw [if_pos hkm]; exact hB2
            · refine (force_eq rfl).trans ?_
              rw [wrap64 (by omega) (by omega)]; rfl
        · have hk : k = 4 := by have := of_decide_eq_false h; omega
          subst hk
          repeat (first | refine W.seq ?_ | refine W.block ?_ | refine W.reg ?_ | refine W.skip ?_ | refine W.exit ?_ | refine W.ret ?_ | refine L.nil ?_ | refine L.p rfl rfl ?_ | refine L.skip rfl ?_)
          refine L.min (c := ((min 3 m.length : Nat) : Int)) rfl rfl rfl (by split <;> omega) ?_
          obtain ⟨a2, c2, q1, q2⟩ := (hm T hB.1).fromT (lv := .int .i64 ((min 3 m.length : Nat) : Int)) rfl (Nat.min_le_right _ _)
          refine L.is (.slice a2 (m.drop (min 3 m.length)).length c2) ((slice_at0 rfl rfl rfl).trans q1) rfl ?_
          repeat (first | refine W.seq ?_ | refine W.block ?_ | refine W.reg ?_ | refine W.skip ?_ | refine W.exit ?_ | refine W.ret ?_ | refine L.nil ?_ | refine L.p rfl rfl ?_ | refine L.skip rfl ?_)
          have hne : m ≠ [] := fun e => by rw [e] at hpos; cases hpos
          have hdr : m.drop (min 3 m.length) = m.drop 3 := by
            rcases Nat.le_total 3 m.length with h | h
            · rw [Nat.min_eq_left h]
            · rw [Nat.min_eq_right h, List.drop_length, List.drop_eq_nil_of_le h]
          rw [hdr] at q2
          have hg4 : (grp m).take 4 = grp m := rfl
          rw [hg4] at hB
          refine ⟨(m.drop 3).length, by rw [List.length_drop]; omega, m.drop 3, out ++ grp m, a2, c2, rfl, by rw [List.length_drop]; omega, hB, ?_, ?_, fun T h => q2 T (hm T h), ?_, rfl⟩
          · rw [List.length_append, List.length_drop]; have : (grp m).length = 4 := rfl; omega
          · rw [hbs, b64S_step hne, List.append_assoc]
          · refine (force_eq rfl).trans ?_
            rw [hdr]
    · have h1 : n0 m 1 = 0 := by unfold n0; rw [List.getD_eq_getElem?_getD, List.getElem?_eq_none (by have := of_decide_eq_false h; omega)]; rfl
      have h2 : n0 m 2 = 0 := by unfold n0; rw [List.getD_eq_getElem?_getD, List.getElem?_eq_none (by have := of_decide_eq_false h; omega)]; rfl
      have hlm := of_decide_eq_false h
      clear h
      repeat (first | refine W.seq ?_ | refine W.block ?_ | refine W.reg ?_ | refine W.skip ?_ | refine W.exit ?_ | refine W.ret ?_ | refine L.nil ?_ | refine L.p rfl rfl ?_ | refine L.skip rfl ?_)
      refine W.ite rfl (fun h => ?_) (fun h => ?_)
      · have := of_decide_eq_true h; omega
      clear h
      have hX : (65536 * x0.toNat) = numX m := by unfold numX; rw [hn0, h1, h2]; omega
      rw [hX]
      clear hX
      repeat (first | refine W.seq ?_ | refine W.block ?_ | refine W.reg ?_ | refine W.skip ?_ | refine W.exit ?_ | refine W.ret ?_ | refine L.nil ?_ | refine L.p rfl rfl ?_ | refine L.skip rfl ?_)
      refine W.loop (fun j e T' => ∃ k, j = 4 - k ∧ k ≤ 4 ∧ BldS S T' rb (out ++ (grp m).take k) ∧ e 0 = .slice a' m.length c' ∧ e 3 = .pointer (some ⟨rb, 0, none⟩) ∧ e 4 = vi (numX m) ∧ e 38 = vi k) 4
        ⟨0, rfl, by omega, by simpa using hB, rfl, rfl, rfl, rfl⟩ ?_
      clear hB e0 e3 p
      rintro j e T ⟨k, rfl, hk4, hB, e0, e3, e4, e38⟩
      refine W.env4 e0 e3 e4 e38 ?_
      repeat (first | refine W.seq ?_ | refine W.block ?_ | refine W.reg ?_ | refine W.skip ?_ | refine W.exit ?_ | refine W.ret ?_ | refine L.nil ?_ | refine L.p rfl rfl ?_ | refine L.skip rfl ?_)
      refine W.ite rfl (fun h => ?_) (fun h => ?_)
      · have hk : k < 4 := by have := of_decide_eq_true h; omega
        clear h
        repeat (first | refine W.seq ?_ | refine W.block ?_ | refine W.reg ?_ | refine W.skip ?_ | refine W.exit ?_ | refine W.ret ?_ | refine L.nil ?_ | refine L.p rfl rfl ?_ | refine L.skip rfl ?_)
        have hol2 : (out ++ (grp m).take k).length < 1000000 := by rw [List.length_append, List.length_take]; have : (grp m).length = 4 := rfl; omega
        refine W.ite rfl (fun h => ?_) (fun h => ?_)
        · have hkm : ¬ k ≤ m.length := by have := of_decide_eq_true h; omega
          clear h
          repeat (first | refine W.seq ?_ | refine W.block ?_ | refine W.reg ?_ | refine W.skip ?_ | refine W.exit ?_ | refine W.ret ?_ | refine L.nil ?_ | refine L.p rfl rfl ?_ | refine L.skip rfl ?_)
          refine L.cl (writeByte_C rb 61#8 _ T hB (by omega)) rfl rfl ?_
          rintro _ T2 hB2
          refine ⟨nofun, ?_⟩
          repeat (first | refine W.seq ?_ | refine W.block ?_ | refine W.reg ?_ | refine W.skip ?_ | refine W.exit ?_ | refine W.ret ?_ | refine L.nil ?_ | refine L.p rfl rfl ?_ | refine L.skip rfl ?_)
          refine ⟨4 - (k + 1), by omega, k + 1, rfl, by omega, ?_, rfl, rfl, rfl, ?_⟩
          · rw [grp_snoc hk, ← List.append_assoc]
            unfold grpL
            rw [if_neg hkm]; exact hB2
          · refine (force_eq rfl).trans ?_
            rw [wrap64 (by omega) (by omega)]; rfl
        · have hkm : k ≤ m.length := by have := of_decide_eq_false h; omega
          clear h
          repeat (first | refine W.seq ?_ | refine W.block ?_ | refine W.reg ?_ | refine W.skip ?_ | refine W.exit ?_ | refine W.ret ?_ | refine L.nil ?_ | refine L.p rfl rfl ?_ | refine L.skip rfl ?_)
          rw [wrap64 (x := 6 * (k : Int)) (by omega) (by omega), wrap64 (x := 18 - 6 * (k : Int)) (by omega) (by omega)]
          refine L.shr (18 - 6 * k) rfl rfl (by omega) (by rw [bits_i64]; omega) rfl ?_
          rw [fdiv_nat]
          repeat (first | refine W.seq ?_ | refine W.block ?_ | refine W.reg ?_ | refine W.skip ?_ | refine W.exit ?_ | refine W.ret ?_ | refine L.nil ?_ | refine L.p rfl rfl ?_ | refine L.skip rfl ?_)
          have hxm := numX_lt m
          rw [and63 (Nat.lt_of_le_of_lt (Nat.div_le_self _ _) (by omega))]
          refine L.cl (letter_C _ (Nat.mod_lt _ (by omega)) T (hR.cons hB.1)) rfl rfl ?_
          rintro _ _ ⟨rfl, rfl⟩
          refine ⟨fun _ => Cons.refl _, ?_⟩
          refine L.cl (writeByte_C rb (b64D (numX m / 2 ^ (18 - 6 * k) % 64)) _ _ hB (by omega)) rfl rfl ?_
          rintro _ T2 hB2
          refine ⟨nofun, ?_⟩
          repeat (first | refine W.seq ?_ | refine W.block ?_ | refine W.reg ?_ | refine W.skip ?_ | refine W.exit ?_ | refine W.ret ?_ | refine L.nil ?_ | refine L.p rfl rfl ?_ | refine L.skip rfl ?_)
          refine ⟨4 - (k + 1), by omega, k + 1, rfl, by omega, ?_, rfl, rfl, rfl, ?_⟩
          · rw [grp_snoc hk, ← List.append_assoc]
            unfold grpL
            rw [if_pos hkm]; exact hB2
          · refine (force_eq rfl).trans ?_
            rw [wrap64 (by omega) (by omega)]; rfl
      · have hk : k = 4 := by have := of_decide_eq_false h; omega
        subst hk
        repeat (first | refine W.seq ?_ | refine W.block ?_ | refine W.reg ?_ | refine W.skip ?_ | refine W.exit ?_ | refine W.ret ?_ | refine L.nil ?_ | refine L.p rfl rfl ?_ | refine L.skip rfl ?_)
        refine L.min (c := ((min 3 m.length : Nat) : Int)) rfl rfl rfl (by split <;> omega) ?_
        obtain ⟨a2, c2, q1, q2⟩ := (hm T hB.1).fromT (lv := .int .i64 ((min 3 m.length : Nat) : Int)) rfl (Nat.min_le_right _ _)
        refine L.is (.slice a2 (m.drop (min 3 m.length)).length c2) ((slice_at0 rfl rfl rfl).trans q1) rfl ?_
        repeat (first | refine W.seq ?_ | refine W.block ?_ | refine W.reg ?_ | refine W.skip ?_ | refine W.exit ?_ | refine W.ret ?_ | refine L.nil ?_ | refine L.p rfl rfl ?_ | refine L.skip rfl ?_)
        have hne : m ≠ [] := fun e => by rw [e] at hpos; cases hpos
        have hdr : m.drop (min 3 m.length) = m.drop 3 := by
          rcases Nat.le_total 3 m.length with h | h
          · rw [Nat.min_eq_left h]
          · rw [Nat.min_eq_right h, List.drop_length, List.drop_eq_nil_of_le h]
        rw [hdr] at q2
        have hg4 : (grp m).take 4 = grp m := rfl
        rw [hg4] at hB
        refine ⟨(m.drop 3).length, by rw [List.length_drop]; omega, m.drop 3, out ++ grp m, a2, c2, rfl, by rw [List.length_drop]; omega, hB, ?_, ?_, fun T h => q2 T (hm T h), ?_, rfl⟩
        · rw [List.length_append, List.length_drop]; have : (grp m).length = 4 := rfl; omega
        · rw [hbs, b64S_step hne, List.append_assoc]
        · refine (force_eq rfl).trans ?_
          rw [hdr]
  · have hm0 : m = [] := List.length_eq_zero_iff.1 (by have := of_decide_eq_false h; omega)
    subst hm0
    rw [show b64S [] = [] from rfl, List.append_nil] at hbs
    rw [hbs]
    repeat (first | refine W.seq ?_ | refine W.block ?_ | refine W.reg ?_ | refine W.skip ?_ | refine W.exit ?_ | refine W.ret ?_ | refine L.nil ?_ | refine L.p rfl rfl ?_ | refine L.skip rfl ?_)
    refine L.cl (string_C rb out T hB (by omega)) rfl rfl ?_
    rintro _ T1 ⟨rfl, hc⟩
    refine ⟨nofun, ?_⟩
    repeat (first | refine W.seq ?_ | refine W.block ?_ | refine W.reg ?_ | refine W.skip ?_ | refine W.exit ?_ | refine W.ret ?_ | refine L.nil ?_ | refine L.p rfl rfl ?_ | refine L.skip rfl ?_)
    exact ⟨.inr rfl, _, rfl, rfl, hc⟩
end Go.Proofs.YtkiecgkgbogbaaaDoor

/- Layer 6: the reference's base64. Conditions: none. -/
set_option linter.unusedSimpArgs false
set_option linter.unusedVariables false
set_option maxRecDepth 100000
namespace Go.Proofs.YtkiecgkgbogbaaaDoor
open Go
variable {G : Nat} {Ext : FuncId → List Value → Mem → Outc → Mem → Prop}
def b64A : ByteArray := ⟨#[65, 66, 67, 68, 69, 70, 71, 72, 73, 74, 75, 76, 77, 78, 79, 80, 81, 82, 83, 84, 85, 86, 87, 88, 89, 90, 97, 98, 99, 100, 101, 102, 103, 104, 105, 106, 107, 108, 109, 110, 111, 112, 113, 114, 115, 116, 117, 118, 119, 120, 121, 122, 48, 49, 50, 51, 52, 53, 54, 55, 56, 57, 43, 47]⟩
theorem b64A_get {n : Nat} (h : n < 64) : b64A[n]? = some (UInt8.ofNat (b64D n).toNat) := by
  have : ∀ n : Fin 64, b64A[n.val]? = some (UInt8.ofNat (b64D n.val).toNat) := by decide +kernel
  exact this ⟨n, h⟩
/-- the number's first k bytes -/
def numP (m : BL) : Nat → Nat
  | 0 => 0
  | k + 1 => 256 * numP m k + n0 m k
theorem numP_lt (m : BL) : ∀ k, numP m k < 256 ^ k
  | 0 => by show 0 < 1; omega
  | k + 1 => by
    have h1 := numP_lt m k
    have h2 : n0 m k < 256 := (m.getD k 0#8).isLt
    show 256 * numP m k + n0 m k < 256 ^ (k + 1)
    rw [Nat.pow_succ]
    omega
theorem numP_three (m : BL) : numP m 3 = numX m := by
  show 256 * (256 * (256 * 0 + n0 m 0) + n0 m 1) + n0 m 2 = _
  unfold numX; omega
theorem shlN {x : Nat} (h : x < 65536) : IntKind.i64.wrap ((x : Int) * 2 ^ min (Int.toNat 8) IntKind.i64.bits) = ((x * 2 ^ 8 : Nat) : Int) := by
  rw [show min (Int.toNat 8) IntKind.i64.bits = 8 from rfl, wrap64 (by omega) (by omega)]
  omega
theorem refBase64_C (a : Option Addr) (c : Nat) (l : BL) (S : Mem) (hI : Slv S 1 (.slice a l.length c) l.length (bv l)) (hl : l.length < 100000) :
    C Tryd.prog G Ext 12 [.slice a l.length c] S fun v S' => v = .string (strB (b64S l)) ∧ Cons S S' := by
  refine C.fn Tryd.func12 rfl (by kernel_rfl) rfl ?_
  repeat (first | refine W.seq ?_ | refine W.block ?_ | refine W.reg ?_ | refine W.skip ?_ | refine W.exit ?_ | refine W.ret ?_ | refine L.nil ?_ | refine L.p rfl rfl ?_ | refine L.skip rfl ?_)
  refine W.loop (fun j e T' => ∃ (i : Nat) (d : Hd) (out : BL), j = l.length + 2 - i ∧ i ≤ l.length + 2 ∧ OutB S T' d out ∧ out.length ≤ 2 * i ∧ b64S l = out ++ b64S (l.drop i) ∧ e 0 = .slice a l.length c ∧ e 3 = d.v ∧ e 4 = vi i) (l.length + 2)
    ⟨0, HdN, [], by omega, by omega, OutB.nil (Cons.refl _), by simp, rfl, rfl, rfl, rfl⟩ ?_
  rintro j e T ⟨i, d, out, rfl, hi, hO, hol, hbs, e0, e3, e4⟩
  refine W.env3 e0 e3 e4 ?_
  repeat (first | refine W.seq ?_ | refine W.block ?_ | refine W.reg ?_ | refine W.skip ?_ | refine W.exit ?_ | refine W.ret ?_ | refine L.nil ?_ | refine L.p rfl rfl ?_ | refine L.skip rfl ?_)
  refine W.ite rfl (fun h => ?_) (fun h => ?_)
  · have hin : i < l.length := by have := of_decide_eq_true h; omega
    clear h
    obtain ⟨m, hm⟩ : ∃ m, m = l.drop i := ⟨_, rfl⟩
    have hml : m.length = l.length - i := by rw [hm, List.length_drop]
    rw [← hm] at hbs
    have hne : m ≠ [] := fun e => by rw [e] at hml; simp at hml; omega
    repeat (first | refine W.seq ?_ | refine W.block ?_ | refine W.reg ?_ | refine W.skip ?_ | refine W.exit ?_ | refine W.ret ?_ | refine L.nil ?_ | refine L.p rfl rfl ?_ | refine L.skip rfl ?_)
    rw [wrap64 (x := (l.length : Int) - (i : Int)) (by omega) (by omega)]
    refine L.min (c := ((min 3 m.length : Nat) : Int)) rfl rfl rfl (by split <;> omega) ?_
    repeat (first | refine W.seq ?_ | refine W.block ?_ | refine W.reg ?_ | refine W.skip ?_ | refine W.exit ?_ | refine W.ret ?_ | refine L.nil ?_ | refine L.p rfl rfl ?_ | refine L.skip rfl ?_)
    refine W.loop (fun j e T' => ∃ k, j = 3 - k ∧ k ≤ 3 ∧ T' = T ∧ e 0 = .slice a l.length c ∧ e 3 = d.v ∧ e 4 = vi i ∧ e 5 = vi (numP m k) ∧ e 6 = vi (min 3 m.length) ∧ e 7 = vi k) 3
      ⟨0, rfl, by omega, rfl, rfl, rfl, rfl, rfl, rfl, rfl⟩ ?_
    clear e0 e3 e4 e
    rintro j e T' ⟨k, rfl, hk3, rfl, e0, e3, e4, e5, e6, e7⟩
    refine W.env6 e0 e3 e4 e5 e6 e7 ?_
    repeat (first | refine W.seq ?_ | refine W.block ?_ | refine W.reg ?_ | refine W.skip ?_ | refine W.exit ?_ | refine W.ret ?_ | refine L.nil ?_ | refine L.p rfl rfl ?_ | refine L.skip rfl ?_)
    refine W.ite rfl (fun h => ?_) (fun h => ?_)
    · have hk : k < 3 := by have := of_decide_eq_true h; omega
      clear h
      have hP := numP_lt m k
      have hP2 : numP m k < 65536 := by
        have : k = 0 ∨ k = 1 ∨ k = 2 := by omega
        rcases this with rfl | rfl | rfl <;> omega
      repeat (first | refine W.seq ?_ | refine W.block ?_ | refine W.reg ?_ | refine W.skip ?_ | refine W.exit ?_ | refine W.ret ?_ | refine L.nil ?_ | refine L.p rfl rfl ?_ | refine L.skip rfl ?_)
      rw [shlN hP2]
      refine W.ite rfl (fun h => ?_) (fun h => ?_)
      · have hkm : k < m.length := by have := of_decide_eq_true h; omega
        clear h
        obtain ⟨x, hx⟩ : ∃ x, m[k]? = some x := ⟨_, List.getElem?_eq_getElem hkm⟩
        have hnx : n0 m k = x.toNat := by unfold n0; rw [List.getD_eq_getElem?_getD, hx]; rfl
        have hx2 : l[i + k]? = some x := by rw [hm, List.getElem?_drop] at hx; exact hx
        have hx8 := x.isLt
        repeat (first | refine W.seq ?_ | refine W.block ?_ | refine W.reg ?_ | refine W.skip ?_ | refine W.exit ?_ | refine W.ret ?_ | refine L.nil ?_ | refine L.p rfl rfl ?_ | refine L.skip rfl ?_)
        rw [wrap64 (x := (i : Int) + (k : Int)) (by omega) (by omega)]
        refine L.el (hI.cons hO.1) (k := i + k) (by omega) (bv_get hx2) rfl rfl rfl rfl (fun _ => rfl) rfl (fun p => ?_)
        repeat (first | refine W.seq ?_ | refine W.block ?_ | refine W.reg ?_ | refine W.skip ?_ | refine W.exit ?_ | refine W.ret ?_ | refine L.nil ?_ | refine L.p rfl rfl ?_ | refine L.skip rfl ?_)
        rw [wrap64 (x := (x.toNat : Int)) (by omega) (by omega), orI (by omega) (by omega)]
        refine ⟨3 - (k + 1), by omega, k + 1, rfl, by omega, rfl, rfl, rfl, rfl, ?_, rfl, ?_⟩
        · refine (force_eq rfl).trans ?_
          rw [show numP m (k + 1) = 256 * numP m k + n0 m k from rfl, hnx]
          exact congrArg (Value.int .i64) (by omega)
        · refine (force_eq rfl).trans ?_
          rw [wrap64 (by omega) (by omega)]; rfl
      · have hkm : ¬ k < m.length := by have := of_decide_eq_false h; omega
        clear h
        have hnx : n0 m k = 0 := by unfold n0; rw [List.getD_eq_getElem?_getD, List.getElem?_eq_none (by omega)]; rfl
        repeat (first | refine W.seq ?_ | refine W.block ?_ | refine W.reg ?_ | refine W.skip ?_ | refine W.exit ?_ | refine W.ret ?_ | refine L.nil ?_ | refine L.p rfl rfl ?_ | refine L.skip rfl ?_)
        refine ⟨3 - (k + 1), by omega, k + 1, rfl, by omega, rfl, rfl, rfl, rfl, ?_, rfl, ?_⟩
        · refine (force_eq rfl).trans ?_
          rw [show numP m (k + 1) = 256 * numP m k + n0 m k from rfl, hnx]
          exact congrArg (Value.int .i64) (by omega)
        · refine (force_eq rfl).trans ?_
          rw [wrap64 (by omega) (by omega)]; rfl
    · have hk : k = 3 := by have := of_decide_eq_false h; omega
      subst hk
      rw [numP_three] at e5 ⊢
      repeat (first | refine W.seq ?_ | refine W.block ?_ | refine W.reg ?_ | refine W.skip ?_ | refine W.exit ?_ | refine W.ret ?_ | refine L.nil ?_ | refine L.p rfl rfl ?_ | refine L.skip rfl ?_)
      trace_state
      refine W.loop (fun j e T' => ∃ k d2, j = 4 - k ∧ k ≤ 4 ∧ OutB S T' d2 (out ++ (grp m).take k) ∧ e 0 = .slice a l.length c ∧ e 3 = d2.v ∧ e 4 = vi i ∧ e 5 = vi (numX m) ∧ e 6 = vi (min 3 m.length) ∧ e 8 = vi k) 4
        ⟨0, d, rfl, by omega, by simpa using hO, rfl, rfl, rfl, rfl, rfl, rfl⟩ ?_
      clear e0 e3 e4 e5 e6 e7 e hO
      rintro j e T ⟨k, d2, rfl, hk4, hO, e0, e3, e4, e5, e6, e8⟩
      refine W.env6 e0 e3 e4 e5 e6 e8 ?_
      have hg4 : (grp m).length = 4 := rfl
      have hol2 : (out ++ (grp m).take k).length < 1000000 := by rw [List.length_append, List.length_take]; omega
      repeat (first | refine W.seq ?_ | refine W.block ?_ | refine W.reg ?_ | refine W.skip ?_ | refine W.exit ?_ | refine W.ret ?_ | refine L.nil ?_ | refine L.p rfl rfl ?_ | refine L.skip rfl ?_)
      refine W.ite rfl (fun h => ?_) (fun h => ?_)
      · have hk : k < 4 := by have := of_decide_eq_true h; omega
        clear h
        repeat (first | refine W.seq ?_ | refine W.block ?_ | refine W.reg ?_ | refine W.skip ?_ | refine W.exit ?_ | refine W.ret ?_ | refine L.nil ?_ | refine L.p rfl rfl ?_ | refine L.skip rfl ?_)
        refine W.ite rfl (fun h => ?_) (fun h => ?_)
        · have hkm : k ≤ m.length := by have := of_decide_eq_true h; omega
          clear h
          repeat (first | refine W.seq ?_ | refine W.block ?_ | refine W.reg ?_ | refine W.skip ?_ | refine W.exit ?_ | refine W.ret ?_ | refine L.nil ?_ | refine L.p rfl rfl ?_ | refine L.skip rfl ?_)
          rw [wrap64 (x := 6 * (k : Int)) (by omega) (by omega), wrap64 (x := 18 - 6 * (k : Int)) (by omega) (by omega)]
          refine L.shr (18 - 6 * k) rfl rfl (by omega) (by rw [bits_i64]; omega) rfl ?_
          rw [fdiv_nat]
          refine L.rem rfl rfl (by decide) rfl ?_
          rw [show ((numX m / 2 ^ (18 - 6 * k) : Nat) : Int).tmod 64 = ((numX m / 2 ^ (18 - 6 * k) % 64 : Nat) : Int) from (Int.ofNat_tmod _ 64).symm]
          refine L.sx (k := .i64) (i := numX m / 2 ^ (18 - 6 * k) % 64) rfl rfl (b64A_get (Nat.mod_lt _ (by omega))) rfl rfl ?_
          rw [byte_back]
          refine L.pushO (b64D (numX m / 2 ^ (18 - 6 * k) % 64)) rfl hO rfl rfl rfl rfl hol2 rfl (fun _ => rfl) (fun p d3 T3 q => ?_)
          repeat (first | refine W.seq ?_ | refine W.block ?_ | refine W.reg ?_ | refine W.skip ?_ | refine W.exit ?_ | refine W.ret ?_ | refine L.nil ?_ | refine L.p rfl rfl ?_ | refine L.skip rfl ?_)
          refine ⟨4 - (k + 1), by omega, k + 1, d3, rfl, by omega, ?_, rfl, rfl, rfl, rfl, rfl, ?_⟩
          · rw [grp_snoc hk, ← List.append_assoc]
            unfold grpL
            rw [if_pos hkm]; exact q
          · refine (force_eq rfl).trans ?_
            rw [wrap64 (by omega) (by omega)]; rfl
        · have hkm : ¬ k ≤ m.length := by have := of_decide_eq_false h; omega
          clear h
          repeat (first | refine W.seq ?_ | refine W.block ?_ | refine W.reg ?_ | refine W.skip ?_ | refine W.exit ?_ | refine W.ret ?_ | refine L.nil ?_ | refine L.p rfl rfl ?_ | refine L.skip rfl ?_)
          refine L.pushO 61#8 rfl hO rfl rfl rfl rfl hol2 rfl (fun _ => rfl) (fun p d3 T3 q => ?_)
          repeat (first | refine W.seq ?_ | refine W.block ?_ | refine W.reg ?_ | refine W.skip ?_ | refine W.exit ?_ | refine W.ret ?_ | refine L.nil ?_ | refine L.p rfl rfl ?_ | refine L.skip rfl ?_)
          refine ⟨4 - (k + 1), by omega, k + 1, d3, rfl, by omega, ?_, rfl, rfl, rfl, rfl, rfl, ?_⟩
          · rw [grp_snoc hk, ← List.append_assoc]
            unfold grpL
            rw [if_neg hkm]; exact q
          · refine (force_eq rfl).trans ?_
            rw [wrap64 (by omega) (by omega)]; rfl
      · have hk : k = 4 := by have := of_decide_eq_false h; omega
        subst hk
        rw [show (grp m).take 4 = grp m from rfl] at hO
        repeat (first | refine W.seq ?_ | refine W.block ?_ | refine W.reg ?_ | refine W.skip ?_ | refine W.exit ?_ | refine W.ret ?_ | refine L.nil ?_ | refine L.p rfl rfl ?_ | refine L.skip rfl ?_)
        refine ⟨l.length + 2 - (i + 3), by omega, i + 3, d2, out ++ grp m, rfl, by omega, hO, ?_, ?_, rfl, rfl, ?_⟩
        · rw [List.length_append]; omega
        · rw [hbs, b64S_step hne, List.append_assoc, hm, List.drop_drop]
        · refine (force_eq rfl).trans ?_
          rw [wrap64 (by omega) (by omega)]; rfl
  · have hin : l.length ≤ i := by have := of_decide_eq_false h; omega
    rw [List.drop_eq_nil_of_le hin, show b64S [] = [] from rfl, List.append_nil] at hbs
    rw [hbs]
    repeat (first | refine W.seq ?_ | refine W.block ?_ | refine W.reg ?_ | refine W.skip ?_ | refine W.exit ?_ | refine W.ret ?_ | refine L.nil ?_ | refine L.p rfl rfl ?_ | refine L.skip rfl ?_)
    refine L.text (h := d) rfl hO.2.2.1 rfl rfl rfl rfl ?_
    repeat (first | refine W.seq ?_ | refine W.block ?_ | refine W.reg ?_ | refine W.skip ?_ | refine W.exit ?_ | refine W.ret ?_ | refine L.nil ?_ | refine L.p rfl rfl ?_ | refine L.skip rfl ?_)
    exact ⟨.inr rfl, _, rfl, rfl, hO.1⟩
end Go.Proofs.YtkiecgkgbogbaaaDoor

/- Layer 6: base64 read. Conditions: none. -/
set_option linter.unusedSimpArgs false
set_option linter.unusedVariables false
set_option maxRecDepth 100000
namespace Go.Proofs.YtkiecgkgbogbaaaDoor
open Go
section
variable {G : Nat} {Ext : FuncId → List Value → Mem → Outc → Mem → Prop}
/-- a sign of equality at the end -/
def endE (l : BL) : Bool := decide (1 ≤ l.length ∧ l.drop (l.length - 1) = [61#8])
def trimE (l : BL) : BL := if endE l then l.take (l.length - 1) else l
theorem hasSuffix_C (l : BL) (hl : l.length < 100000) (S : Mem) :
    C Tryd.prog G Ext 39 [.string (strB l), .string (strB [61#8])] S fun v S' => v = .bool (endE l) ∧ S' = S := by
  refine C.fn Tryd.func39 rfl (by kernel_rfl) rfl ?_
  repeat (first | refine W.seq ?_ | refine W.block ?_ | refine W.reg ?_ | refine W.skip ?_ | refine W.exit ?_ | refine W.ret ?_ | refine L.nil ?_ | refine L.p rfl rfl ?_ | refine L.skip rfl ?_)
  refine L.tlen rfl rfl rfl rfl ?_
  repeat (first | refine W.seq ?_ | refine W.block ?_ | refine W.reg ?_ | refine W.skip ?_ | refine W.exit ?_ | refine W.ret ?_ | refine L.nil ?_ | refine L.p rfl rfl ?_ | refine L.skip rfl ?_)
  refine L.tlen rfl rfl rfl rfl ?_
  rw [show ([61#8] : BL).length = 1 from rfl]
  repeat (first | refine W.seq ?_ | refine W.block ?_ | refine W.reg ?_ | refine W.skip ?_ | refine W.exit ?_ | refine W.ret ?_ | refine L.nil ?_ | refine L.p rfl rfl ?_ | refine L.skip rfl ?_)
  by_cases h1 : 1 ≤ l.length
  · rw [show decide ((l.length : Int) ≥ ((1 : Nat) : Int)) = true from decide_eq_true (by omega)]
    repeat (first | refine W.seq ?_ | refine W.block ?_ | refine W.reg ?_ | refine W.skip ?_ | refine W.exit ?_ | refine W.ret ?_ | refine L.nil ?_ | refine L.p rfl rfl ?_ | refine L.skip rfl ?_)
    refine L.tlen rfl rfl rfl rfl ?_
    repeat (first | refine W.seq ?_ | refine W.block ?_ | refine W.reg ?_ | refine W.skip ?_ | refine W.exit ?_ | refine W.ret ?_ | refine L.nil ?_ | refine L.p rfl rfl ?_ | refine L.skip rfl ?_)
    refine L.tlen rfl rfl rfl rfl ?_
    rw [show ([61#8] : BL).length = 1 from rfl]
    repeat (first | refine W.seq ?_ | refine W.block ?_ | refine W.reg ?_ | refine W.skip ?_ | refine W.exit ?_ | refine W.ret ?_ | refine L.nil ?_ | refine L.p rfl rfl ?_ | refine L.skip rfl ?_)
    rw [wrap64 (x := (l.length : Int) - ((1 : Nat) : Int)) (by omega) (by omega), show (l.length : Int) - ((1 : Nat) : Int) = ((l.length - 1 : Nat) : Int) by omega]
    refine L.from (i := l.length - 1) rfl rfl (by omega) rfl rfl ?_
    repeat (first | refine W.seq ?_ | refine W.block ?_ | refine W.reg ?_ | refine W.skip ?_ | refine W.exit ?_ | refine W.ret ?_ | refine L.nil ?_ | refine L.p rfl rfl ?_ | refine L.skip rfl ?_)
    rw [strB_same]
    refine ⟨.inr rfl, _, rfl, ?_, rfl⟩
    unfold endE
    have : (1 ≤ l.length ∧ l.drop (l.length - 1) = [61#8]) ↔ l.drop (l.length - 1) = [61#8] := ⟨fun h => h.2, fun h => ⟨h1, h⟩⟩
    exact congrArg Value.bool (decide_eq_decide.2 this).symm
  · rw [show decide ((l.length : Int) ≥ ((1 : Nat) : Int)) = false from decide_eq_false (by omega)]
    repeat (first | refine W.seq ?_ | refine W.block ?_ | refine W.reg ?_ | refine W.skip ?_ | refine W.exit ?_ | refine W.ret ?_ | refine L.nil ?_ | refine L.p rfl rfl ?_ | refine L.skip rfl ?_)
    refine ⟨.inr rfl, _, rfl, ?_, rfl⟩
    unfold endE
    rw [decide_eq_false (fun h => h1 h.1)]; rfl
theorem sliteTrim_C (l : BL) (hl : l.length < 100000) (S : Mem) :
    C Tryd.prog G Ext 33 [.string (strB l), .string (strB [61#8])] S fun v S' => v = .string (strB (trimE l)) ∧ S' = S := by
  refine C.fn Tryd.func33 rfl (by kernel_rfl) rfl ?_
  repeat (first | refine W.seq ?_ | refine W.block ?_ | refine W.reg ?_ | refine W.skip ?_ | refine W.exit ?_ | refine W.ret ?_ | refine L.nil ?_ | refine L.p rfl rfl ?_ | refine L.skip rfl ?_)
  refine L.cl (hasSuffix_C l hl S) rfl rfl ?_
  rintro _ _ ⟨rfl, rfl⟩
  refine ⟨nofun, ?_⟩
  repeat (first | refine W.seq ?_ | refine W.block ?_ | refine W.reg ?_ | refine W.skip ?_ | refine W.exit ?_ | refine W.ret ?_ | refine L.nil ?_ | refine L.p rfl rfl ?_ | refine L.skip rfl ?_)
  refine W.ite rfl (fun h => ?_) (fun h => ?_)
  · have h1 : 1 ≤ l.length := (of_decide_eq_true h).1
    repeat (first | refine W.seq ?_ | refine W.block ?_ | refine W.reg ?_ | refine W.skip ?_ | refine W.exit ?_ | refine W.ret ?_ | refine L.nil ?_ | refine L.p rfl rfl ?_ | refine L.skip rfl ?_)
    refine L.tlen rfl rfl rfl rfl ?_
    repeat (first | refine W.seq ?_ | refine W.block ?_ | refine W.reg ?_ | refine W.skip ?_ | refine W.exit ?_ | refine W.ret ?_ | refine L.nil ?_ | refine L.p rfl rfl ?_ | refine L.skip rfl ?_)
    refine L.tlen rfl rfl rfl rfl ?_
    rw [show ([61#8] : BL).length = 1 from rfl]
    repeat (first | refine W.seq ?_ | refine W.block ?_ | refine W.reg ?_ | refine W.skip ?_ | refine W.exit ?_ | refine W.ret ?_ | refine L.nil ?_ | refine L.p rfl rfl ?_ | refine L.skip rfl ?_)
    rw [wrap64 (x := (l.length : Int) - ((1 : Nat) : Int)) (by omega) (by omega), show (l.length : Int) - ((1 : Nat) : Int) = ((l.length - 1 : Nat) : Int) by omega]
    refine L.upto (i := l.length - 1) rfl rfl (by omega) rfl rfl ?_
    repeat (first | refine W.seq ?_ | refine W.block ?_ | refine W.reg ?_ | refine W.skip ?_ | refine W.exit ?_ | refine W.ret ?_ | refine L.nil ?_ | refine L.p rfl rfl ?_ | refine L.skip rfl ?_)
    refine ⟨.inr rfl, _, rfl, ?_, rfl⟩
    unfold trimE
    rw [if_pos h]; rfl
  · repeat (first | refine W.seq ?_ | refine W.block ?_ | refine W.reg ?_ | refine W.skip ?_ | refine W.exit ?_ | refine W.ret ?_ | refine L.nil ?_ | refine L.p rfl rfl ?_ | refine L.skip rfl ?_)
    refine ⟨.inr rfl, _, rfl, ?_, rfl⟩
    unfold trimE
    rw [h]; rfl
theorem trim_C (l : BL) (hl : l.length < 100000) (S : Mem) :
    C Tryd.prog G Ext 28 [.string (strB l), .string (strB [61#8])] S fun v S' => v = .string (strB (trimE l)) ∧ S' = S := by
  refine C.fn Tryd.func28 rfl (by kernel_rfl) rfl ?_
  repeat (first | refine W.seq ?_ | refine W.block ?_ | refine W.reg ?_ | refine W.skip ?_ | refine W.exit ?_ | refine W.ret ?_ | refine L.nil ?_ | refine L.p rfl rfl ?_ | refine L.skip rfl ?_)
  refine L.cl (sliteTrim_C l hl S) rfl rfl ?_
  rintro _ _ ⟨rfl, rfl⟩
  refine ⟨nofun, ?_⟩
  repeat (first | refine W.seq ?_ | refine W.block ?_ | refine W.reg ?_ | refine W.skip ?_ | refine W.exit ?_ | refine W.ret ?_ | refine L.nil ?_ | refine L.p rfl rfl ?_ | refine L.skip rfl ?_)
  exact ⟨.inr rfl, _, rfl, rfl, rfl⟩
end
end Go.Proofs.YtkiecgkgbogbaaaDoor

/- Layer 6: base64 read, letter by letter. Conditions: none. -/
set_option linter.unusedSimpArgs false
set_option linter.unusedVariables false
set_option maxRecDepth 100000
namespace Go.Proofs.YtkiecgkgbogbaaaDoor
open Go
variable {Ext : FuncId → List Value → Mem → Outc → Mem → Prop}
/-- letters read: the bits that are left over, how many they are -/
def decS (x bits : Nat) : BL → Option BL
  | [] => if x = 0 then some [] else none
  | c :: l => (worthV c.toNat).bind fun d =>
    if 8 ≤ bits + 6 then (decS ((64 * x + d) % 2 ^ (bits + 6 - 8)) (bits + 6 - 8) l).map (BitVec.ofNat 8 ((64 * x + d) / 2 ^ (bits + 6 - 8)) :: ·)
    else decS (64 * x + d) (bits + 6) l
/-- base64 read -/
def unB (l : BL) : Option BL := if l.length % 4 = 0 then decS 0 0 (trimE (trimE l)) else none
theorem shl6 {x : Nat} (h : x < 65536) : IntKind.i64.wrap ((x : Int) * 2 ^ min (Int.toNat 6) IntKind.i64.bits) = ((x * 2 ^ 6 : Nat) : Int) := by
  rw [show min (Int.toNat 6) IntKind.i64.bits = 6 from rfl, wrap64 (by omega) (by omega)]
  omega
theorem u8_wrap (x : Nat) : IntKind.u8.wrap (x : Int) = ((BitVec.ofNat 8 x).toNat : Int) := by
  rw [wrap_u8]
  congr 1
theorem andM {x k : Nat} (h : x < 4611686018427387904) (hk : k ≤ 32) : IntKind.i64.wrap ((BitVec.ofInt IntKind.i64.bits (x : Int) &&& BitVec.ofInt IntKind.i64.bits ((2 ^ k - 1 : Nat) : Int)).toNat : Int) = ((x % 2 ^ k : Nat) : Int) := by
  have hk2 : 2 ^ k ≤ 2 ^ 32 := Nat.pow_le_pow_right (by omega) hk
  have h1 : (BitVec.ofInt IntKind.i64.bits (x : Int) &&& BitVec.ofInt IntKind.i64.bits ((2 ^ k - 1 : Nat) : Int)).toNat = x % 2 ^ k := by
    rw [BitVec.toNat_and, BitVec.toNat_ofInt, BitVec.toNat_ofInt]
    show ((((x : Int) % ((2 ^ 64 : Nat) : Int)).toNat) &&& ((((2 ^ k - 1 : Nat) : Int) % ((2 ^ 64 : Nat) : Int)).toNat)) = _
    rw [← Int.natCast_emod, ← Int.natCast_emod, Int.toNat_natCast, Int.toNat_natCast, Nat.mod_eq_of_lt (show x < 2 ^ 64 by omega), Nat.mod_eq_of_lt (show 2 ^ k - 1 < 2 ^ 64 by omega)]
    exact Nat.and_two_pow_sub_one_eq_mod x k
  have := Nat.mod_le x (2 ^ k)
  rw [h1, wrap64 (by omega) (by omega)]
theorem trimE_len (l : BL) : (trimE l).length ≤ l.length := by
  unfold trimE
  split
  · rw [List.length_take]; omega
  · omega
theorem unbase64_C (l : BL) (hl : l.length < 100000) (S : Mem) (hR : RowsOk S) :
    C Tryd.prog 1 Ext 16 [.string (strB l)] S fun v S' => ResB S S' v (unB l) 61 := by
  refine C.fn Tryd.func16 rfl (by kernel_rfl) rfl ?_
  repeat (first | refine W.seq ?_ | refine W.block ?_ | refine W.reg ?_ | refine W.skip ?_ | refine W.exit ?_ | refine W.ret ?_ | refine L.nil ?_ | refine L.p rfl rfl ?_ | refine L.skip rfl ?_)
  refine L.tlen rfl rfl rfl rfl ?_
  repeat (first | refine W.seq ?_ | refine W.block ?_ | refine W.reg ?_ | refine W.skip ?_ | refine W.exit ?_ | refine W.ret ?_ | refine L.nil ?_ | refine L.p rfl rfl ?_ | refine L.skip rfl ?_)
  rw [show (l.length : Int).tmod 4 = ((l.length % 4 : Nat) : Int) from (Int.ofNat_tmod l.length 4).symm]
  refine W.ite rfl (fun h => ?_) (fun h => ?_)
  · have ho : l.length % 4 ≠ 0 := by have : ¬ ((l.length % 4 : Nat) : Int) = 0 := by simpa [bne] using h
                                     omega
    repeat (first | refine W.seq ?_ | refine W.block ?_ | refine W.reg ?_ | refine W.skip ?_ | refine W.exit ?_ | refine W.ret ?_ | refine L.nil ?_ | refine L.p rfl rfl ?_ | refine L.skip rfl ?_)
    refine ⟨.inr rfl, _, rfl, ?_⟩
    unfold ResB unB
    rw [if_neg ho]
    exact ⟨rfl, Cons.refl _⟩
  have hev : l.length % 4 = 0 := by have : ((l.length % 4 : Nat) : Int) = 0 := by simpa [bne] using h
                                    omega
  clear h
  have hA : (⟨#[61]⟩ : ByteArray) = strB [61#8] := by decide +kernel
  repeat (first | refine W.seq ?_ | refine W.block ?_ | refine W.reg ?_ | refine W.skip ?_ | refine W.exit ?_ | refine W.ret ?_ | refine L.nil ?_ | refine L.p rfl rfl ?_ | refine L.skip rfl ?_)
  have ht1 := trim_C (G := 1) (Ext := Ext) l hl S
  rw [← hA] at ht1
  refine L.cl ht1 rfl rfl ?_
  rintro _ S1 ⟨rfl, hS⟩
  have hS := hS.symm
  subst hS
  refine ⟨fun _ => Cons.refl _, ?_⟩
  have ht2 := trim_C (G := 1) (Ext := Ext) (trimE l) (Nat.lt_of_le_of_lt (trimE_len l) hl) S
  rw [← hA] at ht2
  refine L.cl ht2 rfl rfl ?_
  rintro _ S1 ⟨rfl, hS⟩
  have hS := hS.symm
  subst hS
  refine ⟨fun _ => Cons.refl _, ?_⟩
  have hB : (trimE (trimE l)).length < 100000 := Nat.lt_of_le_of_lt (Nat.le_trans (trimE_len _) (trimE_len l)) hl
  have hU : unB l = decS 0 0 (trimE (trimE l)) := by unfold unB; rw [if_pos hev]
  rw [hU]
  generalize trimE (trimE l) = b at *
  clear ht1 ht2 hU
  repeat (first | refine W.seq ?_ | refine W.block ?_ | refine W.reg ?_ | refine W.skip ?_ | refine W.exit ?_ | refine W.ret ?_ | refine L.nil ?_ | refine L.p rfl rfl ?_ | refine L.skip rfl ?_)
  refine L.range rfl rfl rfl ?_
  have hO := OutI.new S (strB b)
  generalize S ++ [itR (strB b) 0] = T at *
  obtain ⟨rb, hrb⟩ : ∃ rb, rb = S.length := ⟨_, rfl⟩
  rw [← hrb] at hO ⊢
  repeat (first | refine W.seq ?_ | refine W.block ?_ | refine W.reg ?_ | refine W.skip ?_ | refine W.exit ?_ | refine W.ret ?_ | refine L.nil ?_ | refine L.p rfl rfl ?_ | refine L.skip rfl ?_)
  refine W.loop (fun j e T' => ∃ i d m x bits, j = b.length - i ∧ i ≤ b.length ∧ m.length ≤ i ∧ OutI S T' rb (strB b) i d m ∧ decS 0 0 b = (decS x bits (b.drop i)).map (m ++ ·) ∧ x < 2 ^ bits ∧ (bits ≤ 6 ∧ bits % 2 = 0) ∧ e 5 = d.v ∧ e 6 = vi x ∧ e 7 = vi bits ∧ e 19 = .pointer (some ⟨rb, 0, none⟩)) b.length
    ⟨0, HdN, [], 0, 0, by omega, by omega, by simp, hO, by simp, by decide, ⟨by omega, rfl⟩, rfl, rfl, rfl, rfl⟩ ?_
  clear hO
  rintro j e T ⟨i, d, m, x, bits, rfl, hi, hmi, hO, hu, hxb, ⟨hb6, hb2⟩, e5, e6, e7, e19⟩
  refine W.env4 e5 e6 e7 e19 ?_
  have hx64 : x < 64 := Nat.lt_of_lt_of_le hxb (Nat.pow_le_pow_right (by omega) hb6)
  by_cases hin : i < b.length
  · obtain ⟨z, hz⟩ : ∃ z, b[i]? = some z := ⟨_, List.getElem?_eq_getElem hin⟩
    obtain ⟨r, w, hd, hv, hw1, hr⟩ : ∃ r w, Utf8.decode (strB b) i = (r, w) ∧ Utf8.valid (r : Nat) = true ∧ 1 ≤ w ∧ ((r = z.toNat ∧ w = 1) ∨ (128 ≤ r ∧ 128 ≤ z.toNat)) := by
      by_cases h8 : z.toNat < 128
      · exact ⟨_, _, decode_lt hz h8, valid_add h8, by omega, .inl ⟨rfl, rfl⟩⟩
      · obtain ⟨r, w, h1, h2, h3, h4⟩ := decode_ge hz (by omega)
        exact ⟨r, w, h1, h3, h4, .inr ⟨h2, by omega⟩⟩
    have hr11 : r ≤ 1114111 := by
      unfold Utf8.valid at hv
      simp at hv
      omega
    have hdr : b.drop i = z :: b.drop (i + 1) := by
      rw [List.drop_eq_getElem_cons hin]
      rw [(List.getElem?_eq_some_iff.1 hz).2]
    have hV : worthV r = worthV z.toNat := by
      rcases hr with ⟨rfl, _⟩ | ⟨h1, h2⟩
      · rfl
      · rw [worthV_ge h1, worthV_ge h2]
    repeat (first | refine W.seq ?_ | refine W.block ?_ | refine W.reg ?_ | refine W.skip ?_ | refine W.exit ?_ | refine W.ret ?_ | refine L.nil ?_ | refine L.p rfl rfl ?_ | refine L.skip rfl ?_)
    refine L.nextM rfl rfl hO.2.2.1 (by rw [strB_size]; exact hin) hd ?_
    have hO1 := hO.step (i + w)
    generalize List.set T rb (itR (strB b) (i + w)) = T1 at *
    repeat (first | refine W.seq ?_ | refine W.block ?_ | refine W.reg ?_ | refine W.skip ?_ | refine W.exit ?_ | refine W.ret ?_ | refine L.nil ?_ | refine L.p rfl rfl ?_ | refine L.skip rfl ?_)
    refine W.ite rfl (fun h => ?_) (fun h => ?_)
    rotate_left
    · cases h
    clear h
    repeat (first | refine W.seq ?_ | refine W.block ?_ | refine W.reg ?_ | refine W.skip ?_ | refine W.exit ?_ | refine W.ret ?_ | refine L.nil ?_ | refine L.p rfl rfl ?_ | refine L.skip rfl ?_)
    refine L.cl (worth_C r hr11 T1 (hR.cons hO1.1)) rfl rfl ?_
    rintro _ T2 ⟨rfl, hc⟩
    refine ⟨nofun, ?_⟩
    have hO2 := hO1.cons hc
    rw [hV]
    cases hzv : worthV z.toNat with
    | none =>
      have hun : decS 0 0 b = none := by
        rw [hu, hdr]
        show ((worthV z.toNat).bind _).map _ = _
        rw [hzv]; rfl
      repeat (first | refine W.seq ?_ | refine W.block ?_ | refine W.reg ?_ | refine W.skip ?_ | refine W.exit ?_ | refine W.ret ?_ | refine L.nil ?_ | refine L.p rfl rfl ?_ | refine L.skip rfl ?_)
      refine W.ite rfl (fun h => ?_) (fun h => ?_)
      · repeat (first | refine W.seq ?_ | refine W.block ?_ | refine W.reg ?_ | refine W.skip ?_ | refine W.exit ?_ | refine W.ret ?_ | refine L.nil ?_ | refine L.p rfl rfl ?_ | refine L.skip rfl ?_)
        refine ⟨.inr rfl, _, rfl, ?_⟩
        unfold ResB
        rw [hun]
        exact ⟨rfl, hO2.1⟩
      · cases h
    | some q =>
      have hq64 := worthV_lt hzv
      have hlt : z.toNat < 128 := by
        refine Classical.byContradiction fun hc => ?_
        rw [worthV_ge (by omega)] at hzv; cases hzv
      obtain ⟨rfl, rfl⟩ : r = z.toNat ∧ w = 1 := by
        rcases hr with h | h
        · exact h
        · omega
      have hstep : decS x bits (b.drop i) = if 8 ≤ bits + 6 then (decS ((64 * x + q) % 2 ^ (bits + 6 - 8)) (bits + 6 - 8) (b.drop (i + 1))).map (BitVec.ofNat 8 ((64 * x + q) / 2 ^ (bits + 6 - 8)) :: ·) else decS (64 * x + q) (bits + 6) (b.drop (i + 1)) := by
        rw [hdr]
        show (worthV z.toNat).bind _ = _
        rw [hzv]; rfl
      repeat (first | refine W.seq ?_ | refine W.block ?_ | refine W.reg ?_ | refine W.skip ?_ | refine W.exit ?_ | refine W.ret ?_ | refine L.nil ?_ | refine L.p rfl rfl ?_ | refine L.skip rfl ?_)
      refine W.ite rfl (fun h => ?_) (fun h => ?_)
      · have := of_decide_eq_true h; simp only [oi] at this; omega
      clear h
      repeat (first | refine W.seq ?_ | refine W.block ?_ | refine W.reg ?_ | refine W.skip ?_ | refine W.exit ?_ | refine W.ret ?_ | refine L.nil ?_ | refine L.p rfl rfl ?_ | refine L.skip rfl ?_)
      simp only [oi]
      rw [shl6 (by omega), orI (by omega) (by omega), wrap64 (x := (bits : Int) + 6) (by omega) (by omega), show x * 2 ^ 6 + q = 64 * x + q by omega]
      refine W.ite rfl (fun h => ?_) (fun h => ?_)
      · have h8 : 8 ≤ bits + 6 := by have := of_decide_eq_true h; omega
        clear h
        rw [if_pos h8] at hstep
        repeat (first | refine W.seq ?_ | refine W.block ?_ | refine W.reg ?_ | refine W.skip ?_ | refine W.exit ?_ | refine W.ret ?_ | refine L.nil ?_ | refine L.p rfl rfl ?_ | refine L.skip rfl ?_)
        rw [wrap64 (x := (bits : Int) + 6 - 8) (by omega) (by omega), show (bits : Int) + 6 - 8 = ((bits + 6 - 8 : Nat) : Int) by omega]
        repeat (first | refine W.seq ?_ | refine W.block ?_ | refine W.reg ?_ | refine W.skip ?_ | refine W.exit ?_ | refine W.ret ?_ | refine L.nil ?_ | refine L.p rfl rfl ?_ | refine L.skip rfl ?_)
        have hmin : min (((bits + 6 - 8 : Nat) : Int)).toNat IntKind.i64.bits = bits + 6 - 8 := by rw [Int.toNat_natCast, bits_i64]; omega
        rw [hmin, fdiv_nat]
        rw [u8_wrap]
        refine L.pushI (BitVec.ofNat 8 ((64 * x + q) / 2 ^ (bits + 6 - 8))) rfl hO2 rfl rfl rfl rfl (by omega) rfl (fun _ => rfl) (fun p d3 T3 o3 => ?_)
        repeat (first | refine W.seq ?_ | refine W.block ?_ | refine W.reg ?_ | refine W.skip ?_ | refine W.exit ?_ | refine W.ret ?_ | refine L.nil ?_ | refine L.p rfl rfl ?_ | refine L.skip rfl ?_)
        have hp6 : 2 ^ (bits + 6 - 8) ≤ 2 ^ 6 := Nat.pow_le_pow_right (by omega) (by omega)
        have hp1 : 1 ≤ 2 ^ (bits + 6 - 8) := Nat.one_le_two_pow
        have hc2 : ((1 : Int) * 2 ^ (bits + 6 - 8)) = ((2 ^ (bits + 6 - 8) : Nat) : Int) := by push_cast; omega
        rw [hmin, hc2, wrap64 (x := ((2 ^ (bits + 6 - 8) : Nat) : Int)) (by omega) (by omega)]
        rw [wrap64 (x := ((2 ^ (bits + 6 - 8) : Nat) : Int) - 1) (by omega) (by omega), show ((2 ^ (bits + 6 - 8) : Nat) : Int) - 1 = ((2 ^ (bits + 6 - 8) - 1 : Nat) : Int) by omega, andM (x := 64 * x + q) (k := bits + 6 - 8) (by omega) (by omega)]
        refine ⟨b.length - (i + 1), by omega, i + 1, d3, m ++ [BitVec.ofNat 8 ((64 * x + q) / 2 ^ (bits + 6 - 8))], (64 * x + q) % 2 ^ (bits + 6 - 8), bits + 6 - 8, rfl, by omega, by rw [List.length_append]; simp; omega, o3, ?_, Nat.mod_lt _ (by omega), ⟨by omega, by omega⟩, rfl, rfl, rfl, rfl⟩
        rw [hu, hstep]
        simp
        rfl
      · have h8 : ¬ 8 ≤ bits + 6 := by have := of_decide_eq_false h; omega
        clear h
        rw [if_neg h8] at hstep
        repeat (first | refine W.seq ?_ | refine W.block ?_ | refine W.reg ?_ | refine W.skip ?_ | refine W.exit ?_ | refine W.ret ?_ | refine L.nil ?_ | refine L.p rfl rfl ?_ | refine L.skip rfl ?_)
        have hb0 : bits = 0 ∨ bits = 1 := by omega
        refine ⟨b.length - (i + 1), by omega, i + 1, d, m, 64 * x + q, bits + 6, rfl, by omega, by omega, hO2, ?_, ?_, ?_, rfl, rfl, rfl, rfl⟩
        · rw [hu, hstep]
        · rw [Nat.pow_add]; omega
        · omega
  · have hin : i = b.length := by omega
    subst hin
    rw [List.drop_length] at hu
    repeat (first | refine W.seq ?_ | refine W.block ?_ | refine W.reg ?_ | refine W.skip ?_ | refine W.exit ?_ | refine W.ret ?_ | refine L.nil ?_ | refine L.p rfl rfl ?_ | refine L.skip rfl ?_)
    refine L.nextO rfl rfl hO.2.2.1 (by rw [strB_size]; omega) ?_
    repeat (first | refine W.seq ?_ | refine W.block ?_ | refine W.reg ?_ | refine W.skip ?_ | refine W.exit ?_ | refine W.ret ?_ | refine L.nil ?_ | refine L.p rfl rfl ?_ | refine L.skip rfl ?_)
    refine W.ite rfl (fun h => ?_) (fun h => ?_)
    · cases h
    repeat (first | refine W.seq ?_ | refine W.block ?_ | refine W.reg ?_ | refine W.skip ?_ | refine W.exit ?_ | refine W.ret ?_ | refine L.nil ?_ | refine L.p rfl rfl ?_ | refine L.skip rfl ?_)
    refine W.ite rfl (fun h => ?_) (fun h => ?_)
    · have hx0 : x ≠ 0 := by have : ¬ (x : Int) = 0 := by simpa [bne] using h
                             omega
      repeat (first | refine W.seq ?_ | refine W.block ?_ | refine W.reg ?_ | refine W.skip ?_ | refine W.exit ?_ | refine W.ret ?_ | refine L.nil ?_ | refine L.p rfl rfl ?_ | refine L.skip rfl ?_)
      refine ⟨.inr rfl, _, rfl, ?_⟩
      unfold ResB
      rw [hu]
      unfold decS
      rw [if_neg hx0]
      exact ⟨rfl, hO.1⟩
    · have hx0 : x = 0 := by have : (x : Int) = 0 := by simpa [bne] using h
                             omega
      repeat (first | refine W.seq ?_ | refine W.block ?_ | refine W.reg ?_ | refine W.skip ?_ | refine W.exit ?_ | refine W.ret ?_ | refine L.nil ?_ | refine L.p rfl rfl ?_ | refine L.skip rfl ?_)
      refine ⟨.inr rfl, _, rfl, ?_⟩
      have hu' : decS 0 0 b = some m := by rw [hu]; unfold decS; rw [if_pos hx0]; simp
      unfold ResB
      rw [hu']
      exact ⟨d, rfl, hO.out⟩
end Go.Proofs.YtkiecgkgbogbaaaDoor

/- Layer 6: the reference reads base64. Conditions: none. -/
set_option linter.unusedSimpArgs false
set_option linter.unusedVariables false
set_option maxRecDepth 100000
namespace Go.Proofs.YtkiecgkgbogbaaaDoor
open Go
variable {G : Nat} {Ext : FuncId → List Value → Mem → Outc → Mem → Prop}
def b64B : BL := b64T.map (BitVec.ofNat 8)
theorem b64B_find (c : BitVec 8) : findI b64B c = worthV c.toNat := by
  have : ∀ n : Fin 256, findI b64B (BitVec.ofNat 8 n.val) = worthV n.val := by decide +kernel
  have h := this ⟨c.toNat, c.isLt⟩
  rwa [show BitVec.ofNat 8 c.toNat = c by simp] at h
theorem shl6' {x : Nat} (h : x < 1000000000) : IntKind.i64.wrap ((x : Int) * 2 ^ min (Int.toNat 6) IntKind.i64.bits) = ((x * 2 ^ 6 : Nat) : Int) := by
  rw [show min (Int.toNat 6) IntKind.i64.bits = 6 from rfl, wrap64 (by omega) (by omega)]
  omega
/-- a group's letters: how many, and the number -/
def rg (last : Bool) : Nat → Nat → Nat → BL → Option (Nat × Nat)
  | _, n, x, [] => some (n, x)
  | k, n, x, c :: cs => match worthV c.toNat with
    | none => if c ≠ 61#8 ∨ last = false ∨ k < 2 then none else rg last (k + 1) n (64 * x) cs
    | some d => if n < k then none else rg last (k + 1) (n + 1) (64 * x + d) cs
def byG (n x : Nat) : BL := (List.range (n - 1)).map fun k => BitVec.ofNat 8 (x / 2 ^ (16 - 8 * k))
/-- all groups -/
def rd : BL → Option BL
  | p :: q :: r :: s :: rest => (rg rest.isEmpty 0 0 0 [p, q, r, s]).bind fun g => (rd rest).map (byG g.1 g.2 ++ ·)
  | _ => some []
/-- what the reference reads -/
def refB (l : BL) : Option BL := if l.length % 4 = 0 then (rd l).bind fun m => if b64S m = l then some m else none else none
theorem refUnbase64_C (l : BL) (hl : l.length < 100000) (S : Mem) :
    C Tryd.prog G Ext 18 [.string (strB l)] S fun v S' => ResB S S' v (refB l) 61 := by
  refine C.fn Tryd.func18 rfl (by kernel_rfl) rfl ?_
  repeat (first | refine W.seq ?_ | refine W.block ?_ | refine W.reg ?_ | refine W.skip ?_ | refine W.exit ?_ | refine W.ret ?_ | refine L.nil ?_ | refine L.p rfl rfl ?_ | refine L.skip rfl ?_)
  refine L.tlen rfl rfl rfl rfl ?_
  repeat (first | refine W.seq ?_ | refine W.block ?_ | refine W.reg ?_ | refine W.skip ?_ | refine W.exit ?_ | refine W.ret ?_ | refine L.nil ?_ | refine L.p rfl rfl ?_ | refine L.skip rfl ?_)
  rw [show (l.length : Int).tmod 4 = ((l.length % 4 : Nat) : Int) from (Int.ofNat_tmod l.length 4).symm]
  refine W.ite rfl (fun h => ?_) (fun h => ?_)
  · have ho : l.length % 4 ≠ 0 := by have : ¬ ((l.length % 4 : Nat) : Int) = 0 := by simpa [bne] using h
                                     omega
    repeat (first | refine W.seq ?_ | refine W.block ?_ | refine W.reg ?_ | refine W.skip ?_ | refine W.exit ?_ | refine W.ret ?_ | refine L.nil ?_ | refine L.p rfl rfl ?_ | refine L.skip rfl ?_)
    refine ⟨.inr rfl, _, rfl, ?_⟩
    unfold ResB refB
    rw [if_neg ho]
    exact ⟨rfl, Cons.refl _⟩
  have hev : l.length % 4 = 0 := by have : ((l.length % 4 : Nat) : Int) = 0 := by simpa [bne] using h
                                    omega
  clear h
  have hU : refB l = (rd l).bind fun m => if b64S m = l then some m else none := by unfold refB; rw [if_pos hev]
  have hA : b64A = strB b64B := by decide +kernel
  repeat (first | refine W.seq ?_ | refine W.block ?_ | refine W.reg ?_ | refine W.skip ?_ | refine W.exit ?_ | refine W.ret ?_ | refine L.nil ?_ | refine L.p rfl rfl ?_ | refine L.skip rfl ?_)
  refine W.loop (fun j e T' => ∃ i d m, j = l.length - i ∧ i ≤ l.length ∧ i % 4 = 0 ∧ m.length ≤ i ∧ OutB S T' d m ∧ rd l = (rd (l.drop i)).map (m ++ ·) ∧ e 0 = .string (strB l) ∧ e 4 = d.v ∧ e 5 = vi i) l.length
    ⟨0, HdN, [], by omega, by omega, rfl, by simp, OutB.nil (Cons.refl _), by simp, rfl, rfl, rfl⟩ ?_
  rintro j e T ⟨i, d, m, rfl, hi, hi4, hmi, hO, hu, e0, e4, e5⟩
  refine W.env3 e0 e4 e5 ?_
  repeat (first | refine W.seq ?_ | refine W.block ?_ | refine W.reg ?_ | refine W.skip ?_ | refine W.exit ?_ | refine W.ret ?_ | refine L.nil ?_ | refine L.p rfl rfl ?_ | refine L.skip rfl ?_)
  refine L.tlen rfl rfl rfl rfl ?_
  repeat (first | refine W.seq ?_ | refine W.block ?_ | refine W.reg ?_ | refine W.skip ?_ | refine W.exit ?_ | refine W.ret ?_ | refine L.nil ?_ | refine L.p rfl rfl ?_ | refine L.skip rfl ?_)
  refine W.ite rfl (fun h => ?_) (fun h => ?_)
  · have hin : i < l.length := by have := of_decide_eq_true h; omega
    clear h
    obtain ⟨p, q, r, s, hg⟩ : ∃ p q r s, l.drop i = p :: q :: r :: s :: l.drop (i + 4) := by
      have hlen : (l.drop i).length = l.length - i := List.length_drop
      match hd : l.drop i with
      | [] => rw [hd] at hlen; simp at hlen; omega
      | [_] => rw [hd] at hlen; simp at hlen; omega
      | [_, _] => rw [hd] at hlen; simp at hlen; omega
      | [_, _, _] => rw [hd] at hlen; simp at hlen; omega
      | p :: q :: r :: s :: rest =>
        refine ⟨p, q, r, s, ?_⟩
        rw [← List.drop_drop, hd]; rfl
    have hlast : (l.drop (i + 4)).isEmpty = decide (l.length ≤ i + 4) := by
      rw [Bool.eq_iff_iff]; simp
    have hrd : rd (l.drop i) = (rg (l.drop (i + 4)).isEmpty 0 0 0 [p, q, r, s]).bind fun g => (rd (l.drop (i + 4))).map (byG g.1 g.2 ++ ·) := by rw [hg]; rfl
    have hgk : ∀ k x, [p, q, r, s][k]? = some x → l[i + k]? = some x := fun k x hx => by
      have hk : k < 4 := (List.getElem?_eq_some_iff.1 hx).1
      rw [← List.getElem?_drop, hg]
      match k, hk with
      | 0, _ => exact hx
      | 1, _ => exact hx
      | 2, _ => exact hx
      | 3, _ => exact hx
    generalize hgs : [p, q, r, s] = g at *
    have hg4 : g.length = 4 := by rw [← hgs]; rfl
    generalize hla : (l.drop (i + 4)).isEmpty = la at *
    repeat (first | refine W.seq ?_ | refine W.block ?_ | refine W.reg ?_ | refine W.skip ?_ | refine W.exit ?_ | refine W.ret ?_ | refine L.nil ?_ | refine L.p rfl rfl ?_ | refine L.skip rfl ?_)
    refine W.loop (fun j e T' => ∃ k n x, j = 4 - k ∧ k ≤ 4 ∧ T' = T ∧ n ≤ k ∧ x < 64 ^ k ∧ rg la 0 0 0 g = rg la k n x (g.drop k) ∧ e 0 = .string (strB l) ∧ e 4 = d.v ∧ e 5 = vi i ∧ e 6 = vi x ∧ e 7 = vi n ∧ e 8 = vi k) 4
      ⟨0, 0, 0, rfl, by omega, rfl, by omega, by decide, rfl, rfl, rfl, rfl, rfl, rfl, rfl⟩ ?_
    clear e0 e4 e5 e
    rintro j e T' ⟨k, n, x, rfl, hk4, rfl, hn, hx, hrg, e0, e4, e5, e6, e7, e8⟩
    refine W.env6 e0 e4 e5 e6 e7 e8 ?_
    repeat (first | refine W.seq ?_ | refine W.block ?_ | refine W.reg ?_ | refine W.skip ?_ | refine W.exit ?_ | refine W.ret ?_ | refine L.nil ?_ | refine L.p rfl rfl ?_ | refine L.skip rfl ?_)
    refine W.ite rfl (fun h => ?_) (fun h => ?_)
    · have hk : k < 4 := by have := of_decide_eq_true h; omega
      clear h
      obtain ⟨c, hc⟩ : ∃ c, g[k]? = some c := ⟨_, List.getElem?_eq_getElem (by omega)⟩
      have hc2 := hgk k c hc
      have hdk : g.drop k = c :: g.drop (k + 1) := by
        rw [List.drop_eq_getElem_cons (by omega), (List.getElem?_eq_some_iff.1 hc).2]
      have hx2 : x < 262144 := Nat.lt_of_lt_of_le hx (by have := Nat.pow_le_pow_right (show 0 < 64 by omega) (show k ≤ 3 by omega); omega)
      repeat (first | refine W.seq ?_ | refine W.block ?_ | refine W.reg ?_ | refine W.skip ?_ | refine W.exit ?_ | refine W.ret ?_ | refine L.nil ?_ | refine L.p rfl rfl ?_ | refine L.skip rfl ?_)
      rw [wrap64 (x := (i : Int) + (k : Int)) (by omega) (by omega)]
      refine L.sB (i := i + k) rfl rfl hc2 rfl rfl ?_
      have hF := refFind_C (G := G) (Ext := Ext) b64B c T' (by decide +kernel)
      rw [b64B_find, ← hA] at hF
      refine L.cl hF rfl rfl ?_
      rintro _ _ ⟨rfl, rfl⟩
      refine ⟨nofun, ?_⟩
      have hstep : rg la 0 0 0 g = match worthV c.toNat with
          | none => if c ≠ 61#8 ∨ la = false ∨ k < 2 then none else rg la (k + 1) n (64 * x) (g.drop (k + 1))
          | some d => if n < k then none else rg la (k + 1) (n + 1) (64 * x + d) (g.drop (k + 1)) := by rw [hrg, hdk]; rfl
      cases hw : worthV c.toNat with
      | none =>
        rw [hw] at hstep
        dsimp only at hstep
        repeat (first | refine W.seq ?_ | refine W.block ?_ | refine W.reg ?_ | refine W.skip ?_ | refine W.exit ?_ | refine W.ret ?_ | refine L.nil ?_ | refine L.p rfl rfl ?_ | refine L.skip rfl ?_)
        rw [wrap64 (x := (i : Int) + (k : Int)) (by omega) (by omega)]
        refine L.sB (i := i + k) rfl rfl hc2 rfl rfl ?_
        repeat (first | refine W.seq ?_ | refine W.block ?_ | refine W.reg ?_ | refine W.skip ?_ | refine W.exit ?_ | refine W.ret ?_ | refine L.nil ?_ | refine L.p rfl rfl ?_ | refine L.skip rfl ?_)
        by_cases hc6 : c = 61#8
        · subst hc6
          repeat (first | refine W.seq ?_ | refine W.block ?_ | refine W.reg ?_ | refine W.skip ?_ | refine W.exit ?_ | refine W.ret ?_ | refine L.nil ?_ | refine L.p rfl rfl ?_ | refine L.skip rfl ?_)
          refine L.tlen rfl rfl rfl rfl ?_
          repeat (first | refine W.seq ?_ | refine W.block ?_ | refine W.reg ?_ | refine W.skip ?_ | refine W.exit ?_ | refine W.ret ?_ | refine L.nil ?_ | refine L.p rfl rfl ?_ | refine L.skip rfl ?_)
          rw [wrap64 (x := (i : Int) + 4) (by omega) (by omega)]
          by_cases hl4 : i + 4 < l.length
          · rw [show decide ((i : Int) + 4 < (l.length : Int)) = true from decide_eq_true (by omega)]
            have hlaF : la = false := by rw [hlast]; exact decide_eq_false (by omega)
            rw [if_pos (.inr (.inl hlaF))] at hstep
            repeat (first | refine W.seq ?_ | refine W.block ?_ | refine W.reg ?_ | refine W.skip ?_ | refine W.exit ?_ | refine W.ret ?_ | refine L.nil ?_ | refine L.p rfl rfl ?_ | refine L.skip rfl ?_)
            refine W.ite rfl (fun h => ?_) (fun h => ?_)
            rotate_left
            · cases h
            repeat (first | refine W.seq ?_ | refine W.block ?_ | refine W.reg ?_ | refine W.skip ?_ | refine W.exit ?_ | refine W.ret ?_ | refine L.nil ?_ | refine L.p rfl rfl ?_ | refine L.skip rfl ?_)
            refine ⟨.inr rfl, _, rfl, ?_⟩
            rw [hU, hu, hrd, hstep]
            exact ⟨rfl, hO.1⟩
          · rw [show decide ((i : Int) + 4 < (l.length : Int)) = false from decide_eq_false (by omega)]
            have hlaT : la = true := by rw [hlast]; exact decide_eq_true (by omega)
            repeat (first | refine W.seq ?_ | refine W.block ?_ | refine W.reg ?_ | refine W.skip ?_ | refine W.exit ?_ | refine W.ret ?_ | refine L.nil ?_ | refine L.p rfl rfl ?_ | refine L.skip rfl ?_)
            by_cases hk2 : k < 2
            · rw [show decide ((k : Int) < 2) = true from decide_eq_true (by omega)]
              rw [if_pos (.inr (.inr hk2))] at hstep
              repeat (first | refine W.seq ?_ | refine W.block ?_ | refine W.reg ?_ | refine W.skip ?_ | refine W.exit ?_ | refine W.ret ?_ | refine L.nil ?_ | refine L.p rfl rfl ?_ | refine L.skip rfl ?_)
              refine W.ite rfl (fun h => ?_) (fun h => ?_)
              rotate_left
              · cases h
              repeat (first | refine W.seq ?_ | refine W.block ?_ | refine W.reg ?_ | refine W.skip ?_ | refine W.exit ?_ | refine W.ret ?_ | refine L.nil ?_ | refine L.p rfl rfl ?_ | refine L.skip rfl ?_)
              refine ⟨.inr rfl, _, rfl, ?_⟩
              rw [hU, hu, hrd, hstep]
              exact ⟨rfl, hO.1⟩
            · rw [show decide ((k : Int) < 2) = false from decide_eq_false (by omega)]
              rw [if_neg (by rw [hlaT]; simp [hk2])] at hstep
              repeat (first | refine W.seq ?_ | refine W.block ?_ | refine W.reg ?_ | refine W.skip ?_ | refine W.exit ?_ | refine W.ret ?_ | refine L.nil ?_ | refine L.p rfl rfl ?_ | refine L.skip rfl ?_)
              refine W.ite rfl (fun h => ?_) (fun h => ?_)
              · cases h
              clear h
              repeat (first | refine W.seq ?_ | refine W.block ?_ | refine W.reg ?_ | refine W.skip ?_ | refine W.exit ?_ | refine W.ret ?_ | refine L.nil ?_ | refine L.p rfl rfl ?_ | refine L.skip rfl ?_)
              refine W.ite rfl (fun h => ?_) (fun h => ?_)
              · cases h
              clear h
              repeat (first | refine W.seq ?_ | refine W.block ?_ | refine W.reg ?_ | refine W.skip ?_ | refine W.exit ?_ | refine W.ret ?_ | refine L.nil ?_ | refine L.p rfl rfl ?_ | refine L.skip rfl ?_)
              rw [shl6' (by omega)]
              refine ⟨4 - (k + 1), by omega, k + 1, n, 64 * x, rfl, by omega, rfl, by omega, by rw [Nat.pow_succ]; omega, hstep, rfl, rfl, rfl, ?_, rfl, ?_⟩
              · exact congrArg (Value.int .i64) (by omega)
              · refine (force_eq rfl).trans ?_
                rw [wrap64 (by omega) (by omega)]; rfl
        · have hne : ((c.toNat : Int) != 61) = true := by
            simp only [bne_iff_ne, ne_eq]
            exact fun h => hc6 (BitVec.eq_of_toNat_eq (by show c.toNat = 61; omega))
          rw [hne]
          rw [if_pos (.inl hc6)] at hstep
          repeat (first | refine W.seq ?_ | refine W.block ?_ | refine W.reg ?_ | refine W.skip ?_ | refine W.exit ?_ | refine W.ret ?_ | refine L.nil ?_ | refine L.p rfl rfl ?_ | refine L.skip rfl ?_)
          refine W.ite rfl (fun h => ?_) (fun h => ?_)
          rotate_left
          · cases h
          repeat (first | refine W.seq ?_ | refine W.block ?_ | refine W.reg ?_ | refine W.skip ?_ | refine W.exit ?_ | refine W.ret ?_ | refine L.nil ?_ | refine L.p rfl rfl ?_ | refine L.skip rfl ?_)
          refine ⟨.inr rfl, _, rfl, ?_⟩
          rw [hU, hu, hrd, hstep]
          exact ⟨rfl, hO.1⟩
      | some w =>
        rw [hw] at hstep
        dsimp only at hstep
        repeat (first | refine W.seq ?_ | refine W.block ?_ | refine W.reg ?_ | refine W.skip ?_ | refine W.exit ?_ | refine W.ret ?_ | refine L.nil ?_ | refine L.p rfl rfl ?_ | refine L.skip rfl ?_)
        refine W.ite rfl (fun h => ?_) (fun h => ?_)
        · have hnk : n < k := by have := of_decide_eq_true h; omega
          clear h
          rw [if_pos hnk] at hstep
          repeat (first | refine W.seq ?_ | refine W.block ?_ | refine W.reg ?_ | refine W.skip ?_ | refine W.exit ?_ | refine W.ret ?_ | refine L.nil ?_ | refine L.p rfl rfl ?_ | refine L.skip rfl ?_)
          refine ⟨.inr rfl, _, rfl, ?_⟩
          rw [hU, hu, hrd, hstep]
          exact ⟨rfl, hO.1⟩
        · have hnk : ¬ n < k := by have := of_decide_eq_false h; omega
          clear h
          rw [if_neg hnk] at hstep
          have hw64 := worthV_lt hw
          repeat (first | refine W.seq ?_ | refine W.block ?_ | refine W.reg ?_ | refine W.skip ?_ | refine W.exit ?_ | refine W.ret ?_ | refine L.nil ?_ | refine L.p rfl rfl ?_ | refine L.skip rfl ?_)
          refine W.ite rfl (fun h => ?_) (fun h => ?_)
          rotate_left
          · have := of_decide_eq_false h; simp only [oi] at this; omega
          clear h
          repeat (first | refine W.seq ?_ | refine W.block ?_ | refine W.reg ?_ | refine W.skip ?_ | refine W.exit ?_ | refine W.ret ?_ | refine L.nil ?_ | refine L.p rfl rfl ?_ | refine L.skip rfl ?_)
          simp only [oi]
          rw [shl6' (by omega), orI (by omega) (by omega), wrap64 (x := (n : Int) + 1) (by omega) (by omega)]
          refine ⟨4 - (k + 1), by omega, k + 1, n + 1, 64 * x + w, rfl, by omega, rfl, by omega, by rw [Nat.pow_succ]; omega, hstep, rfl, rfl, rfl, ?_, rfl, ?_⟩
          · exact congrArg (Value.int .i64) (by omega)
          · refine (force_eq rfl).trans ?_
            rw [wrap64 (by omega) (by omega)]; rfl
    · have hk : k = 4 := by have := of_decide_eq_false h; omega
      subst hk
      clear h
      rw [List.drop_eq_nil_of_le (by omega)] at hrg
      have hrg : rg la 0 0 0 g = some (n, x) := hrg
      have hx24 : x < 16777216 := hx
      repeat (first | refine W.seq ?_ | refine W.block ?_ | refine W.reg ?_ | refine W.skip ?_ | refine W.exit ?_ | refine W.ret ?_ | refine L.nil ?_ | refine L.p rfl rfl ?_ | refine L.skip rfl ?_)
      refine W.loop (fun j e T2 => ∃ k d2, j = (n - 1) - k ∧ k ≤ n - 1 ∧ OutB S T2 d2 (m ++ (byG n x).take k) ∧ e 0 = .string (strB l) ∧ e 4 = d2.v ∧ e 5 = vi i ∧ e 6 = vi x ∧ e 7 = vi n ∧ e 10 = vi k) (n - 1)
        ⟨0, d, rfl, by omega, by simpa using hO, rfl, rfl, rfl, rfl, rfl, rfl⟩ ?_
      clear e0 e4 e5 e6 e7 e8 e hO
      rintro j e T ⟨k, d2, rfl, hkn, hO, e0, e4, e5, e6, e7, e10⟩
      refine W.env6 e0 e4 e5 e6 e7 e10 ?_
      repeat (first | refine W.seq ?_ | refine W.block ?_ | refine W.reg ?_ | refine W.skip ?_ | refine W.exit ?_ | refine W.ret ?_ | refine L.nil ?_ | refine L.p rfl rfl ?_ | refine L.skip rfl ?_)
      rw [wrap64 (x := (n : Int) - 1) (by omega) (by omega)]
      refine W.ite rfl (fun h => ?_) (fun h => ?_)
      · have hk : k < n - 1 := by have := of_decide_eq_true h; omega
        clear h
        repeat (first | refine W.seq ?_ | refine W.block ?_ | refine W.reg ?_ | refine W.skip ?_ | refine W.exit ?_ | refine W.ret ?_ | refine L.nil ?_ | refine L.p rfl rfl ?_ | refine L.skip rfl ?_)
        rw [wrap64 (x := 8 * (k : Int)) (by omega) (by omega), wrap64 (x := 16 - 8 * (k : Int)) (by omega) (by omega)]
        refine L.shr (16 - 8 * k) rfl rfl (by omega) (by rw [bits_i64]; omega) rfl ?_
        rw [fdiv_nat]
        repeat (first | refine W.seq ?_ | refine W.block ?_ | refine W.reg ?_ | refine W.skip ?_ | refine W.exit ?_ | refine W.ret ?_ | refine L.nil ?_ | refine L.p rfl rfl ?_ | refine L.skip rfl ?_)
        rw [u8_wrap]
        refine L.pushO (BitVec.ofNat 8 (x / 2 ^ (16 - 8 * k))) rfl hO rfl rfl rfl rfl ?_ rfl (fun _ => rfl) (fun p d3 T3 q => ?_)
        · rw [List.length_append, List.length_take]; omega
        repeat (first | refine W.seq ?_ | refine W.block ?_ | refine W.reg ?_ | refine W.skip ?_ | refine W.exit ?_ | refine W.ret ?_ | refine L.nil ?_ | refine L.p rfl rfl ?_ | refine L.skip rfl ?_)
        refine ⟨n - 1 - (k + 1), by omega, k + 1, d3, rfl, by omega, ?_, rfl, rfl, rfl, rfl, rfl, ?_⟩
        · have hbk : (byG n x)[k]? = some (BitVec.ofNat 8 (x / 2 ^ (16 - 8 * k))) := by
            unfold byG
            rw [List.getElem?_map, List.getElem?_range hk]; rfl
          rw [List.take_add_one, hbk, ← List.append_assoc]; exact q
        · refine (force_eq rfl).trans ?_
          rw [wrap64 (by omega) (by omega)]; rfl
      · have hk : k = n - 1 := by have := of_decide_eq_false h; omega
        subst hk
        have hbl : (byG n x).length = n - 1 := by unfold byG; simp
        rw [List.take_of_length_le (by omega)] at hO
        repeat (first | refine W.seq ?_ | refine W.block ?_ | refine W.reg ?_ | refine W.skip ?_ | refine W.exit ?_ | refine W.ret ?_ | refine L.nil ?_ | refine L.p rfl rfl ?_ | refine L.skip rfl ?_)
        refine ⟨l.length - (i + 4), by omega, i + 4, d2, m ++ byG n x, rfl, by omega, by omega, by rw [List.length_append]; omega, hO, ?_, rfl, rfl, ?_⟩
        · rw [hu, hrd, hrg]
          simp
          rfl
        · refine (force_eq rfl).trans ?_
          rw [wrap64 (by omega) (by omega)]; rfl
  · have hin : i = l.length := by have := of_decide_eq_false h; omega
    subst hin
    rw [List.drop_length] at hu
    have hu' : rd l = some m := by rw [hu]; simp [rd]
    have hln := hO.2.2.1.len
    rw [bv_len] at hln
    repeat (first | refine W.seq ?_ | refine W.block ?_ | refine W.reg ?_ | refine W.skip ?_ | refine W.exit ?_ | refine W.ret ?_ | refine L.nil ?_ | refine L.p rfl rfl ?_ | refine L.skip rfl ?_)
    have hsl := hO.2.2.1.slv
    rw [← hln] at hsl
    have hv : d.v = .slice (d.a.map fun b => ⟨b, 0, none⟩) m.length d.c := by unfold Hd.v; rw [hln]
    rw [hv] at hsl
    have hB := refBase64_C (G := G) (Ext := Ext) _ _ m T hsl (by omega)
    rw [hln] at hB
    refine L.cl hB rfl rfl ?_
    rintro _ T2 ⟨rfl, hc⟩
    refine ⟨nofun, ?_⟩
    repeat (first | refine W.seq ?_ | refine W.block ?_ | refine W.reg ?_ | refine W.skip ?_ | refine W.exit ?_ | refine W.ret ?_ | refine L.nil ?_ | refine L.p rfl rfl ?_ | refine L.skip rfl ?_)
    rw [strB_same]
    have hO2 := hO.post hc
    refine W.ite rfl (fun h => ?_) (fun h => ?_)
    · have hne : ¬ b64S m = l := by simpa using h
      repeat (first | refine W.seq ?_ | refine W.block ?_ | refine W.reg ?_ | refine W.skip ?_ | refine W.exit ?_ | refine W.ret ?_ | refine L.nil ?_ | refine L.p rfl rfl ?_ | refine L.skip rfl ?_)
      refine ⟨.inr rfl, _, rfl, ?_⟩
      rw [hU, hu']
      show ResB _ _ _ (if b64S m = l then some m else none) _
      rw [if_neg hne]
      exact ⟨rfl, hO2.1⟩
    · have he : b64S m = l := by simpa using h
      repeat (first | refine W.seq ?_ | refine W.block ?_ | refine W.reg ?_ | refine W.skip ?_ | refine W.exit ?_ | refine W.ret ?_ | refine L.nil ?_ | refine L.p rfl rfl ?_ | refine L.skip rfl ?_)
      refine ⟨.inr rfl, _, rfl, ?_⟩
      rw [hU, hu']
      show ResB _ _ _ (if b64S m = l then some m else none) _
      rw [if_pos he]
      exact ⟨d, rfl, hO2⟩
end Go.Proofs.YtkiecgkgbogbaaaDoor

/- Base64 there and back; both readings are one. Conditions: none. -/
set_option linter.unusedSimpArgs false
set_option linter.unusedVariables false
set_option maxRecDepth 100000
namespace Go.Proofs.YtkiecgkgbogbaaaDoor
open Go
theorem wv_letter {p : BitVec 8} {a : Nat} (h : worthV p.toNat = some a) : p = b64D a := by
  have : ∀ n : Fin 256, worthV n.val = none ∨ BitVec.ofNat 8 n.val = b64D ((worthV n.val).getD 0) := by decide +kernel
  have h2 := this ⟨p.toNat, p.isLt⟩
  dsimp only at h2
  rw [h, show BitVec.ofNat 8 p.toNat = p by simp] at h2
  exact h2.resolve_left nofun
theorem wv_b64D {a : Nat} (h : a < 64) : worthV (b64D a).toNat = some a := by
  have : ∀ n : Fin 64, worthV (b64D n.val).toNat = some n.val := by decide +kernel
  exact this ⟨a, h⟩
theorem b64D_ne {a : Nat} (h : a < 64) : b64D a ≠ 61#8 := by
  have : ∀ n : Fin 64, b64D n.val ≠ 61#8 := by decide +kernel
  exact this ⟨a, h⟩
theorem decS_cons {x bits q : Nat} {c : BitVec 8} {l : BL} (h : worthV c.toNat = some q) : decS x bits (c :: l) = if 8 ≤ bits + 6 then (decS ((64 * x + q) % 2 ^ (bits + 6 - 8)) (bits + 6 - 8) l).map (BitVec.ofNat 8 ((64 * x + q) / 2 ^ (bits + 6 - 8)) :: ·) else decS (64 * x + q) (bits + 6) l := by
  show (worthV c.toNat).bind _ = _
  rw [h]; rfl
theorem decS_bad {x bits : Nat} {c : BitVec 8} {l : BL} (h : worthV c.toNat = none) : decS x bits (c :: l) = none := by
  show (worthV c.toNat).bind _ = _
  rw [h]; rfl
theorem dec2 {p q : BitVec 8} {a b : Nat} (l : BL) (hp : worthV p.toNat = some a) (hq : worthV q.toNat = some b) : decS 0 0 (p :: q :: l) = (decS ((64 * a + b) % 16) 4 l).map (BitVec.ofNat 8 ((64 * a + b) / 16) :: ·) := by
  rw [decS_cons hp, if_neg (by omega), decS_cons hq, if_pos (by omega)]
  rw [show 64 * 0 + a = a by omega]
theorem dec3 {x c : Nat} {r : BitVec 8} (l : BL) (hr : worthV r.toNat = some c) : decS x 4 (r :: l) = (decS ((64 * x + c) % 4) 2 l).map (BitVec.ofNat 8 ((64 * x + c) / 4) :: ·) := by
  rw [decS_cons hr, if_pos (by omega)]
theorem dec4 {x d : Nat} {s : BitVec 8} (l : BL) (hs : worthV s.toNat = some d) : decS x 2 (s :: l) = (decS 0 0 l).map (BitVec.ofNat 8 (64 * x + d) :: ·) := by
  rw [decS_cons hs, if_pos (by omega)]
  show (decS ((64 * x + d) % 1) 0 l).map (BitVec.ofNat 8 ((64 * x + d) / 1) :: ·) = _
  rw [Nat.mod_one, Nat.div_one]
def padE (n : Nat) : BL := if n % 4 = 2 then [61#8, 61#8] else if n % 4 = 3 then [61#8] else []
theorem ofNat8 {n : Nat} (h : n < 256) : (BitVec.ofNat 8 n).toNat = n := by rw [BitVec.toNat_ofNat]; omega
theorem grp1 (x : BitVec 8) : grp [x] = [b64D (x.toNat / 4), b64D (x.toNat % 4 * 16), 61#8, 61#8] := by
  have hx := x.isLt
  have hX : numX [x] = 65536 * x.toNat := by unfold numX n0; simp
  unfold grp grpL
  rw [hX]
  rw [if_pos (by simp), if_pos (by simp), if_neg (by simp), if_neg (by simp)]
  rw [show 65536 * x.toNat / 2 ^ (18 - 6 * 0) % 64 = x.toNat / 4 by omega, show 65536 * x.toNat / 2 ^ (18 - 6 * 1) % 64 = x.toNat % 4 * 16 by omega]
theorem grp2 (x y : BitVec 8) : grp [x, y] = [b64D (x.toNat / 4), b64D (x.toNat % 4 * 16 + y.toNat / 16), b64D (y.toNat % 16 * 4), 61#8] := by
  have hx := x.isLt
  have hy := y.isLt
  have hX : numX [x, y] = 65536 * x.toNat + 256 * y.toNat := by unfold numX n0; simp
  unfold grp grpL
  rw [hX]
  rw [if_pos (by simp), if_pos (by simp), if_pos (by simp), if_neg (by simp)]
  rw [show (65536 * x.toNat + 256 * y.toNat) / 2 ^ (18 - 6 * 0) % 64 = x.toNat / 4 by omega, show (65536 * x.toNat + 256 * y.toNat) / 2 ^ (18 - 6 * 1) % 64 = x.toNat % 4 * 16 + y.toNat / 16 by omega, show (65536 * x.toNat + 256 * y.toNat) / 2 ^ (18 - 6 * 2) % 64 = y.toNat % 16 * 4 by omega]
theorem grp3 (x y z : BitVec 8) : grp [x, y, z] = [b64D (x.toNat / 4), b64D (x.toNat % 4 * 16 + y.toNat / 16), b64D (y.toNat % 16 * 4 + z.toNat / 64), b64D (z.toNat % 64)] := by
  have hx := x.isLt
  have hy := y.isLt
  have hz := z.isLt
  have hX : numX [x, y, z] = 65536 * x.toNat + 256 * y.toNat + z.toNat := by unfold numX n0; simp
  unfold grp grpL
  rw [hX]
  rw [if_pos (by simp), if_pos (by simp), if_pos (by simp), if_pos (by simp)]
  rw [show (65536 * x.toNat + 256 * y.toNat + z.toNat) / 2 ^ (18 - 6 * 0) % 64 = x.toNat / 4 by omega, show (65536 * x.toNat + 256 * y.toNat + z.toNat) / 2 ^ (18 - 6 * 1) % 64 = x.toNat % 4 * 16 + y.toNat / 16 by omega, show (65536 * x.toNat + 256 * y.toNat + z.toNat) / 2 ^ (18 - 6 * 2) % 64 = y.toNat % 16 * 4 + z.toNat / 64 by omega, show (65536 * x.toNat + 256 * y.toNat + z.toNat) / 2 ^ (18 - 6 * 3) % 64 = z.toNat % 64 by omega]
theorem dec_back : ∀ (n : Nat) (b m : BL), b.length ≤ n → b.length % 4 ≠ 1 → decS 0 0 b = some m → b64S m = b ++ padE b.length := by
  intro n
  induction n with
  | zero =>
    intro b m hn _ h
    have : b = [] := List.length_eq_zero_iff.1 (by omega)
    subst this
    have : m = [] := by have : decS 0 0 [] = some [] := rfl
                        rw [this] at h; cases h; rfl
    subst this; rfl
  | succ n ih =>
    intro b m hn h1 h
    match b with
    | [] =>
      have : m = [] := by have : decS 0 0 [] = some [] := rfl
                          rw [this] at h; cases h; rfl
      subst this; rfl
    | [p] => exact absurd rfl h1
    | p :: q :: l =>
      cases hp : worthV p.toNat with
      | none => rw [decS_bad hp] at h; cases h
      | some a =>
        have ha := worthV_lt hp
        cases hq : worthV q.toNat with
        | none => rw [decS_cons hp, if_neg (by omega), decS_bad hq] at h; cases h
        | some b =>
          have hb := worthV_lt hq
          rw [dec2 l hp hq, Option.map_eq_some_iff] at h
          obtain ⟨m1, h, rfl⟩ := h
          rw [wv_letter hp, wv_letter hq]
          match l with
          | [] =>
            unfold decS at h
            split at h
            · rename_i h0
              cases h
              show grp [_] = _
              rw [grp1, ofNat8 (by omega), show (64 * a + b) / 16 / 4 = a by omega, show (64 * a + b) / 16 % 4 * 16 = b by omega]
              rfl
            · cases h
          | r :: l =>
            cases hr : worthV r.toNat with
            | none => rw [decS_bad hr] at h; cases h
            | some c =>
              have hc := worthV_lt hr
              rw [dec3 l hr, Option.map_eq_some_iff] at h
              obtain ⟨m2, h, rfl⟩ := h
              rw [wv_letter hr]
              match l with
              | [] =>
                unfold decS at h
                split at h
                · rename_i h0
                  cases h
                  show grp [_, _] = _
                  rw [grp2, ofNat8 (by omega), ofNat8 (by omega), show (64 * a + b) / 16 / 4 = a by omega, show (64 * a + b) / 16 % 4 * 16 + (64 * ((64 * a + b) % 16) + c) / 4 / 16 = b by omega, show (64 * ((64 * a + b) % 16) + c) / 4 % 16 * 4 = c by omega]
                  rfl
                · cases h
              | s :: l =>
                cases hs : worthV s.toNat with
                | none => rw [decS_bad hs] at h; cases h
                | some d =>
                  have hd := worthV_lt hs
                  rw [dec4 l hs, Option.map_eq_some_iff] at h
                  obtain ⟨m3, h, rfl⟩ := h
                  rw [wv_letter hs]
                  have hrec := ih l m3 (by simp at hn; omega) (by simp at h1; omega) h
                  show grp [_, _, _] ++ b64S m3 = _
                  rw [hrec, grp3, ofNat8 (by omega), ofNat8 (by omega), ofNat8 (by omega), show (64 * a + b) / 16 / 4 = a by omega, show (64 * a + b) / 16 % 4 * 16 + (64 * ((64 * a + b) % 16) + c) / 4 / 16 = b by omega, show (64 * ((64 * a + b) % 16) + c) / 4 % 16 * 4 + (64 * ((64 * ((64 * a + b) % 16) + c) % 4) + d) / 64 = c by omega, show (64 * ((64 * ((64 * a + b) % 16) + c) % 4) + d) % 64 = d by omega]
                  have : padE (b64D a :: b64D b :: b64D c :: b64D d :: l).length = padE l.length := by
                    unfold padE
                    have : (b64D a :: b64D b :: b64D c :: b64D d :: l).length % 4 = l.length % 4 := by simp only [List.length_cons]; omega
                    rw [this]
                  rw [this]; rfl
theorem trimE_snoc (l : BL) : trimE (l ++ [61#8]) = l := by
  have hE : endE (l ++ [61#8]) = true := decide_eq_true ⟨by simp, by simp⟩
  unfold trimE
  rw [if_pos hE]
  simp
theorem trimE_no {l : BL} (h : ∀ x ∈ l, x ≠ 61#8) : trimE l = l := by
  have hE : endE l = false := decide_eq_false fun ⟨h1, h2⟩ => by
    have : 61#8 ∈ l.drop (l.length - 1) := by rw [h2]; simp
    exact h _ (List.mem_of_mem_drop this) rfl
  unfold trimE
  rw [hE]; rfl
theorem b64D_ok {a : Nat} (h : a < 64) : ∃ w, worthV (b64D a).toNat = some w ∧ w = a := ⟨a, wv_b64D h, rfl⟩
theorem ofToNat {n : Nat} {x : BitVec 8} (h : n = x.toNat) : BitVec.ofNat 8 n = x := by subst h; simp
/-- letters and what is put behind them -/
theorem core_of : ∀ m : BL, ∃ b : BL, ∃ e : BL, b64S m = b ++ e ∧ (e = [] ∨ e = [61#8] ∨ e = [61#8, 61#8]) ∧ (∀ x ∈ b, x ≠ 61#8) ∧ decS 0 0 b = some m
  | [] => ⟨[], [], rfl, .inl rfl, nofun, rfl⟩
  | [x] => by
    have hx := x.isLt
    refine ⟨[b64D (x.toNat / 4), b64D (x.toNat % 4 * 16)], [61#8, 61#8], by show grp [x] = _; rw [grp1]; rfl, .inr (.inr rfl), fun y hy => ?_, ?_⟩
    · simp at hy
      rcases hy with rfl | rfl <;> exact b64D_ne (by omega)
    · rw [dec2 _ (wv_b64D (by omega)) (wv_b64D (by omega))]
      unfold decS
      rw [if_pos (by omega)]
      show some [BitVec.ofNat 8 _] = _
      rw [ofToNat (x := x) (by omega)]
  | [x, y] => by
    have hx := x.isLt
    have hy := y.isLt
    refine ⟨[b64D (x.toNat / 4), b64D (x.toNat % 4 * 16 + y.toNat / 16), b64D (y.toNat % 16 * 4)], [61#8], by show grp [x, y] = _; rw [grp2]; rfl, .inr (.inl rfl), fun y hy => ?_, ?_⟩
    · simp at hy
      rcases hy with rfl | rfl | rfl <;> exact b64D_ne (by omega)
    · rw [dec2 _ (wv_b64D (by omega)) (wv_b64D (by omega)), dec3 _ (wv_b64D (by omega))]
      unfold decS
      rw [if_pos (by omega)]
      show some [BitVec.ofNat 8 _, BitVec.ofNat 8 _] = _
      rw [ofToNat (x := x) (by omega), ofToNat (x := y) (by omega)]
  | x :: y :: z :: m => by
    have hx := x.isLt
    have hy := y.isLt
    have hz := z.isLt
    obtain ⟨b, e, h1, h2, h3, h4⟩ := core_of m
    refine ⟨[b64D (x.toNat / 4), b64D (x.toNat % 4 * 16 + y.toNat / 16), b64D (y.toNat % 16 * 4 + z.toNat / 64), b64D (z.toNat % 64)] ++ b, e, ?_, h2, fun w hw => ?_, ?_⟩
    · show grp [x, y, z] ++ b64S m = _
      rw [grp3, h1, List.append_assoc]
    · rcases List.mem_append.1 hw with hw | hw
      · simp at hw
        rcases hw with rfl | rfl | rfl | rfl <;> exact b64D_ne (by omega)
      · exact h3 w hw
    · show decS 0 0 (_ :: _ :: _ :: _ :: b) = _
      rw [dec2 _ (wv_b64D (by omega)) (wv_b64D (by omega)), dec3 _ (wv_b64D (by omega)), dec4 _ (wv_b64D (by omega)), h4]
      show some (BitVec.ofNat 8 _ :: BitVec.ofNat 8 _ :: BitVec.ofNat 8 _ :: m) = _
      rw [ofToNat (x := x) (by omega), ofToNat (x := y) (by omega), ofToNat (x := z) (by omega)]
/-- what was told is read again -/
theorem unB_back (m : BL) : unB (b64S m) = some m := by
  obtain ⟨b, e, h1, h2, h3, h4⟩ := core_of m
  unfold unB
  rw [if_pos (by rw [b64S_len]; omega), h1]
  have h5 : trimE b = b := trimE_no h3
  rcases h2 with rfl | rfl | rfl
  · rw [List.append_nil, h5, h5, h4]
  · rw [trimE_snoc, h5, h4]
  · rw [show b ++ [61#8, 61#8] = (b ++ [61#8]) ++ [61#8] by simp, trimE_snoc, trimE_snoc, h4]
theorem endE_snoc {l : BL} (h : endE l = true) : ∃ b, l = b ++ [61#8] := by
  obtain ⟨h1, h2⟩ := of_decide_eq_true h
  exact ⟨l.take (l.length - 1), by rw [← h2, List.take_append_drop]⟩
theorem trimE_cases (l : BL) : trimE l = l ∨ l = trimE l ++ [61#8] := by
  unfold trimE
  split
  · rename_i h
    obtain ⟨b, rfl⟩ := endE_snoc h
    right; simp
  · left; rfl
theorem decS_eq61 : ∀ (b : BL) (x bits : Nat) (m : BL), decS x bits b = some m → 61#8 ∉ b
  | [], _, _, _, _ => by simp
  | c :: b, x, bits, m, h => by
    cases hc : worthV c.toNat with
    | none => rw [decS_bad hc] at h; cases h
    | some q =>
      rw [decS_cons hc] at h
      have hne : 61#8 ≠ c := fun e => by subst e; cases hc
      split at h
      · rw [Option.map_eq_some_iff] at h
        obtain ⟨m', h, _⟩ := h
        have := decS_eq61 b _ _ m' h
        simp [hne, this]
      · have := decS_eq61 b _ _ m h
        simp [hne, this]
/-- what is read is told again -/
theorem unB_told {l m : BL} (h : unB l = some m) : b64S m = l := by
  unfold unB at h
  split at h
  · rename_i h4
    have hno := decS_eq61 _ _ _ _ h
    rcases trimE_cases l with h1 | h1
    · rw [h1, h1] at h
      rw [dec_back _ l m (Nat.le_refl _) (by omega) h]
      unfold padE
      rw [if_neg (by omega), if_neg (by omega), List.append_nil]
    · have hl1 : l.length = (trimE l).length + 1 := by
        have := congrArg List.length h1
        rw [List.length_append, List.length_singleton] at this; exact this
      rcases trimE_cases (trimE l) with h2 | h2
      · rw [h2] at h
        rw [dec_back _ _ m (Nat.le_refl _) (by omega) h]
        unfold padE
        rw [if_neg (by omega), if_pos (by omega)]
        exact h1.symm
      · have hl2 : (trimE l).length = (trimE (trimE l)).length + 1 := by
          have := congrArg List.length h2
          rw [List.length_append, List.length_singleton] at this; exact this
        rw [dec_back _ _ m (Nat.le_refl _) (by omega) h]
        unfold padE
        rw [if_pos (by omega)]
        rw [show ([61#8, 61#8] : BL) = [61#8] ++ [61#8] from rfl, ← List.append_assoc, ← h2]
        exact h1.symm
  · cases h
theorem rg_some {last : Bool} {k n x d : Nat} {c : BitVec 8} {cs : BL} (h : worthV c.toNat = some d) (hn : k ≤ n) : rg last k n x (c :: cs) = rg last (k + 1) (n + 1) (64 * x + d) cs := by
  conv => lhs; unfold rg
  rw [h]
  show (if n < k then none else _) = _
  rw [if_neg (by omega)]
theorem rg_pad {k n x : Nat} {cs : BL} (hk : 2 ≤ k) : rg true k n x (61#8 :: cs) = rg true (k + 1) n (64 * x) cs := by
  conv => lhs; unfold rg
  rw [show worthV (61#8).toNat = none from rfl]
  show (if _ then none else _) = _
  rw [if_neg (by simp; omega)]
theorem ofMod {n : Nat} {x : BitVec 8} (h : n % 256 = x.toNat) : BitVec.ofNat 8 n = x := by
  apply BitVec.eq_of_toNat_eq
  rw [BitVec.toNat_ofNat]; exact h
/-- the reference reads what was told -/
theorem rd_back : ∀ m : BL, rd (b64S m) = some m
  | [] => rfl
  | [x] => by
    have hx := x.isLt
    show rd (grp [x]) = _
    rw [grp1]
    show (rg true 0 0 0 _).bind _ = _
    rw [rg_some (wv_b64D (by omega)) (by omega), rg_some (wv_b64D (by omega)) (by omega), rg_pad (by omega), rg_pad (by omega)]
    show some (byG 2 _ ++ []) = _
    unfold byG
    show some ([BitVec.ofNat 8 _] ++ []) = _
    rw [ofMod (x := x) (by dsimp only; omega)]; rfl
  | [x, y] => by
    have hx := x.isLt
    have hy := y.isLt
    show rd (grp [x, y]) = _
    rw [grp2]
    show (rg true 0 0 0 _).bind _ = _
    rw [rg_some (wv_b64D (by omega)) (by omega), rg_some (wv_b64D (by omega)) (by omega), rg_some (wv_b64D (by omega)) (by omega), rg_pad (by omega)]
    show some (byG 3 _ ++ []) = _
    unfold byG
    show some ([BitVec.ofNat 8 _, BitVec.ofNat 8 _] ++ []) = _
    rw [ofMod (x := x) (by dsimp only; omega), ofMod (x := y) (by dsimp only; omega)]; rfl
  | x :: y :: z :: m => by
    have hx := x.isLt
    have hy := y.isLt
    have hz := z.isLt
    show rd (grp [x, y, z] ++ b64S m) = _
    rw [grp3]
    show (rg (b64S m).isEmpty 0 0 0 _).bind _ = _
    rw [rg_some (wv_b64D (by omega)) (by omega), rg_some (wv_b64D (by omega)) (by omega), rg_some (wv_b64D (by omega)) (by omega), rg_some (wv_b64D (by omega)) (by omega)]
    show (rd (b64S m)).map (byG 4 _ ++ ·) = _
    rw [rd_back m]
    unfold byG
    show some ([BitVec.ofNat 8 _, BitVec.ofNat 8 _, BitVec.ofNat 8 _] ++ m) = _
    rw [ofMod (x := x) (by dsimp only; omega), ofMod (x := y) (by dsimp only; omega), ofMod (x := z) (by dsimp only; omega)]; rfl
/-- both readings are one -/
theorem refB_unB (l : BL) : refB l = unB l := by
  cases h : unB l with
  | some m =>
    have he := unB_told h
    unfold refB
    rw [if_pos (by rw [← he, b64S_len]; omega), ← he, rd_back]
    show (if _ then _ else _) = _
    rw [if_pos rfl]
  | none =>
    cases h2 : refB l with
    | none => rfl
    | some m =>
      unfold refB at h2
      split at h2
      · rw [Option.bind_eq_some_iff] at h2
        obtain ⟨m', h3, h4⟩ := h2
        split at h4
        · rename_i he
          rw [← he, unB_back] at h; cases h
        · cases h4
      · cases h2
end Go.Proofs.YtkiecgkgbogbaaaDoor

/- Layer 6: the three bytes. Conditions: none. -/
set_option linter.unusedSimpArgs false
set_option linter.unusedVariables false
set_option maxRecDepth 100000
namespace Go.Proofs.YtkiecgkgbogbaaaDoor
open Go
variable {Ext : FuncId → List Value → Mem → Outc → Mem → Prop}
def Hd.ad (d : Hd) : Option Addr := d.a.map fun b => ⟨b, 0, none⟩
theorem HdOk.bin {S : Mem} {d : Hd} {l : BL} (h : HdOk S 5 d (bv l)) (hl : l.length < 1099511627776) : BIn S d.ad d.c l ∧ d.v = .slice d.ad l.length d.c := by
  have hn := h.len
  rw [bv_len] at hn
  have hv : d.v = .slice d.ad l.length d.c := by unfold Hd.v Hd.ad; rw [hn]
  have hs := h.slv
  rw [hv, ← hn] at hs
  refine ⟨⟨hs, .of ?_, hl⟩, hv⟩
  obtain ⟨_, ⟨_, h2, h3⟩ | ⟨b, r, _, _, _, _, _, ⟨h3, h4⟩ | ⟨h3, _⟩⟩⟩ := h
  · omega
  · rw [h3, ← hn]; unfold knownCap; rw [if_pos (by omega)]; exact Nat.le_refl _
  · rw [h3, knownCap_unk]; omega
theorem OutB.bin {S S' : Mem} {d : Hd} {l : BL} (h : OutB S S' d l) : BIn S' d.ad d.c l ∧ d.v = .slice d.ad l.length d.c := h.2.2.1.bin h.2.1
theorem ResB.some {S S' : Mem} {v : Value} {m : BL} {code : Int} (h : ResB S S' v (some m) code) : ∃ d : Hd, v = .tuple #[d.v, .int .i64 0] ∧ OutB S S' d m := h
theorem ResB.none {S S' : Mem} {v : Value} {code : Int} (h : ResB S S' v none code) : v = .tuple #[.slice none 0 0, .int .i64 code] ∧ Cons S S' := h
theorem works_C (S : Mem) (hR : RowsOk S) : C Tryd.prog 1 Ext 14 [] S fun v S' => v = .bool true ∧ Cons S S' := by
  have hA1 : (⟨#[48, 48, 102, 70, 49, 65]⟩ : ByteArray) = strB [48#8, 48#8, 102#8, 70#8, 49#8, 65#8] := by decide +kernel
  have hA2 : (⟨#[84, 87, 69, 61]⟩ : ByteArray) = strB [84#8, 87#8, 69#8, 61#8] := by decide +kernel
  have hA3 : (⟨#[48]⟩ : ByteArray) = strB [48#8] := by decide +kernel
  have hA4 : (⟨#[84, 82, 61, 61]⟩ : ByteArray) = strB [84#8, 82#8, 61#8, 61#8] := by decide +kernel
  have hA5 : (⟨#[48, 48, 102, 102, 49, 97]⟩ : ByteArray) = strB [48#8, 48#8, 102#8, 102#8, 49#8, 97#8] := by decide +kernel
  have hA6 : (⟨#[47, 47, 47, 43]⟩ : ByteArray) = strB [47#8, 47#8, 47#8, 43#8] := by decide +kernel
  have hA7 : (⟨#[77, 97]⟩ : ByteArray) = strB [77#8, 97#8] := by decide +kernel
  have h1 := unhex_C (G := 1) (Ext := Ext) [48#8, 48#8, 102#8, 70#8, 49#8, 65#8] (by decide) S
  rw [← hA1, show unhexH none [48#8, 48#8, 102#8, 70#8, 49#8, 65#8] = some [0#8, 255#8, 26#8] by decide +kernel] at h1
  refine C.fn Tryd.func14 rfl (by kernel_rfl) rfl ?_
  repeat (first | refine W.seq ?_ | refine W.block ?_ | refine W.reg ?_ | refine W.skip ?_ | refine W.exit ?_ | refine W.ret ?_ | refine L.nil ?_ | refine L.p rfl rfl ?_ | refine L.skip rfl ?_)
  refine L.cl h1 rfl rfl ?_
  rintro _ S1 hr
  obtain ⟨d1, rfl, o1⟩ := hr.some
  clear hr h1
  refine ⟨fun _ => o1.1, ?_⟩
  repeat (first | refine W.seq ?_ | refine W.block ?_ | refine W.reg ?_ | refine W.skip ?_ | refine W.exit ?_ | refine W.ret ?_ | refine L.nil ?_ | refine L.p rfl rfl ?_ | refine L.skip rfl ?_)
  have h2 := unbase64_C (Ext := Ext) [84#8, 87#8, 69#8, 61#8] (by decide) S1 (hR.cons o1.1)
  rw [← hA2, show unB [84#8, 87#8, 69#8, 61#8] = some [77#8, 97#8] by decide +kernel] at h2
  refine L.cl h2 rfl rfl ?_
  rintro _ S2 hr
  obtain ⟨d2, rfl, o2⟩ := hr.some
  clear hr h2
  refine ⟨fun _ => o2.1, ?_⟩
  have c2 := o1.1.trans o2.1
  repeat (first | refine W.seq ?_ | refine W.block ?_ | refine W.reg ?_ | refine W.skip ?_ | refine W.exit ?_ | refine W.ret ?_ | refine L.nil ?_ | refine L.p rfl rfl ?_ | refine L.skip rfl ?_)
  have h3 := unhex_C (G := 1) (Ext := Ext) [48#8] (by decide) S2
  rw [← hA3, show unhexH none [48#8] = none by decide +kernel] at h3
  refine L.cl h3 rfl rfl ?_
  rintro _ S3 hr
  obtain ⟨rfl, c3⟩ := hr.none
  clear hr h3
  refine ⟨fun _ => c3, ?_⟩
  repeat (first | refine W.seq ?_ | refine W.block ?_ | refine W.reg ?_ | refine W.skip ?_ | refine W.exit ?_ | refine W.ret ?_ | refine L.nil ?_ | refine L.p rfl rfl ?_ | refine L.skip rfl ?_)
  have h4 := unbase64_C (Ext := Ext) [84#8, 82#8, 61#8, 61#8] (by decide) S3 (hR.cons (c2.trans c3))
  rw [← hA4, show unB [84#8, 82#8, 61#8, 61#8] = none by decide +kernel] at h4
  refine L.cl h4 rfl rfl ?_
  rintro _ S4 hr
  obtain ⟨rfl, c4⟩ := hr.none
  clear hr h4
  refine ⟨fun _ => c4, ?_⟩
  have c34 := c3.trans c4
  repeat (first | refine W.seq ?_ | refine W.block ?_ | refine W.reg ?_ | refine W.skip ?_ | refine W.exit ?_ | refine W.ret ?_ | refine L.nil ?_ | refine L.p rfl rfl ?_ | refine L.skip rfl ?_)
  have hb1 := (o1.post (o2.1.trans c34)).bin
  have h5 := hex_C (G := 1) (Ext := Ext) _ _ _ S4 hb1.1.1 (by decide)
  rw [← hb1.2, show hexS [0#8, 255#8, 26#8] = [48#8, 48#8, 102#8, 102#8, 49#8, 97#8] by decide +kernel] at h5
  refine L.cl h5 rfl rfl ?_
  rintro _ S5 ⟨rfl, c5⟩
  refine ⟨fun _ => c5, ?_⟩
  repeat (first | refine W.seq ?_ | refine W.block ?_ | refine W.reg ?_ | refine W.skip ?_ | refine W.exit ?_ | refine W.ret ?_ | refine L.nil ?_ | refine L.p rfl rfl ?_ | refine L.skip rfl ?_)
  rw [hA5, strB_same, show decide (([48#8, 48#8, 102#8, 102#8, 49#8, 97#8] : BL) = [48#8, 48#8, 102#8, 102#8, 49#8, 97#8]) = true from rfl]
  repeat (first | refine W.seq ?_ | refine W.block ?_ | refine W.reg ?_ | refine W.skip ?_ | refine W.exit ?_ | refine W.ret ?_ | refine L.nil ?_ | refine L.p rfl rfl ?_ | refine L.skip rfl ?_)
  refine L.bs [v8 255#8, v8 255#8, v8 254#8] rfl rfl rfl rfl rfl rfl ?_
  have c6 : Cons S5 (S5 ++ [newR [v8 255#8, v8 255#8, v8 254#8] 5]) := Cons.push _ _
  have hs6 : Slv (S5 ++ [newR [v8 255#8, v8 255#8, v8 254#8] 5]) 1 (.slice (some ⟨S5.length, 0, none⟩) 3 3) 3 (bv [255#8, 255#8, 254#8]) := Slv.all (row_push_new rfl) rfl rfl
  generalize S5 ++ [newR [v8 255#8, v8 255#8, v8 254#8] 5] = S6 at *
  have hI6 : BIn S6 (some ⟨S5.length, 0, none⟩) 3 [255#8, 255#8, 254#8] := ⟨hs6, .inl ⟨by decide, by decide⟩, by decide⟩
  have h7 := base64_C (Ext := Ext) _ _ _ S6 hI6 (by decide) (hR.cons (c2.trans (c34.trans (c5.trans c6))))
  rw [show b64S [255#8, 255#8, 254#8] = [47#8, 47#8, 47#8, 43#8] by decide +kernel] at h7
  refine L.cl h7 rfl rfl ?_
  rintro _ S7 ⟨rfl, c7⟩
  refine ⟨fun _ => c7, ?_⟩
  repeat (first | refine W.seq ?_ | refine W.block ?_ | refine W.reg ?_ | refine W.skip ?_ | refine W.exit ?_ | refine W.ret ?_ | refine L.nil ?_ | refine L.p rfl rfl ?_ | refine L.skip rfl ?_)
  rw [hA6, strB_same, show decide (([47#8, 47#8, 47#8, 43#8] : BL) = [47#8, 47#8, 47#8, 43#8]) = true from rfl]
  repeat (first | refine W.seq ?_ | refine W.block ?_ | refine W.reg ?_ | refine W.skip ?_ | refine W.exit ?_ | refine W.ret ?_ | refine L.nil ?_ | refine L.p rfl rfl ?_ | refine L.skip rfl ?_)
  have c37 := c34.trans (c5.trans (c6.trans c7))
  refine L.text (h := d2) rfl (o2.post c37).2.2.1 rfl rfl rfl rfl ?_
  repeat (first | refine W.seq ?_ | refine W.block ?_ | refine W.reg ?_ | refine W.skip ?_ | refine W.exit ?_ | refine W.ret ?_ | refine L.nil ?_ | refine L.p rfl rfl ?_ | refine L.skip rfl ?_)
  rw [hA7, strB_same, show decide (([77#8, 97#8] : BL) = [77#8, 97#8]) = true from rfl]
  repeat (first | refine W.seq ?_ | refine W.block ?_ | refine W.reg ?_ | refine W.skip ?_ | refine W.exit ?_ | refine W.ret ?_ | refine L.nil ?_ | refine L.p rfl rfl ?_ | refine L.skip rfl ?_)
  exact ⟨.inr rfl, _, rfl, rfl, c2.trans c37⟩
end Go.Proofs.YtkiecgkgbogbaaaDoor

/- What the listed variable reads as, in the abstract memory. Conditions: none. -/
set_option linter.unusedSimpArgs false
set_option linter.unusedVariables false
set_option maxRecDepth 100000
namespace Go.Proofs.YtkiecgkgbogbaaaDoor
open Go Go.RowKit
open Go.ChangeShapes Go.WideShapes Go.ChangeAt
abbrev laidL : List (String × DataW Unit) := [("vouch/coding.rows", Rows.laid_vouch_coding_rows)]
theorem gRows : Tryd.prog.globalNamed "vouch/coding.rows" = some 0 := by kernel_rfl
theorem tRows : (Tryd.prog.globals[0]?).map (·.type) = some 58 := by kernel_rfl
theorem read_row {enc : TypeId × Value → Unit} {W : World} {base : Nat} {spare : Nat → Bool} {held : Bool} {m : Nat} {cs : List Value} {a b c : Int} {p : List MemPlace}
    (h : DataW.trod enc Tryd.prog W base spare held m 57 cs = some (.agg [.lit (.int .i32 a), .lit (.int .i32 b), .lit (.int .i64 c)], p)) : cs = [.int .i32 a, .int .i32 b, .int .i64 c] := by
  obtain ⟨xs, n, rfl, hx, hlen, hn, hel⟩ := DataW.trod_struct Tryd.underlying57 h
  have c57 : Tryd.prog.cellsOf 57 = 3 := by kernel_rfl
  have c21 : Tryd.prog.cellsOf 21 = 1 := by kernel_rfl
  have c3 : Tryd.prog.cellsOf 3 = 1 := by kernel_rfl
  have h0 : DataW.trod enc Tryd.prog W base spare held n 21 ((cs.drop 0).take (Tryd.prog.cellsOf 21)) = xs[0]? := hel 0 _ rfl
  have h1 : DataW.trod enc Tryd.prog W base spare held n 21 ((cs.drop 1).take (Tryd.prog.cellsOf 21)) = xs[1]? := hel 1 _ rfl
  have h2 : DataW.trod enc Tryd.prog W base spare held n 3 ((cs.drop 2).take (Tryd.prog.cellsOf 3)) = xs[2]? := hel 2 _ rfl
  rw [c21] at h0 h1
  rw [c3] at h2
  rw [c57] at hlen
  simp only [Prod.mk.injEq, DataW.agg.injEq] at hx
  match xs, hn, hx, h0, h1, h2 with
  | [x0, x1, x2], _, hx, h0, h1, h2 =>
    match cs, hlen, h0, h1, h2 with
    | [y0, y1, y2], _, h0, h1, h2 =>
      obtain ⟨k0, e0, f0, _⟩ := DataW.trod_int Tryd.underlying21 (show DataW.trod _ Tryd.prog W base spare held n 21 [y0] = some x0 from h0)
      obtain ⟨k1, e1, f1, _⟩ := DataW.trod_int Tryd.underlying21 (show DataW.trod _ Tryd.prog W base spare held n 21 [y1] = some x1 from h1)
      obtain ⟨k2, e2, f2, _⟩ := DataW.trod_int Tryd.underlying3 (show DataW.trod _ Tryd.prog W base spare held n 3 [y2] = some x2 from h2)
      simp only [List.cons.injEq, and_true] at e0 e1 e2
      subst e0 e1 e2 f0 f1 f2
      simp at hx
      obtain ⟨⟨rfl, rfl, rfl⟩, _⟩ := hx
      rfl
theorem of_laid {W : World} (h : laidMetH Tryd.prog laidL W) : 1 ≤ W.heap.size ∧ ∀ N, RowsOk (mem0 W N) := by
  rw [MakeChecks.laidMetH_plain _ _ _ (by kernel_rfl)] at h
  obtain ⟨ps, ⟨g0, t0, cs0, f0, p0, q0, hg0, ht0, hv0, hd0, _, _⟩, _, _⟩ := h
  obtain rfl := Option.some.inj (gRows.symm.trans hg0)
  obtain rfl := Option.some.inj (tRows.symm.trans ht0)
  obtain ⟨xs, m1, rfl, hx, hlen, hn, hel⟩ := DataW.trod_array Tryd.underlying58 hd0
  have c57 : Tryd.prog.cellsOf 57 = 3 := by kernel_rfl
  have c58 : Tryd.prog.cellsOf 58 = 15 := by kernel_rfl
  rw [c58] at hlen
  have h0 := hel 0 (by decide)
  have h1 := hel 1 (by decide)
  have h2 := hel 2 (by decide)
  have h3 := hel 3 (by decide)
  have h4 := hel 4 (by decide)
  rw [c57] at h0 h1 h2 h3 h4
  simp only [Prod.mk.injEq, Rows.laid_vouch_coding_rows, DataW.agg.injEq] at hx
  match xs, hn, hx, h0, h1, h2, h3, h4 with
  | [x0, x1, x2, x3, x4], _, hx, h0, h1, h2, h3, h4 =>
    simp only [List.map_cons, List.map_nil, List.cons.injEq, and_true] at hx
    obtain ⟨⟨e0, e1, e2, e3, e4⟩, _⟩ := hx
    have r : ∀ (i : Nat) (x : DataW Unit × List MemPlace) (a b c : Int), DataW.trod (fun x => ()) Tryd.prog W 0 (fun x => true) false m1 57 ((cs0.toList.drop (i * 3)).take 3) = some x → DataW.agg [.lit (.int .i32 a), .lit (.int .i32 b), .lit (.int .i64 c)] = x.1 → (cs0.toList.drop (i * 3)).take 3 = [.int .i32 a, .int .i32 b, .int .i64 c] := fun i x a b c q1 q2 => by
      obtain ⟨x1, x2⟩ := x
      dsimp only at q2
      subst q2
      exact read_row q1
    have r0 := r 0 x0 _ _ _ h0 e0
    have r1 := r 1 x1 _ _ _ h1 e1
    have r2 := r 2 x2 _ _ _ h2 e2
    have r3 := r 3 x3 _ _ _ h3 e3
    have r4 := r 4 x4 _ _ _ h4 e4
    have hcs : cs0.toList = tblV := by
      have h15 : cs0.toList = (cs0.toList.drop (0 * 3)).take 3 ++ ((cs0.toList.drop (1 * 3)).take 3 ++ ((cs0.toList.drop (2 * 3)).take 3 ++ ((cs0.toList.drop (3 * 3)).take 3 ++ (cs0.toList.drop (4 * 3)).take 3))) := by
        generalize cs0.toList = q at hlen
        match q, hlen with
        | [_, _, _, _, _, _, _, _, _, _, _, _, _, _, _], _ => rfl
      rw [r0, r1, r2, r3, r4] at h15
      exact h15
    simp only [World.var?, hg0, Option.bind_some] at hv0
    split at hv0
    · rename_i c e fz hh
      obtain rfl : c = cs0 := by simpa using hv0
      refine ⟨(Array.getElem?_eq_some_iff.1 hh).1, fun N => ?_⟩
      obtain ⟨rw', hr, hrl, hrc⟩ := mem0_live (N := N) hh
      refine ⟨rw', hr, List.ext_getElem? fun k => ?_⟩
      have hsz : c.size = 15 := by have := congrArg List.length hcs; simpa [tblV] using this
      rw [List.getElem?_take]
      split
      · rename_i hk
        have hv : tblV[k]? = some tblV[k] := List.getElem?_eq_getElem hk
        rw [hv]
        refine hrc k _ ?_ (fixed_scalar W N ?_)
        · rw [← Array.getElem?_toList, hcs]; exact hv
        · have : tblV.all scalar = true := rfl
          exact List.all_eq_true.1 this _ (List.getElem_mem _)
      · rename_i hk
        rw [List.getElem?_eq_none (show tblV.length ≤ k from Nat.le_of_not_lt hk)]
    · cases hv0
theorem bytes_of (zs : List Int) (len : Nat) (hwf : ∀ n ∈ zs, (Lit.int .u8 n).wf = true) (hl : (zs.take len).length = len) : ∃ l : BL, l.length = len ∧ bv l = (zs.take len).map (Value.int .u8) := by
  refine ⟨(zs.take len).map (BitVec.ofInt 8), by rw [List.length_map, hl], ?_⟩
  unfold bv
  rw [List.map_map]
  refine List.map_congr_left fun n hn => ?_
  have h := hwf n (List.mem_of_mem_take hn)
  have hx : 0 ≤ n ∧ n ≤ 255 := by simpa [Lit.wf, IntKind.min, IntKind.max, IntKind.signed, IntKind.bits] using h
  show v8 (BitVec.ofInt 8 n) = _
  rw [v8, ← wrap_u8, wrapU8 (by omega) (by omega)]
/-- the heap that the door's run leaves meets the condition -/
theorem door_met (os : Os) (args : Array Value) : laidMetH Tryd.prog laidL ((World.doorLaid Tryd.prog 400 os).forCall (fun _ _ => 0) ⟨#[], args, []⟩).memory :=
  laidMetH_of_parts3 (fuel := 8) (laidMet_of_run' 8 (by kernel_rfl) (by kernel_rfl)) (by kernel_rfl) (by kernel_rfl)
end Go.Proofs.YtkiecgkgbogbaaaDoor

/- Arguments that came in, on the abstract memory of the world in which a call begins. Conditions: none. -/
set_option linter.unusedSimpArgs false
set_option linter.unusedVariables false
namespace Go.Proofs.YtkiecgkgbogbaaaDoor
open Go

/-- a slice of whole numbers that came in: none; or it leads to a row of cap cells, the numbers zs -/
def IsRow (k : IntKind) (w : World) (a : Option Addr) (len cap : Nat) (zs : List Int) : Prop :=
  (a = none ∧ len = 0 ∧ cap = 0 ∧ zs = []) ∨
  ∃ x, a = some x ∧ len ≤ cap ∧ cap ≤ maxLen ∧ zs.length = cap ∧ (∀ i, i < zs.length → w.cell? (x.add i) = some (.int k (zs.getD i 0))) ∧ ∀ n ∈ zs, (Lit.int k n).wf = true
theorem okWide_block {P : Program} {W : World} {base : Nat} {t e : TypeId} {a : Addr} {len cap : Nat} (hu : P.underlying t = some (.slice e)) (h : Value.okWide P W .any base t (.slice (some a) len cap)) : a.block < W.heap.size := by
  unfold Value.okWide at h
  simp only [hu] at h
  unfold Cell.okWide at h
  simp only [hu] at h
  unfold Cell.ok at h
  simp only [hu] at h
  obtain ⟨_, _, _, _, row, cells, hs, _⟩ := h
  unfold World.shape? at hs
  split at hs
  · rename_i c el fz hh
    exact (Array.getElem?_eq_some_iff.1 hh).1
  · cases hs
theorem row_cap {k : IntKind} {W : World} {a : Option Addr} {len cap : Nat} {zs : List Int} (h : IsRow k W a len cap zs) : cap < UNK ∧ len ≤ cap := by
  rcases h with ⟨rfl, rfl, rfl, rfl⟩ | ⟨x, rfl, hlc, hm, hz, hcell, hwf⟩
  · exact ⟨by decide, by decide⟩
  · exact ⟨by unfold maxLen at hm; unfold UNK; omega, hlc⟩
theorem world_ints {k : IntKind} {W : World} {N : Nat} {a : Option Addr} {len cap : Nat} {zs : List Int} (h : IsRow k W a len cap zs) (hb : ∀ x, a = some x → x.block < W.heap.size + N) :
    Slv (mem0 W N) 1 (.slice a len cap) len ((zs.take len).map (Value.int k)) ∧ VR (rho0 W N) (.slice a len cap) (.slice a len cap) ∧ (zs.take len).length = len ∧ Cut len cap ∧ (∀ n ∈ zs, (Lit.int k n).wf = true) := by
  rcases h with ⟨rfl, rfl, rfl, rfl⟩ | ⟨x, rfl, hlc, hm, hz, hcell, hwf⟩
  · exact ⟨Slv.nil _ _ _ _, .slNil _ _, rfl, .inl ⟨by decide, by decide⟩, nofun⟩
  · have hcu : cap < UNK := by unfold maxLen at hm; unfold UNK; omega
    have hlen : (zs.take len).length = len := by rw [List.length_take]; omega
    refine ⟨?_, (fixed_slice (N := N) (hb x rfl) hcu).1, hlen, .inl ⟨hcu, hlc⟩, hwf⟩
    rcases Nat.eq_zero_or_pos len with rfl | hpos
    · rw [List.take_zero]; exact Slv.nil _ _ _ _
    have h0 := hcell 0 (by omega)
    have hx0 : x.add 0 = x := rfl
    rw [hx0] at h0
    unfold World.cell? at h0
    split at h0
    · rename_i c el fz hh
      split at h0
      · cases h0
      · rename_i hsp
        have hsp' : x.spot = none := by cases hxs : x.spot <;> simp_all
        obtain ⟨r, hr, hrl, hrc⟩ := mem0_live (N := N) hh
        have hxa : x = ⟨x.block, x.off, none⟩ := by cases x; simp at hsp'; subst hsp'; rfl
        have hci : ∀ i, i < cap → r.cells[x.off + i]? = some (.int k (zs.getD i 0)) := by
          intro i hi
          have h1 := hcell i (by omega)
          have hadd : x.add i = ⟨x.block, x.off + i, none⟩ := by
            unfold Addr.add
            split
            · rename_i h9; rw [h9]; exact hxa
            · rfl
          rw [hadd] at h1
          simp only [World.cell?, hh] at h1
          exact hrc _ _ (by simpa using h1) (fixed_scalar W N rfl)
        have hbound : x.off + len * 1 ≤ r.cells.length := by
          have := (List.getElem?_eq_some_iff.1 (hci (len - 1) (by omega))).1
          omega
        have hseg : (r.cells.drop x.off).take (len * 1) = (zs.take len).map (Value.int k) := by
          apply List.ext_getElem?
          intro i
          rw [List.getElem?_take, Nat.mul_one]
          split
          · rename_i hi
            rw [List.getElem?_drop, hci i (by omega), List.getElem?_map, List.getElem?_take, if_pos hi, List.getD_eq_getElem?_getD, List.getElem?_eq_getElem (by omega)]
            rfl
          · rename_i hi
            rw [List.getElem?_eq_none (by rw [List.length_map, hlen]; omega)]
        have := Slv.of (sz := 1) (n := len) (c := cap) hr hbound (.inr (by rw [hseg, List.all_map, List.all_eq_true]; intro n _; rfl))
        rw [hseg, ← hxa] at this
        exact this
    · cases h0
theorem bound_of (f : Nat → Nat) (n : Nat) : ∃ N, ∀ i, i < n → f i < N := by
  induction n with
  | zero => exact ⟨0, nofun⟩
  | succ n ih =>
    obtain ⟨N, h⟩ := ih
    refine ⟨max N (f n + 1), fun i hi => ?_⟩
    rcases Nat.lt_or_eq_of_le (Nat.le_of_lt_succ hi) with h1 | rfl
    · have := h i h1; omega
    · omega
theorem cell_row {W : World} {N : Nat} {x : Addr} {v : Value} (h : W.cell? x = some v) (hf : Fixed W N v) : x = ⟨x.block, x.off, none⟩ ∧ x.block < W.heap.size ∧ ∃ r, (mem0 W N).row? x.block = some r ∧ r.cells[x.off]? = some v := by
  unfold World.cell? at h
  split at h
  · rename_i c el fz hh
    split at h
    · cases h
    · rename_i hsp
      have hsp' : x.spot = none := by cases hxs : x.spot <;> simp_all
      obtain ⟨r, hr, hrl, hrc⟩ := mem0_live (N := N) hh
      refine ⟨by cases x; simp at hsp'; subst hsp'; rfl, (Array.getElem?_eq_some_iff.1 hh).1, r, hr, hrc _ _ (by simpa using h) hf⟩
  · cases h
end Go.Proofs.YtkiecgkgbogbaaaDoor
