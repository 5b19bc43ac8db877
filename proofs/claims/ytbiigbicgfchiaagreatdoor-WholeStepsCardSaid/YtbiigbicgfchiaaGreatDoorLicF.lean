/- What several proofs share, part 6: a model of memory, contracts of functions. Conditions: none. -/
import Derived.Test.YtbiigbicgfchiaaGreatDoorLicC
import Derived.Test.YtbiigbicgfchiaaGreatDoorLicD
import Derived.Test.YtbiigbicgfchiaaGreatDoorLicE
import Derived.WalkKit
import Derived.ProofKit
import Derived.OpenShut
import Derived.ShutString
import Derived.ChangeOld
import Derived.Below
import Derived.ChangeSame
import Derived.Test.YtbiigbicgfchiaaGreatDoorRows
import Derived.LaidMore
import Derived.Stop.Joined
import Derived.MakeChecks

/- Texts: a list turned round, joined. Conditions: none. -/
set_option linter.unusedSimpArgs false
set_option linter.unusedVariables false
set_option maxRecDepth 100000
set_option maxHeartbeats 4000000
namespace Go.Proofs.YtbiigbicgfchiaaGreatDoor
open Go
variable {G : Nat} {Ext : FuncId → List Value → Mem → Outc → Mem → Prop}
def tv (ps : List BL) : List Value := ps.map fun p => .string (strB p)
theorem tv_len (ps : List BL) : (tv ps).length = ps.length := by simp [tv]
theorem tv_get {ps : List BL} {i : Nat} {p : BL} (h : ps[i]? = some p) : (tv ps)[i]? = some (.string (strB p)) := by simp [tv, h]
theorem reverse_C (b n c : Nat) (ps : List BL) (S : Mem) (hr : S.row? b = some (grownR (tv ps) 9 1)) (hn : ps.length = n) (hlt : n < 1000000) :
  C Tryz.prog G Ext 117 [.slice (some ⟨b, 0, none⟩) n c] S fun v S' => Keep b S S' ∧ S'.row? b = some (grownR (tv ps.reverse) 9 1) := by
 refine C.fn Tryz.func117 rfl (by kernel_rfl) rfl ?_
 repeat first|apply wg|refine ss rfl ?_|apply nl
 refine W.loop (fun k e T => ∃ (i j : Int) (l : List BL), k = (j - i + 1).toNat ∧ 0 ≤ i ∧ i + j = (n : Int) - 1 ∧ e 0 = .slice (some ⟨b, 0, none⟩) n c ∧ e 2 = .int .i64 i ∧ e 3 = .int .i64 j ∧ -1 ≤ j ∧ j < n ∧ i ≤ n ∧ Keep b S T ∧ T.row? b = some (grownR (tv l) 9 1) ∧ l.length = n ∧ i ≤ j + 2 ∧
   ∀ p : Nat, p < n → l[p]? = if (p : Int) < i ∨ j < p then ps[n - 1 - p]? else ps[p]?) n
  ⟨0, (n : Int) - 1, ps, by omega, by omega, by omega, rfl, rfl, congrArg (Value.int .i64) (wrap64 (by omega) (by omega)), by omega, by omega, by omega, Keep.refl _ _, hr, hn, by omega, fun p hp => by rw [if_neg (by omega)]⟩ ?_
 rintro k e T ⟨i, j, l, rfl, hi, hij, e0, e2, e3, hj1, hj2, hi2, hk, hrT, hll, hij2, hz⟩
 refine W.env3 e0 e2 e3 ?_
 repeat first|apply wg|refine ss rfl ?_|apply nl
 refine W.ite rfl (fun h => ?_) (fun h => ?_)
 ·have hlt2 : i < j := of_decide_eq_true h
  clear h
  obtain ⟨i, rfl⟩ : ∃ i' : Nat, i = (i' : Int) := ⟨i.toNat, by omega⟩
  obtain ⟨j, rfl⟩ : ∃ j' : Nat, j = (j' : Int) := ⟨j.toNat, by omega⟩
  obtain ⟨x, hx⟩ : ∃ x, l[i]? = some x := ⟨_, List.getElem?_eq_getElem (by omega)⟩
  obtain ⟨y, hy⟩ : ∃ y, l[j]? = some y := ⟨_, List.getElem?_eq_getElem (by omega)⟩
  have hsl : Slv T 1 (.slice (some ⟨b, 0, none⟩) n c) n (tv l) := Slv.all hrT rfl (by rw [tv_len, hll, Nat.mul_one])
  repeat first|apply wg|refine ss rfl ?_|apply nl
  refine L.el hsl (k := j) rfl (tv_get hy) rfl rfl rfl rfl (fun _ => rfl) rfl (fun p => ?_)
  repeat first|apply wg|refine ss rfl ?_|apply nl
  refine L.el hsl (k := i) rfl (tv_get hx) rfl rfl rfl rfl (fun _ => rfl) rfl (fun p => ?_)
  repeat first|apply wg|refine ss rfl ?_|apply nl
  refine L.elst hrT rfl (by show 0 + n ≤ (tv l).length; rw [tv_len, hll]; omega) (k := i) rfl (by omega) rfl rfl rfl rfl (fun _ => rfl) (fun _ => rfl) rfl rfl rfl (fun p => ?_)
  have h1 : Mem.row? (List.set T b { grownR (tv l) 9 1 with cells := (grownR (tv l) 9 1).cells.set (0 + i) (.string (strB y)) }) b = some (grownR (tv (l.set i y)) 9 1) := by
   rw [row_set_same hrT rfl, Nat.zero_add]
   simp [grownR, tv, List.map_set]
  have hk1 := hk.trans (Keep.set b T { grownR (tv l) 9 1 with cells := (grownR (tv l) 9 1).cells.set (0 + i) (.string (strB y)) })
  generalize List.set T b _ = T1 at *
  repeat first|apply wg|refine ss rfl ?_|apply nl
  refine L.elst h1 rfl (by show 0 + n ≤ (tv (l.set i y)).length; rw [tv_len, List.length_set, hll]; omega) (k := j) rfl (by omega) rfl rfl rfl rfl (fun _ => rfl) (fun _ => rfl) rfl rfl rfl (fun p => ?_)
  have h2 : Mem.row? (List.set T1 b { grownR (tv (l.set i y)) 9 1 with cells := (grownR (tv (l.set i y)) 9 1).cells.set (0 + j) (.string (strB x)) }) b = some (grownR (tv ((l.set i y).set j x)) 9 1) := by
   rw [row_set_same h1 rfl, Nat.zero_add]
   simp [grownR, tv, List.map_set]
  have hk2 := hk1.trans (Keep.set b T1 { grownR (tv (l.set i y)) 9 1 with cells := (grownR (tv (l.set i y)) 9 1).cells.set (0 + j) (.string (strB x)) })
  generalize List.set T1 b _ = T2 at *
  repeat first|apply wg|refine ss rfl ?_|apply nl
  have hxp := hz i (by omega)
  have hyp := hz j (by omega)
  rw [if_neg (by omega), hx] at hxp
  rw [if_neg (by omega), hy] at hyp
  refine ⟨((j : Int) - 1 - ((i : Int) + 1) + 1).toNat, by omega, (i : Int) + 1, (j : Int) - 1, (l.set i y).set j x, rfl, by omega, by omega, rfl, congrArg (Value.int .i64) (wrap64 (by omega) (by omega)), congrArg (Value.int .i64) (wrap64 (by omega) (by omega)), by omega, by omega, by omega, hk2, h2, by simpa using hll, by omega, fun p hp => ?_⟩
  rw [List.getElem?_set, List.getElem?_set]
  by_cases hpj : j = p
  ·rw [if_pos hpj, if_pos (by rw [List.length_set]; omega), if_pos (by omega), ← hpj, hxp, show n - 1 - j = i by omega]
  ·rw [if_neg hpj]
   by_cases hpi : i = p
   ·rw [if_pos hpi, if_pos (by omega), if_pos (by omega), ← hpi, hyp, show n - 1 - i = j by omega]
   ·rw [if_neg hpi, hz p hp]
    by_cases hq : (p : Int) < i ∨ (j : Int) < p
    ·rw [if_pos hq, if_pos (by omega)]
    ·rw [if_neg hq, if_neg (by omega)]
 ·have hge : ¬ i < j := of_decide_eq_false h
  clear h
  have hfin : l = ps.reverse := by
   apply List.ext_getElem?
   intro p
   by_cases hp : p < n
   ·rw [List.getElem?_reverse (by omega), hn, hz p hp]
    by_cases hq : (p : Int) < i ∨ j < p
    ·rw [if_pos hq]
    ·rw [if_neg hq]
     congr 1; omega
   ·rw [List.getElem?_eq_none (by omega), List.getElem?_eq_none (by simp; omega)]
  rw [hfin] at hrT
  repeat first|apply wg|refine ss rfl ?_|apply nl
  exact ⟨.inl rfl, _, rfl, hk, hrT⟩
theorem flat_succ {ps : List BL} {i : Nat} {p : BL} (h : ps[i]? = some p) : (ps.take (i + 1)).flatten = (ps.take i).flatten ++ p := by
 rw [List.take_add_one, h]
 simp
theorem flat_le (ps : List BL) (i : Nat) : (ps.take i).flatten.length ≤ ps.flatten.length := by
 conv => rhs; rw [← List.take_append_drop i ps, List.flatten_append, List.length_append]
 omega
theorem join_C (a : Option Addr) (c n : Nat) (ps : List BL) (S : Mem) (hs : Slv S 1 (.slice a n c) n (tv ps)) (hn : ps.length = n) (hc : Cut n c) (hlt : n < 1000000) (htot : ps.flatten.length < 100000000) (hne : ∀ p ∈ ps, p ≠ []) :
  C Tryz.prog G Ext 118 [.slice a n c, .string (strB [])] S fun v S' => v = .string (strB ps.flatten) ∧ Cons S S' := by
 refine C.fn Tryz.func118 rfl (by kernel_rfl) rfl ?_
 repeat first|apply wg|refine ss rfl ?_|apply nl
 refine W.ite rfl (fun h => ?_) (fun h => ?_)
 ·have h0 : ps = [] := List.length_eq_zero_iff.1 (by have := eq_of_beq h; omega)
  subst h0
  repeat first|apply wg|refine ss rfl ?_|apply nl
  exact ⟨.inr rfl, _, rfl, rfl, Cons.refl _⟩
 have hn0 : n ≠ 0 := fun e => by rw [e] at h; cases h
 clear h
 obtain ⟨p0, hp0⟩ : ∃ p, ps[0]? = some p := ⟨_, List.getElem?_eq_getElem (by omega)⟩
 repeat first|apply wg|refine ss rfl ?_|apply nl
 refine W.ite rfl (fun h => ?_) (fun h => ?_)
 ·have h1 : ps.length = 1 := by have := eq_of_beq h; omega
  clear h
  have hps : ps = [p0] := by
   match ps, h1, hp0 with
   | [q], _, hp0 => simp at hp0; rw [hp0]
  subst hps
  repeat first|apply wg|refine ss rfl ?_|apply nl
  refine L.el hs (k := 0) rfl (tv_get hp0) rfl rfl rfl rfl (fun _ => rfl) rfl (fun p => ?_)
  repeat first|apply wg|refine ss rfl ?_|apply nl
  exact ⟨.inr rfl, _, rfl, by simp; rfl, Cons.refl _⟩
 have hn1 : n ≠ 1 := fun e => by rw [e] at h; cases h
 clear h
 repeat first|apply wg|refine ss rfl ?_|apply nl
 refine L.tlen (a := []) rfl rfl rfl rfl ?_
 repeat first|apply wg|refine ss rfl ?_|apply nl
 refine W.condF rfl ?_
 repeat first|apply wg|refine ss rfl ?_|apply nl
 refine W.mono (R := fun x e' T => x = .exit 1 ∧ T = S ∧ e' 0 = .slice a n c ∧ e' 1 = .string (strB []) ∧ e' 5 = vi ps.flatten.length) ?_ ?_
 ·refine W.loop (fun j e T => T = S ∧ ∃ i : Nat, j = n - i ∧ i ≤ n ∧ e 0 = .slice a n c ∧ e 1 = .string (strB []) ∧ e 5 = vi (ps.take i).flatten.length ∧ e 39 = .slice a n c ∧ e 40 = vi n ∧ e 41 = vi i) n
   ⟨rfl, 0, by omega, by omega, rfl, rfl, rfl, rfl, rfl, rfl⟩ ?_
  rintro j e T ⟨rfl, i, rfl, hi, e0, e1, e5, e39, e40, e41⟩
  refine W.env6 e0 e1 e5 e39 e40 e41 ?_
  repeat first|apply wg|refine ss rfl ?_|apply nl
  refine W.ite rfl (fun h => ?_) (fun h => ?_)
  ·have hin : i < n := by have := of_decide_eq_true h; omega
   clear h
   obtain ⟨p, hp⟩ : ∃ p, ps[i]? = some p := ⟨_, List.getElem?_eq_getElem (by omega)⟩
   have h1 := flat_succ hp
   have h2 := flat_le ps (i + 1)
   have h3 := flat_le ps i
   rw [h1, List.length_append] at h2
   repeat first|apply wg|refine ss rfl ?_|apply nl
   refine L.el hs (k := i) rfl (tv_get hp) rfl rfl rfl rfl (fun _ => rfl) rfl (fun p => ?_)
   repeat first|apply wg|refine ss rfl ?_|apply nl
   refine L.tlen rfl rfl rfl rfl ?_
   repeat first|apply wg|refine ss rfl ?_|apply nl
   refine W.ite rfl (fun h => ?_) (fun h => ?_)
   ·exfalso
    have h4 := of_decide_eq_true h
    rw [wrap64 (by omega) (by omega)] at h4
    omega
   clear h
   repeat first|apply wg|refine ss rfl ?_|apply nl
   refine L.tlen rfl rfl rfl rfl ?_
   repeat first|apply wg|refine ss rfl ?_|apply nl
   refine ⟨n - (i + 1), by omega, rfl, i + 1, rfl, by omega, rfl, rfl, ?_, rfl, rfl, congrArg (Value.int .i64) (wrap64 (by omega) (by omega))⟩
   rw [h1, List.length_append]
   exact (force_eq rfl).trans (congrArg (Value.int .i64) (wrap64 (by omega) (by omega)))
  ·have hin : i = n := by have := of_decide_eq_false h; omega
   clear h
   rw [List.take_of_length_le (by omega)]
   repeat first|apply wg|refine ss rfl ?_|apply nl
   exact ⟨rfl, rfl, rfl, rfl, rfl⟩
 rintro _ e T ⟨rfl, hT, e0, e1, e5⟩
 subst hT
 rename Mem => S
 refine W.env3 e0 e1 e5 ?_
 repeat first|apply wg|refine ss rfl ?_|apply nl
 refine L.eff (v := .pointer (some ⟨S.length, 0, none⟩)) (S1 := S ++ [bldR (.pointer none) (.slice none 0 0)]) rfl rfl ?_
 have hB := BldT.new S
 have hrb0 : Mem.row? (S ++ [bldR (.pointer none) (.slice none 0 0)]) S.length = some (bldR (.pointer none) (.slice none 0 0)) := row_push_new rfl
 generalize S ++ [bldR (.pointer none) (.slice none 0 0)] = T at *
 obtain ⟨rb, hrb⟩ : ∃ r, r = S.length := ⟨_, rfl⟩
 rw [← hrb] at hB hrb0 ⊢
 repeat first|apply wg|refine ss rfl ?_|apply nl
 refine L.cl (growB_C rb ps.flatten.length T hB ⟨_, hrb0⟩ (by omega)) rfl rfl ?_
 rintro _ T1 hB1
 refine ⟨nofun, ?_⟩
 clear hB hrb0
 repeat first|apply wg|refine ss rfl ?_|apply nl
 refine L.el (hs.cons hB1.1) (k := 0) rfl (tv_get hp0) rfl rfl rfl rfl (fun _ => rfl) rfl (fun p => ?_)
 have h1 := flat_succ hp0
 have h3 := flat_le ps 1
 rw [h1, List.take_zero, List.flatten_nil, List.nil_append] at h3
 refine L.cl (writeString_C rb p0 [] T1 hB1 (by simp; omega)) rfl rfl ?_
 rintro _ T2 hB2
 refine ⟨nofun, ?_⟩
 rw [← List.flatten_nil, ← List.take_zero (l := ps), ← h1] at hB2
 clear hB1
 repeat first|apply wg|refine ss rfl ?_|apply nl
 obtain ⟨a', c', q1, q2, q3, _⟩ := slv_part (lo := some (.int .i64 ((1 : Nat) : Int))) (hi := none) (k := 1) (h := n) (hs.cons hB2.1) (.inr ⟨.i64, rfl⟩) (.inl ⟨rfl, rfl⟩) (by omega) (Nat.le_refl _) hc
 refine L.is (.slice a' (n - 1) c') ((slice_at0 rfl rfl rfl).trans q1) rfl ?_
 repeat first|apply wg|refine ss rfl ?_|apply nl
 have hpart : ∀ T, Cons S T → Slv T 1 (.slice a' (n - 1) c') (n - 1) (((tv ps).drop 1).take (n - 1)) := fun T hT => by
  obtain ⟨a2, c2, r1, r2, _⟩ := slv_part (lo := some (.int .i64 ((1 : Nat) : Int))) (hi := none) (k := 1) (h := n) (hs.cons hT) (.inr ⟨.i64, rfl⟩) (.inl ⟨rfl, rfl⟩) (by omega) (Nat.le_refl _) hc
  rw [q1] at r1
  have := Option.some.inj r1
  rw [← this] at r2
  exact r2
 clear q2 q3
 refine W.loop (fun j e T => ∃ i : Nat, j = n - 1 - i ∧ i ≤ n - 1 ∧ e 1 = .string (strB []) ∧ e 8 = .pointer (some ⟨rb, 0, none⟩) ∧ e 63 = .slice a' (n - 1) c' ∧ e 64 = vi (n - 1) ∧ e 65 = vi i ∧ BldT S T rb (ps.take (i + 1)).flatten) (n - 1)
  ⟨0, by omega, by omega, rfl, rfl, rfl, rfl, rfl, hB2⟩ ?_
 clear hB2
 rintro j e T ⟨i, rfl, hi, e1, e8, e63, e64, e65, hB⟩
 refine W.env5 e1 e8 e63 e64 e65 ?_
 repeat first|apply wg|refine ss rfl ?_|apply nl
 refine W.ite rfl (fun h => ?_) (fun h => ?_)
 ·have hin : i < n - 1 := by have := of_decide_eq_true h; omega
  clear h
  obtain ⟨p, hp⟩ : ∃ p, ps[i + 1]? = some p := ⟨_, List.getElem?_eq_getElem (by omega)⟩
  have hget : (((tv ps).drop 1).take (n - 1))[i]? = some (.string (strB p)) := by
   rw [List.getElem?_take, if_pos hin, List.getElem?_drop, Nat.add_comm 1]
   exact tv_get hp
  have h4 := flat_succ hp
  have h5 := flat_le ps (i + 1)
  have h6 := flat_le ps (i + 1 + 1)
  rw [h4, List.length_append] at h6
  repeat first|apply wg|refine ss rfl ?_|apply nl
  refine L.el (hpart T hB.1) (k := i) rfl hget rfl rfl rfl rfl (fun _ => rfl) rfl (fun _ => ?_)
  repeat first|apply wg|refine ss rfl ?_|apply nl
  refine L.cl (writeString_C rb [] _ T hB (by rw [List.length_nil]; omega)) rfl rfl ?_
  rintro _ T2 hB2
  refine ⟨nofun, ?_⟩
  rw [List.append_nil] at hB2
  repeat first|apply wg|refine ss rfl ?_|apply nl
  refine L.cl (writeString_C rb p _ T2 hB2 (by omega)) rfl rfl ?_
  rintro _ T3 hB3
  refine ⟨nofun, ?_⟩
  rw [← h4] at hB3
  repeat first|apply wg|refine ss rfl ?_|apply nl
  exact ⟨n - 1 - (i + 1), by omega, i + 1, rfl, by omega, rfl, rfl, rfl, rfl, congrArg (Value.int .i64) (wrap64 (by omega) (by omega)), hB3⟩
 ·have hin : i = n - 1 := by have := of_decide_eq_false h; omega
  clear h
  rw [List.take_of_length_le (by omega)] at hB
  have hpos : 0 < ps.flatten.length := by
   have h7 := hne p0 (List.mem_of_getElem? hp0)
   have h8 : 0 < p0.length := List.length_pos_iff.2 h7
   omega
  repeat first|apply wg|refine ss rfl ?_|apply nl
  refine L.cl (string_C rb ps.flatten T (hB.full hpos) (by omega)) rfl rfl ?_
  rintro _ T2 ⟨rfl, hk⟩
  refine ⟨nofun, ?_⟩
  repeat first|apply wg|refine ss rfl ?_|apply nl
  exact ⟨.inr rfl, _, rfl, rfl, hk⟩
end Go.Proofs.YtbiigbicgfchiaaGreatDoor

/- Numbers in decimal digits. Conditions: none. -/
namespace Go.Proofs.YtbiigbicgfchiaaGreatDoor
open Go
def digB (n : Nat) : BitVec 8 := BitVec.ofNat 8 (48 + n % 10)
def pad : Nat → Nat → BL
 | 0, _ => []
 | k + 1, n => pad k (n / 10) ++ [digB n]
def dec (n : Nat) : BL := if n < 10 then [digB n] else dec (n / 10) ++ [digB n]
termination_by n
decreasing_by omega
theorem pad_len (k n : Nat) : (pad k n).length = k := by
 induction k generalizing n with
 | zero => rfl
 | succ k ih => rw [pad, List.length_append, ih]; rfl
theorem dec_small {n : Nat} (h : n < 10) : dec n = [digB n] := by rw [dec, if_pos h]
theorem dec_big {n : Nat} (h : 10 ≤ n) : dec n = dec (n / 10) ++ [digB n] := by rw [dec, if_neg (by omega)]
theorem dec_pad {k n : Nat} (h1 : n < 10 ^ (k + 1)) (h2 : k = 0 ∨ 10 ^ k ≤ n) : dec n = pad (k + 1) n := by
 induction k generalizing n with
 | zero => rw [dec_small (by simpa using h1)]; rfl
 | succ k ih =>
  have hk : 10 ^ (k + 1) ≤ n := by
   rcases h2 with h2 | h2
   ·omega
   ·exact h2
  have hp := Nat.pow_pos (n := k) (show 0 < 10 by decide)
  rw [Nat.pow_succ] at hk
  rw [Nat.pow_succ] at h1
  rw [dec_big (by omega), ih (by omega) (by omega)]; rfl
theorem pad_add (j k n : Nat) : pad (j + k) n = pad j (n / 10 ^ k) ++ pad k n := by
 induction k generalizing n with
 | zero => simp [pad]
 | succ k ih =>
  show pad (j + k) (n / 10) ++ [digB n] = _
  rw [ih, pad, List.append_assoc, Nat.div_div_eq_div_mul, Nat.pow_succ, Nat.mul_comm 10]
theorem pad_mod (k n : Nat) : pad k (n % 10 ^ k) = pad k n := by
 induction k generalizing n with
 | zero => rfl
 | succ k ih =>
  have h1 : n % 10 ^ (k + 1) / 10 = n / 10 % 10 ^ k := by
   rw [Nat.pow_succ, Nat.mul_comm, Nat.mod_mul_right_div_self]
  have h2 : digB (n % 10 ^ (k + 1)) = digB n := by
   unfold digB
   rw [Nat.mod_mod_of_dvd _ ⟨10 ^ k, by rw [Nat.pow_succ, Nat.mul_comm]⟩]
  rw [pad, pad, h1, h2, ih]
theorem dec_len_pos (n : Nat) : 0 < (dec n).length := by
 by_cases h : n < 10
 ·rw [dec_small h]; exact Nat.one_pos
 ·rw [dec_big (by omega)]; simp
theorem dec_split {k n : Nat} (h : 10 ^ k ≤ n) : dec n = dec (n / 10 ^ k) ++ pad k n := by
 induction k generalizing n with
 | zero => simp [pad]
 | succ k ih =>
  have hp := Nat.pow_pos (n := k) (show 0 < 10 by decide)
  rw [Nat.pow_succ] at h
  rw [dec_big (by omega), ih (by omega), pad, List.append_assoc, Nat.div_div_eq_div_mul, Nat.pow_succ, Nat.mul_comm 10]
theorem pad_zero (k : Nat) : pad k 0 = List.replicate k 48#8 := by
 induction k with
 | zero => rfl
 | succ k ih => rw [pad, Nat.zero_div, ih, List.replicate_succ']; rfl
theorem pad_zeros {j k n : Nat} (h : n < 10 ^ j) : pad (k + j) n = List.replicate k 48#8 ++ pad j n := by
 rw [pad_add, Nat.div_eq_of_lt h, pad_zero]
theorem dec_of_len {n : Nat} : ∃ k, (dec n).length = k + 1 ∧ n < 10 ^ (k + 1) ∧ (k = 0 ∨ 10 ^ k ≤ n) ∧ dec n = pad (k + 1) n := by
 have key : ∃ k, n < 10 ^ (k + 1) ∧ (k = 0 ∨ 10 ^ k ≤ n) := by
  induction n using Nat.strongRecOn with
  | _ n ih =>
   by_cases h : n < 10
   ·exact ⟨0, by simpa using h, .inl rfl⟩
   ·obtain ⟨k, h1, h2⟩ := ih (n / 10) (by omega)
    refine ⟨k + 1, by rw [Nat.pow_succ]; omega, .inr ?_⟩
    rcases h2 with rfl | h2
    ·simp; omega
    ·rw [Nat.pow_succ]; omega
 obtain ⟨k, h1, h2⟩ := key
 exact ⟨k, by rw [dec_pad h1 h2, pad_len], h1, h2, dec_pad h1 h2⟩
theorem dec_fill {k n : Nat} (h : n < 10 ^ k) (hk : 0 < k) : (dec n).length ≤ k ∧ List.replicate (k - (dec n).length) 48#8 ++ dec n = pad k n := by
 obtain ⟨m, h1, h2, h3, h4⟩ := dec_of_len (n := n)
 have hm : m + 1 ≤ k := by
  rcases h3 with rfl | h3
  ·omega
  ·refine Classical.byContradiction fun hc => ?_
   have := Nat.pow_le_pow_right (n := 10) (by decide) (show k ≤ m by omega)
   omega
 refine ⟨by omega, ?_⟩
 rw [h4, pad_len, ← pad_zeros h2]
 congr 1; omega
end Go.Proofs.YtbiigbicgfchiaaGreatDoor

/- Texts: a word in decimal. Conditions: none. -/
namespace Go.Proofs.YtbiigbicgfchiaaGreatDoor
open Go
variable {G : Nat} {Ext : FuncId → List Value → Mem → Outc → Mem → Prop}
def SM : ByteArray := ⟨(([48, 48, 48, 49, 48, 50, 48, 51, 48, 52, 48, 53, 48, 54, 48, 55, 48, 56, 48, 57, 49, 48, 49, 49, 49, 50, 49, 51, 49, 52, 49, 53, 49, 54, 49, 55, 49, 56, 49, 57, 50, 48, 50, 49, 50, 50, 50, 51, 50, 52] : List UInt8) ++ [50, 53, 50, 54, 50, 55, 50, 56, 50, 57, 51, 48, 51, 49, 51, 50, 51, 51, 51, 52, 51, 53, 51, 54, 51, 55, 51, 56, 51, 57, 52, 48, 52, 49, 52, 50, 52, 51, 52, 52, 52, 53, 52, 54, 52, 55, 52, 56, 52, 57] ++ ([53, 48, 53, 49, 53, 50, 53, 51, 53, 52, 53, 53, 53, 54, 53, 55, 53, 56, 53, 57, 54, 48, 54, 49, 54, 50, 54, 51, 54, 52, 54, 53, 54, 54, 54, 55, 54, 56, 54, 57, 55, 48, 55, 49, 55, 50, 55, 51, 55, 52] ++ [55, 53, 55, 54, 55, 55, 55, 56, 55, 57, 56, 48, 56, 49, 56, 50, 56, 51, 56, 52, 56, 53, 56, 54, 56, 55, 56, 56, 56, 57, 57, 48, 57, 49, 57, 50, 57, 51, 57, 52, 57, 53, 57, 54, 57, 55, 57, 56, 57, 57])).toArray⟩
theorem sm_tab {k : Nat} (h : k < 100) : SM[2 * k]? = some (UInt8.ofNat (48 + k / 10)) ∧ SM[2 * k + 1]? = some (UInt8.ofNat (48 + k % 10)) := by
 have : ∀ i : Fin 100, SM[2 * i.val]? = some (UInt8.ofNat (48 + i.val / 10)) ∧ SM[2 * i.val + 1]? = some (UInt8.ofNat (48 + i.val % 10)) := by decide +kernel
 exact this ⟨k, h⟩
theorem pad_get {k p n : Nat} (h : p < k) : (pad k n)[p]? = some (digB (n / 10 ^ (k - 1 - p))) := by
 induction k generalizing n with
 | zero => omega
 | succ k ih =>
  rw [pad]
  by_cases hp : p < k
  ·rw [List.getElem?_append_left (by rw [pad_len]; exact hp), ih hp, Nat.div_div_eq_div_mul, show k + 1 - 1 - p = k - 1 - p + 1 by omega, Nat.pow_succ, Nat.mul_comm 10]
  ·have : p = k := by omega
   subst this
   rw [List.getElem?_append_right (by rw [pad_len]; exact Nat.le_refl _), pad_len, Nat.sub_self, Nat.add_sub_cancel, Nat.sub_self, Nat.pow_zero, Nat.div_one]; rfl
structure FbS (b nd u : Nat) (r : Row) (S T : Mem) (q : Nat) (cs : List Value) : Prop where
 keep : Keep b S T
 row : T.row? b = some { r with cells := cs }
 len : cs.length = r.cells.length
 dig : ∀ p, q ≤ p → p < nd → cs[p]? = (bv (pad nd u))[p]?
theorem dval (d : Nat) (h : d < 10) : Value.int .u8 ((UInt8.ofNat (48 + d)).toNat : Int) = v8 (BitVec.ofNat 8 (48 + d)) := by
 have h1 : (UInt8.ofNat (48 + d)).toNat = 48 + d := by rw [UInt8.toNat_ofNat']; omega
 have h2 : (BitVec.ofNat 8 (48 + d)).toNat = 48 + d := by rw [BitVec.toNat_ofNat]; omega
 show _ = Value.int .u8 ((BitVec.ofNat 8 (48 + d)).toNat : Int)
 rw [h1, h2]
theorem FbS.put {b nd u : Nat} {r : Row} {S T : Mem} {q q' x : Nat} {cs : List Value} (h : FbS b nd u r S T q' cs) (hq : q' = q + 1) (hn : q < nd) (hlen : nd ≤ r.cells.length) (hst : r.st = .live) (hx : x < 10) (hd : u / 10 ^ (nd - 1 - q) % 10 = x) :
  FbS b nd u r S (List.set T b { ({ r with cells := cs } : Row) with cells := ({ r with cells := cs } : Row).cells.set (0 + q) (v8 (BitVec.ofNat 8 (48 + x))) }) q (cs.set q (v8 (BitVec.ofNat 8 (48 + x)))) := by
 obtain ⟨h1, h2, h3, h4⟩ := h
 refine ⟨h1.trans (Keep.set b T _), ?_, by rw [List.length_set]; exact h3, fun p p1 p2 => ?_⟩
 ·have h5 := row_set_same (x := { r with cells := cs.set (0 + q) (v8 (BitVec.ofNat 8 (48 + x))) }) h2 hst
  rw [show cs.set q (v8 (BitVec.ofNat 8 (48 + x))) = cs.set (0 + q) (v8 (BitVec.ofNat 8 (48 + x))) by rw [Nat.zero_add]]
  exact h5
 ·rw [List.getElem?_set]
  by_cases hp : q = p
  ·subst hp
   rw [if_pos rfl, if_pos (by omega)]
   unfold bv
   rw [List.getElem?_map, pad_get hn]
   unfold digB
   rw [hd]; rfl
  ·rw [if_neg hp]; exact h4 p (by omega) p2
theorem wone {n : Nat} (h : n < 4294967295) : IntKind.u32.wrap ((n : Int) + 1) = ((n + 1 : Nat) : Int) := by
 rw [wrap_u .u32 rfl, BitVec.toNat_ofInt]
 show ((((n : Int) + 1) % ((2 ^ 32 : Nat) : Int)).toNat : Int) = _
 have e : ((2 ^ 32 : Nat) : Int) = 4294967296 := by decide
 rw [e]; omega
theorem w32 {n : Nat} (h : n < 4294967296) : IntKind.u32.wrap (n : Int) = (n : Int) := by
 rw [wrap_u .u32 rfl, BitVec.toNat_ofInt]
 show (((n : Int) % ((2 ^ 32 : Nat) : Int)).toNat : Int) = _
 have e : ((2 ^ 32 : Nat) : Int) = 4294967296 := by decide
 rw [e]; omega
theorem tdn (a b : Nat) : Int.tdiv (a : Int) (b : Int) = ((a / b : Nat) : Int) := (Int.ofNat_tdiv a b).symm
theorem tmn (a b : Nat) : Int.tmod (a : Int) (b : Int) = ((a % b : Nat) : Int) := (Int.ofNat_tmod a b).symm
theorem dig_at {u nd m j : Nat} (hm : m ≤ nd) (hj : 1 ≤ j) (hjm : j ≤ m) : u / 10 ^ (nd - 1 - (m - j)) = u / 10 ^ (nd - m) / 10 ^ (j - 1) := by
 rw [Nat.div_div_eq_div_mul, ← Nat.pow_add]; congr 2; omega
theorem fb10_C (b nd c u : Nat) (r : Row) (S : Mem) (hr : S.row? b = some r) (hro : r.ro = none) (hlen : nd ≤ r.cells.length) (hnd : nd ≤ 20) (hu : u < 18446744073709551616) (hu2 : u < 10 ^ nd) :
  C Tryz.prog G Ext 161 [.slice (some ⟨b, 0, none⟩) nd c, .int .u64 (u : Int)] S fun v T => Keep b S T ∧ ∃ cs, T.row? b = some { r with cells := cs } ∧ cs.length = r.cells.length ∧ cs.take nd = bv (pad nd u) := by
 have hst : r.st = .live := (Mem.row?_some hr).2
 refine C.fn Tryz.func161 rfl (by kernel_rfl) rfl ?_
 repeat first|apply wg|refine ss rfl ?_|apply nl
 refine W.mono (R := fun x e T => x = .exit 0 ∧ ∃ (m w : Nat) (cs : List Value), m < 8 ∧ m ≤ nd ∧ w = u / 10 ^ (nd - m) ∧ e 0 = .slice (some ⟨b, 0, none⟩) nd c ∧ e 1 = .int .u64 (w : Int) ∧ e 4 = vi m ∧ FbS b nd u r S T m cs) ?_ ?_
 ·refine W.loop (fun k e T => ∃ (m w : Nat) (cs : List Value), k = m ∧ m ≤ nd ∧ w = u / 10 ^ (nd - m) ∧ e 0 = .slice (some ⟨b, 0, none⟩) nd c ∧ e 1 = .int .u64 (w : Int) ∧ e 4 = vi m ∧ FbS b nd u r S T m cs) nd
   ⟨nd, u, r.cells, rfl, Nat.le_refl _, by rw [Nat.sub_self, Nat.pow_zero, Nat.div_one], rfl, rfl, rfl, Keep.refl _ _, hr, rfl, fun p h1 h2 => by omega⟩ ?_
  rintro m e T ⟨_, w, cs, rfl, hm, hw, e0, e1, e4, hF⟩
  refine W.env3 e0 e1 e4 ?_
  repeat first|apply wg|refine ss rfl ?_|apply nl
  refine W.ite rfl (fun h => ?_) (fun h => ?_)
  ·have hm8 : 8 ≤ m := by have := of_decide_eq_true h; omega
   clear h
   have hwl : w < 18446744073709551616 := by rw [hw]; exact Nat.lt_of_le_of_lt (Nat.div_le_self _ _) hu
   obtain ⟨x, hx⟩ : ∃ x, x = w % 100000000 := ⟨_, rfl⟩
   obtain ⟨lo, hlo⟩ : ∃ lo, lo = x % 10000 := ⟨_, rfl⟩
   obtain ⟨hi, hhi⟩ : ∃ hi, hi = x / 10000 := ⟨_, rfl⟩
   obtain ⟨k0, hk0⟩ : ∃ k, k = lo % 100 := ⟨_, rfl⟩
   obtain ⟨k1, hk1⟩ : ∃ k, k = lo / 100 := ⟨_, rfl⟩
   obtain ⟨k2, hk2⟩ : ∃ k, k = hi % 100 := ⟨_, rfl⟩
   obtain ⟨k3, hk3⟩ : ∃ k, k = hi / 100 := ⟨_, rfl⟩
   have w1 : IntKind.u32.wrap (Int.tmod (w : Int) 100000000) = (x : Int) := by rw [show Int.tmod (w : Int) 100000000 = ((w % 100000000 : Nat) : Int) from tmn w 100000000, ← hx, w32 (by omega)]
   have w2 : IntKind.u64.wrap (Int.tdiv (w : Int) 100000000) = ((w / 100000000 : Nat) : Int) := by
    rw [show Int.tdiv (w : Int) 100000000 = ((w / 100000000 : Nat) : Int) from tdn w 100000000, wrapU64 (by omega) (by omega)]
   have w3 : IntKind.u32.wrap (Int.tdiv (x : Int) 10000) = (hi : Int) := by rw [show Int.tdiv (x : Int) 10000 = ((x / 10000 : Nat) : Int) from tdn x 10000, ← hhi, w32 (by omega)]
   have w4 : Int.tmod (x : Int) 10000 = (lo : Int) := by rw [show Int.tmod (x : Int) 10000 = ((x % 10000 : Nat) : Int) from tmn x 10000, ← hlo]
   have w5 : IntKind.u32.wrap (IntKind.u32.wrap (Int.tdiv (lo : Int) 100) * 2) = ((2 * k1 : Nat) : Int) := by
    rw [show Int.tdiv (lo : Int) 100 = ((lo / 100 : Nat) : Int) from tdn lo 100, ← hk1, w32 (by omega), show ((k1 : Int) * 2) = ((2 * k1 : Nat) : Int) by omega, w32 (by omega)]
   have w6 : IntKind.u32.wrap (Int.tmod (lo : Int) 100 * 2) = ((2 * k0 : Nat) : Int) := by
    rw [show Int.tmod (lo : Int) 100 = ((lo % 100 : Nat) : Int) from tmn lo 100, ← hk0, show ((k0 : Int) * 2) = ((2 * k0 : Nat) : Int) by omega, w32 (by omega)]
   have w7 : IntKind.u32.wrap (IntKind.u32.wrap (Int.tdiv (hi : Int) 100) * 2) = ((2 * k3 : Nat) : Int) := by
    rw [show Int.tdiv (hi : Int) 100 = ((hi / 100 : Nat) : Int) from tdn hi 100, ← hk3, w32 (by omega), show ((k3 : Int) * 2) = ((2 * k3 : Nat) : Int) by omega, w32 (by omega)]
   have w8 : IntKind.u32.wrap (Int.tmod (hi : Int) 100 * 2) = ((2 * k2 : Nat) : Int) := by
    rw [show Int.tmod (hi : Int) 100 = ((hi % 100 : Nat) : Int) from tmn hi 100, ← hk2, show ((k2 : Int) * 2) = ((2 * k2 : Nat) : Int) by omega, w32 (by omega)]
   have g1 : u / 10 ^ (nd - 1 - (m - 1)) % 10 = k0 % 10 := by rw [dig_at hm (by omega) (by omega), ← hw]; show w / 1 % 10 = _; omega
   have g2 : u / 10 ^ (nd - 1 - (m - 2)) % 10 = k0 / 10 := by rw [dig_at hm (by omega) (by omega), ← hw]; show w / 10 % 10 = _; omega
   have g3 : u / 10 ^ (nd - 1 - (m - 3)) % 10 = k1 % 10 := by rw [dig_at hm (by omega) (by omega), ← hw]; show w / 100 % 10 = _; omega
   have g4 : u / 10 ^ (nd - 1 - (m - 4)) % 10 = k1 / 10 := by rw [dig_at hm (by omega) (by omega), ← hw]; show w / 1000 % 10 = _; omega
   have g5 : u / 10 ^ (nd - 1 - (m - 5)) % 10 = k2 % 10 := by rw [dig_at hm (by omega) (by omega), ← hw]; show w / 10000 % 10 = _; omega
   have g6 : u / 10 ^ (nd - 1 - (m - 6)) % 10 = k2 / 10 := by rw [dig_at hm (by omega) (by omega), ← hw]; show w / 100000 % 10 = _; omega
   have g7 : u / 10 ^ (nd - 1 - (m - 7)) % 10 = k3 % 10 := by rw [dig_at hm (by omega) (by omega), ← hw]; show w / 1000000 % 10 = _; omega
   have g8 : u / 10 ^ (nd - 1 - (m - 8)) % 10 = k3 / 10 := by rw [dig_at hm (by omega) (by omega), ← hw]; show w / 10000000 % 10 = _; omega
   have b0 : k0 < 100 := by omega
   have b1 : k1 < 100 := by omega
   have b2 : k2 < 100 := by omega
   have b3 : k3 < 100 := by omega
   have hw2 : w / 100000000 = u / 10 ^ (nd - (m - 8)) := by rw [hw, Nat.div_div_eq_div_mul, show 100000000 = 10 ^ 8 by decide, ← Nat.pow_add]; congr 2; omega
   clear hk0 hk1 hk2 hk3 hlo hhi hx
   repeat first|apply wg|refine ss rfl ?_|apply nl
   rw [w1, w2, w3, w4, w5, w6, w7, w8]
   refine L.sx (s := SM) (i := 2 * k0 + 1) rfl ((force_eq rfl).trans (congrArg (Value.int .u32) (wone (by omega)))) (sm_tab (k := k0) (by omega)).2 rfl rfl ?_
   rw [dval (k0 % 10) (by omega)]
   repeat first|apply wg|refine ss rfl ?_|apply nl
   refine L.sx (s := SM) (i := 2 * k0) rfl rfl (sm_tab (k := k0) (by omega)).1 rfl rfl ?_
   rw [dval (k0 / 10) (by omega)]
   repeat first|apply wg|refine ss rfl ?_|apply nl
   refine L.elst hF.row hro (by show 0 + nd ≤ cs.length; have := hF.len; omega) (k := m - 1) (by rw [wrap64 (by omega) (by omega)]; omega) (by omega) rfl rfl rfl rfl (fun _ => rfl) (fun _ => rfl) rfl rfl rfl (fun _ => ?_)
   replace hF := hF.put (q := m - 1) (x := k0 % 10) (by omega) (by omega) hlen hst (by omega) (by rw [g1])
   generalize List.set T b _ = T1 at *
   generalize cs.set (m - 1) _ = cs1 at *
   repeat first|apply wg|refine ss rfl ?_|apply nl
   refine L.elst hF.row hro (by show 0 + nd ≤ cs1.length; have := hF.len; omega) (k := m - 2) (by rw [wrap64 (by omega) (by omega)]; omega) (by omega) rfl rfl rfl rfl (fun _ => rfl) (fun _ => rfl) rfl rfl rfl (fun _ => ?_)
   replace hF := hF.put (q := m - 2) (x := k0 / 10) (by omega) (by omega) hlen hst (by omega) (by rw [g2])
   generalize List.set T1 b _ = T2 at *
   generalize cs1.set (m - 2) _ = cs2 at *
   clear cs cs1
   obtain ⟨cs, hcs⟩ : ∃ cs, cs = cs2 := ⟨_, rfl⟩
   rw [← hcs] at hF
   clear hcs cs2
   obtain ⟨T, hT⟩ : ∃ T, T = T2 := ⟨_, rfl⟩
   rw [← hT] at hF ⊢
   clear hT T2 T1
   repeat first|apply wg|refine ss rfl ?_|apply nl
   refine L.sx (s := SM) (i := 2 * k1 + 1) rfl ((force_eq rfl).trans (congrArg (Value.int .u32) (wone (by omega)))) (sm_tab (k := k1) (by omega)).2 rfl rfl ?_
   rw [dval (k1 % 10) (by omega)]
   repeat first|apply wg|refine ss rfl ?_|apply nl
   refine L.sx (s := SM) (i := 2 * k1) rfl rfl (sm_tab (k := k1) (by omega)).1 rfl rfl ?_
   rw [dval (k1 / 10) (by omega)]
   repeat first|apply wg|refine ss rfl ?_|apply nl
   refine L.elst hF.row hro (by show 0 + nd ≤ cs.length; have := hF.len; omega) (k := m - 3) (by rw [wrap64 (by omega) (by omega)]; omega) (by omega) rfl rfl rfl rfl (fun _ => rfl) (fun _ => rfl) rfl rfl rfl (fun _ => ?_)
   replace hF := hF.put (q := m - 3) (x := k1 % 10) (by omega) (by omega) hlen hst (by omega) (by rw [g3])
   generalize List.set T b _ = T1 at *
   generalize cs.set (m - 3) _ = cs1 at *
   repeat first|apply wg|refine ss rfl ?_|apply nl
   refine L.elst hF.row hro (by show 0 + nd ≤ cs1.length; have := hF.len; omega) (k := m - 4) (by rw [wrap64 (by omega) (by omega)]; omega) (by omega) rfl rfl rfl rfl (fun _ => rfl) (fun _ => rfl) rfl rfl rfl (fun _ => ?_)
   replace hF := hF.put (q := m - 4) (x := k1 / 10) (by omega) (by omega) hlen hst (by omega) (by rw [g4])
   generalize List.set T1 b _ = T2 at *
   generalize cs1.set (m - 4) _ = cs2 at *
   clear cs cs1
   obtain ⟨cs, hcs⟩ : ∃ cs, cs = cs2 := ⟨_, rfl⟩
   rw [← hcs] at hF
   clear hcs cs2
   obtain ⟨T, hT⟩ : ∃ T, T = T2 := ⟨_, rfl⟩
   rw [← hT] at hF ⊢
   clear hT T2 T1
   repeat first|apply wg|refine ss rfl ?_|apply nl
   refine L.sx (s := SM) (i := 2 * k2 + 1) rfl ((force_eq rfl).trans (congrArg (Value.int .u32) (wone (by omega)))) (sm_tab (k := k2) (by omega)).2 rfl rfl ?_
   rw [dval (k2 % 10) (by omega)]
   repeat first|apply wg|refine ss rfl ?_|apply nl
   refine L.sx (s := SM) (i := 2 * k2) rfl rfl (sm_tab (k := k2) (by omega)).1 rfl rfl ?_
   rw [dval (k2 / 10) (by omega)]
   repeat first|apply wg|refine ss rfl ?_|apply nl
   refine L.elst hF.row hro (by show 0 + nd ≤ cs.length; have := hF.len; omega) (k := m - 5) (by rw [wrap64 (by omega) (by omega)]; omega) (by omega) rfl rfl rfl rfl (fun _ => rfl) (fun _ => rfl) rfl rfl rfl (fun _ => ?_)
   replace hF := hF.put (q := m - 5) (x := k2 % 10) (by omega) (by omega) hlen hst (by omega) (by rw [g5])
   generalize List.set T b _ = T1 at *
   generalize cs.set (m - 5) _ = cs1 at *
   repeat first|apply wg|refine ss rfl ?_|apply nl
   refine L.elst hF.row hro (by show 0 + nd ≤ cs1.length; have := hF.len; omega) (k := m - 6) (by rw [wrap64 (by omega) (by omega)]; omega) (by omega) rfl rfl rfl rfl (fun _ => rfl) (fun _ => rfl) rfl rfl rfl (fun _ => ?_)
   replace hF := hF.put (q := m - 6) (x := k2 / 10) (by omega) (by omega) hlen hst (by omega) (by rw [g6])
   generalize List.set T1 b _ = T2 at *
   generalize cs1.set (m - 6) _ = cs2 at *
   clear cs cs1
   obtain ⟨cs, hcs⟩ : ∃ cs, cs = cs2 := ⟨_, rfl⟩
   rw [← hcs] at hF
   clear hcs cs2
   obtain ⟨T, hT⟩ : ∃ T, T = T2 := ⟨_, rfl⟩
   rw [← hT] at hF ⊢
   clear hT T2 T1
   repeat first|apply wg|refine ss rfl ?_|apply nl
   refine L.sx (s := SM) (i := 2 * k3 + 1) rfl ((force_eq rfl).trans (congrArg (Value.int .u32) (wone (by omega)))) (sm_tab (k := k3) (by omega)).2 rfl rfl ?_
   rw [dval (k3 % 10) (by omega)]
   repeat first|apply wg|refine ss rfl ?_|apply nl
   refine L.sx (s := SM) (i := 2 * k3) rfl rfl (sm_tab (k := k3) (by omega)).1 rfl rfl ?_
   rw [dval (k3 / 10) (by omega)]
   repeat first|apply wg|refine ss rfl ?_|apply nl
   refine L.elst hF.row hro (by show 0 + nd ≤ cs.length; have := hF.len; omega) (k := m - 7) (by rw [wrap64 (by omega) (by omega)]; omega) (by omega) rfl rfl rfl rfl (fun _ => rfl) (fun _ => rfl) rfl rfl rfl (fun _ => ?_)
   replace hF := hF.put (q := m - 7) (x := k3 % 10) (by omega) (by omega) hlen hst (by omega) (by rw [g7])
   generalize List.set T b _ = T1 at *
   generalize cs.set (m - 7) _ = cs1 at *
   repeat first|apply wg|refine ss rfl ?_|apply nl
   refine L.elst hF.row hro (by show 0 + nd ≤ cs1.length; have := hF.len; omega) (k := m - 8) (by rw [wrap64 (by omega) (by omega)]; omega) (by omega) rfl rfl rfl rfl (fun _ => rfl) (fun _ => rfl) rfl rfl rfl (fun _ => ?_)
   replace hF := hF.put (q := m - 8) (x := k3 / 10) (by omega) (by omega) hlen hst (by omega) (by rw [g8])
   generalize List.set T1 b _ = T2 at *
   generalize cs1.set (m - 8) _ = cs2 at *
   clear cs cs1
   obtain ⟨cs, hcs⟩ : ∃ cs, cs = cs2 := ⟨_, rfl⟩
   rw [← hcs] at hF
   clear hcs cs2
   obtain ⟨T, hT⟩ : ∃ T, T = T2 := ⟨_, rfl⟩
   rw [← hT] at hF ⊢
   clear hT T2 T1
   repeat first|apply wg|refine ss rfl ?_|apply nl
   exact ⟨m - 8, by omega, m - 8, w / 100000000, cs, rfl, by omega, hw2, rfl, rfl, (force_eq rfl).trans (congrArg (Value.int .i64) (by rw [wrap64 (by omega) (by omega)]; omega)), hF⟩
  ·have hm8 : m < 8 := by have := of_decide_eq_false h; omega
   clear h
   repeat first|apply wg|refine ss rfl ?_|apply nl
   exact ⟨rfl, m, w, cs, hm8, hm, hw, rfl, rfl, rfl, hF⟩
 rintro _ e T ⟨rfl, m, w, cs, hm8, hm, hw, e0, e1, e4, hF⟩
 refine W.env3 e0 e1 e4 ?_
 have hwm : ∀ m, m ≤ nd → u / 10 ^ (nd - m) < 10 ^ m := fun m hm => by
  refine Nat.div_lt_of_lt_mul ?_
  rw [← Nat.pow_add, Nat.sub_add_cancel hm]; exact hu2
 have hwl : w < 100000000 := by
  have h1 := hwm m hm
  rw [← hw] at h1
  have h2 : 10 ^ m ≤ 10 ^ 8 := Nat.pow_le_pow_right (by decide) (by omega)
  have e : (10 : Nat) ^ 8 = 100000000 := by decide
  omega
 have w0 : IntKind.u32.wrap (w : Int) = (w : Int) := w32 (by omega)
 repeat first|apply wg|refine ss rfl ?_|apply nl
 rw [w0]
 refine W.mono (R := fun x e T => x = .nrm ∧ ∃ (m w : Nat) (cs : List Value), m < 4 ∧ m ≤ nd ∧ w = u / 10 ^ (nd - m) ∧ e 0 = .slice (some ⟨b, 0, none⟩) nd c ∧ e 12 = .int .u32 (w : Int) ∧ e 4 = vi m ∧ FbS b nd u r S T m cs) ?_ ?_
 ·refine W.ite rfl (fun h => ?_) (fun h => ?_)
  ·have hm4 : 4 ≤ m := by have := of_decide_eq_true h; omega
   clear h
   obtain ⟨lo, hlo⟩ : ∃ lo, lo = w % 10000 := ⟨_, rfl⟩
   obtain ⟨k0, hk0⟩ : ∃ k, k = lo % 100 := ⟨_, rfl⟩
   obtain ⟨k1, hk1⟩ : ∃ k, k = lo / 100 := ⟨_, rfl⟩
   have w1 : Int.tmod (w : Int) 10000 = (lo : Int) := by rw [show Int.tmod (w : Int) 10000 = ((w % 10000 : Nat) : Int) from tmn w 10000, ← hlo]
   have w2 : IntKind.u32.wrap (Int.tdiv (w : Int) 10000) = ((w / 10000 : Nat) : Int) := by rw [show Int.tdiv (w : Int) 10000 = ((w / 10000 : Nat) : Int) from tdn w 10000, w32 (by omega)]
   have w5 : IntKind.u32.wrap (IntKind.u32.wrap (Int.tdiv (lo : Int) 100) * 2) = ((2 * k1 : Nat) : Int) := by
    rw [show Int.tdiv (lo : Int) 100 = ((lo / 100 : Nat) : Int) from tdn lo 100, ← hk1, w32 (by omega), show ((k1 : Int) * 2) = ((2 * k1 : Nat) : Int) by omega, w32 (by omega)]
   have w6 : IntKind.u32.wrap (Int.tmod (lo : Int) 100 * 2) = ((2 * k0 : Nat) : Int) := by
    rw [show Int.tmod (lo : Int) 100 = ((lo % 100 : Nat) : Int) from tmn lo 100, ← hk0, show ((k0 : Int) * 2) = ((2 * k0 : Nat) : Int) by omega, w32 (by omega)]
   have g1 : u / 10 ^ (nd - 1 - (m - 1)) % 10 = k0 % 10 := by rw [dig_at hm (by omega) (by omega), ← hw]; show w / 1 % 10 = _; omega
   have g2 : u / 10 ^ (nd - 1 - (m - 2)) % 10 = k0 / 10 := by rw [dig_at hm (by omega) (by omega), ← hw]; show w / 10 % 10 = _; omega
   have g3 : u / 10 ^ (nd - 1 - (m - 3)) % 10 = k1 % 10 := by rw [dig_at hm (by omega) (by omega), ← hw]; show w / 100 % 10 = _; omega
   have g4 : u / 10 ^ (nd - 1 - (m - 4)) % 10 = k1 / 10 := by rw [dig_at hm (by omega) (by omega), ← hw]; show w / 1000 % 10 = _; omega
   have b0 : k0 < 100 := by omega
   have b1 : k1 < 100 := by omega
   have hw2 : w / 10000 = u / 10 ^ (nd - (m - 4)) := by rw [hw, Nat.div_div_eq_div_mul, show 10000 = 10 ^ 4 by decide, ← Nat.pow_add]; congr 2; omega
   clear hk0 hk1 hlo
   repeat first|apply wg|refine ss rfl ?_|apply nl
   rw [w1, w2, w5, w6]
   refine L.sx (s := SM) (i := 2 * k0 + 1) rfl ((force_eq rfl).trans (congrArg (Value.int .u32) (wone (by omega)))) (sm_tab (k := k0) (by omega)).2 rfl rfl ?_
   rw [dval (k0 % 10) (by omega)]
   repeat first|apply wg|refine ss rfl ?_|apply nl
   refine L.sx (s := SM) (i := 2 * k0) rfl rfl (sm_tab (k := k0) (by omega)).1 rfl rfl ?_
   rw [dval (k0 / 10) (by omega)]
   repeat first|apply wg|refine ss rfl ?_|apply nl
   refine L.elst hF.row hro (by show 0 + nd ≤ cs.length; have := hF.len; omega) (k := m - 1) (by rw [wrap64 (by omega) (by omega)]; omega) (by omega) rfl rfl rfl rfl (fun _ => rfl) (fun _ => rfl) rfl rfl rfl (fun _ => ?_)
   replace hF := hF.put (q := m - 1) (x := k0 % 10) (by omega) (by omega) hlen hst (by omega) (by rw [g1])
   generalize List.set T b _ = T1 at *
   generalize cs.set (m - 1) _ = cs1 at *
   repeat first|apply wg|refine ss rfl ?_|apply nl
   refine L.elst hF.row hro (by show 0 + nd ≤ cs1.length; have := hF.len; omega) (k := m - 2) (by rw [wrap64 (by omega) (by omega)]; omega) (by omega) rfl rfl rfl rfl (fun _ => rfl) (fun _ => rfl) rfl rfl rfl (fun _ => ?_)
   replace hF := hF.put (q := m - 2) (x := k0 / 10) (by omega) (by omega) hlen hst (by omega) (by rw [g2])
   generalize List.set T1 b _ = T2 at *
   generalize cs1.set (m - 2) _ = cs2 at *
   clear cs cs1
   obtain ⟨cs, hcs⟩ : ∃ cs, cs = cs2 := ⟨_, rfl⟩
   rw [← hcs] at hF
   clear hcs cs2
   obtain ⟨T, hT⟩ : ∃ T, T = T2 := ⟨_, rfl⟩
   rw [← hT] at hF ⊢
   clear hT T2 T1
   repeat first|apply wg|refine ss rfl ?_|apply nl
   refine L.sx (s := SM) (i := 2 * k1 + 1) rfl ((force_eq rfl).trans (congrArg (Value.int .u32) (wone (by omega)))) (sm_tab (k := k1) (by omega)).2 rfl rfl ?_
   rw [dval (k1 % 10) (by omega)]
   repeat first|apply wg|refine ss rfl ?_|apply nl
   refine L.sx (s := SM) (i := 2 * k1) rfl rfl (sm_tab (k := k1) (by omega)).1 rfl rfl ?_
   rw [dval (k1 / 10) (by omega)]
   repeat first|apply wg|refine ss rfl ?_|apply nl
   refine L.elst hF.row hro (by show 0 + nd ≤ cs.length; have := hF.len; omega) (k := m - 3) (by rw [wrap64 (by omega) (by omega)]; omega) (by omega) rfl rfl rfl rfl (fun _ => rfl) (fun _ => rfl) rfl rfl rfl (fun _ => ?_)
   replace hF := hF.put (q := m - 3) (x := k1 % 10) (by omega) (by omega) hlen hst (by omega) (by rw [g3])
   generalize List.set T b _ = T1 at *
   generalize cs.set (m - 3) _ = cs1 at *
   repeat first|apply wg|refine ss rfl ?_|apply nl
   refine L.elst hF.row hro (by show 0 + nd ≤ cs1.length; have := hF.len; omega) (k := m - 4) (by rw [wrap64 (by omega) (by omega)]; omega) (by omega) rfl rfl rfl rfl (fun _ => rfl) (fun _ => rfl) rfl rfl rfl (fun _ => ?_)
   replace hF := hF.put (q := m - 4) (x := k1 / 10) (by omega) (by omega) hlen hst (by omega) (by rw [g4])
   generalize List.set T1 b _ = T2 at *
   generalize cs1.set (m - 4) _ = cs2 at *
   clear cs cs1
   obtain ⟨cs, hcs⟩ : ∃ cs, cs = cs2 := ⟨_, rfl⟩
   rw [← hcs] at hF
   clear hcs cs2
   obtain ⟨T, hT⟩ : ∃ T, T = T2 := ⟨_, rfl⟩
   rw [← hT] at hF ⊢
   clear hT T2 T1
   repeat first|apply wg|refine ss rfl ?_|apply nl
   exact ⟨rfl, m - 4, w / 10000, cs, by omega, by omega, hw2, rfl, rfl, (force_eq rfl).trans (congrArg (Value.int .i64) (by rw [wrap64 (by omega) (by omega)]; omega)), hF⟩
  ·have hm4 : m < 4 := by have := of_decide_eq_false h; omega
   clear h
   repeat first|apply wg|refine ss rfl ?_|apply nl
   exact ⟨rfl, m, w, cs, hm4, hm, hw, rfl, rfl, rfl, hF⟩
 clear hF e0 e1 e4 hwl hw hm hm8 w0
 clear cs w m T
 rintro _ e' T ⟨rfl, m, w, cs, hm4, hm, hw, e0, e12, e4, hF⟩
 refine W.env3 e0 e12 e4 ?_
 have hwl : w < 10000 := by
  have h1 := hwm m hm
  rw [← hw] at h1
  have h2 : 10 ^ m ≤ 10 ^ 3 := Nat.pow_le_pow_right (by decide) (by omega)
  have e : (10 : Nat) ^ 3 = 1000 := by decide
  omega
 repeat first|apply wg|refine ss rfl ?_|apply nl
 refine W.mono (R := fun x e T => x = .nrm ∧ ∃ (m w : Nat) (cs : List Value), m < 2 ∧ m ≤ nd ∧ w = u / 10 ^ (nd - m) ∧ e 0 = .slice (some ⟨b, 0, none⟩) nd c ∧ e 12 = .int .u32 (w : Int) ∧ e 4 = vi m ∧ FbS b nd u r S T m cs) ?_ ?_
 ·refine W.ite rfl (fun h => ?_) (fun h => ?_)
  ·have hm2 : 2 ≤ m := by have := of_decide_eq_true h; omega
   clear h
   obtain ⟨k0, hk0⟩ : ∃ k, k = w % 100 := ⟨_, rfl⟩
   have w2 : IntKind.u32.wrap (Int.tdiv (w : Int) 100) = ((w / 100 : Nat) : Int) := by rw [show Int.tdiv (w : Int) 100 = ((w / 100 : Nat) : Int) from tdn w 100, w32 (by omega)]
   have w6 : IntKind.u32.wrap (Int.tmod (w : Int) 100 * 2) = ((2 * k0 : Nat) : Int) := by
    rw [show Int.tmod (w : Int) 100 = ((w % 100 : Nat) : Int) from tmn w 100, ← hk0, show ((k0 : Int) * 2) = ((2 * k0 : Nat) : Int) by omega, w32 (by omega)]
   have g1 : u / 10 ^ (nd - 1 - (m - 1)) % 10 = k0 % 10 := by rw [dig_at hm (by omega) (by omega), ← hw]; show w / 1 % 10 = _; omega
   have g2 : u / 10 ^ (nd - 1 - (m - 2)) % 10 = k0 / 10 := by rw [dig_at hm (by omega) (by omega), ← hw]; show w / 10 % 10 = _; omega
   have b0 : k0 < 100 := by omega
   have hw2 : w / 100 = u / 10 ^ (nd - (m - 2)) := by rw [hw, Nat.div_div_eq_div_mul, show 100 = 10 ^ 2 by decide, ← Nat.pow_add]; congr 2; omega
   clear hk0
   repeat first|apply wg|refine ss rfl ?_|apply nl
   rw [w2, w6]
   refine L.sx (s := SM) (i := 2 * k0 + 1) rfl ((force_eq rfl).trans (congrArg (Value.int .u32) (wone (by omega)))) (sm_tab (k := k0) (by omega)).2 rfl rfl ?_
   rw [dval (k0 % 10) (by omega)]
   repeat first|apply wg|refine ss rfl ?_|apply nl
   refine L.sx (s := SM) (i := 2 * k0) rfl rfl (sm_tab (k := k0) (by omega)).1 rfl rfl ?_
   rw [dval (k0 / 10) (by omega)]
   repeat first|apply wg|refine ss rfl ?_|apply nl
   refine L.elst hF.row hro (by show 0 + nd ≤ cs.length; have := hF.len; omega) (k := m - 1) (by rw [wrap64 (by omega) (by omega)]; omega) (by omega) rfl rfl rfl rfl (fun _ => rfl) (fun _ => rfl) rfl rfl rfl (fun _ => ?_)
   replace hF := hF.put (q := m - 1) (x := k0 % 10) (by omega) (by omega) hlen hst (by omega) (by rw [g1])
   generalize List.set T b _ = T1 at *
   generalize cs.set (m - 1) _ = cs1 at *
   repeat first|apply wg|refine ss rfl ?_|apply nl
   refine L.elst hF.row hro (by show 0 + nd ≤ cs1.length; have := hF.len; omega) (k := m - 2) (by rw [wrap64 (by omega) (by omega)]; omega) (by omega) rfl rfl rfl rfl (fun _ => rfl) (fun _ => rfl) rfl rfl rfl (fun _ => ?_)
   replace hF := hF.put (q := m - 2) (x := k0 / 10) (by omega) (by omega) hlen hst (by omega) (by rw [g2])
   generalize List.set T1 b _ = T2 at *
   generalize cs1.set (m - 2) _ = cs2 at *
   clear cs cs1
   obtain ⟨cs, hcs⟩ : ∃ cs, cs = cs2 := ⟨_, rfl⟩
   rw [← hcs] at hF
   clear hcs cs2
   obtain ⟨T, hT⟩ : ∃ T, T = T2 := ⟨_, rfl⟩
   rw [← hT] at hF ⊢
   clear hT T2 T1
   repeat first|apply wg|refine ss rfl ?_|apply nl
   exact ⟨rfl, m - 2, w / 100, cs, by omega, by omega, hw2, rfl, rfl, (force_eq rfl).trans (congrArg (Value.int .i64) (by rw [wrap64 (by omega) (by omega)]; omega)), hF⟩
  ·have hm2 : m < 2 := by have := of_decide_eq_false h; omega
   clear h
   repeat first|apply wg|refine ss rfl ?_|apply nl
   exact ⟨rfl, m, w, cs, hm2, hm, hw, rfl, rfl, rfl, hF⟩
 clear hF e0 e12 e4 hwl hw hm hm4
 clear cs w m T
 rintro _ e'' T ⟨rfl, m, w, cs, hm2, hm, hw, e0, e12, e4, hF⟩
 refine W.env3 e0 e12 e4 ?_
 have hwl : w < 10 := by
  have h1 := hwm m hm
  rw [← hw] at h1
  have h2 : 10 ^ m ≤ 10 ^ 1 := Nat.pow_le_pow_right (by decide) (by omega)
  have e : (10 : Nat) ^ 1 = 10 := by decide
  omega
 have fin : ∀ T cs, FbS b nd u r S T 0 cs → Keep b S T ∧ ∃ cs, T.row? b = some { r with cells := cs } ∧ cs.length = r.cells.length ∧ cs.take nd = bv (pad nd u) := fun T cs h => by
  refine ⟨h.keep, cs, h.row, h.len, List.ext_getElem? fun p => ?_⟩
  rw [List.getElem?_take]
  split
  ·rename_i hp; exact h.dig p (by omega) hp
  ·rw [List.getElem?_eq_none (by rw [bv_len, pad_len]; omega)]
 repeat first|apply wg|refine ss rfl ?_|apply nl
 refine W.ite rfl (fun h => ?_) (fun h => ?_)
 ·have hm1 : m = 1 := by have := of_decide_eq_true h; omega
  subst hm1
  clear h
  have w1 : IntKind.u8.wrap (IntKind.u32.wrap (48 + (w : Int))) = ((48 + w : Nat) : Int) := by
   rw [show (48 + (w : Int)) = ((48 + w : Nat) : Int) by omega, w32 (by omega), wrapU8 (by omega) (by omega)]
  have hv : Value.int .u8 ((48 + w : Nat) : Int) = v8 (BitVec.ofNat 8 (48 + w)) := by
   show _ = Value.int .u8 ((BitVec.ofNat 8 (48 + w)).toNat : Int)
   rw [BitVec.toNat_ofNat, Nat.mod_eq_of_lt (by omega)]
  repeat first|apply wg|refine ss rfl ?_|apply nl
  rw [w1, hv]
  refine L.elst hF.row hro (by show 0 + nd ≤ cs.length; have := hF.len; omega) (k := 0) rfl (by omega) rfl rfl rfl rfl (fun _ => rfl) (fun _ => rfl) rfl rfl rfl (fun _ => ?_)
  replace hF := hF.put (q := 0) (x := w) rfl (by omega) hlen hst hwl (by rw [Nat.sub_zero, ← hw]; omega)
  repeat first|apply wg|refine ss rfl ?_|apply nl
  exact ⟨.inl rfl, _, rfl, fin _ _ hF⟩
 ·have hm0 : m = 0 := by have := of_decide_eq_false h; omega
  subst hm0
  clear h
  repeat first|apply wg|refine ss rfl ?_|apply nl
  exact ⟨.inl rfl, _, rfl, fin _ _ hF⟩
end Go.Proofs.YtbiigbicgfchiaaGreatDoor

/- Texts: a word in decimal, whole. Conditions: the powers of ten lie in memory. -/
namespace Go.Proofs.YtbiigbicgfchiaaGreatDoor
open Go Ie
section
variable {P : Program} {G : Nat} {Ext : FuncId → List Value → Mem → Outc → Mem → Prop} {e : Env} {S : Mem} {fl : Bool} {ops : Array Oper} {K : Kont}
variable {rest : List Oper} {dst : Option Tmp} {ty : TypeId} {pos : String} {af : Array Edge} {gd : Option (Nat × Bool)}
theorem L.btw {t : TypeId} {x lo hi : Operand} {l : BL} {k k' : IntKind} {i j : Nat} (hx : e.eval x = .string (strB l)) (hlo : e.eval lo = .int k (i : Int)) (hhi : e.eval hi = .int k' (j : Int)) (hij : i ≤ j) (hb : j ≤ l.length) (hu : P.underlying t = some .string)
  (hw : awanted ops ⟨dst, .slice t x (some lo) (some hi) none, ty, pos, af, gd⟩ e = true) (h : L P G Ext fl ops rest (e.put dst (.string (strB ((l.take j).drop i)))) S K) : L P G Ext fl ops (⟨dst, .slice t x (some lo) (some hi) none, ty, pos, af, gd⟩ :: rest) e S K := by
 refine L.flat (by simp [Op.operands, hx, hlo, hhi]; exact ⟨rfl, rfl, rfl⟩) rfl nofun ?_ hw h
 have h0 : (0 : Int) ≤ (j : Int) ∧ (j : Int) ≤ (l.length : Nat) := by omega
 have h1 : (0 : Int) ≤ (i : Int) ∧ (i : Int) ≤ (j : Nat) := by omega
 have hb : pureRun P (Instr.sliceAt t (.string (strB l)) (some (.int k (i : Int))) (some (.int k' (j : Int))) none) = some (.string (strB ((l.take j).drop i))) := by
  unfold Instr.sliceAt
  rw [pureRun_bind, pureRun_underlying hu]
  show pureRun P (Instr.slice t (.string (strB l)) (some (.int k (i : Int))) (some (.int k' (j : Int))) none) = _
  unfold Instr.slice
  rw [pureRun_bind, pureRun_underlying hu]
  show pureRun P (Instr.sliceBounds false (strB l).size (strB l).size (some (.int k (i : Int))) (some (.int k' (j : Int))) none >>= fun (l', h, _) => Pure.pure (Value.string ((strB l).extract l' h))) = _
  rw [pureRun_bind]
  have hs : pureRun P (Instr.sliceBounds false (strB l).size (strB l).size (some (.int k (i : Int))) (some (.int k' (j : Int))) none) = some (i, j, (strB l).size) := by
   unfold Instr.sliceBounds
   simp [pureRun_bind, Instr.sliceBound, asIntOf, h0, h1, strB_size]
   rw [if_pos hb]
   simp [pureRun_bind, h1, hij]
   try rfl
  rw [hs]
  show some (Value.string ((strB l).extract _ _)) = _
  rw [strB_part]
 simp only [execOp, hx, hlo, hhi, Option.map_some, Option.map_none, pureRun_bind, hb]
 rfl
theorem L.text2 {s d : TypeId} {x : Operand} {l : BL} {el : TypeId} {b n c : Nat} {r : Row} (hx : e.eval x = .slice (some ⟨b, 0, none⟩) n c) (hr : S.row? b = some r) (hro : r.ro = none) (hn : l.length = n) (hl : n ≤ r.cells.length) (ht : r.cells.take n = bv l) (hs : P.underlying s = some (.slice el)) (hd : P.underlying d = some .string) (hel : isBytes P el = true)
  (hw : awanted ops ⟨dst, .convert s d x, ty, pos, af, gd⟩ e = true)
  (k : L P G Ext fl ops rest (e.put dst (.string (strB l))) S K) : L P G Ext fl ops (⟨dst, .convert s d x, ty, pos, af, gd⟩ :: rest) e S K := by
 have hc : S.cellsAt ⟨b, 0, none⟩ n = some (bv l) := by
  unfold Mem.cellsAt
  simp only [hr]
  rw [if_pos ⟨trivial, by omega, .inl hro⟩, List.drop_zero, ht]
 refine L.load hw ?_ k
 unfold aload
 dsimp only
 rw [hx, hs, hd]
 simp only [hel, if_true, hc, Option.bind_some, bytesOf_bv, Option.map_some]
 rfl
end
variable {Ext : FuncId → List Value → Mem → Outc → Mem → Prop}
def powT : List Value := (List.range 20).map fun i => .int .u64 ((10 ^ i : Nat) : Int)
def PowOk (S : Mem) : Prop := RowIs S 5 powT
theorem PowOk.cons {S T : Mem} (h : PowOk S) (k : Cons S T) : PowOk T := RowIs.cons h k
theorem dig_tab {b : Nat} (h : b ≤ 64) (h1 : 1 ≤ b) : b * 78913 / 262144 ≤ 19 ∧ (b * 78913 / 262144 = 0 ∨ 10 ^ (b * 78913 / 262144 - 1) ≤ 2 ^ (b - 1)) ∧ 2 ^ b ≤ 10 ^ (b * 78913 / 262144 + 1) := by
 have : ∀ i : Fin 65, 1 ≤ i.val → i.val * 78913 / 262144 ≤ 19 ∧ (i.val * 78913 / 262144 = 0 ∨ 10 ^ (i.val * 78913 / 262144 - 1) ≤ 2 ^ (i.val - 1)) ∧ 2 ^ i.val ≤ 10 ^ (i.val * 78913 / 262144 + 1) := by decide +kernel
 exact this ⟨b, by omega⟩ h1
theorem dec_len {n k : Nat} (h1 : n < 10 ^ (k + 1)) (h2 : k = 0 ∨ 10 ^ k ≤ n) : (dec n).length = k + 1 := by rw [dec_pad h1 h2, pad_len]
theorem bool2_C (b : Bool) (S : Mem) : C Tryz.prog gN Ext 182 [.bool b] S fun v S' => v = vi (if b then 1 else 0) ∧ S' = S := by
 refine C.fn Tryz.func182 rfl (by kernel_rfl) rfl ?_
 repeat first|apply wg|refine ss rfl ?_|apply nl
 refine W.ite rfl (fun h => ?_) (fun h => ?_)
 ·subst h
  repeat first|apply wg|refine ss rfl ?_|apply nl
  exact ⟨.inr rfl, _, rfl, rfl, rfl⟩
 ·subst h
  repeat first|apply wg|refine ss rfl ?_|apply nl
  exact ⟨.inr rfl, _, rfl, rfl, rfl⟩
theorem log10_C (n : Nat) (hn : n ≤ 64) (S : Mem) : C Tryz.prog gN Ext 181 [vi n] S fun v S' => v = vi (n * 78913 / 262144) ∧ S' = S := by
 refine C.fn Tryz.func181 rfl (by kernel_rfl) rfl ?_
 repeat first|apply wg|refine ss rfl ?_|apply nl
 refine ⟨.inr rfl, _, rfl, (force_eq rfl).trans (congrArg (Value.int .i64) ?_), rfl⟩
 rw [wrap64 (by omega) (by omega), show ((n : Int) * 78913) = ((n * 78913 : Nat) : Int) by omega]
 exact fdivn (n * 78913) 18
theorem numDigits_C (u : Nat) (h0 : 0 < u) (hu : u < 18446744073709551616) (S : Mem) (hP : PowOk S) : C Tryz.prog gN Ext 160 [.int .u64 (u : Int)] S fun v S' => v = vi (dec u).length ∧ S' = S := by
 have hb64 : blen u ≤ 64 := blen_le.2 hu
 have hb0 : 1 ≤ blen u := by unfold blen; rw [if_neg (by omega)]; omega
 have hlt : u < 2 ^ blen u := blen_le.1 (Nat.le_refl _)
 have hge : 2 ^ (blen u - 1) ≤ u := by
  refine Classical.byContradiction fun hc => ?_
  have := blen_le.2 (show u < 2 ^ (blen u - 1) by omega)
  omega
 obtain ⟨t1, t2, t3⟩ := dig_tab hb64 hb0
 obtain ⟨k, hk⟩ : ∃ k, k = blen u * 78913 / 262144 := ⟨_, rfl⟩
 rw [← hk] at t1 t2 t3
 refine C.fn Tryz.func160 rfl (by kernel_rfl) rfl ?_
 repeat first|apply wg|refine ss rfl ?_|apply nl
 refine L.cl (len64_C u hu S) rfl rfl ?_
 rintro _ _ ⟨rfl, rfl⟩
 refine ⟨nofun, ?_⟩
 rename Mem => S
 repeat first|apply wg|refine ss rfl ?_|apply nl
 refine L.cl (log10_C (blen u) hb64 S) rfl rfl ?_
 rintro _ _ ⟨rfl, rfl⟩
 refine ⟨nofun, ?_⟩
 rename Mem => S
 rw [← hk]
 obtain ⟨r, hr, hrw⟩ := RowIs.cell hP (k := k) (v := .int .u64 ((10 ^ k : Nat) : Int)) (by unfold powT; rw [List.getElem?_map, List.getElem?_range (by omega)]; rfl)
 repeat first|apply wg|refine ss rfl ?_|apply nl
 refine L.elA (r := r) (k := k) (o := 0) hr (by rw [Nat.zero_add]; exact hrw) rfl (show k < 20 by omega) rfl rfl rfl rfl (fun _ => rfl) rfl (fun p => ?_) (.inr rfl)
 repeat first|apply wg|refine ss rfl ?_|apply nl
 refine L.cl (bool2_C (decide ((u : Int) ≥ ((10 ^ k : Nat) : Int))) S) rfl rfl ?_
 rintro _ _ ⟨rfl, rfl⟩
 refine ⟨nofun, ?_⟩
 rename Mem => S
 repeat first|apply wg|refine ss rfl ?_|apply nl
 refine ⟨.inr rfl, _, rfl, (force_eq rfl).trans (congrArg (Value.int .i64) ?_), rfl⟩
 by_cases hc : 10 ^ k ≤ u
 ·rw [decide_eq_true (by omega), if_pos rfl, wrap64 (by omega) (by omega), dec_len (k := k) (by omega) (.inr hc)]
  rfl
 ·rw [decide_eq_false (by omega), if_neg (by decide), wrap64 (by omega) (by omega)]
  have hk0 : k ≠ 0 := by intro e; subst e; simp at hc; omega
  obtain ⟨j, rfl⟩ : ∃ j, k = j + 1 := ⟨k - 1, by omega⟩
  have h5 : 10 ^ j ≤ u := by
   rcases t2 with t2 | t2
   ·omega
   ·rw [Nat.add_sub_cancel] at t2; omega
  rw [dec_len (k := j) (by omega) (.inr h5)]
  show ((j + 1 : Nat) : Int) + ((0 : Nat) : Int) = ((j + 1 : Nat) : Int)
  omega
def SMl : BL := (List.range 100).flatMap fun k => pad 2 k
def DGl : BL := ((List.range 10).map fun k => BitVec.ofNat 8 (48 + k)) ++ ((List.range 26).map fun k => BitVec.ofNat 8 (97 + k))
theorem sml_part {i : Nat} (h : i < 100) (h2 : 10 ≤ i) : ((SMl.take (2 * i + 2)).drop (2 * i)) = dec i := by
 have : ∀ i : Fin 100, 10 ≤ i.val → ((SMl.take (2 * i.val + 2)).drop (2 * i.val)) = pad 2 i.val := by decide +kernel
 rw [this ⟨i, h⟩ h2]
 exact (dec_pad (k := 1) (by omega) (.inr (by omega))).symm
theorem dgl_part {i : Nat} (h : i < 10) : ((DGl.take (i + 1)).drop i) = dec i := by
 have : ∀ i : Fin 10, ((DGl.take (i.val + 1)).drop i.val) = [digB i.val] := by decide +kernel
 rw [this ⟨i, h⟩, dec_small h]
theorem small_C (i : Nat) (h : i < 100) (S : Mem) : C Tryz.prog gN Ext 159 [vi i] S fun v S' => v = .string (strB (dec i)) ∧ S' = S := by
 refine C.fn Tryz.func159 rfl (by kernel_rfl) rfl ?_
 repeat first|apply wg|refine ss rfl ?_|apply nl
 refine W.ite rfl (fun h => ?_) (fun h => ?_)
 ·have hi : i < 10 := by have := of_decide_eq_true h; omega
  clear h
  repeat first|apply wg|refine ss rfl ?_|apply nl
  refine L.btw (l := DGl) (i := i) (j := i + 1) rfl rfl ((force_eq rfl).trans (congrArg (Value.int .i64) (wrap64 (by omega) (by omega)))) (by omega) (by show _ ≤ 36; omega) rfl rfl ?_
  rw [dgl_part hi]
  repeat first|apply wg|refine ss rfl ?_|apply nl
  exact ⟨.inr rfl, _, rfl, rfl, rfl⟩
 ·have hi : 10 ≤ i := by have := of_decide_eq_false h; omega
  clear h
  rename i < 100 => h
  have hw : IntKind.i64.wrap ((i : Int) * 2) = ((2 * i : Nat) : Int) := by rw [wrap64 (by omega) (by omega)]; omega
  repeat first|apply wg|refine ss rfl ?_|apply nl
  rw [hw]
  refine L.btw (l := SMl) (i := 2 * i) (j := 2 * i + 2) rfl rfl ((force_eq rfl).trans (congrArg (Value.int .i64) (wrap64 (by omega) (by omega)))) (by omega) (by show _ ≤ 200; omega) rfl rfl ?_
  rw [sml_part h hi]
  repeat first|apply wg|refine ss rfl ?_|apply nl
  exact ⟨.inr rfl, _, rfl, rfl, rfl⟩
theorem formatUint0_C (u : Nat) (hu : u < 18446744073709551616) (S : Mem) (hP : PowOk S) : C Tryz.prog gN Ext 135 [.int .u64 (u : Int), vi 10] S fun v S' => v = .string (strB (dec u)) ∧ Cons S S' := by
 refine C.fn Tryz.func135 rfl (by kernel_rfl) rfl ?_
 repeat first|apply wg|refine ss rfl ?_|apply nl
 refine W.condT rfl ?_
 repeat first|apply wg|refine ss rfl ?_|apply nl
 refine W.ite rfl (fun h => ?_) (fun h => ?_)
 ·have hs : u < 100 := by have := of_decide_eq_true h; omega
  clear h
  repeat first|apply wg|refine ss rfl ?_|apply nl
  refine L.cl (small_C u hs S) rfl ((show acall _ _ = some (_, [.int .i64 (IntKind.i64.wrap (u : Int))]) from rfl).trans (by rw [wrap64 (by omega) (by omega)])) ?_
  rintro _ _ ⟨rfl, rfl⟩
  refine ⟨nofun, ?_⟩
  repeat first|apply wg|refine ss rfl ?_|apply nl
  exact ⟨.inr rfl, _, rfl, rfl, Cons.refl _⟩
 have hb : 100 ≤ u := by have := of_decide_eq_false h; omega
 clear h
 obtain ⟨k, k1, k2, k3, k4⟩ := dec_of_len (n := u)
 have hnd : (dec u).length ≤ 20 := by
  rw [k1]
  rcases k3 with rfl | k3
  ·omega
  ·refine Classical.byContradiction fun hc => ?_
   have : 10 ^ 20 ≤ 10 ^ k := Nat.pow_le_pow_right (by decide) (by omega)
   omega
 have hu2 : u < 10 ^ (dec u).length := by rw [k1]; exact k2
 have hdp : pad (dec u).length u = dec u := by rw [k1, k4]
 repeat first|apply wg|refine ss rfl ?_|apply nl
 refine L.eff (v := .pointer (some ⟨S.length, 0, none⟩)) (S1 := S ++ [newR (List.replicate 24 (v8 0#8)) 146]) rfl rfl ?_
 have hr : Mem.row? (S ++ [newR (List.replicate 24 (v8 0#8)) 146]) S.length = some (newR (List.replicate 24 (v8 0#8)) 146) := row_push_new rfl
 have hc := Cons.push S (newR (List.replicate 24 (v8 0#8)) 146)
 generalize S ++ [newR (List.replicate 24 (v8 0#8)) 146] = T at *
 obtain ⟨b, hb0⟩ : ∃ b, b = S.length := ⟨_, rfl⟩
 rw [← hb0] at hr ⊢
 repeat first|apply wg|refine ss rfl ?_|apply nl
 refine L.cl (numDigits_C u (by omega) hu T (hP.cons hc)) rfl rfl ?_
 rintro _ _ ⟨rfl, rfl⟩
 refine ⟨nofun, ?_⟩
 rename Mem => T
 repeat first|apply wg|refine ss rfl ?_|apply nl
 have hsl : aslice 1 (some ⟨b, 0, none⟩) 24 24 none (some (vi (dec u).length)) none = some (.slice (some ⟨b, 0, none⟩) (dec u).length 24) := aslice_to (a := some ⟨b, 0, none⟩) (n := 24) (c := 24) (h := (dec u).length) (kd := .i64) rfl (by show _ ≤ 24; omega) nofun
 refine L.is (.slice (some ⟨b, 0, none⟩) (dec u).length 24) ((slice_arr (n := 24) rfl rfl rfl (by decide)).trans hsl) rfl ?_
 repeat first|apply wg|refine ss rfl ?_|apply nl
 refine L.cl (fb10_C b (dec u).length 24 u _ T hr rfl (by show _ ≤ (List.replicate 24 (v8 0#8)).length; rw [List.length_replicate]; omega) hnd hu hu2) rfl rfl ?_
 rintro _ T2 ⟨hk, cs, hr2, hcl, hct⟩
 refine ⟨nofun, ?_⟩
 rw [hdp] at hct
 have hk2 : Cons S T2 := hk.mono hc (by omega)
 repeat first|apply wg|refine ss rfl ?_|apply nl
 refine L.is (.slice (some ⟨b, 0, none⟩) (dec u).length 24) ((slice_arr (n := 24) rfl rfl rfl (by decide)).trans hsl) rfl ?_
 repeat first|apply wg|refine ss rfl ?_|apply nl
 refine L.text2 (l := dec u) rfl hr2 rfl rfl (by show _ ≤ cs.length; rw [hcl]; show _ ≤ (List.replicate 24 (v8 0#8)).length; rw [List.length_replicate]; omega) hct rfl rfl rfl rfl ?_
 repeat first|apply wg|refine ss rfl ?_|apply nl
 exact ⟨.inr rfl, _, rfl, rfl, hk2⟩
theorem formatUint_C (u : Nat) (hu : u < 18446744073709551616) (S : Mem) (hP : PowOk S) : C Tryz.prog gN Ext 115 [.int .u64 (u : Int), vi 10] S fun v S' => v = .string (strB (dec u)) ∧ Cons S S' := by
 refine C.fn Tryz.func115 rfl (by kernel_rfl) rfl ?_
 repeat first|apply wg|refine ss rfl ?_|apply nl
 refine L.cv (formatUint0_C u hu S hP) rfl rfl fun S2 hk => ?_
 repeat first|apply wg|refine ss rfl ?_|apply nl
 exact ⟨.inr rfl, _, rfl, rfl, hk⟩
end Go.Proofs.YtbiigbicgfchiaaGreatDoor

/- Layer 1: a number's text. Conditions: the powers of ten lie in memory. -/
set_option exponentiation.threshold 20000
namespace Go.Proofs.YtbiigbicgfchiaaGreatDoor
open Go Ie
variable {Ext : FuncId → List Value → Mem → Outc → Mem → Prop}
def textL (l : WL) : BL := if small l then dec (wnum l) else []
def textE (l : WL) : Int := if small l then 0 else 3
theorem short_step {N ten rest j : Nat} {f : WL} {x q : BitVec 64} (hx : f[j]? = some x) (hq : q.toNat = (rest * 18446744073709551616 + x.toNat) / ten)
  (h : N = ten * (2 ^ (64 * (j + 1)) * wnum (f.drop (j + 1))) + rest * 2 ^ (64 * (j + 1)) + wnum (f.take (j + 1))) :
  N = ten * (2 ^ (64 * j) * wnum ((f.set j q).drop j)) + (rest * 18446744073709551616 + x.toNat) % ten * 2 ^ (64 * j) + wnum ((f.set j q).take j) := by
 have hlt := (List.getElem?_eq_some_iff.1 hx).1
 have h1 : (f.set j q).drop j = q :: f.drop (j + 1) := by
  rw [List.drop_eq_getElem_cons (by rw [List.length_set]; exact hlt), List.getElem_set_self, List.drop_set_of_lt (Nat.lt_succ_self j)]
 have h2 : (f.set j q).take j = f.take j := by rw [List.take_set_of_le (Nat.le_refl j)]
 rw [h1, h2, wnum, hq]
 rw [h, wnum_take_succ hx, pow64_succ]
 have hd := Nat.div_add_mod (rest * 18446744073709551616 + x.toNat) ten
 generalize (rest * 18446744073709551616 + x.toNat) / ten = Q at *
 generalize (rest * 18446744073709551616 + x.toNat) % ten = R at *
 generalize 2 ^ (64 * j) = P at *
 generalize wnum (f.drop (j + 1)) = H at *
 have e1 : ten * (P * (Q + 18446744073709551616 * H)) = ten * (P * 18446744073709551616 * H) + P * (ten * Q) := by
  rw [Nat.mul_add P, Nat.mul_add ten, ← Nat.mul_assoc P, Nat.mul_left_comm ten P Q]; omega
 have e2 : P * (ten * Q) + R * P = rest * (P * 18446744073709551616) + P * x.toNat := by
  rw [Nat.mul_comm R, ← Nat.mul_add, hd, Nat.mul_add, ← Nat.mul_assoc, Nat.mul_comm P rest, Nat.mul_assoc]
 omega
theorem flat_ge {ps : List BL} (h : ∀ p ∈ ps, p ≠ []) : ps.length ≤ ps.flatten.length := by
 induction ps with
 | nil => simp
 | cons p ps ih =>
  have h1 := ih (fun q hq => h q (List.mem_cons_of_mem _ hq))
  have h2 : 0 < p.length := List.length_pos_iff.2 (h p List.mem_cons_self)
  rw [List.length_cons, List.flatten_cons, List.length_append]
  omega
theorem dec_bound {n : Nat} (h : n < 2 ^ 8192) : (dec n).length ≤ 2467 := by
 obtain ⟨k, k1, k2, k3, k4⟩ := dec_of_len (n := n)
 rw [k1]
 rcases k3 with rfl | k3
 ·omega
 ·refine Classical.byContradiction fun hc => ?_
  have h1 : 10 ^ 2467 ≤ 10 ^ k := Nat.pow_le_pow_right (by decide) (by omega)
  have h2 : 2 ^ 8192 ≤ 10 ^ 2467 := by decide +kernel
  omega
theorem wnum_pos_of {f : WL} (h : Canon f) (hl : 0 < f.length) : 0 < wnum f := by
 refine Nat.pos_of_ne_zero fun e => ?_
 have := toW_wnum h
 rw [e, toW_zero] at this
 rw [← this] at hl
 simp at hl
theorem natText_C (a : Option Addr) (c : Nat) (l : WL) (S : Mem) (hI : WIn S a c l) (hP : PowOk S) :
  C Tryz.prog gN Ext 78 [.slice a l.length c] S fun v S' => v = .tuple #[.string (strB (textL l)), .int .i64 (textE l)] ∧ Cons S S' := by
 refine C.fn Tryz.func78 rfl (by kernel_rfl) rfl ?_
 repeat first|apply wg|refine ss rfl ?_|apply nl
 refine L.bs [WS.v ⟨a, c, l⟩] rfl rfl rfl rfl rfl rfl ?_
 have hc : Cons S (S ++ [newR [WS.v ⟨a, c, l⟩] 22]) := Cons.push _ _
 have hs : Slv (S ++ [newR [WS.v ⟨a, c, l⟩] 22]) 1 (.slice (some ⟨S.length, 0, none⟩) 1 1) 1 ([WS.mk a c l].map WS.v) := Slv.all (row_push_new rfl) rfl rfl
 generalize S ++ [newR [WS.v ⟨a, c, l⟩] 22] = S1 at *
 refine L.cl (fit_C _ [⟨a, c, l⟩] S1 hs (fun w hw => by simp at hw; subst hw; exact hI.cons hc) (by simp)) rfl rfl ?_
 rintro _ _ ⟨rfl, rfl⟩
 refine ⟨nofun, ?_⟩
 repeat first|apply wg|refine ss rfl ?_|apply nl
 refine W.ite rfl (fun h => ?_) (fun h => ?_)
 ·have hsm : small l = false := by simpa using h
  repeat first|apply wg|refine ss rfl ?_|apply nl
  exact ⟨.inr rfl, _, rfl, by unfold textL textE; rw [hsm]; rfl, hc⟩
 have hsm : small l = true := by simpa using h
 clear h
 rename Mem => S1
 have hI1 := hI.cons hc
 have hN : wnum l < 2 ^ 8192 := by
  have : (toW (wnum l)).length ≤ 128 := of_decide_eq_true hsm
  exact (toW_len _ 128).1 this
 have hdb := dec_bound hN
 repeat first|apply wg|refine ss rfl ?_|apply nl
 refine L.cl (trim_C a c l _ hI1) rfl rfl ?_
 rintro _ _ ⟨rfl, rfl⟩
 refine ⟨nofun, ?_⟩
 refine L.cl (clone_C a c (fm l) _ hI1.form) rfl rfl ?_
 rintro _ S2 ⟨d, rfl, hR⟩
 refine ⟨fun _ => hR.1, ?_⟩
 obtain ⟨hO, hv⟩ := hR.own
 have hk2 := hc.trans hR.1
 rw [hv]
 repeat first|apply wg|refine ss rfl ?_|apply nl
 refine W.ite rfl (fun h => ?_) (fun h => ?_)
 ·have h0 : wnum l = 0 := (fm_nil l).1 (by have := eq_of_beq h; omega)
  clear h
  repeat first|apply wg|refine ss rfl ?_|apply nl
  exact ⟨.inr rfl, _, rfl, by unfold textL textE; rw [hsm, h0, if_pos rfl, if_pos rfl, dec_small (by decide)]; rfl, hk2⟩
 have hlp : 0 < (fm l).length := Nat.pos_of_ne_zero fun e => by rw [e] at h; cases h
 clear h
 obtain ⟨b, hb⟩ : ∃ b, d.a = some b := by
  cases hd : d.a with
  | some b => exact ⟨b, rfl⟩
  | none =>
   obtain ⟨h1, ⟨_, h3, _⟩ | ⟨b, r, h2, _⟩⟩ := hR.2.2.1
   ·rw [wv_len] at h1; omega
   ·rw [hd] at h2; cases h2
 have hbS : S.length ≤ b := by have := hR.2.2.2 b hb; have := hc.len; omega
 have hcap := hO.1.2.1
 obtain ⟨r0, hr0, hro0, hrl0, hrt0⟩ : ∃ r, S2.row? b = some r ∧ r.ro = none ∧ (fm l).length ≤ r.cells.length ∧ r.cells.take (fm l).length = wv (fm l) := by
  obtain ⟨h1, ⟨h2, _⟩ | ⟨b', r, h2, h3, h4, h5, h6, _⟩⟩ := hR.2.2.1
  ·rw [hb] at h2; cases h2
  ·rw [hb] at h2; cases h2
   rw [wv_len] at h1
   rw [← h1] at h5 h6
   exact ⟨r, h3, h4, h5, h6⟩
 have hda : d.ad = some ⟨b, 0, none⟩ := by unfold Hd.ad; rw [hb]; rfl
 rw [hda]
 obtain ⟨cc, hcc⟩ : ∃ cc, cc = d.c := ⟨_, rfl⟩
 rw [← hcc] at hcap ⊢
 have hlen0 : (fm l).length ≤ 128 := of_decide_eq_true hsm
 clear hR hO hv hda hs hI1
 repeat first|apply wg|refine ss rfl ?_|apply nl
 refine W.loop (fun k e T => ∃ (f : WL) (r : Row) (ps : List BL) (d : Hd), k = wnum f ∧ e 4 = .slice (some ⟨b, 0, none⟩) f.length cc ∧ e 5 = d.v ∧ Cons S T ∧ T.row? b = some r ∧ r.ro = none ∧ f.length ≤ r.cells.length ∧ r.cells.take f.length = wv f ∧ Canon f ∧ f.length ≤ knownCap cc ∧ f.length ≤ 128 ∧
   HdOk T 9 d (tv ps) ∧ (∀ x, d.a = some x → S.length ≤ x ∧ x ≠ b) ∧ (ps = [] ∨ d.c = UNK + d.n) ∧ (f = [] → ps ≠ []) ∧ (∀ p ∈ ps, p ≠ []) ∧ dec (wnum l) = (if f = [] then [] else dec (wnum f)) ++ ps.reverse.flatten) (wnum (fm l))
  ⟨fm l, r0, [], Hd0, rfl, rfl, rfl, hk2, hr0, hro0, hrl0, hrt0, canon_toW _, hcap, hlen0, HdOk.nil _ _, nofun, .inl rfl, (fun e => by rw [e] at hlp; simp at hlp), (fun p hp => by simp at hp), by rw [if_neg (fun e => by rw [e] at hlp; simp at hlp), show wnum (fm l) = wnum l from wnum_toW _]; simp⟩ ?_
 clear hr0 hro0 hrl0 hrt0 hk2 hcap hb hlp hlen0 hcc
 rintro k e T ⟨f, r, ps, d, rfl, e4, e5, hk, hr, hro, hrl, hrt, hcan, hcap, hlen, hd, hda, hdc, hfps, hne, hdec⟩
 refine W.env2 e4 e5 ?_
 have hflat : ps.reverse.flatten.length ≤ 2467 := by rw [hdec, List.length_append] at hdb; omega
 have hpsl : ps.length ≤ 2467 := by
  have := flat_ge (ps := ps.reverse) (fun p hp => hne p (List.mem_reverse.1 hp))
  rw [List.length_reverse] at this
  omega
 have hdn : ps.length = d.n := by have := hd.len; rw [tv_len] at this; exact this
 repeat first|apply wg|refine ss rfl ?_|apply nl
 refine W.ite rfl (fun h => ?_) (fun h => ?_)
 rotate_left
 ·have hf : f = [] := List.length_eq_zero_iff.1 (by have := of_decide_eq_false h; omega)
  clear h
  subst hf
  rw [if_pos rfl, List.nil_append] at hdec
  have hps := hfps rfl
  have hcu : d.c = UNK + d.n := hdc.resolve_left hps
  obtain ⟨x, hx⟩ : ∃ x, d.a = some x := by
   cases hd2 : d.a with
   | some b => exact ⟨b, rfl⟩
   | none =>
    obtain ⟨h1, ⟨_, h3, _⟩ | ⟨b, r, h2, _⟩⟩ := hd
    ·exfalso
     have : ps = [] := List.length_eq_zero_iff.1 (by omega)
     exact hps this
    ·rw [hd2] at h2; cases h2
  have hrow : T.row? x = some (grownR (tv ps) 9 1) := by
   obtain ⟨h1, ⟨h2, _⟩ | ⟨b', r', h2, h3, h4, h5, h6, ⟨h7, h8⟩ | ⟨h7, h8⟩⟩⟩ := hd
   ·rw [hx] at h2; cases h2
   ·unfold UNK at *; omega
   ·rw [hx] at h2; cases h2
    rw [h3, h8]
  have hdv : d.v = .slice (some ⟨x, 0, none⟩) d.n (UNK + d.n) := by unfold Hd.v; rw [hx, hcu]; rfl
  rw [hdv]
  repeat first|apply wg|refine ss rfl ?_|apply nl
  refine L.cl (reverse_C x d.n (UNK + d.n) ps T hrow hdn (by omega)) rfl rfl ?_
  rintro _ T2 ⟨kT2, hrow2⟩
  refine ⟨nofun, ?_⟩
  have hk2 : Cons S T2 := kT2.mono hk (hda x hx).1
  repeat first|apply wg|refine ss rfl ?_|apply nl
  refine L.cl (join_C (some ⟨x, 0, none⟩) (UNK + d.n) d.n ps.reverse T2 (Slv.all hrow2 rfl (by rw [tv_len, List.length_reverse]; omega)) (by rw [List.length_reverse]; exact hdn) (.inr ⟨Nat.le_add_right _ _, by rw [knownCap_unk]; exact Nat.le_refl _⟩) (by omega) (by omega) (fun p hp => hne p (List.mem_reverse.1 hp))) rfl rfl ?_
  rintro _ T3 ⟨rfl, kT3⟩
  refine ⟨nofun, ?_⟩
  repeat first|apply wg|refine ss rfl ?_|apply nl
  exact ⟨.inr rfl, _, rfl, by unfold textL textE; rw [hsm, if_pos rfl, if_pos rfl, hdec]; rfl, hk2.trans kT3⟩
 have hfl : 0 < f.length := by have := of_decide_eq_true h; omega
 clear h
 have hfne : f ≠ [] := fun e => by rw [e] at hfl; simp at hfl
 rw [if_neg hfne] at hdec
 have hpos := wnum_pos_of hcan hfl
 repeat first|apply wg|refine ss rfl ?_|apply nl
 refine W.mono (R := fun x e' T' => x = .exit 2 ∧ ∃ (f2 : WL) (r2 : Row) (rest : Nat), e' 4 = .slice (some ⟨b, 0, none⟩) f.length cc ∧ e' 5 = d.v ∧ e' 6 = .int .u64 (rest : Int) ∧ Keep b T T' ∧ T'.row? b = some r2 ∧ r2.ro = none ∧ f.length ≤ r2.cells.length ∧ r2.cells.take f.length = wv f2 ∧ f2.length = f.length ∧ rest < 10000000000000000000 ∧ wnum f = 10000000000000000000 * wnum f2 + rest) ?_ ?_
 ·refine W.loop (fun i e' T' => ∃ (f2 : WL) (r2 : Row) (rest : Nat), i ≤ f.length ∧ e' 4 = .slice (some ⟨b, 0, none⟩) f.length cc ∧ e' 5 = d.v ∧ e' 6 = .int .u64 (rest : Int) ∧ e' 7 = .int .i64 ((i : Int) - 1) ∧ Keep b T T' ∧ T'.row? b = some r2 ∧ r2.ro = none ∧ f.length ≤ r2.cells.length ∧ r2.cells.take f.length = wv f2 ∧ f2.length = f.length ∧ rest < 10000000000000000000 ∧
    wnum f = 10000000000000000000 * (2 ^ (64 * i) * wnum (f2.drop i)) + rest * 2 ^ (64 * i) + wnum (f2.take i)) f.length
   ⟨f, r, 0, Nat.le_refl _, rfl, rfl, rfl, congrArg (Value.int .i64) (wrap64 (by omega) (by omega)), Keep.refl _ _, hr, hro, hrl, hrt, rfl, by decide, by rw [List.drop_length, List.take_length]; simp [wnum]⟩ ?_
  rintro i e T' ⟨f2, r2, rest, hi, e4, e5, e6, e7, kT, hr2, hro2, hrl2, hrt2, hf2l, hrest, hinv⟩
  refine W.env4 e4 e5 e6 e7 ?_
  repeat first|apply wg|refine ss rfl ?_|apply nl
  refine W.ite rfl (fun h => ?_) (fun h => ?_)
  ·have hi1 : 1 ≤ i := by have := of_decide_eq_true h; omega
   clear h
   obtain ⟨j, rfl⟩ : ∃ j, i = j + 1 := ⟨i - 1, by omega⟩
   have hm : (((j + 1 : Nat) : Int) - 1) = (j : Int) := by omega
   rw [hm]
   obtain ⟨x, hx⟩ : ∃ x, f2[j]? = some x := ⟨_, List.getElem?_eq_getElem (by omega)⟩
   have hsl : Slv T' 1 (.slice (some ⟨b, 0, none⟩) f.length cc) f.length (wv f2) := by
    have := Slv.of (sz := 1) (n := f.length) (o := 0) (c := cc) hr2 (by omega) (.inl hro2)
    rwa [List.drop_zero, Nat.mul_one, hrt2] at this
   obtain ⟨q, hq⟩ := word_of (n := (rest * 18446744073709551616 + x.toNat) / 10000000000000000000) (Nat.div_lt_of_lt_mul (by have := x.isLt; omega))
   have hst := short_step (ten := 10000000000000000000) hx hq hinv
   repeat first|apply wg|refine ss rfl ?_|apply nl
   refine L.el hsl (k := j) rfl (wv_get hx) rfl rfl rfl rfl (fun _ => rfl) rfl (fun p => ?_)
   repeat first|apply wg|refine ss rfl ?_|apply nl
   refine L.cl (div64_C rest x.toNat 10000000000000000000 T' hrest x.isLt (by decide)) rfl rfl ?_
   rintro _ T5 ⟨rfl, hT5⟩
   have hT5 := hT5.symm
   subst hT5
   refine ⟨nofun, ?_⟩
   repeat first|apply wg|refine ss rfl ?_|apply nl
   rw [← hq]
   refine L.elst hr2 hro2 (by omega) (k := j) rfl (by omega) rfl rfl rfl rfl (fun _ => rfl) (fun _ => rfl) rfl rfl rfl (fun p => ?_)
   have hst2 : r2.st = .live := (Mem.row?_some hr2).2
   have hr3 : Mem.row? (List.set T' b { r2 with cells := r2.cells.set (0 + j) (v64 q) }) b = some { r2 with cells := r2.cells.set (0 + j) (v64 q) } := row_set_same hr2 hst2
   have kT3 := kT.trans (Keep.set b T' { r2 with cells := r2.cells.set (0 + j) (v64 q) })
   generalize List.set T' b _ = T6 at *
   repeat first|apply wg|refine ss rfl ?_|apply nl
   refine ⟨j, by omega, f2.set j q, _, (rest * 18446744073709551616 + x.toNat) % 10000000000000000000, by omega, rfl, rfl, rfl, congrArg (Value.int .i64) (wrap64 (by omega) (by omega)), kT3, hr3, hro2, ?_, ?_, by simpa using hf2l, Nat.mod_lt _ (by decide), hst⟩
   ·show f.length ≤ (r2.cells.set (0 + j) (v64 q)).length
    rw [List.length_set]; exact hrl2
   ·show (r2.cells.set (0 + j) (v64 q)).take f.length = _
    rw [List.take_set, hrt2, Nat.zero_add]
    unfold wv
    rw [List.map_set]
  ·have hi0 : i = 0 := by have := of_decide_eq_false h; omega
   subst hi0
   clear h
   rw [Nat.mul_zero, Nat.pow_zero, Nat.one_mul, Nat.mul_one, List.drop_zero, List.take_zero] at hinv
   repeat first|apply wg|refine ss rfl ?_|apply nl
   exact ⟨rfl, f2, r2, rest, rfl, rfl, rfl, kT, hr2, hro2, hrl2, hrt2, hf2l, hrest, by simpa [wnum] using hinv⟩
 rintro _ e' T' ⟨rfl, f2, r2, rest, e4, e5, e6, kT, hr2, hro2, hrl2, hrt2, hf2l, hrest, hsum⟩
 refine W.env3 e4 e5 e6 ?_
 have hk' : Cons S T' := kT.mono hk hbS
 have hd' := hd.keep (bs := [b]) (kT.keepL (by simp)) (fun x hx => by have := (hda x hx).2; simpa using this)
 have hI2 : WIn T' (some ⟨b, 0, none⟩) cc f2 := by
  refine ⟨?_, by omega, nofun, by omega⟩
  have := Slv.of (sz := 1) (n := f.length) (o := 0) (c := cc) hr2 (by omega) (.inl hro2)
  rw [List.drop_zero, Nat.mul_one, hrt2] at this
  rw [hf2l]; exact this
 have hfw : wnum (fm f2) = wnum f2 := wnum_toW _
 have hfl2 : (fm f2).length ≤ f2.length := toW_len_le f2
 have htk : r2.cells.take (fm f2).length = wv (fm f2) := by
  have h1 : (r2.cells.take f.length).take (fm f2).length = (wv f2).take (fm f2).length := by rw [hrt2]
  rw [List.take_take, Nat.min_eq_left (by omega)] at h1
  rw [h1, wv, ← List.map_take, toW_take]; rfl
 repeat first|apply wg|refine ss rfl ?_|apply nl
 refine L.cl (trim_C (some ⟨b, 0, none⟩) cc f2 T' hI2) rfl (by rw [hf2l]; rfl) ?_
 rintro _ _ ⟨rfl, rfl⟩
 refine ⟨nofun, ?_⟩
 rename Mem => T'
 repeat first|apply wg|refine ss rfl ?_|apply nl
 refine L.cv (formatUint_C rest (by omega) T' (hP.cons hk')) rfl rfl fun T2 kT2 => ?_
 have hr22 := kT2.row' hr2
 have hd2 := hd'.cons kT2
 repeat first|apply wg|refine ss rfl ?_|apply nl
 refine W.ite rfl (fun h => ?_) (fun h => ?_)
 ·have hl2 : 0 < (fm f2).length := by have := of_decide_eq_true h; omega
  clear h
  have hw2 : wnum f2 ≠ 0 := fun e => by have := (fm_nil f2).2 e; omega
  have e19 : rest < 10 ^ 19 := by
   have e : (10 : Nat) ^ 19 = 10000000000000000000 := by decide
   rw [e]; exact hrest
  obtain ⟨hle, hfill⟩ := dec_fill (n := rest) (k := 19) e19 (by decide)
  have hsne : pad 19 rest ≠ [] := fun e => by have := pad_len 19 rest; rw [e] at this; simp at this
  have hdd : dec (wnum f) = (if fm f2 = [] then [] else dec (wnum (fm f2))) ++ pad 19 rest := by
   have e : (10 : Nat) ^ 19 = 10000000000000000000 := by decide
   rw [if_neg (fun e => by rw [e] at hl2; simp at hl2), hfw, dec_split (k := 19) (n := wnum f) (by rw [e, hsum]; omega), ← pad_mod 19 (wnum f), e, hsum]
   congr 2
   ·omega
   ·omega
  repeat first|apply wg|refine ss rfl ?_|apply nl
  refine L.tlen rfl rfl rfl rfl ?_
  repeat first|apply wg|refine ss rfl ?_|apply nl
  refine L.cl (repeat0_C (19 - (dec rest).length) (by omega) T2) rfl ((show acall _ _ = some (_, [_, .int .i64 (IntKind.i64.wrap (19 - ((dec rest).length : Int)))]) from rfl).trans (by rw [wrap64 (by omega) (by omega), show (19 - ((dec rest).length : Int)) = ((19 - (dec rest).length : Nat) : Int) by omega]; rfl)) ?_
  rintro _ _ ⟨rfl, rfl⟩
  refine ⟨nofun, ?_⟩
  rename Mem => T2
  repeat first|apply wg|refine ss rfl ?_|apply nl
  refine L.tadd rfl rfl (by rw [List.length_replicate]; omega) rfl ?_
  rw [hfill]
  repeat first|apply wg|refine ss rfl ?_|apply nl
  refine L.pushC (w := .string (strB (pad 19 rest))) rfl hd2 rfl rfl rfl rfl rfl (by omega) rfl (fun _ => rfl) ?_
  rintro p h' T3 u1 u2 uc ⟨b', u3, u5⟩ u4
  have hnb : b ∉ d.a.toList := fun hm => (hda b (by simpa using hm)).2 rfl
  have hr3 := u4.row hr22 hnb
  have hk3 : Cons S T3 := u4.cons0 (hk'.trans kT2) (fun x hx => (hda x (by simpa using hx)).1)
  have hb2 := row_lt hr22
  have hln := (hk'.trans kT2).len
  repeat first|apply wg|refine ss rfl ?_|apply nl
  refine ⟨wnum (fm f2), by rw [hfw]; omega, fm f2, r2, ps ++ [(pad 19 rest)], h', rfl, rfl, rfl, hk3, hr3, hro2, by omega, htk, canon_toW _, by omega, by omega, by rw [tv, List.map_append]; exact u1, fun x hx => by rw [u3] at hx; cases hx; exact ⟨by omega, by omega⟩, .inr uc, fun _ => by simp, fun q hq => ?_, ?_⟩
  ·rcases List.mem_append.1 hq with h | h
   ·exact hne q h
   ·rw [List.mem_singleton] at h; rw [h]; exact hsne
  ·rw [List.reverse_append, List.flatten_append, hdec]
   show _ = _ ++ ((([(pad 19 rest)] : List BL).reverse).flatten ++ _)
   rw [show (([(pad 19 rest)] : List BL).reverse).flatten = (pad 19 rest) by simp, ← List.append_assoc, hdd]
 ·have hl2 : (fm f2).length = 0 := by have := of_decide_eq_false h; omega
  clear h
  have hw2 : wnum f2 = 0 := (fm_nil f2).1 hl2
  have hsne : dec rest ≠ [] := fun e => by have := dec_len_pos rest; rw [e] at this; simp at this
  have hdd : dec (wnum f) = (if fm f2 = [] then [] else dec (wnum (fm f2))) ++ dec rest := by
   rw [if_pos (List.length_eq_zero_iff.1 hl2), hsum, hw2, Nat.mul_zero, Nat.zero_add]; rfl
  repeat first|apply wg|refine ss rfl ?_|apply nl
  refine L.pushC (w := .string (strB (dec rest))) rfl hd2 rfl rfl rfl rfl rfl (by omega) rfl (fun _ => rfl) ?_
  rintro p h' T3 u1 u2 uc ⟨b', u3, u5⟩ u4
  have hnb : b ∉ d.a.toList := fun hm => (hda b (by simpa using hm)).2 rfl
  have hr3 := u4.row hr22 hnb
  have hk3 : Cons S T3 := u4.cons0 (hk'.trans kT2) (fun x hx => (hda x (by simpa using hx)).1)
  have hb2 := row_lt hr22
  have hln := (hk'.trans kT2).len
  repeat first|apply wg|refine ss rfl ?_|apply nl
  refine ⟨wnum (fm f2), by rw [hfw]; omega, fm f2, r2, ps ++ [(dec rest)], h', rfl, rfl, rfl, hk3, hr3, hro2, by omega, htk, canon_toW _, by omega, by omega, by rw [tv, List.map_append]; exact u1, fun x hx => by rw [u3] at hx; cases hx; exact ⟨by omega, by omega⟩, .inr uc, fun _ => by simp, fun q hq => ?_, ?_⟩
  ·rcases List.mem_append.1 hq with h | h
   ·exact hne q h
   ·rw [List.mem_singleton] at h; rw [h]; exact hsne
  ·rw [List.reverse_append, List.flatten_append, hdec]
   show _ = _ ++ ((([(dec rest)] : List BL).reverse).flatten ++ _)
   rw [show (([(dec rest)] : List BL).reverse).flatten = (dec rest) by simp, ← List.append_assoc, hdd]
end Go.Proofs.YtbiigbicgfchiaaGreatDoor

/- Layer 2: comparing, numbers of the language, texts. Conditions: the tables lie in memory. -/
namespace Go.Proofs.YtbiigbicgfchiaaGreatDoor
open Go Ie
variable {Ext : FuncId → List Value → Mem → Outc → Mem → Prop}
theorem cz1 {a : Int} (h : cmpI a 0 = -1) : a < 0 := by
 unfold cmpI at h
 split at h
 ·assumption
 ·split at h <;> omega
theorem cz0 {a : Int} (h : cmpI a 0 = 0) : a = 0 := (cmp_eq a 0).1 h
theorem cz2 {a : Int} (h : cmpI a 0 = 1) : 0 < a := by
 unfold cmpI at h
 split at h
 ·omega
 ·split at h
  ·assumption
  ·omega
theorem cmp_lt' {a b : Int} (h : a < b) : cmpI a b = -1 := by unfold cmpI; rw [if_pos h]
theorem cmp_gt' {a b : Int} (h : b < a) : cmpI a b = 1 := by unfold cmpI; rw [if_neg (by omega), if_pos h]
theorem zv_neg_is {n : Bool} {l : WL} (h : zv n l < 0) : zv n l = -((wnum l : Nat) : Int) := by
 cases n
 ·rw [zv_false] at h; omega
 ·rfl
theorem zv_pos_is {n : Bool} {l : WL} (h : 0 ≤ zv n l) : zv n l = ((wnum l : Nat) : Int) := by
 cases n
 ·rfl
 ·rw [zv_true] at h ⊢; omega
theorem zCmp_C (n m : Bool) (a1 a2 : Option Addr) (c1 c2 : Nat) (l k : WL) (S : Mem) (h1 : WIn S a1 c1 l) (h2 : WIn S a2 c2 k) :
  C Tryz.prog gN Ext 29 [wZ n (.slice a1 l.length c1), wZ m (.slice a2 k.length c2)] S fun v S' => v = .int .i64 (cmpI (zv n l) (zv m k)) ∧ Cons S S' := by
 refine C.fn Tryz.func29 rfl (by kernel_rfl) rfl ?_
 repeat first|apply wg|refine ss rfl ?_|apply nl
 refine L.nr [.bool n, .slice a1 l.length c1] wT rfl rfl (fun b2 Tb2 gb2 kb2 rb2 => ?_)
 refine L.nr [.bool m, .slice a2 k.length c2] wT rfl rfl (fun b3 Tb3 gb3 kb3 rb3 => ?_)
 have kM := kb2.trans kb3
 replace rb2 := Cons.row (h := kb3) rb2
 replace h1 := h1.cons kM
 replace h2 := h2.cons kM
 have hc := Cons.refl Tb3
 clear kb2 kb3 gb2 gb3
 repeat first|apply wg|refine ss rfl ?_|apply nl
 refine L.z2 (Cons.row (h := hc) rb2) rfl rfl rfl ?_
 repeat first|apply wg|refine ss rfl ?_|apply nl
 refine L.cv (zSign_C n a1 c1 l _ (h1.cons hc)) rfl rfl fun T1 k1 => ?_
 replace hc := hc.trans k1
 repeat first|apply wg|refine ss rfl ?_|apply nl
 refine L.z2 (Cons.row (h := hc) rb3) rfl rfl rfl ?_
 repeat first|apply wg|refine ss rfl ?_|apply nl
 refine L.cv (zSign_C m a2 c2 k _ (h2.cons hc)) rfl rfl fun T2 k2 => ?_
 replace hc := hc.trans k2
 clear k1 k2
 rcases cmpI_vals (zv n l) 0 with hx | hx | hx <;> rcases cmpI_vals (zv m k) 0 with hy | hy | hy <;> rw [hx, hy]
 ·have ux := cz1 hx
  have uy := cz1 hy
  repeat first|apply wg|refine ss rfl ?_|apply nl
  refine W.condF rfl ?_
  repeat first|apply wg|refine ss rfl ?_|apply nl
  refine W.condF rfl ?_
  repeat first|apply wg|refine ss rfl ?_|apply nl
  refine W.condT rfl ?_
  repeat first|apply wg|refine ss rfl ?_|apply nl
  refine L.zf (Cons.row (h := hc) rb3) rfl rfl rfl rfl rfl ?_
  repeat first|apply wg|refine ss rfl ?_|apply nl
  refine L.zf (Cons.row (h := hc) rb2) rfl rfl rfl rfl rfl ?_
  repeat first|apply wg|refine ss rfl ?_|apply nl
  refine L.cs (natCmp_C a2 a1 c2 c1 k l _ (h2.cons hc) (h1.cons hc)) rfl rfl ?_
  repeat first|apply wg|refine ss rfl ?_|apply nl
  refine ⟨.inr rfl, _, rfl, ?_, kM.trans hc⟩
  rw [zv_neg_is ux, zv_neg_is uy, cmp_sub, cmp_sub (-((wnum l : Nat) : Int)), show ((wnum k : Nat) : Int) - ((wnum l : Nat) : Int) = -((wnum l : Nat) : Int) - -((wnum k : Nat) : Int) by omega]
  rfl
 ·have ux := cz1 hx
  have uy := cz0 hy
  repeat first|apply wg|refine ss rfl ?_|apply nl
  refine W.condT rfl ?_
  repeat first|apply wg|refine ss rfl ?_|apply nl
  exact ⟨.inr rfl, _, rfl, congrArg (Value.int .i64) (cmp_lt' (by omega)).symm, kM.trans hc⟩
 ·have ux := cz1 hx
  have uy := cz2 hy
  repeat first|apply wg|refine ss rfl ?_|apply nl
  refine W.condT rfl ?_
  repeat first|apply wg|refine ss rfl ?_|apply nl
  exact ⟨.inr rfl, _, rfl, congrArg (Value.int .i64) (cmp_lt' (by omega)).symm, kM.trans hc⟩
 ·have ux := cz0 hx
  have uy := cz1 hy
  repeat first|apply wg|refine ss rfl ?_|apply nl
  refine W.condF rfl ?_
  repeat first|apply wg|refine ss rfl ?_|apply nl
  refine W.condT rfl ?_
  repeat first|apply wg|refine ss rfl ?_|apply nl
  exact ⟨.inr rfl, _, rfl, congrArg (Value.int .i64) (cmp_gt' (by omega)).symm, kM.trans hc⟩
 ·have ux := cz0 hx
  have uy := cz0 hy
  repeat first|apply wg|refine ss rfl ?_|apply nl
  refine W.condF rfl ?_
  repeat first|apply wg|refine ss rfl ?_|apply nl
  refine W.condF rfl ?_
  repeat first|apply wg|refine ss rfl ?_|apply nl
  refine W.condF rfl ?_
  repeat first|apply wg|refine ss rfl ?_|apply nl
  refine L.zf (Cons.row (h := hc) rb2) rfl rfl rfl rfl rfl ?_
  repeat first|apply wg|refine ss rfl ?_|apply nl
  refine L.zf (Cons.row (h := hc) rb3) rfl rfl rfl rfl rfl ?_
  repeat first|apply wg|refine ss rfl ?_|apply nl
  refine L.cs (natCmp_C a1 a2 c1 c2 l k _ (h1.cons hc) (h2.cons hc)) rfl rfl ?_
  repeat first|apply wg|refine ss rfl ?_|apply nl
  refine ⟨.inr rfl, _, rfl, ?_, kM.trans hc⟩
  rw [zv_pos_is (n := n) (by omega), zv_pos_is (n := m) (by omega)]
  rfl
 ·have ux := cz0 hx
  have uy := cz2 hy
  repeat first|apply wg|refine ss rfl ?_|apply nl
  refine W.condT rfl ?_
  repeat first|apply wg|refine ss rfl ?_|apply nl
  exact ⟨.inr rfl, _, rfl, congrArg (Value.int .i64) (cmp_lt' (by omega)).symm, kM.trans hc⟩
 ·have ux := cz2 hx
  have uy := cz1 hy
  repeat first|apply wg|refine ss rfl ?_|apply nl
  refine W.condF rfl ?_
  repeat first|apply wg|refine ss rfl ?_|apply nl
  refine W.condT rfl ?_
  repeat first|apply wg|refine ss rfl ?_|apply nl
  exact ⟨.inr rfl, _, rfl, congrArg (Value.int .i64) (cmp_gt' (by omega)).symm, kM.trans hc⟩
 ·have ux := cz2 hx
  have uy := cz0 hy
  repeat first|apply wg|refine ss rfl ?_|apply nl
  refine W.condF rfl ?_
  repeat first|apply wg|refine ss rfl ?_|apply nl
  refine W.condT rfl ?_
  repeat first|apply wg|refine ss rfl ?_|apply nl
  exact ⟨.inr rfl, _, rfl, congrArg (Value.int .i64) (cmp_gt' (by omega)).symm, kM.trans hc⟩
 ·have ux := cz2 hx
  have uy := cz2 hy
  repeat first|apply wg|refine ss rfl ?_|apply nl
  refine W.condF rfl ?_
  repeat first|apply wg|refine ss rfl ?_|apply nl
  refine W.condF rfl ?_
  repeat first|apply wg|refine ss rfl ?_|apply nl
  refine W.condF rfl ?_
  repeat first|apply wg|refine ss rfl ?_|apply nl
  refine L.zf (Cons.row (h := hc) rb2) rfl rfl rfl rfl rfl ?_
  repeat first|apply wg|refine ss rfl ?_|apply nl
  refine L.zf (Cons.row (h := hc) rb3) rfl rfl rfl rfl rfl ?_
  repeat first|apply wg|refine ss rfl ?_|apply nl
  refine L.cs (natCmp_C a1 a2 c1 c2 l k _ (h1.cons hc) (h2.cons hc)) rfl rfl ?_
  repeat first|apply wg|refine ss rfl ?_|apply nl
  refine ⟨.inr rfl, _, rfl, ?_, kM.trans hc⟩
  rw [zv_pos_is (n := n) (by omega), zv_pos_is (n := m) (by omega)]
  rfl
theorem zInt_C (z : Int) (S : Mem) (hz : -9223372036854775808 ≤ z ∧ z ≤ 9223372036854775807) :
  C Tryz.prog gN Ext 21 [.int .i64 z] S fun v S' => ∃ d : Hd, v = .agg #[.bool (decide (z < 0)), d.v] ∧ RetW S S' d (toW z.natAbs) := by
 refine C.fn Tryz.func21 rfl (by kernel_rfl) rfl ?_
 repeat first|apply wg|refine ss rfl ?_|apply nl
 refine L.nr [.bool false, .slice none 0 0] wT rfl rfl (fun b4 Tb4 gb4 kb4 rb4 => ?_)
 have hc := Cons.refl Tb4
 repeat first|apply wg|refine ss rfl ?_|apply nl
 obtain ⟨w, hw⟩ : ∃ w : BitVec 64, w.toNat = z.natAbs := ⟨BitVec.ofNat 64 z.natAbs, by rw [BitVec.toNat_ofNat]; exact Nat.mod_eq_of_lt (by omega)⟩
 have hzv : zv (decide (z < 0)) [w] = z := by
  have e : wnum [w] = z.natAbs := by show w.toNat + 18446744073709551616 * 0 = _; omega
  by_cases h : z < 0
  ·rw [decide_eq_true h, zv_true, e]; omega
  ·rw [decide_eq_false h, zv_false, e]; omega
 have hzE : zE z = 0 := by
  unfold zE
  rw [if_pos]
  have : (2 : Nat) ^ 64 ≤ 2 ^ 4096 := Nat.pow_le_pow_right (by decide) (by decide)
  omega
 by_cases hzn : z < 0
 ·have e1 : IntKind.u64.wrap (0 - IntKind.u64.wrap z) = (w.toNat : Int) := by
   have : IntKind.u64.wrap z = z + 18446744073709551616 := by
    simp only [IntKind.wrap, IntKind.bits, IntKind.signed, Bool.false_and, Bool.false_eq_true, if_false]
    omega
   rw [this]
   simp only [IntKind.wrap, IntKind.bits, IntKind.signed, Bool.false_and, Bool.false_eq_true, if_false]
   omega
  rw [decide_eq_true hzn] at hzv ⊢
  repeat first|apply wg|refine ss rfl ?_|apply nl
  refine W.condT rfl ?_
  repeat first|apply wg|refine ss rfl ?_|apply nl
  rw [e1]
  refine L.bsW [w] rfl rfl rfl rfl rfl rfl (fun bw Tw kw iw => ?_)
  repeat first|apply wg|refine ss rfl ?_|apply nl
  rw [show decide (z < 0) = true from decide_eq_true hzn]
  have hc := hc.trans kw
  refine L.cl (zMake_C true (some ⟨bw, 0, none⟩) 1 [w] Tw iw) rfl rfl ?_
  rintro _ T9 hr
  rw [hzv, hzE] at hr
  obtain ⟨d9, rfl, r9⟩ := hr
  refine ⟨fun _ => r9.1, ?_⟩
  repeat first|apply wg|refine ss rfl ?_|apply nl
  refine L.nr [.bool false, .slice none 0 0] wT rfl rfl (fun b6 T6 g6 k6 r6 => ?_)
  refine L.st2 r6 rfl rfl rfl rfl rfl rfl (fun T8 kk8 r8 => ?_)
  have k98 : Cons T9 T8 := kk8.mono k6 g6
  have r9' := r9.post k98
  have hc' := hc.trans r9'.1
  repeat first|apply wg|refine ss rfl ?_|apply nl
  refine L.z2 r8 rfl rfl rfl ?_
  repeat first|apply wg|refine ss rfl ?_|apply nl
  refine L.st2 (Cons.row (h := hc') rb4) rfl rfl rfl rfl rfl rfl (fun T10 kk r10 => ?_)
  repeat first|apply wg|refine ss rfl ?_|apply nl
  exact ⟨.inr rfl, _, res1 rfl (load2 r10 rfl), d9, by show Value.agg #[.bool (decide (z < 0)), d9.v] = _; first | rfl | rw [decide_eq_true hzn], zfin kb4 hc r9' kk gb4 rb4⟩
 ·have e1 : IntKind.u64.wrap z = (w.toNat : Int) := by rw [wrapU64 (by omega) (by omega)]; omega
  rw [decide_eq_false hzn] at hzv ⊢
  rw [e1]
  repeat first|apply wg|refine ss rfl ?_|apply nl
  refine W.condF rfl ?_
  repeat first|apply wg|refine ss rfl ?_|apply nl
  refine L.bsW [w] rfl rfl rfl rfl rfl rfl (fun bw Tw kw iw => ?_)
  repeat first|apply wg|refine ss rfl ?_|apply nl
  rw [show decide (z < 0) = false from decide_eq_false hzn]
  have hc := hc.trans kw
  refine L.cl (zMake_C false (some ⟨bw, 0, none⟩) 1 [w] Tw iw) rfl rfl ?_
  rintro _ T9 hr
  rw [hzv, hzE] at hr
  obtain ⟨d9, rfl, r9⟩ := hr
  refine ⟨fun _ => r9.1, ?_⟩
  repeat first|apply wg|refine ss rfl ?_|apply nl
  refine L.nr [.bool false, .slice none 0 0] wT rfl rfl (fun b6 T6 g6 k6 r6 => ?_)
  refine L.st2 r6 rfl rfl rfl rfl rfl rfl (fun T8 kk8 r8 => ?_)
  have k98 : Cons T9 T8 := kk8.mono k6 g6
  have r9' := r9.post k98
  have hc' := hc.trans r9'.1
  repeat first|apply wg|refine ss rfl ?_|apply nl
  refine L.z2 r8 rfl rfl rfl ?_
  repeat first|apply wg|refine ss rfl ?_|apply nl
  refine L.st2 (Cons.row (h := hc') rb4) rfl rfl rfl rfl rfl rfl (fun T10 kk r10 => ?_)
  repeat first|apply wg|refine ss rfl ?_|apply nl
  exact ⟨.inr rfl, _, res1 rfl (load2 r10 rfl), d9, by show Value.agg #[.bool (decide (z < 0)), d9.v] = _; first | rfl | rw [decide_eq_false hzn], zfin kb4 hc r9' kk gb4 rb4⟩
end Go.Proofs.YtbiigbicgfchiaaGreatDoor

/- Layer 2: numbers told as the language's, powers. Conditions: the tables lie in memory. -/
namespace Go.Proofs.YtbiigbicgfchiaaGreatDoor
open Go Ie
variable {Ext : FuncId → List Value → Mem → Outc → Mem → Prop}
def i64ok (z : Int) : Bool := decide (-9223372036854775808 ≤ z ∧ z < 9223372036854775808)
theorem ZAns.got {S S' : Mem} {v : Value} {E : Int} {z : Int} (h : ZAns S S' v E z) (hE : E = 0) : ∃ d : Hd, v = .tuple #[.agg #[.bool (decide (z < 0)), .slice d.ad (toW z.natAbs).length d.c], .int .i64 0] ∧ RetW S S' d (toW z.natAbs) := by
 obtain ⟨d, rfl, r⟩ := h
 subst hE
 have e : zL 0 z = toW z.natAbs := if_pos rfl
 rw [e] at r
 exact ⟨d, by rw [← r.val]; rfl, r⟩
theorem toW_one {N : Nat} (h0 : N ≠ 0) (h : N < 18446744073709551616) : toW N = [BitVec.ofNat 64 N] := by
 rw [toW_pos h0, Nat.div_eq_of_lt h, toW_zero]
theorem zInt64_C (n : Bool) (a1 : Option Addr) (c1 : Nat) (l : WL) (S : Mem) (h1 : WIn S a1 c1 l) :
  C Tryz.prog gN Ext 34 [wZ n (.slice a1 l.length c1)] S fun v S' => v = .tuple #[.int .i64 (if i64ok (zv n l) then zv n l else 0), .bool (i64ok (zv n l))] ∧ Cons S S' := by
 refine C.fn Tryz.func34 rfl (by kernel_rfl) rfl ?_
 repeat first|apply wg|refine ss rfl ?_|apply nl
 refine L.nr [.bool n, .slice a1 l.length c1] wT rfl rfl (fun b2 Tb2 gb2 kb2 rb2 => ?_)
 have hc := Cons.refl Tb2
 repeat first|apply wg|refine ss rfl ?_|apply nl
 refine L.zf (Cons.row (h := hc) rb2) rfl rfl rfl rfl rfl ?_
 repeat first|apply wg|refine ss rfl ?_|apply nl
 refine L.cs (bits_C a1 c1 l _ (h1.cons kb2)) rfl rfl ?_
 repeat first|apply wg|refine ss rfl ?_|apply nl
 have hab := zv_abs n l
 have hbl := @blen_le (wnum l) 64
 rw [show (2 : Nat) ^ 64 = 18446744073709551616 by decide] at hbl
 refine W.ite rfl (fun h => ?_) (fun h => ?_)
 ·have hbig : ¬ wnum l < 18446744073709551616 := by have := of_decide_eq_true h; omega
  clear h
  have hn : i64ok (zv n l) = false := by unfold i64ok; exact decide_eq_false (by omega)
  rw [hn]
  repeat first|apply wg|refine ss rfl ?_|apply nl
  exact ⟨.inr rfl, _, rfl, rfl, kb2⟩
 have hsm : wnum l < 18446744073709551616 := hbl.1 (by have := of_decide_eq_false h; omega)
 clear h hbl
 generalize hz : zv n l = z at *
 have hzE : zE z = 0 := by
  unfold zE
  rw [if_pos]
  have : (2 : Nat) ^ 64 ≤ 2 ^ 4096 := Nat.pow_le_pow_right (by decide) (by decide)
  omega
 rw [← hab] at hsm
 repeat first|apply wg|refine ss rfl ?_|apply nl
 refine L.zf (Cons.row (h := hc) rb2) rfl rfl rfl rfl rfl ?_
 repeat first|apply wg|refine ss rfl ?_|apply nl
 refine L.zf (Cons.row (h := hc) rb2) rfl rfl rfl rfl rfl ?_
 repeat first|apply wg|refine ss rfl ?_|apply nl
 refine L.cl (zMake_C n a1 c1 l _ (h1.cons kb2)) rfl rfl ?_
 rintro _ T3 hr
 rw [hz] at hr
 obtain ⟨d, rfl, r⟩ := hr.got hzE
 refine ⟨fun _ => r.1, ?_⟩
 clear hr
 have k3 := kb2.trans r.1
 repeat first|apply wg|refine ss rfl ?_|apply nl
 refine L.nr [.bool false, .slice none 0 0] wT rfl rfl (fun b6 Tb6 gb6 kb6 rb6 => ?_)
 refine L.st2 rb6 rfl rfl rfl rfl rfl rfl (fun T8 kk8 r8 => ?_)
 have k98 : Cons T3 T8 := kk8.mono kb6 gb6
 replace r := r.post k98
 have w8 := r.win
 have hcS := k3.trans k98
 have hc := Cons.refl T8
 clear kk8 rb6 kb6 gb6
 repeat first|apply wg|refine ss rfl ?_|apply nl
 refine L.zf (Cons.row (h := hc) r8) rfl rfl rfl rfl rfl ?_
 repeat first|apply wg|refine ss rfl ?_|apply nl
 by_cases h0 : z.natAbs = 0
 ·have hz0 : z = 0 := by omega
  rw [show (((toW z.natAbs).length : Int) == 0) = true by rw [h0, toW_zero]; rfl]
  repeat first|apply wg|refine ss rfl ?_|apply nl
  refine W.condT rfl ?_
  repeat first|apply wg|refine ss rfl ?_|apply nl
  refine ⟨.inr rfl, _, rfl, ?_, hcS⟩
  rw [hz0]; rfl
 have h1w := toW_one h0 hsm
 have hlen : (toW z.natAbs).length = 1 := by rw [h1w]; rfl
 have hx : (toW z.natAbs)[0]? = some (BitVec.ofNat 64 z.natAbs) := by rw [h1w]; rfl
 have hxn : (BitVec.ofNat 64 z.natAbs).toNat = z.natAbs := by rw [BitVec.toNat_ofNat]; exact Nat.mod_eq_of_lt hsm
 rw [show (((toW z.natAbs).length : Int) == 0) = false by rw [hlen]; rfl]
 repeat first|apply wg|refine ss rfl ?_|apply nl
 refine W.condF rfl ?_
 repeat first|apply wg|refine ss rfl ?_|apply nl
 refine L.zf (Cons.row (h := hc) r8) rfl rfl rfl rfl rfl ?_
 repeat first|apply wg|refine ss rfl ?_|apply nl
 refine L.el w8.1 (k := 0) rfl (wv_get hx) rfl rfl rfl rfl (fun _ => rfl) rfl (fun p => ?_)
 rw [show v64 (BitVec.ofNat 64 z.natAbs) = .int .u64 ((z.natAbs : Nat) : Int) from congrArg (fun n : Nat => Value.int .u64 (n : Int)) hxn]
 repeat first|apply wg|refine ss rfl ?_|apply nl
 refine L.zf (Cons.row (h := hc) r8) rfl rfl rfl rfl rfl ?_
 repeat first|apply wg|refine ss rfl ?_|apply nl
 by_cases hneg : z < 0
 ·rw [show decide (z < 0) = true from decide_eq_true hneg]
  repeat first|apply wg|refine ss rfl ?_|apply nl
  cases hle : decide (((z.natAbs : Nat) : Int) ≤ 9223372036854775808)
  ·have := of_decide_eq_false hle
   have hn : i64ok z = false := by unfold i64ok; exact decide_eq_false (by omega)
   rw [hn]
   repeat first|apply wg|refine ss rfl ?_|apply nl
   refine W.condF rfl ?_
   repeat first|apply wg|refine ss rfl ?_|apply nl
   refine L.zf (Cons.row (h := hc) r8) rfl rfl rfl rfl rfl ?_
   repeat first|apply wg|refine ss rfl ?_|apply nl
   rw [show decide (z < 0) = true from decide_eq_true hneg]
   repeat first|apply wg|refine ss rfl ?_|apply nl
   refine W.condF rfl ?_
   repeat first|apply wg|refine ss rfl ?_|apply nl
   exact ⟨.inr rfl, _, rfl, rfl, hcS⟩
  ·have := of_decide_eq_true hle
   have hn : i64ok z = true := by unfold i64ok; exact decide_eq_true (by omega)
   rw [hn]
   repeat first|apply wg|refine ss rfl ?_|apply nl
   refine W.condT rfl ?_
   repeat first|apply wg|refine ss rfl ?_|apply nl
   refine ⟨.inr rfl, _, rfl, ?_, hcS⟩
   have e : IntKind.i64.wrap (IntKind.u64.wrap (0 - ((z.natAbs : Nat) : Int))) = z := by
    simp only [IntKind.wrap, IntKind.bits, IntKind.signed, Bool.false_and, Bool.true_and, Bool.false_eq_true, if_false, decide_eq_true_eq, ge_iff_le]
    split <;> omega
   show Value.tuple #[.int .i64 (IntKind.i64.wrap (IntKind.u64.wrap (0 - ((z.natAbs : Nat) : Int)))), .bool true] = _
   rw [e]; rfl
 ·rw [show decide (z < 0) = false from decide_eq_false hneg]
  repeat first|apply wg|refine ss rfl ?_|apply nl
  refine W.condF rfl ?_
  repeat first|apply wg|refine ss rfl ?_|apply nl
  refine L.zf (Cons.row (h := hc) r8) rfl rfl rfl rfl rfl ?_
  repeat first|apply wg|refine ss rfl ?_|apply nl
  rw [show decide (z < 0) = false from decide_eq_false hneg]
  repeat first|apply wg|refine ss rfl ?_|apply nl
  cases hle : decide (((z.natAbs : Nat) : Int) < 9223372036854775808)
  ·have := of_decide_eq_false hle
   have hn : i64ok z = false := by unfold i64ok; exact decide_eq_false (by omega)
   rw [hn]
   repeat first|apply wg|refine ss rfl ?_|apply nl
   refine W.condF rfl ?_
   repeat first|apply wg|refine ss rfl ?_|apply nl
   exact ⟨.inr rfl, _, rfl, rfl, hcS⟩
  ·have := of_decide_eq_true hle
   have hn : i64ok z = true := by unfold i64ok; exact decide_eq_true (by omega)
   rw [hn]
   repeat first|apply wg|refine ss rfl ?_|apply nl
   refine W.condT rfl ?_
   repeat first|apply wg|refine ss rfl ?_|apply nl
   refine ⟨.inr rfl, _, rfl, ?_, hcS⟩
   have e : IntKind.i64.wrap ((z.natAbs : Nat) : Int) = z := by rw [wrap64 (by omega) (by omega)]; omega
   show Value.tuple #[.int .i64 (IntKind.i64.wrap ((z.natAbs : Nat) : Int)), .bool true] = _
   rw [e]; rfl
end Go.Proofs.YtbiigbicgfchiaaGreatDoor

/- Layer 2: powers. Conditions: the tables lie in memory. -/
namespace Go.Proofs.YtbiigbicgfchiaaGreatDoor
open Go Ie
variable {Ext : FuncId → List Value → Mem → Outc → Mem → Prop}
def zPE (n m : Bool) (l k : WL) : Int := if zfit l && zfit k then (if zv m k < 0 then 20 else zE (zv n l ^ (zv m k).toNat)) else 3
theorem RetW.kne {S0 S1 T T' : Mem} {d : Hd} {l : WL} {b : Nat} (h : RetW S1 T d l) (k : Keep b T T') (hb : ∀ x, d.a = some x → x ≠ b) (hc : Cons S0 T') (h01 : S0.length ≤ S1.length) : RetW S0 T' d l :=
 ⟨hc, h.2.1, h.2.2.1.keep (bs := [b]) (k.keepL (by simp)) (fun x hx => by have := hb x hx; simpa using this), fun x hx => Nat.le_trans h01 (h.2.2.2 x hx)⟩
theorem zv_form (z : Int) : zv (decide (z < 0)) (toW z.natAbs) = z := by
 rw [zv_toW]
 by_cases h : z < 0
 ·rw [decide_eq_true h, if_pos rfl]; omega
 ·rw [decide_eq_false h]; simp only [Bool.false_eq_true, if_false]; omega
theorem zfit_form {z : Int} (h : zE z = 0) : zfit (toW z.natAbs) = true := by
 unfold zE at h
 split at h
 ·rename_i h1; unfold zfit; rw [wnum_toW]; exact decide_eq_true h1
 ·cases h
theorem zE_vals (z : Int) : zE z = 0 ∨ zE z = 3 := by
 unfold zE
 split
 ·exact .inl rfl
 ·exact .inr rfl
theorem zE_up {a : Int} {i j : Nat} (ha : 1 ≤ a.natAbs) (hij : i ≤ j) (h : zE (a ^ i) = 3) : zE (a ^ j) = 3 := by
 unfold zE at h ⊢
 rw [Int.natAbs_pow] at h ⊢
 split at h
 ·cases h
 ·rename_i h1
  have := Nat.pow_le_pow_right ha hij
  rw [if_neg (by omega)]
theorem zE_big {a : Int} {j : Nat} (ha : 2 ≤ a.natAbs) (hj : 4096 ≤ j) : zE (a ^ j) = 3 := by
 unfold zE
 rw [Int.natAbs_pow, if_neg]
 have h1 := Nat.pow_le_pow_left ha j
 have h2 : (2 : Nat) ^ 4096 ≤ 2 ^ j := Nat.pow_le_pow_right (by decide) hj
 omega
theorem half_bit (K s : Nat) : K / 2 ^ s = 2 * (K / 2 ^ (s + 1)) + (if K.testBit s then 1 else 0) := by
 have e : K / 2 ^ (s + 1) = K / 2 ^ s / 2 := by rw [Nat.pow_succ, Nat.div_div_eq_div_mul]
 rw [Nat.testBit_eq_decide_div_mod_eq, e]
 by_cases h : K / 2 ^ s % 2 = 1
 ·rw [decide_eq_true h, if_pos rfl]; omega
 ·rw [decide_eq_false h]; simp only [Bool.false_eq_true, if_false]; omega
theorem and_bit (K s : Nat) (hK : K ≤ 4096) (hs : s ≤ 12) : (IntKind.i64.wrap ((BitVec.ofInt IntKind.i64.bits (K : Int) &&& BitVec.ofInt IntKind.i64.bits ((2 ^ (s + 1) / 2 : Nat) : Int)).toNat : Int) != 0) = K.testBit s := by
 have e0 : 2 ^ (s + 1) / 2 = 2 ^ s := by rw [Nat.pow_succ, Nat.mul_div_cancel _ (by decide)]
 have hp : 2 ^ s ≤ 2 ^ 12 := Nat.pow_le_pow_right (by decide) hs
 have e : (BitVec.ofInt 64 (K : Int) &&& BitVec.ofInt 64 ((2 ^ (s + 1) / 2 : Nat) : Int)).toNat = (K.testBit s).toNat * 2 ^ s := by
  rw [e0, BitVec.ofInt_natCast, BitVec.ofInt_natCast, BitVec.toNat_and, BitVec.toNat_ofNat, BitVec.toNat_ofNat, Nat.mod_eq_of_lt (by omega), Nat.mod_eq_of_lt (by omega)]
  refine Nat.eq_of_testBit_eq fun i => ?_
  rw [Nat.testBit_and, Nat.testBit_two_pow]
  cases h : K.testBit s
  ·rw [show (false.toNat * 2 ^ s : Nat) = 0 by simp, Nat.zero_testBit]
   by_cases hi : s = i
   ·subst hi; rw [h]; rfl
   ·rw [decide_eq_false hi, Bool.and_false]
  ·rw [show (true.toNat * 2 ^ s : Nat) = 2 ^ s by simp, Nat.testBit_two_pow]
   by_cases hi : s = i
   ·subst hi; rw [h, Bool.true_and]
   ·rw [decide_eq_false hi, Bool.and_false]
 show (IntKind.i64.wrap ((BitVec.ofInt 64 (K : Int) &&& BitVec.ofInt 64 ((2 ^ (s + 1) / 2 : Nat) : Int)).toNat : Int) != 0) = _
 rw [e]
 have h0 : 0 < 2 ^ s := Nat.two_pow_pos s
 cases h : K.testBit s
 ·rw [show ((false.toNat * 2 ^ s : Nat) : Int) = 0 by simp]; rfl
 ·rw [show (true.toNat * 2 ^ s : Nat) = 2 ^ s by simp, wrap64 (by omega) (by omega)]
  exact bne_iff_ne.2 (by omega)
theorem zPow_C (n m : Bool) (a1 a2 : Option Addr) (c1 c2 : Nat) (l k : WL) (S : Mem) (h1 : WIn S a1 c1 l) (h2 : WIn S a2 c2 k) (hS : SinOk S) (hG : gN ≤ S.length) :
  C Tryz.prog gN Ext 12 [wZ n (.slice a1 l.length c1), wZ m (.slice a2 k.length c2)] S fun v S' => ZAns S S' v (zPE n m l k) (zv n l ^ (zv m k).toNat) := by
 refine C.fn Tryz.func12 rfl (by kernel_rfl) rfl ?_
 repeat first|apply wg|refine ss rfl ?_|apply nl
 refine L.nr [.bool n, .slice a1 l.length c1] wT rfl rfl (fun b2 Tb2 gb2 kb2 rb2 => ?_)
 refine L.nr [.bool m, .slice a2 k.length c2] wT rfl rfl (fun b3 Tb3 gb3 kb3 rb3 => ?_)
 refine L.nr [.bool false, .slice none 0 0] wT rfl rfl (fun b4 Tb4 gb4 kb4 rb4 => ?_)
 have kM := (kb2.trans kb3).trans kb4
 have g4 : S.length ≤ b4 := Nat.le_trans (kb2.trans kb3).len gb4
 replace rb2 := Cons.row (h := kb3.trans kb4) rb2
 replace rb3 := Cons.row (h := kb4) rb3
 replace h1 := h1.cons kM
 replace h2 := h2.cons kM
 have hc := Cons.refl Tb4
 clear kb2 kb3 kb4 gb2 gb3 gb4
 repeat first|apply wg|refine ss rfl ?_|apply nl
 refine L.z2 (Cons.row (h := hc) rb2) rfl rfl rfl ?_
 repeat first|apply wg|refine ss rfl ?_|apply nl
 refine L.z2 (Cons.row (h := hc) rb3) rfl rfl rfl ?_
 repeat first|apply wg|refine ss rfl ?_|apply nl
 refine L.bz [(n, ⟨a1, c1, l⟩), (m, ⟨a2, c2, k⟩)] rfl rfl rfl rfl rfl (fun bs Ts gs ks rs => ?_)
 replace hc := hc.trans ks
 repeat first|apply wg|refine ss rfl ?_|apply nl
 refine L.cl (zFit_C bs [(n, ⟨a1, c1, l⟩), (m, ⟨a2, c2, k⟩)] Ts rs (fun z hz => by
  simp only [List.mem_cons, List.not_mem_nil, or_false] at hz
  rcases hz with rfl | rfl
  ·exact h1.cons hc
  ·exact h2.cons hc) (by simp)) rfl rfl ?_
 rintro _ Tf ⟨rfl, kf⟩
 refine ⟨fun _ => kf, ?_⟩
 replace hc := hc.trans kf
 clear rs gs ks kf
 rw [show (([(n, WS.mk a1 c1 l), (m, WS.mk a2 c2 k)] : List ZW).all fun z => zfit z.2.l) = (zfit l && zfit k) by simp]
 unfold zPE
 cases hz : (zfit l && zfit k)
 ·repeat first|apply wg|refine ss rfl ?_|apply nl
  refine W.ite rfl (fun h => ?_) (fun h => ?_)
  ·repeat first|apply wg|refine ss rfl ?_|apply nl
   refine L.b0 rfl ?_
   repeat first|apply wg|refine ss rfl ?_|apply nl
   refine L.st2 (Cons.row (h := hc) rb4) rfl rfl rfl rfl rfl rfl (fun T2 kk r2 => ?_)
   repeat first|apply wg|refine ss rfl ?_|apply nl
   exact ⟨.inr rfl, _, res2 rfl (load2 r2 rfl), .no (kk.mono (kM.trans hc) g4) (by decide)⟩
  ·cases h
 rw [Bool.and_eq_true] at hz
 rw [if_pos rfl]
 repeat first|apply wg|refine ss rfl ?_|apply nl
 refine W.condF rfl ?_
 repeat first|apply wg|refine ss rfl ?_|apply nl
 refine L.z2 (Cons.row (h := hc) rb3) rfl rfl rfl ?_
 repeat first|apply wg|refine ss rfl ?_|apply nl
 refine L.cv (zSign_C m a2 c2 k _ (h2.cons hc)) rfl rfl fun T1 k1 => ?_
 replace hc := hc.trans k1
 clear k1
 repeat first|apply wg|refine ss rfl ?_|apply nl
 rcases cmpI_vals (zv m k) 0 with hx | hx | hx
 ·have ux := cz1 hx
  rw [hx, if_pos ux]
  repeat first|apply wg|refine ss rfl ?_|apply nl
  refine W.condT rfl ?_
  repeat first|apply wg|refine ss rfl ?_|apply nl
  refine L.b0 rfl ?_
  repeat first|apply wg|refine ss rfl ?_|apply nl
  refine L.st2 (Cons.row (h := hc) rb4) rfl rfl rfl rfl rfl rfl (fun T2 kk r2 => ?_)
  repeat first|apply wg|refine ss rfl ?_|apply nl
  exact ⟨.inr rfl, _, res2 rfl (load2 r2 rfl), .no (kk.mono (kM.trans hc) g4) (by decide)⟩
 ·have ux := cz0 hx
  rw [hx, if_neg (by omega), ux]
  repeat first|apply wg|refine ss rfl ?_|apply nl
  refine W.condF rfl ?_
  repeat first|apply wg|refine ss rfl ?_|apply nl
  refine L.z2 (Cons.row (h := hc) rb3) rfl rfl rfl ?_
  repeat first|apply wg|refine ss rfl ?_|apply nl
  refine L.cv (zSign_C m a2 c2 k _ (h2.cons hc)) rfl rfl fun T1 k1 => ?_
  replace hc := hc.trans k1
  clear k1
  rw [hx]
  repeat first|apply wg|refine ss rfl ?_|apply nl
  refine W.condT rfl ?_
  repeat first|apply wg|refine ss rfl ?_|apply nl
  refine L.cl (zInt_C 1 _ (by decide)) rfl rfl ?_
  rintro _ T9 ⟨d9, rfl, r9⟩
  refine ⟨fun _ => r9.1, ?_⟩
  repeat first|apply wg|refine ss rfl ?_|apply nl
  refine L.st2 (Cons.row (h := hc.trans r9.1) rb4) rfl rfl rfl rfl rfl rfl (fun T10 kk r10 => ?_)
  repeat first|apply wg|refine ss rfl ?_|apply nl
  have ep : zv n l ^ (0 : Int).toNat = 1 := Int.pow_zero _
  have e1 : zE 1 = 0 := if_pos (show (1 : Int).natAbs < 2 ^ 4096 from Nat.one_lt_two_pow (by decide))
  rw [ep, e1]
  exact ⟨.inr rfl, _, res2 rfl (load2 r10 rfl), d9, rfl, zfin kM hc r9 kk g4 rb4⟩
 have ux := cz2 hx
 rw [hx, if_neg (by omega)]
 have hzk := zv_pos_is (n := m) (l := k) (by omega)
 have hK : (zv m k).toNat = wnum k := by rw [hzk]; rfl
 rw [hK]
 have hK0 : 0 < wnum k := by omega
 generalize hKe : wnum k = K at *
 repeat first|apply wg|refine ss rfl ?_|apply nl
 refine W.condF rfl ?_
 repeat first|apply wg|refine ss rfl ?_|apply nl
 refine L.z2 (Cons.row (h := hc) rb3) rfl rfl rfl ?_
 repeat first|apply wg|refine ss rfl ?_|apply nl
 refine L.cv (zSign_C m a2 c2 k _ (h2.cons hc)) rfl rfl fun T1 k1 => ?_
 replace hc := hc.trans k1
 clear k1
 rw [hx]
 repeat first|apply wg|refine ss rfl ?_|apply nl
 refine W.condF rfl ?_
 repeat first|apply wg|refine ss rfl ?_|apply nl
 refine L.zf (Cons.row (h := hc) rb2) rfl rfl rfl rfl rfl ?_
 repeat first|apply wg|refine ss rfl ?_|apply nl
 refine L.cs (bits_C a1 c1 l _ (h1.cons hc)) rfl rfl ?_
 repeat first|apply wg|refine ss rfl ?_|apply nl
 have hab := zv_abs n l
 have hb1 := @blen_le (wnum l) 1
 rw [Nat.pow_one] at hb1
 refine W.ite rfl (fun h => ?_) (fun h => ?_)
 ·have hA : wnum l < 2 := hb1.1 (by have := of_decide_eq_true h; omega)
  clear h hb1
  repeat first|apply wg|refine ss rfl ?_|apply nl
  refine L.zf (Cons.row (h := hc) rb2) rfl rfl rfl rfl rfl ?_
  repeat first|apply wg|refine ss rfl ?_|apply nl
  cases n
  ·repeat first|apply wg|refine ss rfl ?_|apply nl
   refine L.zf (Cons.row (h := hc) rb2) rfl rfl rfl rfl rfl ?_
   repeat first|apply wg|refine ss rfl ?_|apply nl
   rw [show zv false l ^ K = zv false l by
    rw [zv_false]
    rcases (show wnum l = 0 ∨ wnum l = 1 by omega) with h | h <;> rw [h]
    ·exact Int.zero_pow (by omega)
    ·exact Int.one_pow ..]
   refine L.cl (zMake_C false a1 c1 l _ (h1.cons hc)) rfl rfl ?_
   rintro _ T9 ⟨d9, rfl, r9⟩
   refine ⟨fun _ => r9.1, ?_⟩
   repeat first|apply wg|refine ss rfl ?_|apply nl
   refine L.st2 (Cons.row (h := hc.trans r9.1) rb4) rfl rfl rfl rfl rfl rfl (fun T10 kk r10 => ?_)
   repeat first|apply wg|refine ss rfl ?_|apply nl
   exact ⟨.inr rfl, _, res2 rfl (load2 r10 rfl), d9, rfl, zfin kM hc r9 kk g4 rb4⟩
  ·repeat first|apply wg|refine ss rfl ?_|apply nl
   obtain ⟨x, hx0⟩ : ∃ x, k[0]? = some x := by
    cases k with
    | nil => exfalso; rw [← hKe] at hK0; exact absurd hK0 (by decide)
    | cons x t => exact ⟨x, rfl⟩
   have hpar : x.toNat % 2 = K % 2 := by
    have h := wnum_head k
    rw [hKe, List.getD_eq_getElem?_getD, hx0] at h
    have h : K % 18446744073709551616 = x.toNat := h
    omega
   refine L.zf (Cons.row (h := hc) rb3) rfl rfl rfl rfl rfl ?_
   repeat first|apply wg|refine ss rfl ?_|apply nl
   refine L.el (h2.cons hc).1 (k := 0) rfl (wv_get hx0) rfl rfl rfl rfl (fun _ => rfl) rfl (fun p => ?_)
   repeat first|apply wg|refine ss rfl ?_|apply nl
   rw [show (Int.tmod (x.toNat : Int) 2 == 1) = decide (K % 2 = 1) by
    rw [show Int.tmod (x.toNat : Int) 2 = ((x.toNat % 2 : Nat) : Int) from (Int.ofNat_tmod _ 2).symm, Bool.eq_iff_iff, beq_iff_eq, decide_eq_true_eq]
    omega]
   refine L.zf (Cons.row (h := hc) rb2) rfl rfl rfl rfl rfl ?_
   repeat first|apply wg|refine ss rfl ?_|apply nl
   rw [show zv true l ^ K = zv (decide (K % 2 = 1)) l by
    rcases (show wnum l = 0 ∨ wnum l = 1 by omega) with h | h
    ·rw [show zv true l = 0 by rw [zv_true, h]; rfl, Int.zero_pow (by omega)]
     unfold zv
     rw [h]
     split <;> rfl
    ·rw [show zv true l = -1 by rw [zv_true, h]; rfl]
     by_cases ho : K % 2 = 1
     ·rw [decide_eq_true ho, zv_true, h, show K = 2 * (K / 2) + 1 by omega, Int.pow_succ, Int.pow_mul]
      rw [show ((-1 : Int) ^ 2) = 1 from rfl, Int.one_pow]; rfl
     ·rw [decide_eq_false ho, zv_false, h, show K = 2 * (K / 2) by omega, Int.pow_mul]
      rw [show ((-1 : Int) ^ 2) = 1 from rfl, Int.one_pow]; rfl]
   refine L.cl (zMake_C (decide (K % 2 = 1)) a1 c1 l _ (h1.cons hc)) rfl rfl ?_
   rintro _ T9 ⟨d9, rfl, r9⟩
   refine ⟨fun _ => r9.1, ?_⟩
   repeat first|apply wg|refine ss rfl ?_|apply nl
   refine L.st2 (Cons.row (h := hc.trans r9.1) rb4) rfl rfl rfl rfl rfl rfl (fun T10 kk r10 => ?_)
   repeat first|apply wg|refine ss rfl ?_|apply nl
   exact ⟨.inr rfl, _, res2 rfl (load2 r10 rfl), d9, rfl, zfin kM hc r9 kk g4 rb4⟩
 have hA : 2 ≤ (zv n l).natAbs := by have := of_decide_eq_false h; omega
 clear h hb1
 repeat first|apply wg|refine ss rfl ?_|apply nl
 refine L.z2 (Cons.row (h := hc) rb3) rfl rfl rfl ?_
 repeat first|apply wg|refine ss rfl ?_|apply nl
 refine L.cv (zInt64_C m a2 c2 k _ (h2.cons hc)) rfl rfl fun T1 k1 => ?_
 replace hc := hc.trans k1
 clear k1
 repeat first|apply wg|refine ss rfl ?_|apply nl
 rw [hzk]
 have hin : (K ≤ 4096 ∧ i64ok (K : Int) = true) ∨ (4096 < K ∧ i64ok (K : Int) = true) ∨ (4096 < K ∧ i64ok (K : Int) = false) := by
  by_cases h4 : K ≤ 4096
  ·exact .inl ⟨h4, decide_eq_true ⟨by omega, by omega⟩⟩
  ·by_cases h : (-9223372036854775808 ≤ (K : Int) ∧ (K : Int) < 9223372036854775808)
   ·exact .inr (.inl ⟨by omega, decide_eq_true h⟩)
   ·exact .inr (.inr ⟨by omega, decide_eq_false h⟩)
 rcases hin with ⟨hK4, hok⟩ | ⟨hK4, hok⟩ | ⟨hK4, hok⟩
 rotate_left
 ·rw [hok, zE_big hA (by omega)]
  rw [if_pos rfl]
  repeat first|apply wg|refine ss rfl ?_|apply nl
  rw [show decide ((K : Int) > 4096) = true from decide_eq_true (by omega)]
  repeat first|apply wg|refine ss rfl ?_|apply nl
  refine W.condT rfl ?_
  repeat first|apply wg|refine ss rfl ?_|apply nl
  refine L.b0 rfl ?_
  repeat first|apply wg|refine ss rfl ?_|apply nl
  refine L.st2 (Cons.row (h := hc) rb4) rfl rfl rfl rfl rfl rfl (fun T2 kk r2 => ?_)
  repeat first|apply wg|refine ss rfl ?_|apply nl
  exact ⟨.inr rfl, _, res2 rfl (load2 r2 rfl), .no (kk.mono (kM.trans hc) g4) (by decide)⟩
 ·rw [hok, zE_big hA (by omega)]
  repeat first|apply wg|refine ss rfl ?_|apply nl
  refine W.condT rfl ?_
  repeat first|apply wg|refine ss rfl ?_|apply nl
  refine L.b0 rfl ?_
  repeat first|apply wg|refine ss rfl ?_|apply nl
  refine L.st2 (Cons.row (h := hc) rb4) rfl rfl rfl rfl rfl rfl (fun T2 kk r2 => ?_)
  repeat first|apply wg|refine ss rfl ?_|apply nl
  exact ⟨.inr rfl, _, res2 rfl (load2 r2 rfl), .no (kk.mono (kM.trans hc) g4) (by decide)⟩
 rw [hok, if_pos rfl]
 repeat first|apply wg|refine ss rfl ?_|apply nl
 rw [show decide ((K : Int) > 4096) = false from decide_eq_false (by omega)]
 repeat first|apply wg|refine ss rfl ?_|apply nl
 refine W.condF rfl ?_
 repeat first|apply wg|refine ss rfl ?_|apply nl
 refine L.cl (zInt_C 1 _ (by decide)) rfl rfl ?_
 rintro _ T9 ⟨d9, rfl, r9⟩
 refine ⟨fun _ => r9.1, ?_⟩
 repeat first|apply wg|refine ss rfl ?_|apply nl
 refine L.nr [.bool false, .slice none 0 0] wT rfl rfl (fun b8 T10 g8 k8 r8 => ?_)
 refine L.st2 r8 rfl rfl rfl rfl rfl rfl (fun T11 kk r11 => ?_)
 have hM8 : Tb4.length ≤ b8 := Nat.le_trans (hc.trans r9.1).len g8
 have hc11 : Cons Tb4 T11 := kk.mono ((hc.trans r9.1).trans k8) hM8
 have hd9 : ∀ x, d9.a = some x → x ≠ b8 := fun x hx => by have := r9.2.2.1.lt hx; omega
 have ho9 : RetW Tb4 T11 d9 (toW (1 : Int).natAbs) := (r9.post k8).kne kk hd9 hc11 hc.len
 repeat first|apply wg|refine ss rfl ?_|apply nl
 generalize hzl : zv n l = za at *
 refine W.loop (fun j e T => j ≤ 13 ∧ Cons Tb4 T ∧ e 2 = .pointer (some ⟨b2, 0, none⟩) ∧ e 4 = .pointer (some ⟨b4, 0, none⟩) ∧ e 6 = .int .i64 (K : Int) ∧ e 8 = .pointer (some ⟨b8, 0, none⟩) ∧ e 9 = .int .i64 ((2 ^ j / 2 : Nat) : Int) ∧ zE (za ^ (K / 2 ^ j)) = 0 ∧
   ∃ d : Hd, RetW Tb4 T d (toW (za ^ (K / 2 ^ j)).natAbs) ∧ (∀ x, d.a = some x → x ≠ b8) ∧ T.row? b8 = some (newR [.bool (decide (za ^ (K / 2 ^ j) < 0)), d.v] wT)) 13 ?_ ?_
 ·rw [show K / 2 ^ 13 = 0 from Nat.div_eq_of_lt (by omega), Int.pow_zero]
  exact ⟨Nat.le_refl _, hc11, rfl, rfl, rfl, rfl, rfl, by unfold zE; exact if_pos (show (1 : Int).natAbs < 2 ^ 4096 from Nat.one_lt_two_pow (by decide)), d9, ho9, hd9, r11⟩
 clear hc hc11 ho9 hd9 r11 kk k8 r8 g8 r9
 rintro i e T ⟨hi, hc, e2, e4, e6, e8, e9, hE, d, hR, hne, rb8⟩
 refine W.env5 e2 e4 e6 e8 e9 ?_
 clear e2 e4 e6 e8 e9
 repeat first|apply wg|refine ss rfl ?_|apply nl
 have fitL : zfit l = true := hz.1
 cases i with
 | zero =>
  refine W.condF rfl ?_
  repeat first|apply wg|refine ss rfl ?_|apply nl
  rw [Nat.pow_zero, Nat.div_one] at hE hR rb8
  refine L.z2 rb8 rfl rfl rfl ?_
  repeat first|apply wg|refine ss rfl ?_|apply nl
  refine L.st2 (Cons.row (h := hc) rb4) rfl rfl rfl rfl rfl rfl (fun T10 kk r10 => ?_)
  repeat first|apply wg|refine ss rfl ?_|apply nl
  rw [hE]
  refine ⟨.inr rfl, _, res2 rfl (load2 r10 rfl), d, rfl, ?_⟩
  have hl4 := row_lt rb4
  exact hR.kne kk (fun x hx => by have := hR.2.2.2 x hx; omega) (kk.mono (kM.trans hc) g4) kM.len
 | succ s =>
  refine W.ite rfl (fun h => ?_) (fun h => ?_)
  rotate_left
  ·have := of_decide_eq_false h
   have h1 : 2 ^ (s + 1) / 2 = 2 ^ s := by rw [Nat.pow_succ, Nat.mul_div_cancel _ (by decide)]
   have := Nat.two_pow_pos s
   omega
  clear h
  have hb := half_bit K s
  generalize hJ : K / 2 ^ (s + 1) = J at *
  generalize hO : za ^ J = o at *
  have hlt8 := row_lt rb8
  have w0 := hR.win
  repeat first|apply wg|refine ss rfl ?_|apply nl
  rw [hR.val] at rb8
  refine L.z2 rb8 rfl rfl rfl ?_
  refine L.z2 rb8 rfl rfl rfl ?_
  repeat first|apply wg|refine ss rfl ?_|apply nl
  refine L.cl (zMul_C (decide (o < 0)) (decide (o < 0)) _ _ _ _ (toW o.natAbs) (toW o.natAbs) T w0 w0 (hS.cons (kM.trans hc)) (Nat.le_trans hG (kM.trans hc).len)) rfl rfl ?_
  rintro _ T2 ⟨d2, rfl, r2⟩
  refine ⟨fun _ => r2.1, ?_⟩
  have eE : zE2 (toW o.natAbs) (toW o.natAbs) (zv (decide (o < 0)) (toW o.natAbs) * zv (decide (o < 0)) (toW o.natAbs)) = zE (za ^ (2 * J)) := by
   unfold zE2
   rw [zfit_form hE, Bool.and_self, if_pos rfl, zv_form, ← hO, ← Int.pow_add, Nat.two_mul]
  have eZ : zv (decide (o < 0)) (toW o.natAbs) * zv (decide (o < 0)) (toW o.natAbs) = za ^ (2 * J) := by
   rw [zv_form, ← hO, ← Int.pow_add, Nat.two_mul]
  rw [eE, eZ] at r2 ⊢
  clear eE eZ
  repeat first|apply wg|refine ss rfl ?_|apply nl
  refine L.st2 (Cons.row (h := r2.1) rb8) rfl rfl rfl rfl rfl rfl (fun T3 kk3 r3 => ?_)
  have hc3 : Cons Tb4 T3 := kk3.mono (hc.trans r2.1) hM8
  have hR3 := r2.kp kk3 hlt8 hc3 hc.len
  have hne3 : ∀ x, d2.a = some x → x ≠ b8 := fun x hx => by have := r2.2.2.2 x hx; omega
  repeat first|apply wg|refine ss rfl ?_|apply nl
  rcases zE_vals (za ^ (2 * J)) with hE2 | hE2
  rotate_left
  ·have hfin : zE (za ^ K) = 3 := by
    refine zE_up (i := 2 * J) (by omega) ?_ hE2
    rw [← hJ]
    have h1 := Nat.div_mul_le_self K (2 ^ (s + 1))
    have h2 : 2 * (K / 2 ^ (s + 1)) ≤ K / 2 ^ (s + 1) * 2 ^ (s + 1) := by
     rw [Nat.mul_comm 2]
     exact Nat.mul_le_mul_left _ (by rw [Nat.pow_succ]; have := Nat.two_pow_pos s; omega)
    omega
   rw [hE2, hfin]
   replace hc := hc3
   repeat first|apply wg|refine ss rfl ?_|apply nl
   refine W.condF rfl ?_
   repeat first|apply wg|refine ss rfl ?_|apply nl
   refine W.condT rfl ?_
   repeat first|apply wg|refine ss rfl ?_|apply nl
   refine L.b0 rfl ?_
   repeat first|apply wg|refine ss rfl ?_|apply nl
   refine L.st2 (Cons.row (h := hc) rb4) rfl rfl rfl rfl rfl rfl (fun T2 kk r2 => ?_)
   repeat first|apply wg|refine ss rfl ?_|apply nl
   exact ⟨.inr rfl, _, res2 rfl (load2 r2 rfl), .no (kk.mono (kM.trans hc) g4) (by decide)⟩
  rw [hE2] at hR3 r3 ⊢
  have zl0 : zL 0 (za ^ (2 * J)) = toW (za ^ (2 * J)).natAbs := if_pos rfl
  have zn0 : zN 0 (za ^ (2 * J)) = decide (za ^ (2 * J) < 0) := if_pos rfl
  rw [zl0] at hR3
  rw [zn0] at r3
  have hbit := and_bit K s hK4 (by omega)
  generalize hO2 : za ^ (2 * J) = o2 at *
  have hshr : ∀ x : Nat, x = 2 ^ (s + 1) / 2 → Value.int .i64 (Int.fdiv ((x : Nat) : Int) (2 ^ 1)) = Value.int .i64 ((2 ^ s / 2 : Nat) : Int) := fun x hx => by
   subst hx
   rw [show 2 ^ (s + 1) / 2 = 2 ^ s by rw [Nat.pow_succ, Nat.mul_div_cancel _ (by decide)]]
   refine congrArg (Value.int .i64) ?_
   rw [Int.fdiv_eq_ediv_of_nonneg _ (by decide)]
   rfl
  repeat first|apply wg|refine ss rfl ?_|apply nl
  refine W.ite (t := K.testBit s) ((force_eq rfl).trans (congrArg Value.bool hbit)) (fun hbt => ?_) (fun hbt => ?_)
  rotate_left
  ·rw [hbt] at hb
   repeat first|apply wg|refine ss rfl ?_|apply nl
   refine W.condF rfl ?_
   repeat first|apply wg|refine ss rfl ?_|apply nl
   refine ⟨s, by omega, by omega, hc3, rfl, rfl, rfl, rfl, ?_, ?_, ?_⟩
   ·exact (force_eq rfl).trans (hshr _ rfl)
   ·rw [hb, if_neg (by decide), Nat.add_zero, hO2]; exact hE2
   ·rw [hb, if_neg (by decide), Nat.add_zero, hO2]; exact ⟨d2, hR3, hne3, r3⟩
  ·rw [hbt, if_pos rfl] at hb
   have w2 := hR3.win
   rw [hR3.val] at r3
   repeat first|apply wg|refine ss rfl ?_|apply nl
   refine L.z2 r3 rfl rfl rfl ?_
   refine L.z2 (Cons.row (h := hc3) rb2) rfl rfl rfl ?_
   repeat first|apply wg|refine ss rfl ?_|apply nl
   have hlt8 := row_lt r3
   refine L.cl (zMul_C (decide (o2 < 0)) n _ _ _ _ (toW o2.natAbs) l T3 w2 (h1.cons hc3) (hS.cons (kM.trans hc3)) (Nat.le_trans hG (kM.trans hc3).len)) rfl rfl ?_
   rintro _ T4 ⟨d4, rfl, r4⟩
   refine ⟨fun _ => r4.1, ?_⟩
   have eZ : zv (decide (o2 < 0)) (toW o2.natAbs) * zv n l = za ^ (2 * J + 1) := by
    rw [zv_form, hzl, ← hO2, Int.pow_succ]
   have eE : zE2 (toW o2.natAbs) l (zv (decide (o2 < 0)) (toW o2.natAbs) * zv n l) = zE (za ^ (2 * J + 1)) := by
    unfold zE2
    rw [zfit_form hE2, fitL, Bool.and_self, if_pos rfl, eZ]
   rw [eE, eZ] at r4 ⊢
   clear eE eZ
   repeat first|apply wg|refine ss rfl ?_|apply nl
   refine L.st2 (Cons.row (h := r4.1) r3) rfl rfl rfl rfl rfl rfl (fun T5 kk5 r5 => ?_)
   have hc5 : Cons Tb4 T5 := kk5.mono (hc3.trans r4.1) hM8
   have hR5 := r4.kp kk5 hlt8 hc5 hc3.len
   have hne5 : ∀ x, d4.a = some x → x ≠ b8 := fun x hx => by have := r4.2.2.2 x hx; omega
   repeat first|apply wg|refine ss rfl ?_|apply nl
   rcases zE_vals (za ^ (2 * J + 1)) with hE4 | hE4
   ·rw [hE4] at hR5 r5 ⊢
    rw [show zL 0 (za ^ (2 * J + 1)) = toW (za ^ (2 * J + 1)).natAbs from if_pos rfl] at hR5
    rw [show zN 0 (za ^ (2 * J + 1)) = decide (za ^ (2 * J + 1) < 0) from if_pos rfl] at r5
    repeat first|apply wg|refine ss rfl ?_|apply nl
    refine W.condF rfl ?_
    repeat first|apply wg|refine ss rfl ?_|apply nl
    refine ⟨s, by omega, by omega, hc5, rfl, rfl, rfl, rfl, ?_, ?_, ?_⟩
    ·exact (force_eq rfl).trans (hshr _ rfl)
    ·rw [hb]; exact hE4
    ·rw [hb]; exact ⟨d4, hR5, hne5, r5⟩
   ·have hfin : zE (za ^ K) = 3 := by
     refine zE_up (i := 2 * J + 1) (by omega) ?_ hE4
     rw [← hb]
     exact Nat.div_le_self _ _
    rw [hE4, hfin]
    replace hc := hc5
    repeat first|apply wg|refine ss rfl ?_|apply nl
    refine W.condT rfl ?_
    repeat first|apply wg|refine ss rfl ?_|apply nl
    refine L.b0 rfl ?_
    repeat first|apply wg|refine ss rfl ?_|apply nl
    refine L.st2 (Cons.row (h := hc) rb4) rfl rfl rfl rfl rfl rfl (fun T2 kk r2 => ?_)
    repeat first|apply wg|refine ss rfl ?_|apply nl
    exact ⟨.inr rfl, _, res2 rfl (load2 r2 rfl), .no (kk.mono (kM.trans hc) g4) (by decide)⟩
end Go.Proofs.YtbiigbicgfchiaaGreatDoor

/- Layer 2: the calls by whole numbers. Conditions: the tables lie in memory. -/
namespace Go.Proofs.YtbiigbicgfchiaaGreatDoor
open Go Ie
variable {Ext : FuncId → List Value → Mem → Outc → Mem → Prop}
def ZIs (S : Mem) (u : Value) (z : Int) : Prop := ∃ a c, u = .agg #[.bool (decide (z < 0)), .slice a (toW z.natAbs).length c] ∧ WIn S a c (toW z.natAbs)
theorem ZIs.cons {S S' : Mem} {u : Value} {z : Int} (h : ZIs S u z) (k : Cons S S') : ZIs S' u z := let ⟨a, c, e, w⟩ := h; ⟨a, c, e, w.cons k⟩
theorem ZIs.zero (S : Mem) : ZIs S (.agg #[.bool false, .slice none 0 0]) 0 := ⟨none, 0, by rw [show (0 : Int).natAbs = 0 from rfl, toW_zero]; rfl, by rw [show (0 : Int).natAbs = 0 from rfl, toW_zero]; exact nilZ S⟩
def zok (z : Int) : Prop := z.natAbs < 2 ^ 4096
theorem zok_E {z : Int} (h : zok z) : zE z = 0 := if_pos h
theorem zok_fit {z : Int} (h : zok z) : zfit (toW z.natAbs) = true := zfit_form (zok_E h)
def ZFr (N : Nat) (u : Value) : Prop := ∀ b a n c, u = .agg #[b, .slice (some a) n c] → N ≤ a.block
theorem ZFr.of {S S' : Mem} {d : Hd} {l : WL} {b : Value} (r : RetW S S' d l) : ZFr S.length (.agg #[b, .slice d.ad l.length d.c]) := fun b' a n c e => by
 simp only [Value.agg.injEq, Array.mk.injEq, List.cons.injEq, Value.slice.injEq] at e
 exact (r.own.1.2 a e.2.1.1).2.2.1
def ZR (S S' : Mem) (w : Value) (E z : Int) : Prop := ∃ u, w = .tuple #[u, .int .i64 E] ∧ Cons S S' ∧ ZIs S' u (if E = 0 then z else 0) ∧ ZFr S.length u
theorem ZAns.zr {S S' : Mem} {w : Value} {E z : Int} (h : ZAns S S' w E z) : ZR S S' w E z := by
 obtain ⟨d, rfl, r⟩ := h
 refine ⟨_, rfl, r.1, ?_⟩
 by_cases hE : E = 0
 ·subst hE
  rw [if_pos rfl]
  have e : zL 0 z = toW z.natAbs := if_pos rfl
  rw [e] at r
  rw [r.val]
  exact ⟨⟨_, _, rfl, r.win⟩, .of r⟩
 ·rw [if_neg hE]
  have e : zL E z = [] := if_neg hE
  have e2 : zN E z = false := if_neg hE
  rw [e] at r
  rw [r.val, e2]
  exact ⟨⟨d.ad, d.c, by rw [show (0 : Int).natAbs = 0 from rfl, toW_zero]; rfl, by rw [show (0 : Int).natAbs = 0 from rfl, toW_zero]; exact r.win⟩, .of r⟩
theorem ZR.ok {S S' : Mem} {w : Value} {E z : Int} (h : ZR S S' w E z) (hE : E = 0) : ∃ u, w = .tuple #[u, .int .i64 0] ∧ Cons S S' ∧ ZIs S' u z ∧ ZFr S.length u := by
 subst hE
 obtain ⟨u, e, k, h⟩ := h
 exact ⟨u, e, k, h⟩
section
variable {S : Mem} {u v : Value} {x y : Int}
theorem nAdd_C (hx : ZIs S u x) (hy : ZIs S v y) (fx : zok x) (fy : zok y) : C Tryz.prog gN Ext 30 [u, v] S fun w S' => ZR S S' w (zE (x + y)) (x + y) := by
 obtain ⟨a, c, rfl, w1⟩ := hx
 obtain ⟨a2, c2, rfl, w2⟩ := hy
 refine (zAdd_C _ _ a a2 c c2 _ _ S w1 w2).mono fun w S' h => ?_
 rw [zv_form, zv_form] at h
 unfold zE2 at h
 rw [zok_fit fx, zok_fit fy, Bool.and_self, if_pos rfl] at h
 exact h.zr
theorem nSub_C (hx : ZIs S u x) (hy : ZIs S v y) (fx : zok x) (fy : zok y) : C Tryz.prog gN Ext 31 [u, v] S fun w S' => ZR S S' w (zE (x - y)) (x - y) := by
 obtain ⟨a, c, rfl, w1⟩ := hx
 obtain ⟨a2, c2, rfl, w2⟩ := hy
 refine (zSub_C _ _ a a2 c c2 _ _ S w1 w2).mono fun w S' h => ?_
 rw [zv_form, zv_form] at h
 unfold zE2 at h
 rw [zok_fit fx, zok_fit fy, Bool.and_self, if_pos rfl] at h
 exact h.zr
theorem nMul_C (hx : ZIs S u x) (hy : ZIs S v y) (fx : zok x) (fy : zok y) (hS : SinOk S) (hG : gN ≤ S.length) : C Tryz.prog gN Ext 24 [u, v] S fun w S' => ZR S S' w (zE (x * y)) (x * y) := by
 obtain ⟨a, c, rfl, w1⟩ := hx
 obtain ⟨a2, c2, rfl, w2⟩ := hy
 refine (zMul_C _ _ a a2 c c2 _ _ S w1 w2 hS hG).mono fun w S' h => ?_
 rw [zv_form, zv_form] at h
 unfold zE2 at h
 rw [zok_fit fx, zok_fit fy, Bool.and_self, if_pos rfl] at h
 exact h.zr
theorem nNeg_C (hx : ZIs S u x) : C Tryz.prog gN Ext 32 [u] S fun w S' => ZR S S' w (zE (-x)) (-x) := by
 obtain ⟨a, c, rfl, w1⟩ := hx
 refine (zNeg_C _ a c _ S w1).mono fun w S' h => ?_
 rw [zv_form] at h
 exact h.zr
theorem zde_form (fx : zok x) (fy : zok y) : zDE (toW x.natAbs) (toW y.natAbs) = if y = 0 then 11 else 0 := by
 unfold zDE
 rw [zok_fit fx, zok_fit fy, Bool.and_self, if_pos rfl, wnum_toW]
 by_cases h : y = 0
 ·subst h; rfl
 ·rw [if_neg h, if_neg (by omega)]
theorem nQuo_C (hx : ZIs S u x) (hy : ZIs S v y) (fx : zok x) (fy : zok y) : C Tryz.prog gN Ext 26 [u, v] S fun w S' => ZR S S' w (if y = 0 then 11 else 0) (x.tdiv y) := by
 obtain ⟨a, c, rfl, w1⟩ := hx
 obtain ⟨a2, c2, rfl, w2⟩ := hy
 refine (zQuo_C _ _ a a2 c c2 _ _ S w1 w2).mono fun w S' h => ?_
 rw [zv_form, zv_form, zde_form fx fy] at h
 exact h.zr
theorem nRem_C (hx : ZIs S u x) (hy : ZIs S v y) (fx : zok x) (fy : zok y) : C Tryz.prog gN Ext 27 [u, v] S fun w S' => ZR S S' w (if y = 0 then 11 else 0) (x.tmod y) := by
 obtain ⟨a, c, rfl, w1⟩ := hx
 obtain ⟨a2, c2, rfl, w2⟩ := hy
 refine (zRem_C _ _ a a2 c c2 _ _ S w1 w2).mono fun w S' h => ?_
 rw [zv_form, zv_form, zde_form fx fy] at h
 exact h.zr
theorem nPow_C (hx : ZIs S u x) (hy : ZIs S v y) (fx : zok x) (fy : zok y) (hS : SinOk S) (hG : gN ≤ S.length) : C Tryz.prog gN Ext 12 [u, v] S fun w S' => ZR S S' w (if y < 0 then 20 else zE (x ^ y.toNat)) (x ^ y.toNat) := by
 obtain ⟨a, c, rfl, w1⟩ := hx
 obtain ⟨a2, c2, rfl, w2⟩ := hy
 refine (zPow_C _ _ a a2 c c2 _ _ S w1 w2 hS hG).mono fun w S' h => ?_
 unfold zPE at h
 rw [zv_form, zv_form, zok_fit fx, zok_fit fy, Bool.and_self, if_pos rfl] at h
 exact h.zr
theorem nSign_C (hx : ZIs S u x) : C Tryz.prog gN Ext 28 [u] S fun w S' => w = .int .i64 (cmpI x 0) ∧ Cons S S' := by
 obtain ⟨a, c, rfl, w1⟩ := hx
 refine (zSign_C _ a c _ S w1).mono fun w S' h => ?_
 rw [zv_form] at h
 exact h
theorem nCmp_C (hx : ZIs S u x) (hy : ZIs S v y) : C Tryz.prog gN Ext 29 [u, v] S fun w S' => w = .int .i64 (cmpI x y) ∧ Cons S S' := by
 obtain ⟨a, c, rfl, w1⟩ := hx
 obtain ⟨a2, c2, rfl, w2⟩ := hy
 refine (zCmp_C _ _ a a2 c c2 _ _ S w1 w2).mono fun w S' h => ?_
 rw [zv_form, zv_form] at h
 exact h
theorem nInt64_C (hx : ZIs S u x) : C Tryz.prog gN Ext 34 [u] S fun w S' => w = .tuple #[.int .i64 (if i64ok x then x else 0), .bool (i64ok x)] ∧ Cons S S' := by
 obtain ⟨a, c, rfl, w1⟩ := hx
 refine (zInt64_C _ a c _ S w1).mono fun w S' h => ?_
 rw [zv_form] at h
 exact h
theorem nInt_C (z : Int) (hz : -9223372036854775808 ≤ z ∧ z ≤ 9223372036854775807) : C Tryz.prog gN Ext 21 [.int .i64 z] S fun w S' => ZIs S' w z ∧ Cons S S' ∧ ZFr S.length w := by
 refine (zInt_C z S hz).mono fun w S' h => ?_
 obtain ⟨d, rfl, r⟩ := h
 rw [r.val]
 exact ⟨⟨_, _, rfl, r.win⟩, r.1, .of r⟩
theorem zeq_parts : ((decide (x < 0) == decide (y < 0)) && (toW x.natAbs == toW y.natAbs)) = decide (x = y) := by
 rw [Bool.eq_iff_iff, Bool.and_eq_true, beq_iff_eq, beq_iff_eq, decide_eq_true_eq, decide_eq_decide]
 constructor
 ·rintro ⟨h1, h2⟩
  have h3 : x.natAbs = y.natAbs := by rw [← wnum_toW x.natAbs, h2, wnum_toW]
  omega
 ·rintro rfl
  exact ⟨Iff.rfl, rfl⟩
theorem nSame_C (hx : ZIs S u x) (hy : ZIs S v y) : C Tryz.prog gN Ext 49 [u, v] S fun w S' => w = .bool (decide (x = y)) ∧ Cons S S' := by
 obtain ⟨a1, c1, rfl, h1⟩ := hx
 obtain ⟨a2, c2, rfl, h2⟩ := hy
 rw [← zeq_parts]
 generalize toW x.natAbs = l at *
 generalize toW y.natAbs = k at *
 generalize decide (x < 0) = n at *
 generalize decide (y < 0) = m at *
 refine C.fn Tryz.func49 rfl (by kernel_rfl) rfl ?_
 repeat first|apply wg|refine ss rfl ?_|apply nl
 refine L.nr [.bool n, .slice a1 l.length c1] wT rfl rfl (fun b2 Tb2 gb2 kb2 rb2 => ?_)
 refine L.nr [.bool m, .slice a2 k.length c2] wT rfl rfl (fun b3 Tb3 gb3 kb3 rb3 => ?_)
 have kM := kb2.trans kb3
 replace rb2 := Cons.row (h := kb3) rb2
 replace h1 := h1.cons kM
 replace h2 := h2.cons kM
 have hc := Cons.refl Tb3
 clear kb2 kb3 gb2 gb3
 repeat first|apply wg|refine ss rfl ?_|apply nl
 refine L.zf (Cons.row (h := hc) rb2) rfl rfl rfl rfl rfl ?_
 repeat first|apply wg|refine ss rfl ?_|apply nl
 refine L.zf (Cons.row (h := hc) rb3) rfl rfl rfl rfl rfl ?_
 repeat first|apply wg|refine ss rfl ?_|apply nl
 cases hnm : (n == m)
 ·repeat first|apply wg|refine ss rfl ?_|apply nl
  exact ⟨.inr rfl, _, rfl, rfl, kM⟩
 repeat first|apply wg|refine ss rfl ?_|apply nl
 refine L.zf (Cons.row (h := hc) rb2) rfl rfl rfl rfl rfl ?_
 repeat first|apply wg|refine ss rfl ?_|apply nl
 refine L.zf (Cons.row (h := hc) rb3) rfl rfl rfl rfl rfl ?_
 repeat first|apply wg|refine ss rfl ?_|apply nl
 refine L.cs (sameW_C _ _ l k l.length k.length _ (h1.cons hc).1 (h2.cons hc).1 h1.2.2.2 h2.2.2.2) rfl rfl ?_
 repeat first|apply wg|refine ss rfl ?_|apply nl
 exact ⟨.inr rfl, _, rfl, by rw [Bool.true_and]; rfl, kM.trans hc⟩
end
end Go.Proofs.YtbiigbicgfchiaaGreatDoor

/- Layer 2: numbers in cells, what the statements call besides. Conditions: the tables lie in memory. -/
namespace Go.Proofs.YtbiigbicgfchiaaGreatDoor
open Go Ie
def ZCell (T : Mem) (b : Nat) (z : Int) : Prop := ∃ a c, T.row? b = some (newR [.bool (decide (z < 0)), .slice a (toW z.natAbs).length c] wT) ∧ WIn T a c (toW z.natAbs)
def Zs (T : Mem) (L : List (Nat × Int)) : Prop := ∀ p ∈ L, ZCell T p.1 p.2
theorem Zs.nil (T : Mem) : Zs T [] := fun p hp => by simp at hp
theorem ZCell.cons {T T' : Mem} {b : Nat} {z : Int} (h : ZCell T b z) (k : Cons T T') : ZCell T' b z := let ⟨a, c, r, w⟩ := h; ⟨a, c, Cons.row (h := k) r, w.cons k⟩
theorem Zs.cons {T T' : Mem} {L : List (Nat × Int)} (h : Zs T L) (k : Cons T T') : Zs T' L := fun p hp => (h p hp).cons k
theorem Zs.add {T : Mem} {L : List (Nat × Int)} {b : Nat} {z : Int} (h : Zs T L) (w : ZCell T b z) : Zs T (L ++ [(b, z)]) := fun p hp => by
 rcases List.mem_append.1 hp with hp | hp
 ·exact h p hp
 ·obtain rfl : p = (b, z) := by simpa using hp
  exact w
theorem Zs.at {T : Mem} {L : List (Nat × Int)} {b : Nat} {z : Int} (h : Zs T L) (i : Nat) (e : L[i]? = some (b, z)) : ZCell T b z := h _ (List.mem_of_getElem? e)
section
variable {P : Program} {G : Nat} {Ext : FuncId → List Value → Mem → Outc → Mem → Prop} {e : Env} {S : Mem} {fl : Bool} {ops : Array Oper} {K : Kont}
variable {rest : List Oper} {dst : Option Tmp} {ty : TypeId} {pos : String} {af : Array Edge} {gd : Option (Nat × Bool)}
theorem L.zl {t : TypeId} {x : Operand} {b : Nat} {z : Int} (hc : ZCell S b z) (hw : awanted ops ⟨dst, .load t x, ty, pos, af, gd⟩ e = true) (hx : e.eval x = .pointer (some ⟨b, 0, none⟩)) (hl : aggSize P t = some 2)
  (h : ∀ u, ZIs S u z → L P G Ext fl ops rest (e.put dst u) S K) : L P G Ext fl ops (⟨dst, .load t x, ty, pos, af, gd⟩ :: rest) e S K := by
 obtain ⟨a, c, r, w⟩ := hc
 exact L.ldA (a := ⟨b, 0, none⟩) (n := 2) (cellsAt_of (o := 0) (n := 2) r (Nat.le_refl 2)) hw hx hl (h _ ⟨a, c, rfl, w⟩)
end
variable {Ext : FuncId → List Value → Mem → Outc → Mem → Prop} {S : Mem} {u v : Value} {x y : Int}
theorem zSum_C (hx : ZIs S u x) (hy : ZIs S v y) (fx : zok x) (fy : zok y) (fs : zok (x + y)) : C Tryz.prog gN Ext 22 [u, v] S fun w S' => ZIs S' w (x + y) ∧ Cons S S' ∧ ZFr S.length w := by
 refine C.fn Tryz.func22 rfl (by kernel_rfl) rfl ?_
 have hZ := Zs.nil S
 have hc := Cons.refl S
 repeat first|apply wg|refine ss rfl ?_|apply nl
 obtain ⟨aa, cc, rfl, ww⟩ := hx
 refine L.nr [.bool _, .slice aa _ cc] wT rfl rfl (fun b2 T' k' g' r' => ?_)
 replace hZ := (hZ.cons g').add ⟨aa, cc, r', ww.cons g'⟩
 replace hc := hc.trans g'
 clear g' k' r' ww
 replace hy := hy.cons hc
 obtain ⟨aa, cc, rfl, ww⟩ := hy
 refine L.nr [.bool _, .slice aa _ cc] wT rfl rfl (fun b3 T' k' g' r' => ?_)
 replace hZ := (hZ.cons g').add ⟨aa, cc, r', ww.cons g'⟩
 replace hc := hc.trans g'
 clear g' k' r' ww
 refine L.nr [.bool false, .slice none 0 0] wT rfl rfl (fun b4 Tb4 gb4 kb4 rb4 => ?_)
 replace hZ := hZ.cons kb4
 have kM := hc.trans kb4
 have g4 : S.length ≤ b4 := Nat.le_trans hc.len gb4
 clear hc
 have hc := Cons.refl Tb4
 repeat first|apply wg|refine ss rfl ?_|apply nl
 refine L.zl (hZ.at 0 rfl) rfl rfl rfl (fun u1 hu1 => ?_)
 repeat first|apply wg|refine ss rfl ?_|apply nl
 refine L.zl (hZ.at 1 rfl) rfl rfl rfl (fun u2 hu2 => ?_)
 repeat first|apply wg|refine ss rfl ?_|apply nl
 have hl9 := hc.len
 refine L.cl (nAdd_C hu1 hu2 fx fy) rfl rfl ?_
 rintro _ T' hr
 refine ⟨fun _ => let ⟨_, _, k, _⟩ := hr; k, ?_⟩
 obtain ⟨_, rfl, k', ⟨a9, c9, rfl, w9⟩, hf9⟩ := hr.ok (zok_E fs)
 clear hr
 replace hZ := hZ.cons k'
 replace hc := hc.trans k'
 repeat first|apply wg|refine ss rfl ?_|apply nl
 refine L.nr [.bool false, .slice none 0 0] wT rfl rfl (fun b5 T5 g5 k5 r5 => ?_)
 have hne : ∀ x, a9 = some x → x.block ≠ b4 := fun x hx => by
  subst hx
  have := hf9 _ _ _ _ rfl
  have := row_lt rb4
  omega
 refine L.st2 r5 rfl rfl rfl rfl rfl rfl (fun T6 kk6 r6 => ?_)
 have kx := kk6.mono k5 g5
 replace w9 := w9.cons kx
 replace hc := hc.trans kx
 repeat first|apply wg|refine ss rfl ?_|apply nl
 refine L.z2 r6 rfl rfl rfl ?_
 repeat first|apply wg|refine ss rfl ?_|apply nl
 refine L.st2 (Cons.row (h := hc) rb4) rfl rfl rfl rfl rfl rfl (fun T7 kk7 r7 => ?_)
 repeat first|apply wg|refine ss rfl ?_|apply nl
 exact ⟨.inr rfl, _, res1 rfl (load2 r7 rfl), ⟨a9, c9, rfl, w9.keepb kk7 hne⟩, kk7.mono (kM.trans hc) g4, fun b a n c e => Nat.le_trans (Nat.le_trans kM.len hl9) (hf9 b a n c e)⟩
theorem zProd_C (hx : ZIs S u x) (hy : ZIs S v y) (fx : zok x) (fy : zok y) (fs : zok (x * y)) (hS : SinOk S) (hG : gN ≤ S.length) : C Tryz.prog gN Ext 23 [u, v] S fun w S' => ZIs S' w (x * y) ∧ Cons S S' ∧ ZFr S.length w := by
 refine C.fn Tryz.func23 rfl (by kernel_rfl) rfl ?_
 have hZ := Zs.nil S
 have hc := Cons.refl S
 repeat first|apply wg|refine ss rfl ?_|apply nl
 obtain ⟨aa, cc, rfl, ww⟩ := hx
 refine L.nr [.bool _, .slice aa _ cc] wT rfl rfl (fun b2 T' k' g' r' => ?_)
 replace hZ := (hZ.cons g').add ⟨aa, cc, r', ww.cons g'⟩
 replace hc := hc.trans g'
 clear g' k' r' ww
 replace hy := hy.cons hc
 obtain ⟨aa, cc, rfl, ww⟩ := hy
 refine L.nr [.bool _, .slice aa _ cc] wT rfl rfl (fun b3 T' k' g' r' => ?_)
 replace hZ := (hZ.cons g').add ⟨aa, cc, r', ww.cons g'⟩
 replace hc := hc.trans g'
 clear g' k' r' ww
 refine L.nr [.bool false, .slice none 0 0] wT rfl rfl (fun b4 Tb4 gb4 kb4 rb4 => ?_)
 replace hZ := hZ.cons kb4
 have kM := hc.trans kb4
 have g4 : S.length ≤ b4 := Nat.le_trans hc.len gb4
 clear hc
 have hc := Cons.refl Tb4
 repeat first|apply wg|refine ss rfl ?_|apply nl
 refine L.zl (hZ.at 0 rfl) rfl rfl rfl (fun u1 hu1 => ?_)
 repeat first|apply wg|refine ss rfl ?_|apply nl
 refine L.zl (hZ.at 1 rfl) rfl rfl rfl (fun u2 hu2 => ?_)
 repeat first|apply wg|refine ss rfl ?_|apply nl
 have hl9 := hc.len
 refine L.cl (nMul_C hu1 hu2 fx fy (hS.cons (kM.trans hc)) (Nat.le_trans hG (kM.trans hc).len)) rfl rfl ?_
 rintro _ T' hr
 refine ⟨fun _ => let ⟨_, _, k, _⟩ := hr; k, ?_⟩
 obtain ⟨_, rfl, k', ⟨a9, c9, rfl, w9⟩, hf9⟩ := hr.ok (zok_E fs)
 clear hr
 replace hZ := hZ.cons k'
 replace hc := hc.trans k'
 repeat first|apply wg|refine ss rfl ?_|apply nl
 refine L.nr [.bool false, .slice none 0 0] wT rfl rfl (fun b5 T5 g5 k5 r5 => ?_)
 have hne : ∀ x, a9 = some x → x.block ≠ b4 := fun x hx => by
  subst hx
  have := hf9 _ _ _ _ rfl
  have := row_lt rb4
  omega
 refine L.st2 r5 rfl rfl rfl rfl rfl rfl (fun T6 kk6 r6 => ?_)
 have kx := kk6.mono k5 g5
 replace w9 := w9.cons kx
 replace hc := hc.trans kx
 repeat first|apply wg|refine ss rfl ?_|apply nl
 refine L.z2 r6 rfl rfl rfl ?_
 repeat first|apply wg|refine ss rfl ?_|apply nl
 refine L.st2 (Cons.row (h := hc) rb4) rfl rfl rfl rfl rfl rfl (fun T7 kk7 r7 => ?_)
 repeat first|apply wg|refine ss rfl ?_|apply nl
 exact ⟨.inr rfl, _, res1 rfl (load2 r7 rfl), ⟨a9, c9, rfl, w9.keepb kk7 hne⟩, kk7.mono (kM.trans hc) g4, fun b a n c e => Nat.le_trans (Nat.le_trans kM.len hl9) (hf9 b a n c e)⟩
theorem zSame2_C (hx : ZIs S u x) (hy : ZIs S v y) : C Tryz.prog gN Ext 25 [u, v] S fun w S' => w = .bool (decide (x = y)) ∧ Cons S S' := by
 refine C.fn Tryz.func25 rfl (by kernel_rfl) rfl ?_
 have hZ := Zs.nil S
 have hc := Cons.refl S
 repeat first|apply wg|refine ss rfl ?_|apply nl
 obtain ⟨aa, cc, rfl, ww⟩ := hx
 refine L.nr [.bool _, .slice aa _ cc] wT rfl rfl (fun b2 T' k' g' r' => ?_)
 replace hZ := (hZ.cons g').add ⟨aa, cc, r', ww.cons g'⟩
 replace hc := hc.trans g'
 clear g' k' r' ww
 replace hy := hy.cons hc
 obtain ⟨aa, cc, rfl, ww⟩ := hy
 refine L.nr [.bool _, .slice aa _ cc] wT rfl rfl (fun b3 T' k' g' r' => ?_)
 replace hZ := (hZ.cons g').add ⟨aa, cc, r', ww.cons g'⟩
 replace hc := hc.trans g'
 clear g' k' r' ww
 repeat first|apply wg|refine ss rfl ?_|apply nl
 refine L.zl (hZ.at 0 rfl) rfl rfl rfl (fun u1 hu1 => ?_)
 repeat first|apply wg|refine ss rfl ?_|apply nl
 refine L.zl (hZ.at 1 rfl) rfl rfl rfl (fun u2 hu2 => ?_)
 repeat first|apply wg|refine ss rfl ?_|apply nl
 refine L.cv (nSame_C hu1 hu2) rfl rfl fun T' k' => ?_
 replace hZ := hZ.cons k'
 replace hc := hc.trans k'
 repeat first|apply wg|refine ss rfl ?_|apply nl
 exact ⟨.inr rfl, _, rfl, rfl, hc⟩
theorem zSome_C (b : Bool) (a : Option Addr) (c n : Nat) (l : WL) (S : Mem) (hI : Slv S 1 (.slice a l.length c) l.length (wv l)) (hlen : l.length < UNK) (hn : n ≤ 64) :
  C Tryz.prog gN Ext 19 [wZ b (.slice a l.length c), vi n] S fun w S' => ZIs S' w (zv b (l.take n)) ∧ Cons S S' ∧ ZFr S.length w := by
 refine C.fn Tryz.func19 rfl (by kernel_rfl) rfl ?_
 unfold UNK at hlen
 repeat first|apply wg|refine ss rfl ?_|apply nl
 refine L.nr [.bool b, .slice a l.length c] wT rfl rfl (fun b2 Tb2 gb2 kb2 rb2 => ?_)
 refine L.nr [.bool false, .slice none 0 0] wT rfl rfl (fun b4 Tb4 gb4 kb4 rb4 => ?_)
 have kM := kb2.trans kb4
 have g4 : S.length ≤ b4 := Nat.le_trans kb2.len gb4
 replace rb2 := Cons.row (h := kb4) rb2
 replace hI := hI.cons kM
 clear kb2 kb4 gb2 gb4
 repeat first|apply wg|refine ss rfl ?_|apply nl
 refine W.loop (fun j e T => ∃ (i : Nat) (a3 : Option Addr) (c3 : Nat), j = l.length - i ∧ i ≤ l.length ∧ i ≤ n ∧ Cons Tb4 T ∧ e 1 = vi n ∧ e 2 = .pointer (some ⟨b2, 0, none⟩) ∧ e 4 = .pointer (some ⟨b4, 0, none⟩) ∧ e 5 = .slice a3 i c3 ∧ e 6 = vi i ∧ Grow Tb4.length T 57 1 (.slice a3 i c3) i (wv (l.take i))) l.length
  ⟨0, none, 0, by omega, by omega, by omega, Cons.refl _, rfl, rfl, rfl, rfl, rfl, Grow.nil _ _ _ _⟩ ?_
 rintro j e T ⟨i, a3, c3, rfl, hi, hin, hc, e1, e2, e4, e5, e6, hg⟩
 refine W.env5 e1 e2 e4 e5 e6 ?_
 clear e1 e2 e4 e5 e6
 have fin : (i = l.length ∨ i = n) → l.take n = l.take i := fun h => by
  rcases h with h | h
  ·rw [h, List.take_length]
   by_cases hc : n = l.length
   ·rw [hc, List.take_length]
   ·rw [List.take_of_length_le (by omega)]
  ·rw [h]
 repeat first|apply wg|refine ss rfl ?_|apply nl
 refine L.zf (Cons.row (h := hc) rb2) rfl rfl rfl rfl rfl ?_
 repeat first|apply wg|refine ss rfl ?_|apply nl
 cases hb : decide ((i : Int) < (l.length : Int))
 ·have hil : i = l.length := by have := of_decide_eq_false hb; omega
  clear hb
  repeat first|apply wg|refine ss rfl ?_|apply nl
  refine W.condF rfl ?_
  rw [fin (.inl hil)]
  have hl : (l.take i).length = i := by rw [List.length_take]; omega
  have ww := grow_win (l := l.take i) (a := a3) (c := c3) (N := Tb4.length) (S := T) (el := 57) (by rw [hl]; exact hg) (by omega)
  have hbig : wnum (l.take i) < 2 ^ 4096 := by
   have h1 := wnum_lt (l.take i)
   rw [hl] at h1
   exact Nat.lt_of_lt_of_le h1 (Nat.pow_le_pow_right (by decide) (by omega))
  have hE : zE (zv b (l.take i)) = 0 := by unfold zE; rw [zv_abs, if_pos hbig]
  repeat first|apply wg|refine ss rfl ?_|apply nl
  refine L.zf (Cons.row (h := hc) rb2) rfl rfl rfl rfl rfl ?_
  repeat first|apply wg|refine ss rfl ?_|apply nl
  have hl9 := hc.len
  refine L.cl (zMake_C b a3 c3 (l.take i) T ww) rfl (by rw [hl]; rfl) ?_
  rintro _ T' hr
  have hr := hr.zr
  obtain ⟨_, rfl, k', ⟨a9, c9, rfl, w9⟩, hf9⟩ := hr.ok hE
  refine ⟨fun _ => k', ?_⟩
  replace hc := hc.trans k'
  clear hr
  generalize zv b (l.take i) = x at *
  repeat first|apply wg|refine ss rfl ?_|apply nl
  refine L.nr [.bool false, .slice none 0 0] wT rfl rfl (fun b5 T5 g5 k5 r5 => ?_)
  have hne : ∀ x, a9 = some x → x.block ≠ b4 := fun x hx => by
   subst hx
   have := hf9 _ _ _ _ rfl
   have := row_lt rb4
   omega
  refine L.st2 r5 rfl rfl rfl rfl rfl rfl (fun T6 kk6 r6 => ?_)
  have kx := kk6.mono k5 g5
  replace w9 := w9.cons kx
  replace hc := hc.trans kx
  repeat first|apply wg|refine ss rfl ?_|apply nl
  refine L.z2 r6 rfl rfl rfl ?_
  repeat first|apply wg|refine ss rfl ?_|apply nl
  refine L.st2 (Cons.row (h := hc) rb4) rfl rfl rfl rfl rfl rfl (fun T7 kk7 r7 => ?_)
  repeat first|apply wg|refine ss rfl ?_|apply nl
  exact ⟨.inr rfl, _, res1 rfl (load2 r7 rfl), ⟨a9, c9, rfl, w9.keepb kk7 hne⟩, kk7.mono (kM.trans hc) g4, fun b a n c e => Nat.le_trans (Nat.le_trans kM.len hl9) (hf9 b a n c e)⟩
 have hil : i < l.length := by have := of_decide_eq_true hb; omega
 clear hb
 repeat first|apply wg|refine ss rfl ?_|apply nl
 refine W.ite rfl (fun h => ?_) (fun h => ?_)
 ·have hin2 : i < n := by have := of_decide_eq_true h; omega
  clear h
  obtain ⟨x, hx⟩ : ∃ x, l[i]? = some x := ⟨_, List.getElem?_eq_getElem hil⟩
  repeat first|apply wg|refine ss rfl ?_|apply nl
  refine L.zf (Cons.row (h := hc) rb2) rfl rfl rfl rfl rfl ?_
  repeat first|apply wg|refine ss rfl ?_|apply nl
  refine L.el (hI.cons hc) (k := i) rfl (wv_get hx) rfl rfl rfl rfl (fun _ => rfl) rfl (fun p => ?_)
  repeat first|apply wg|refine ss rfl ?_|apply nl
  refine L.push1 (w := v64 x) rfl hc.len (.inl hg) rfl rfl rfl rfl rfl (by omega) rfl (fun _ => rfl) (fun p a4 c4 S2 h2 h3 h4 => ?_)
  repeat first|apply wg|refine ss rfl ?_|apply nl
  refine ⟨l.length - (i + 1), by omega, i + 1, a4, c4, rfl, by omega, by omega, hc.trans' h4, rfl, rfl, rfl, rfl, congrArg (Value.int .i64) (wrap64 (by omega) (by omega)), ?_⟩
  have : wv (l.take (i + 1)) = wv (l.take i) ++ [v64 x] := by rw [List.take_add_one, hx, wv, List.map_append]; rfl
  rw [this]; exact h2
 ·have hin2 : i = n := by have := of_decide_eq_false h; omega
  clear h
  rw [fin (.inr hin2)]
  have hl : (l.take i).length = i := by rw [List.length_take]; omega
  have ww := grow_win (l := l.take i) (a := a3) (c := c3) (N := Tb4.length) (S := T) (el := 57) (by rw [hl]; exact hg) (by omega)
  have hbig : wnum (l.take i) < 2 ^ 4096 := by
   have h1 := wnum_lt (l.take i)
   rw [hl] at h1
   exact Nat.lt_of_lt_of_le h1 (Nat.pow_le_pow_right (by decide) (by omega))
  have hE : zE (zv b (l.take i)) = 0 := by unfold zE; rw [zv_abs, if_pos hbig]
  repeat first|apply wg|refine ss rfl ?_|apply nl
  refine L.zf (Cons.row (h := hc) rb2) rfl rfl rfl rfl rfl ?_
  repeat first|apply wg|refine ss rfl ?_|apply nl
  have hl9 := hc.len
  refine L.cl (zMake_C b a3 c3 (l.take i) T ww) rfl (by rw [hl]; rfl) ?_
  rintro _ T' hr
  have hr := hr.zr
  obtain ⟨_, rfl, k', ⟨a9, c9, rfl, w9⟩, hf9⟩ := hr.ok hE
  refine ⟨fun _ => k', ?_⟩
  replace hc := hc.trans k'
  clear hr
  generalize zv b (l.take i) = x at *
  repeat first|apply wg|refine ss rfl ?_|apply nl
  refine L.nr [.bool false, .slice none 0 0] wT rfl rfl (fun b5 T5 g5 k5 r5 => ?_)
  have hne : ∀ x, a9 = some x → x.block ≠ b4 := fun x hx => by
   subst hx
   have := hf9 _ _ _ _ rfl
   have := row_lt rb4
   omega
  refine L.st2 r5 rfl rfl rfl rfl rfl rfl (fun T6 kk6 r6 => ?_)
  have kx := kk6.mono k5 g5
  replace w9 := w9.cons kx
  replace hc := hc.trans kx
  repeat first|apply wg|refine ss rfl ?_|apply nl
  refine L.z2 r6 rfl rfl rfl ?_
  repeat first|apply wg|refine ss rfl ?_|apply nl
  refine L.st2 (Cons.row (h := hc) rb4) rfl rfl rfl rfl rfl rfl (fun T7 kk7 r7 => ?_)
  repeat first|apply wg|refine ss rfl ?_|apply nl
  exact ⟨.inr rfl, _, res1 rfl (load2 r7 rfl), ⟨a9, c9, rfl, w9.keepb kk7 hne⟩, kk7.mono (kM.trans hc) g4, fun b a n c e => Nat.le_trans (Nat.le_trans kM.len hl9) (hf9 b a n c e)⟩
end Go.Proofs.YtbiigbicgfchiaaGreatDoor

/- Layer 2: texts, the short calls. Conditions: the tables lie in memory. -/
namespace Go.Proofs.YtbiigbicgfchiaaGreatDoor
open Go Ie
variable {Ext : FuncId → List Value → Mem → Outc → Mem → Prop} {S : Mem} {u v : Value} {x y : Int}
def zText (x : Int) : BL := if x < 0 then 45#8 :: dec x.natAbs else dec x.natAbs
theorem dec_short {x : Int} (fx : zok x) : (dec x.natAbs).length ≤ 2467 := dec_bound (up4 fx)
theorem nText_C (hx : ZIs S u x) (fx : zok x) (hP : PowOk S) : C Tryz.prog gN Ext 45 [u] S fun w S' => w = .tuple #[.string (strB (zText x)), .int .i64 0] ∧ Cons S S' := by
 refine C.fn Tryz.func45 rfl (by kernel_rfl) rfl ?_
 obtain ⟨a1, c1, rfl, h1⟩ := hx
 repeat first|apply wg|refine ss rfl ?_|apply nl
 refine L.nr [.bool (decide (x < 0)), .slice a1 (toW x.natAbs).length c1] wT rfl rfl (fun b2 Tb2 gb2 kb2 rb2 => ?_)
 have hc := Cons.refl Tb2
 repeat first|apply wg|refine ss rfl ?_|apply nl
 refine L.z2 (Cons.row (h := hc) rb2) rfl rfl rfl ?_
 repeat first|apply wg|refine ss rfl ?_|apply nl
 refine L.bz [(decide (x < 0), ⟨a1, c1, toW x.natAbs⟩)] rfl rfl rfl rfl rfl (fun bs Ts gs ks rs => ?_)
 replace hc := hc.trans ks
 repeat first|apply wg|refine ss rfl ?_|apply nl
 refine L.cl (zFit_C bs [(decide (x < 0), ⟨a1, c1, toW x.natAbs⟩)] Ts rs (fun z hz => by
  simp only [List.mem_cons, List.not_mem_nil, or_false] at hz
  rcases hz with rfl
  exact h1.cons (kb2.trans hc)) (by simp)) rfl rfl ?_
 rintro _ Tf ⟨rfl, kf⟩
 refine ⟨fun _ => kf, ?_⟩
 replace hc := hc.trans kf
 rw [show (([(decide (x < 0), WS.mk a1 c1 (toW x.natAbs))] : List ZW).all fun z => zfit z.2.l) = true by simp [zok_fit fx]]
 repeat first|apply wg|refine ss rfl ?_|apply nl
 refine W.condF rfl ?_
 repeat first|apply wg|refine ss rfl ?_|apply nl
 refine L.zf (Cons.row (h := hc) rb2) rfl rfl rfl rfl rfl ?_
 repeat first|apply wg|refine ss rfl ?_|apply nl
 have hsm : small (toW x.natAbs) = true := small_of (by rw [wnum_toW]; exact up4 fx)
 refine L.cv (natText_C a1 c1 (toW x.natAbs) _ (h1.cons (kb2.trans hc)) (hP.cons (kb2.trans hc))) rfl rfl fun Tt kt => ?_
 replace hc := hc.trans kt
 rw [show textL (toW x.natAbs) = dec x.natAbs by unfold textL; rw [hsm, if_pos rfl, wnum_toW], show textE (toW x.natAbs) = 0 by unfold textE; rw [hsm]; rfl]
 repeat first|apply wg|refine ss rfl ?_|apply nl
 refine L.z2 (Cons.row (h := hc) rb2) rfl rfl rfl ?_
 repeat first|apply wg|refine ss rfl ?_|apply nl
 refine L.cv (nSign_C (x := x) ⟨a1, c1, rfl, h1.cons (kb2.trans hc)⟩) rfl rfl fun Tg kg => ?_
 replace hc := hc.trans kg
 have hd := dec_short fx
 unfold zText
 by_cases hneg : x < 0
 ·rw [if_pos hneg, cmp_neg hneg]
  repeat first|apply wg|refine ss rfl ?_|apply nl
  refine W.condT rfl ?_
  repeat first|apply wg|refine ss rfl ?_|apply nl
  refine L.tadd (a := [45#8]) (b := dec x.natAbs) rfl rfl (by simp; omega) rfl ?_
  repeat first|apply wg|refine ss rfl ?_|apply nl
  exact ⟨.inr rfl, _, rfl, rfl, kb2.trans hc⟩
 ·rw [if_neg hneg]
  repeat first|apply wg|refine ss rfl ?_|apply nl
  rw [show decide (cmpI x 0 < 0) = false from decide_eq_false (by rcases cmpI_vals x 0 with h | h | h <;> first | omega | (exact absurd (cz1 h) hneg))]
  repeat first|apply wg|refine ss rfl ?_|apply nl
  refine W.condF rfl ?_
  repeat first|apply wg|refine ss rfl ?_|apply nl
  exact ⟨.inr rfl, _, rfl, rfl, kb2.trans hc⟩
theorem zok_small {z : Int} (h : z.natAbs < 18446744073709551616) : zok z := Nat.lt_of_lt_of_le h (by
 have : (2 : Nat) ^ 64 ≤ 2 ^ 4096 := Nat.pow_le_pow_right (by decide) (by decide)
 omega)
theorem works_C (S : Mem) (hS : SinOk S) (hP : PowOk S) (hG : gN ≤ S.length) : C Tryz.prog gN Ext 18 [] S fun v S' => v = .bool true ∧ Cons S S' := by
 refine C.fn Tryz.func18 rfl (by kernel_rfl) rfl ?_
 have hZ := Zs.nil S
 have hc := Cons.refl S
 repeat first|apply wg|refine ss rfl ?_|apply nl
 refine L.cl (nInt_C (-7) (by decide)) rfl rfl ?_
 rintro _ T' ⟨⟨a0, c0, rfl, w0⟩, k', hf0⟩
 refine ⟨fun _ => k', ?_⟩
 replace hZ := hZ.cons k'
 replace hc := hc.trans k'
 repeat first|apply wg|refine ss rfl ?_|apply nl
 refine L.cl (nInt_C 2 (by decide)) rfl rfl ?_
 rintro _ T' ⟨⟨a1, c1, rfl, w1⟩, k', hf1⟩
 refine ⟨fun _ => k', ?_⟩
 replace hZ := hZ.cons k'
 replace hc := hc.trans k'
 repeat first|apply wg|refine ss rfl ?_|apply nl
 replace w0 := w0.cons k'
 refine L.nr [.bool false, .slice none 0 0] wT rfl rfl (fun b0 T1' g1' k1' r1' => ?_)
 refine L.nr [.bool false, .slice none 0 0] wT rfl rfl (fun b1 T2' g2' k2' r2' => ?_)
 have n12 : b1 ≠ b0 := by have := row_lt r1'; omega
 replace r1' := Cons.row (h := k2') r1'
 refine L.st2 r1' rfl rfl rfl rfl rfl rfl (fun T3' kk1 s1' => ?_)
 refine L.st2 (kk1.row r2' n12) rfl rfl rfl rfl rfl rfl (fun T' kk2 s2' => ?_)
 replace s1' := kk2.row s1' (Ne.symm n12)
 have kx := kk2.mono (kk1.mono (k1'.trans k2') g1') (Nat.le_trans k1'.len g2')
 replace hZ := ((hZ.cons kx).add ⟨a0, c0, s1', w0.cons kx⟩).add ⟨a1, c1, s2', w1.cons kx⟩
 replace hc := hc.trans kx
 clear kx kk1 kk2 s1' s2' r1' r2' k1' k2' g1' g2' n12
 repeat first|apply wg|refine ss rfl ?_|apply nl
 refine L.zl (hZ.at 0 rfl) rfl rfl rfl (fun u2 hu2 => ?_)
 repeat first|apply wg|refine ss rfl ?_|apply nl
 refine L.zl (hZ.at 1 rfl) rfl rfl rfl (fun u3 hu3 => ?_)
 repeat first|apply wg|refine ss rfl ?_|apply nl
 refine L.cl (nQuo_C hu2 hu3 (zok_small (by decide)) (zok_small (by decide))) rfl rfl ?_
 rintro _ T' hr
 refine ⟨fun _ => let ⟨_, _, k, _⟩ := hr; k, ?_⟩
 obtain ⟨_, rfl, k', ⟨a4, c4, rfl, w4⟩, hf4⟩ := hr.ok (rfl)
 clear hr
 replace hZ := hZ.cons k'
 replace hc := hc.trans k'
 repeat first|apply wg|refine ss rfl ?_|apply nl
 refine L.nr [.bool false, .slice none 0 0] wT rfl rfl (fun b4 T' g' k' r' => ?_)
 refine L.st2 r' rfl rfl rfl rfl rfl rfl (fun T' kk' r'' => ?_)
 have kx := kk'.mono k' g'
 replace hZ := (hZ.cons kx).add ⟨a4, c4, r'', w4.cons kx⟩
 replace hc := hc.trans kx
 clear kx kk' r'' r' k' g' w4
 repeat first|apply wg|refine ss rfl ?_|apply nl
 refine L.zl (hZ.at 0 rfl) rfl rfl rfl (fun u5 hu5 => ?_)
 repeat first|apply wg|refine ss rfl ?_|apply nl
 refine L.zl (hZ.at 1 rfl) rfl rfl rfl (fun u6 hu6 => ?_)
 repeat first|apply wg|refine ss rfl ?_|apply nl
 refine L.cl (nRem_C hu5 hu6 (zok_small (by decide)) (zok_small (by decide))) rfl rfl ?_
 rintro _ T' hr
 refine ⟨fun _ => let ⟨_, _, k, _⟩ := hr; k, ?_⟩
 obtain ⟨_, rfl, k', ⟨a7, c7, rfl, w7⟩, hf7⟩ := hr.ok (rfl)
 clear hr
 replace hZ := hZ.cons k'
 replace hc := hc.trans k'
 repeat first|apply wg|refine ss rfl ?_|apply nl
 refine L.nr [.bool false, .slice none 0 0] wT rfl rfl (fun b7 T' g' k' r' => ?_)
 refine L.st2 r' rfl rfl rfl rfl rfl rfl (fun T' kk' r'' => ?_)
 have kx := kk'.mono k' g'
 replace hZ := (hZ.cons kx).add ⟨a7, c7, r'', w7.cons kx⟩
 replace hc := hc.trans kx
 clear kx kk' r'' r' k' g' w7
 repeat first|apply wg|refine ss rfl ?_|apply nl
 refine L.cl (nInt_C (-2) (by decide)) rfl rfl ?_
 rintro _ T' ⟨⟨a8, c8, rfl, w8⟩, k', hf8⟩
 refine ⟨fun _ => k', ?_⟩
 replace hZ := hZ.cons k'
 replace hc := hc.trans k'
 repeat first|apply wg|refine ss rfl ?_|apply nl
 refine L.cl (nInt_C 3 (by decide)) rfl rfl ?_
 rintro _ T' ⟨⟨a9, c9, rfl, w9⟩, k', hf9⟩
 refine ⟨fun _ => k', ?_⟩
 replace hZ := hZ.cons k'
 replace hc := hc.trans k'
 repeat first|apply wg|refine ss rfl ?_|apply nl
 replace w8 := w8.cons k'
 refine L.cl (nPow_C ⟨a8, c8, rfl, w8⟩ ⟨a9, c9, rfl, w9⟩ (zok_small (by decide)) (zok_small (by decide)) (hS.cons hc) (Nat.le_trans hG hc.len)) rfl rfl ?_
 rintro _ T' hr
 refine ⟨fun _ => let ⟨_, _, k, _⟩ := hr; k, ?_⟩
 obtain ⟨_, rfl, k', ⟨a10, c10, rfl, w10⟩, hf10⟩ := hr.ok ((if_neg (by decide)).trans (zok_E (zok_small (z := (-2) ^ (3 : Int).toNat) (by decide))))
 clear hr
 replace hZ := hZ.cons k'
 replace hc := hc.trans k'
 repeat first|apply wg|refine ss rfl ?_|apply nl
 refine L.nr [.bool false, .slice none 0 0] wT rfl rfl (fun b10 T' g' k' r' => ?_)
 refine L.st2 r' rfl rfl rfl rfl rfl rfl (fun T' kk' r'' => ?_)
 have kx := kk'.mono k' g'
 replace hZ := (hZ.cons kx).add ⟨a10, c10, r'', w10.cons kx⟩
 replace hc := hc.trans kx
 clear kx kk' r'' r' k' g' w10
 repeat first|apply wg|refine ss rfl ?_|apply nl
 refine L.zl (hZ.at 4 rfl) rfl rfl rfl (fun u11 hu11 => ?_)
 repeat first|apply wg|refine ss rfl ?_|apply nl
 refine L.cv (nText_C hu11 (zok_small (by decide)) (hP.cons hc)) rfl rfl fun T' k' => ?_
 replace hZ := hZ.cons k'
 replace hc := hc.trans k'
 repeat first|apply wg|refine ss rfl ?_|apply nl
 refine L.zl (hZ.at 0 rfl) rfl rfl rfl (fun u12 hu12 => ?_)
 repeat first|apply wg|refine ss rfl ?_|apply nl
 refine L.b0 rfl ?_
 repeat first|apply wg|refine ss rfl ?_|apply nl
 refine L.cl (nQuo_C hu12 (ZIs.zero _) (zok_small (by decide)) (zok_small (by decide))) rfl rfl ?_
 rintro _ T' ⟨_, rfl, k', ⟨a13, c13, rfl, w13⟩, hf13⟩
 refine ⟨fun _ => k', ?_⟩
 replace hZ := hZ.cons k'
 replace hc := hc.trans k'
 repeat first|apply wg|refine ss rfl ?_|apply nl
 refine L.nr [.bool false, .slice none 0 0] wT rfl rfl (fun b13 T' g' k' r' => ?_)
 refine L.st2 r' rfl rfl rfl rfl rfl rfl (fun T' kk' r'' => ?_)
 have kx := kk'.mono k' g'
 replace hZ := (hZ.cons kx).add ⟨a13, c13, r'', w13.cons kx⟩
 replace hc := hc.trans kx
 clear kx kk' r'' r' k' g' w13
 repeat first|apply wg|refine ss rfl ?_|apply nl
 refine L.zl (hZ.at 2 rfl) rfl rfl rfl (fun u14 hu14 => ?_)
 repeat first|apply wg|refine ss rfl ?_|apply nl
 refine L.cv (nInt64_C hu14) rfl rfl fun T' k' => ?_
 replace hZ := hZ.cons k'
 replace hc := hc.trans k'
 repeat first|apply wg|refine ss rfl ?_|apply nl
 refine L.zl (hZ.at 3 rfl) rfl rfl rfl (fun u15 hu15 => ?_)
 repeat first|apply wg|refine ss rfl ?_|apply nl
 refine L.cv (nInt64_C hu15) rfl rfl fun T' k' => ?_
 replace hZ := hZ.cons k'
 replace hc := hc.trans k'
 repeat first|apply wg|refine ss rfl ?_|apply nl
 rw [show zText ((-2) ^ (3 : Int).toNat) = [45#8, 56#8] by
  rw [show ((-2 : Int) ^ (3 : Int).toNat) = -8 from rfl]
  unfold zText
  rw [if_pos (by decide), show (-8 : Int).natAbs = 8 from rfl, dec_small (by decide)]; rfl]
 repeat first|apply wg|refine ss rfl ?_|apply nl
 refine ⟨.inr rfl, _, rfl, (force_eq rfl).trans (congrArg Value.bool ?_), hc⟩
 exact beq_self_eq_true (strB [45#8, 56#8]).toList
end Go.Proofs.YtbiigbicgfchiaaGreatDoor

/- The law of quotient and rest, walked. Conditions: the tables lie in memory. -/
namespace Go.Proofs.YtbiigbicgfchiaaGreatDoor
open Go Ie
variable {Ext : FuncId → List Value → Mem → Outc → Mem → Prop}
def Bd (k : Nat) (z : Int) : Prop := z.natAbs < 2 ^ k
theorem Bd.ok {k : Nat} {z : Int} (h : Bd k z) (hk : k ≤ 4096) : zok z := Nat.lt_of_lt_of_le h (Nat.pow_le_pow_right (by decide) hk)
theorem Bd.up {k j : Nat} {z : Int} (h : Bd k z) (hk : k ≤ j) : Bd j z := Nat.lt_of_lt_of_le h (Nat.pow_le_pow_right (by decide) hk)
theorem Bd.add {k : Nat} {x y : Int} (h : Bd k x) (g : Bd k y) : Bd (k + 1) (x + y) := by
 unfold Bd at *
 rw [Nat.pow_succ]
 have := Int.natAbs_add_le x y
 omega
theorem Bd.neg {k : Nat} {x : Int} (h : Bd k x) : Bd k (-x) := by unfold Bd at *; rw [Int.natAbs_neg]; exact h
theorem Bd.mul {i j : Nat} {x y : Int} (h : Bd i x) (g : Bd j y) : Bd (i + j) (x * y) := by
 unfold Bd at *
 rw [Int.natAbs_mul, Nat.pow_add]
 exact Nat.mul_lt_mul'' h g
theorem Bd.take {b : Bool} {l : WL} {k : Nat} : Bd (64 * k) (zv b (l.take k)) := by
 unfold Bd
 rw [zv_abs]
 exact num_len (by rw [List.length_take]; omega)
theorem ZR.bad {S S' : Mem} {w : Value} {E z : Int} (h : ZR S S' w E z) (hE : E ≠ 0) : ∃ u, w = .tuple #[u, .int .i64 E] ∧ Cons S S' ∧ ZIs S' u 0 ∧ ZFr S.length u := by
 obtain ⟨u, e, k, h, f⟩ := h
 rw [if_neg hE] at h
 exact ⟨u, e, k, h, f⟩
theorem wholeParts_C (b0 b1 : Bool) (a0 a1 : Option Addr) (c0 c1 : Nat) (l0 l1 : WL) (S : Mem) (h0 : Slv S 1 (.slice a0 l0.length c0) l0.length (wv l0)) (h1 : Slv S 1 (.slice a1 l1.length c1) l1.length (wv l1)) (n0 : l0.length < UNK) (n1 : l1.length < UNK) (hS : SinOk S) (hP : PowOk S) (hG : gN ≤ S.length) :
  C Tryz.prog gN Ext 5 [wZ b0 (.slice a0 l0.length c0), wZ b1 (.slice a1 l1.length c1)] S fun v S' => v = .bool true ∧ Cons S S' := by
 refine C.fn Tryz.func5 rfl (by kernel_rfl) rfl ?_
 have hZ := Zs.nil S
 repeat first|apply wg|refine ss rfl ?_|apply nl
 refine L.nr [.bool b0, .slice a0 l0.length c0] wT rfl rfl (fun b2 Tb2 gb2 kb2 rb2 => ?_)
 refine L.nr [.bool b1, .slice a1 l1.length c1] wT rfl rfl (fun b3 Tb3 gb3 kb3 rb3 => ?_)
 have kM := kb2.trans kb3
 replace rb2 := Cons.row (h := kb3) rb2
 have hc0 := Cons.refl Tb3
 replace h0 := h0.cons kM
 replace h1 := h1.cons kM
 replace hS := hS.cons kM
 replace hP := hP.cons kM
 replace hG := Nat.le_trans hG kM.len
 replace hZ := Zs.nil Tb3
 have hc := hc0
 clear kb2 kb3 gb2 gb3
 repeat first|apply wg|refine ss rfl ?_|apply nl
 refine L.z2 (Cons.row (h := hc) rb2) rfl rfl rfl ?_
 repeat first|apply wg|refine ss rfl ?_|apply nl
 refine L.cl (zSome_C b0 a0 c0 64 l0 _ (h0.cons hc) n0 (by decide)) rfl rfl ?_
 rintro _ T' ⟨⟨a0, c0, rfl, w0⟩, k', hf0⟩
 refine ⟨fun _ => k', ?_⟩
 replace hZ := hZ.cons k'
 replace hc := hc.trans k'
 repeat first|apply wg|refine ss rfl ?_|apply nl
 refine L.z2 (Cons.row (h := hc) rb3) rfl rfl rfl ?_
 repeat first|apply wg|refine ss rfl ?_|apply nl
 refine L.cl (zSome_C b1 a1 c1 64 l1 _ (h1.cons hc) n1 (by decide)) rfl rfl ?_
 rintro _ T' ⟨⟨a1, c1, rfl, w1⟩, k', hf1⟩
 refine ⟨fun _ => k', ?_⟩
 replace hZ := hZ.cons k'
 replace hc := hc.trans k'
 repeat first|apply wg|refine ss rfl ?_|apply nl
 replace w0 := w0.cons k'
 have fA : zok (zv b0 (l0.take 64)) := (Bd.take (b := b0) (l := l0) (k := 64)).ok (by decide)
 have fB : zok (zv b1 (l1.take 64)) := (Bd.take (b := b1) (l := l1) (k := 64)).ok (by decide)
 generalize zv b0 (l0.take 64) = A at *
 generalize zv b1 (l1.take 64) = B at *
 refine L.nr [.bool false, .slice none 0 0] wT rfl rfl (fun b0 T1' g1' k1' r1' => ?_)
 refine L.nr [.bool false, .slice none 0 0] wT rfl rfl (fun b1 T2' g2' k2' r2' => ?_)
 have n12 : b1 ≠ b0 := by have := row_lt r1'; omega
 replace r1' := Cons.row (h := k2') r1'
 refine L.st2 r1' rfl rfl rfl rfl rfl rfl (fun T3' kk1 s1' => ?_)
 refine L.st2 (kk1.row r2' n12) rfl rfl rfl rfl rfl rfl (fun T' kk2 s2' => ?_)
 replace s1' := kk2.row s1' (Ne.symm n12)
 have kx := kk2.mono (kk1.mono (k1'.trans k2') g1') (Nat.le_trans k1'.len g2')
 replace hZ := ((hZ.cons kx).add ⟨a0, c0, s1', w0.cons kx⟩).add ⟨a1, c1, s2', w1.cons kx⟩
 replace hc := hc.trans kx
 clear kx kk1 kk2 s1' s2' r1' r2' k1' k2' g1' g2' n12
 repeat first|apply wg|refine ss rfl ?_|apply nl
 by_cases hB : B = 0
 ·refine L.zl (hZ.at 0 rfl) rfl rfl rfl (fun u2 hu2 => ?_)
  repeat first|apply wg|refine ss rfl ?_|apply nl
  refine L.zl (hZ.at 1 rfl) rfl rfl rfl (fun u3 hu3 => ?_)
  repeat first|apply wg|refine ss rfl ?_|apply nl
  refine L.cl (nQuo_C hu2 hu3 fA fB) rfl rfl ?_
  rintro _ T' hr
  refine ⟨fun _ => let ⟨_, _, k, _⟩ := hr; k, ?_⟩
  rw [if_pos hB] at hr
  obtain ⟨_, rfl, k', ⟨a4, c4, rfl, w4⟩, hf4⟩ := hr.bad (by decide)
  clear hr
  replace hZ := hZ.cons k'
  replace hc := hc.trans k'
  repeat first|apply wg|refine ss rfl ?_|apply nl
  refine L.nr [.bool false, .slice none 0 0] wT rfl rfl (fun b4 T' g' k' r' => ?_)
  refine L.st2 r' rfl rfl rfl rfl rfl rfl (fun T' kk' r'' => ?_)
  have kx := kk'.mono k' g'
  replace hZ := (hZ.cons kx).add ⟨a4, c4, r'', w4.cons kx⟩
  replace hc := hc.trans kx
  clear kx kk' r'' r' k' g' w4
  repeat first|apply wg|refine ss rfl ?_|apply nl
  refine L.zl (hZ.at 0 rfl) rfl rfl rfl (fun u5 hu5 => ?_)
  repeat first|apply wg|refine ss rfl ?_|apply nl
  refine L.zl (hZ.at 1 rfl) rfl rfl rfl (fun u6 hu6 => ?_)
  repeat first|apply wg|refine ss rfl ?_|apply nl
  refine L.cl (nRem_C hu5 hu6 fA fB) rfl rfl ?_
  rintro _ T' hr
  refine ⟨fun _ => let ⟨_, _, k, _⟩ := hr; k, ?_⟩
  rw [if_pos hB] at hr
  obtain ⟨_, rfl, k', ⟨a7, c7, rfl, w7⟩, hf7⟩ := hr.bad (by decide)
  clear hr
  replace hZ := hZ.cons k'
  replace hc := hc.trans k'
  repeat first|apply wg|refine ss rfl ?_|apply nl
  refine L.nr [.bool false, .slice none 0 0] wT rfl rfl (fun b7 T' g' k' r' => ?_)
  refine L.st2 r' rfl rfl rfl rfl rfl rfl (fun T' kk' r'' => ?_)
  have kx := kk'.mono k' g'
  replace hZ := (hZ.cons kx).add ⟨a7, c7, r'', w7.cons kx⟩
  replace hc := hc.trans kx
  clear kx kk' r'' r' k' g' w7
  repeat first|apply wg|refine ss rfl ?_|apply nl
  refine L.zl (hZ.at 1 rfl) rfl rfl rfl (fun u8 hu8 => ?_)
  repeat first|apply wg|refine ss rfl ?_|apply nl
  refine L.cv (nSign_C hu8) rfl rfl fun T' k' => ?_
  replace hZ := hZ.cons k'
  replace hc := hc.trans k'
  repeat first|apply wg|refine ss rfl ?_|apply nl
  rw [hB, cmp_zero]
  repeat first|apply wg|refine ss rfl ?_|apply nl
  refine W.condT rfl ?_
  repeat first|apply wg|refine ss rfl ?_|apply nl
  refine L.zl (hZ.at 2 rfl) rfl rfl rfl (fun u9 hu9 => ?_)
  repeat first|apply wg|refine ss rfl ?_|apply nl
  refine L.b0 rfl ?_
  repeat first|apply wg|refine ss rfl ?_|apply nl
  refine L.cv (zSame2_C hu9 (ZIs.zero _)) rfl rfl fun T' k' => ?_
  replace hZ := hZ.cons k'
  replace hc := hc.trans k'
  repeat first|apply wg|refine ss rfl ?_|apply nl
  refine L.zl (hZ.at 3 rfl) rfl rfl rfl (fun u10 hu10 => ?_)
  repeat first|apply wg|refine ss rfl ?_|apply nl
  refine L.b0 rfl ?_
  repeat first|apply wg|refine ss rfl ?_|apply nl
  refine L.cv (zSame2_C hu10 (ZIs.zero _)) rfl rfl fun T' k' => ?_
  replace hZ := hZ.cons k'
  replace hc := hc.trans k'
  repeat first|apply wg|refine ss rfl ?_|apply nl
  refine L.cv (works_C _ (hS.cons hc) (hP.cons hc) (Nat.le_trans hG hc.len)) rfl rfl fun M4 k4 => ?_
  repeat first|apply wg|refine ss rfl ?_|apply nl
  exact ⟨.inr rfl, _, rfl, rfl, (kM.trans hc).trans k4⟩
 ·have hid := Int.mul_tdiv_add_tmod A B
  have fP : zok (B * A.tdiv B) := by
   unfold zok at *
   rw [Int.natAbs_mul, Int.natAbs_tdiv]
   exact Nat.lt_of_le_of_lt (Nat.mul_div_le _ _) fA
  have fQ : zok (A.tdiv B) := by
   unfold zok at *
   rw [Int.natAbs_tdiv]
   exact Nat.lt_of_le_of_lt (Nat.div_le_self _ _) fA
  have fR : zok (A.tmod B) := by
   unfold zok at *
   rw [Int.natAbs_tmod]
   exact Nat.lt_of_le_of_lt (Nat.mod_le _ _) fA
  have hlt : (A.tmod B).natAbs < B.natAbs := by
   rw [Int.natAbs_tmod]
   exact Nat.mod_lt _ (by omega)
  have hsg : A.tmod B = 0 ∨ cmpI (A.tmod B) 0 = cmpI A 0 := by
   rcases Int.lt_trichotomy A 0 with h | h | h
   ·have h1 : A.tmod B ≤ 0 := by
     have h2 := Int.tmod_nonneg B (a := -A) (by omega)
     rw [Int.neg_tmod] at h2
     omega
    rcases Int.lt_or_eq_of_le h1 with h2 | h2
    ·right; rw [cmp_neg h2, cmp_neg h]
    ·left; exact h2
   ·left; rw [h]; exact Int.zero_tmod B
   ·have h1 : 0 ≤ A.tmod B := Int.tmod_nonneg B (by omega)
    rcases Int.lt_or_eq_of_le h1 with h2 | h2
    ·right; rw [cmp_pos h2, cmp_pos h]
    ·left; exact h2.symm
  generalize hQe : A.tdiv B = Q at *
  generalize hRe : A.tmod B = R at *
  refine L.zl (hZ.at 0 rfl) rfl rfl rfl (fun u2 hu2 => ?_)
  repeat first|apply wg|refine ss rfl ?_|apply nl
  refine L.zl (hZ.at 1 rfl) rfl rfl rfl (fun u3 hu3 => ?_)
  repeat first|apply wg|refine ss rfl ?_|apply nl
  refine L.cl (nQuo_C hu2 hu3 fA fB) rfl rfl ?_
  rintro _ T' hr
  refine ⟨fun _ => let ⟨_, _, k, _⟩ := hr; k, ?_⟩
  obtain ⟨_, rfl, k', ⟨a4, c4, rfl, w4⟩, hf4⟩ := hr.ok (if_neg hB)
  clear hr
  replace hZ := hZ.cons k'
  replace hc := hc.trans k'
  repeat first|apply wg|refine ss rfl ?_|apply nl
  rw [hQe] at w4 ⊢
  refine L.nr [.bool false, .slice none 0 0] wT rfl rfl (fun b4 T' g' k' r' => ?_)
  refine L.st2 r' rfl rfl rfl rfl rfl rfl (fun T' kk' r'' => ?_)
  have kx := kk'.mono k' g'
  replace hZ := (hZ.cons kx).add ⟨a4, c4, r'', w4.cons kx⟩
  replace hc := hc.trans kx
  clear kx kk' r'' r' k' g' w4
  repeat first|apply wg|refine ss rfl ?_|apply nl
  refine L.zl (hZ.at 0 rfl) rfl rfl rfl (fun u5 hu5 => ?_)
  repeat first|apply wg|refine ss rfl ?_|apply nl
  refine L.zl (hZ.at 1 rfl) rfl rfl rfl (fun u6 hu6 => ?_)
  repeat first|apply wg|refine ss rfl ?_|apply nl
  refine L.cl (nRem_C hu5 hu6 fA fB) rfl rfl ?_
  rintro _ T' hr
  refine ⟨fun _ => let ⟨_, _, k, _⟩ := hr; k, ?_⟩
  obtain ⟨_, rfl, k', ⟨a7, c7, rfl, w7⟩, hf7⟩ := hr.ok (if_neg hB)
  clear hr
  replace hZ := hZ.cons k'
  replace hc := hc.trans k'
  repeat first|apply wg|refine ss rfl ?_|apply nl
  rw [hRe] at w7 ⊢
  refine L.nr [.bool false, .slice none 0 0] wT rfl rfl (fun b7 T' g' k' r' => ?_)
  refine L.st2 r' rfl rfl rfl rfl rfl rfl (fun T' kk' r'' => ?_)
  have kx := kk'.mono k' g'
  replace hZ := (hZ.cons kx).add ⟨a7, c7, r'', w7.cons kx⟩
  replace hc := hc.trans kx
  clear kx kk' r'' r' k' g' w7
  repeat first|apply wg|refine ss rfl ?_|apply nl
  refine L.zl (hZ.at 1 rfl) rfl rfl rfl (fun u8 hu8 => ?_)
  repeat first|apply wg|refine ss rfl ?_|apply nl
  refine L.cv (nSign_C hu8) rfl rfl fun T' k' => ?_
  replace hZ := hZ.cons k'
  replace hc := hc.trans k'
  repeat first|apply wg|refine ss rfl ?_|apply nl
  refine W.ite rfl (fun h => ?_) (fun h => ?_)
  ·exfalso
   exact hB ((cmp_eq B 0).1 (of_decide_eq_true h))
  clear h
  repeat first|apply wg|refine ss rfl ?_|apply nl
  obtain ⟨aa, cc, rr, ww⟩ := hZ.at 1 rfl
  refine L.zf rr rfl rfl rfl rfl rfl ?_
  repeat first|apply wg|refine ss rfl ?_|apply nl
  refine L.bd #[.bool false, .slice aa (toW (B).natAbs).length cc] (pl := [(1, .slice aa (toW (B).natAbs).length cc)]) (z := .agg #[.bool false, .slice none 0 0]) rfl rfl rfl (by kernel_rfl) rfl ?_
  refine L.nr [.bool false, .slice none 0 0] wT rfl rfl (fun b11 T' g' k' r' => ?_)
  refine L.st2 r' rfl rfl rfl rfl rfl rfl (fun T' kk' r'' => ?_)
  have kx := kk'.mono k' g'
  replace hZ := (hZ.cons kx).add (b := b11) (z := ((B).natAbs : Int)) ⟨aa, cc, by rw [show decide (((B).natAbs : Int) < 0) = false from decide_eq_false (by omega), Int.natAbs_natCast]; exact r'', by rw [Int.natAbs_natCast]; exact ww.cons kx⟩
  replace hc := hc.trans kx
  clear kx kk' r'' r' k' g' ww rr
  repeat first|apply wg|refine ss rfl ?_|apply nl
  obtain ⟨aa, cc, rr, ww⟩ := hZ.at 3 rfl
  refine L.zf rr rfl rfl rfl rfl rfl ?_
  repeat first|apply wg|refine ss rfl ?_|apply nl
  refine L.bd #[.bool false, .slice aa (toW (R).natAbs).length cc] (pl := [(1, .slice aa (toW (R).natAbs).length cc)]) (z := .agg #[.bool false, .slice none 0 0]) rfl rfl rfl (by kernel_rfl) rfl ?_
  refine L.nr [.bool false, .slice none 0 0] wT rfl rfl (fun b12 T' g' k' r' => ?_)
  refine L.st2 r' rfl rfl rfl rfl rfl rfl (fun T' kk' r'' => ?_)
  have kx := kk'.mono k' g'
  replace hZ := (hZ.cons kx).add (b := b12) (z := ((R).natAbs : Int)) ⟨aa, cc, by rw [show decide (((R).natAbs : Int) < 0) = false from decide_eq_false (by omega), Int.natAbs_natCast]; exact r'', by rw [Int.natAbs_natCast]; exact ww.cons kx⟩
  replace hc := hc.trans kx
  clear kx kk' r'' r' k' g' ww rr
  repeat first|apply wg|refine ss rfl ?_|apply nl
  refine L.zl (hZ.at 1 rfl) rfl rfl rfl (fun u13 hu13 => ?_)
  repeat first|apply wg|refine ss rfl ?_|apply nl
  refine L.zl (hZ.at 2 rfl) rfl rfl rfl (fun u14 hu14 => ?_)
  repeat first|apply wg|refine ss rfl ?_|apply nl
  refine L.cl (zProd_C hu13 hu14 fB fQ fP (hS.cons hc) (Nat.le_trans hG hc.len)) rfl rfl ?_
  rintro _ T' ⟨⟨a15, c15, rfl, w15⟩, k', hf15⟩
  refine ⟨fun _ => k', ?_⟩
  replace hZ := hZ.cons k'
  replace hc := hc.trans k'
  repeat first|apply wg|refine ss rfl ?_|apply nl
  refine L.zl (hZ.at 3 rfl) rfl rfl rfl (fun u16 hu16 => ?_)
  repeat first|apply wg|refine ss rfl ?_|apply nl
  refine L.cl (zSum_C ⟨_, _, rfl, w15⟩ hu16 fP fR (hid ▸ fA)) rfl rfl ?_
  rintro _ T' ⟨⟨a17, c17, rfl, w17⟩, k', hf17⟩
  refine ⟨fun _ => k', ?_⟩
  replace hZ := hZ.cons k'
  replace hc := hc.trans k'
  repeat first|apply wg|refine ss rfl ?_|apply nl
  rw [hid] at w17 ⊢
  refine L.zl (hZ.at 0 rfl) rfl rfl rfl (fun u18 hu18 => ?_)
  repeat first|apply wg|refine ss rfl ?_|apply nl
  refine L.cv (zSame2_C ⟨_, _, rfl, w17⟩ hu18) rfl rfl fun T' k' => ?_
  replace hZ := hZ.cons k'
  replace hc := hc.trans k'
  repeat first|apply wg|refine ss rfl ?_|apply nl
  rw [decide_eq_true rfl]
  repeat first|apply wg|refine ss rfl ?_|apply nl
  refine L.zl (hZ.at 3 rfl) rfl rfl rfl (fun u19 hu19 => ?_)
  repeat first|apply wg|refine ss rfl ?_|apply nl
  refine L.cv (nSign_C hu19) rfl rfl fun T' k' => ?_
  replace hZ := hZ.cons k'
  replace hc := hc.trans k'
  repeat first|apply wg|refine ss rfl ?_|apply nl
  have hlt' : cmpI ((R.natAbs : Nat) : Int) ((B.natAbs : Nat) : Int) = -1 := by unfold cmpI; rw [if_pos (by omega)]
  by_cases hR0 : R = 0
  ·rw [show cmpI R 0 = 0 from (cmp_eq R 0).2 hR0]
   repeat first|apply wg|refine ss rfl ?_|apply nl
   refine L.zl (hZ.at 5 rfl) rfl rfl rfl (fun u20 hu20 => ?_)
   repeat first|apply wg|refine ss rfl ?_|apply nl
   refine L.zl (hZ.at 4 rfl) rfl rfl rfl (fun u21 hu21 => ?_)
   repeat first|apply wg|refine ss rfl ?_|apply nl
   refine L.cv (nCmp_C hu20 hu21) rfl rfl fun T' k' => ?_
   replace hZ := hZ.cons k'
   replace hc := hc.trans k'
   repeat first|apply wg|refine ss rfl ?_|apply nl
   rw [hlt']
   repeat first|apply wg|refine ss rfl ?_|apply nl
   refine L.cv (works_C _ (hS.cons hc) (hP.cons hc) (Nat.le_trans hG hc.len)) rfl rfl fun M4 k4 => ?_
   repeat first|apply wg|refine ss rfl ?_|apply nl
   exact ⟨.inr rfl, _, rfl, rfl, (kM.trans hc).trans k4⟩
  ·have hs1 : ¬ cmpI R 0 = 0 := fun h => hR0 ((cmp_eq R 0).1 h)
   repeat first|apply wg|refine ss rfl ?_|apply nl
   rw [show (cmpI R 0 == (0 : Int)) = false from decide_eq_false hs1]
   repeat first|apply wg|refine ss rfl ?_|apply nl
   refine L.zl (hZ.at 3 rfl) rfl rfl rfl (fun u22 hu22 => ?_)
   repeat first|apply wg|refine ss rfl ?_|apply nl
   refine L.cv (nSign_C hu22) rfl rfl fun T' k' => ?_
   replace hZ := hZ.cons k'
   replace hc := hc.trans k'
   repeat first|apply wg|refine ss rfl ?_|apply nl
   refine L.zl (hZ.at 0 rfl) rfl rfl rfl (fun u23 hu23 => ?_)
   repeat first|apply wg|refine ss rfl ?_|apply nl
   refine L.cv (nSign_C hu23) rfl rfl fun T' k' => ?_
   replace hZ := hZ.cons k'
   replace hc := hc.trans k'
   repeat first|apply wg|refine ss rfl ?_|apply nl
   rw [hsg.resolve_left hR0]
   repeat first|apply wg|refine ss rfl ?_|apply nl
   rw [show (cmpI A 0 == cmpI A 0) = true from decide_eq_true rfl]
   repeat first|apply wg|refine ss rfl ?_|apply nl
   refine L.zl (hZ.at 5 rfl) rfl rfl rfl (fun u20 hu20 => ?_)
   repeat first|apply wg|refine ss rfl ?_|apply nl
   refine L.zl (hZ.at 4 rfl) rfl rfl rfl (fun u21 hu21 => ?_)
   repeat first|apply wg|refine ss rfl ?_|apply nl
   refine L.cv (nCmp_C hu20 hu21) rfl rfl fun T' k' => ?_
   replace hZ := hZ.cons k'
   replace hc := hc.trans k'
   repeat first|apply wg|refine ss rfl ?_|apply nl
   rw [hlt']
   repeat first|apply wg|refine ss rfl ?_|apply nl
   refine L.cv (works_C _ (hS.cons hc) (hP.cons hc) (Nat.le_trans hG hc.len)) rfl rfl fun M4 k4 => ?_
   repeat first|apply wg|refine ss rfl ?_|apply nl
   exact ⟨.inr rfl, _, rfl, rfl, (kM.trans hc).trans k4⟩
end Go.Proofs.YtbiigbicgfchiaaGreatDoor

/- The law of sums and products, walked. Conditions: the tables lie in memory. -/
namespace Go.Proofs.YtbiigbicgfchiaaGreatDoor
open Go Ie
variable {Ext : FuncId → List Value → Mem → Outc → Mem → Prop}
def Us (T : Mem) (L : List (Value × Int)) : Prop := ∀ p ∈ L, ZIs T p.1 p.2
theorem Us.nil (T : Mem) : Us T [] := fun p hp => by simp at hp
theorem Us.cons {T T' : Mem} {L : List (Value × Int)} (h : Us T L) (k : Cons T T') : Us T' L := fun p hp => (h p hp).cons k
theorem Us.add {T : Mem} {L : List (Value × Int)} {u : Value} {z : Int} (h : Us T L) (w : ZIs T u z) : Us T ((u, z) :: L) := fun p hp => by
 rcases List.mem_cons.1 hp with rfl | hp
 ·exact w
 ·exact h p hp
theorem Us.at {T : Mem} {L : List (Value × Int)} {u : Value} {z : Int} (h : Us T L) (i : Nat) (e : L[i]? = some (u, z)) : ZIs T u z := h _ (List.mem_of_getElem? e)
theorem cmp_bd (a b : Int) : -1 ≤ cmpI a b ∧ cmpI a b ≤ 1 := by unfold cmpI; split <;> (try split) <;> omega
theorem sgn_neg (a b : Int) : IntKind.i64.wrap (0 - cmpI a b) = -cmpI a b := by have := cmp_bd a b; rw [Int.zero_sub]; exact wrap64 (by omega) (by omega)
theorem sgn_mul (a b c d : Int) : IntKind.i64.wrap (cmpI a b * cmpI c d) = cmpI a b * cmpI c d := by
 have h1 : cmpI a b = -1 ∨ cmpI a b = 0 ∨ cmpI a b = 1 := by have := cmp_bd a b; omega
 have := cmp_bd c d
 rcases h1 with h | h | h <;> rw [h] <;> exact wrap64 (by omega) (by omega)
theorem cmp_negl (a : Int) : cmpI (-a) 0 = -cmpI a 0 := by rw [← cmp_swap, cmp_sub 0]; congr 1; omega
theorem wholeLaws_C (b0 b1 b2 : Bool) (a0 a1 a2 : Option Addr) (c0 c1 c2 : Nat) (l0 l1 l2 : WL) (S : Mem) (h0 : Slv S 1 (.slice a0 l0.length c0) l0.length (wv l0)) (h1 : Slv S 1 (.slice a1 l1.length c1) l1.length (wv l1)) (h2 : Slv S 1 (.slice a2 l2.length c2) l2.length (wv l2)) (n0 : l0.length < UNK) (n1 : l1.length < UNK) (n2 : l2.length < UNK) (hS : SinOk S) (hP : PowOk S) (hG : gN ≤ S.length) :
  C Tryz.prog gN Ext 7 [wZ b0 (.slice a0 l0.length c0), wZ b1 (.slice a1 l1.length c1), wZ b2 (.slice a2 l2.length c2)] S fun v S' => v = .bool true ∧ Cons S S' := by
 refine C.fn Tryz.func7 rfl (by kernel_rfl) rfl ?_
 repeat first|apply wg|refine ss rfl ?_|apply nl
 refine L.nr [.bool b0, .slice a0 l0.length c0] wT rfl rfl (fun b3 Tb3 gb3 kb3 rb3 => ?_)
 refine L.nr [.bool b1, .slice a1 l1.length c1] wT rfl rfl (fun b4 Tb4 gb4 kb4 rb4 => ?_)
 refine L.nr [.bool b2, .slice a2 l2.length c2] wT rfl rfl (fun b5 Tb5 gb5 kb5 rb5 => ?_)
 have kM := (kb3.trans kb4).trans kb5
 replace rb3 := Cons.row (h := kb4.trans kb5) rb3
 replace rb4 := Cons.row (h := kb5) rb4
 replace h0 := h0.cons kM
 replace h1 := h1.cons kM
 replace h2 := h2.cons kM
 replace hS := hS.cons kM
 replace hP := hP.cons kM
 replace hG := Nat.le_trans hG kM.len
 have hZ := Zs.nil Tb5
 have hc := Cons.refl Tb5
 clear kb3 kb4 kb5 gb3 gb4 gb5
 repeat first|apply wg|refine ss rfl ?_|apply nl
 refine L.z2 (Cons.row (h := hc) rb3) rfl rfl rfl ?_
 repeat first|apply wg|refine ss rfl ?_|apply nl
 refine L.cl (zSome_C b0 a0 c0 20 l0 _ (h0.cons hc) n0 (by decide)) rfl rfl ?_
 rintro _ T' ⟨⟨a0, c0, rfl, w0⟩, k', hf0⟩
 refine ⟨fun _ => k', ?_⟩
 replace hZ := hZ.cons k'
 replace hc := hc.trans k'
 repeat first|apply wg|refine ss rfl ?_|apply nl
 refine L.z2 (Cons.row (h := hc) rb4) rfl rfl rfl ?_
 repeat first|apply wg|refine ss rfl ?_|apply nl
 refine L.cl (zSome_C b1 a1 c1 20 l1 _ (h1.cons hc) n1 (by decide)) rfl rfl ?_
 rintro _ T' ⟨⟨a1, c1, rfl, w1⟩, k', hf1⟩
 refine ⟨fun _ => k', ?_⟩
 replace hZ := hZ.cons k'
 replace hc := hc.trans k'
 repeat first|apply wg|refine ss rfl ?_|apply nl
 replace w0 := w0.cons k'
 refine L.z2 (Cons.row (h := hc) rb5) rfl rfl rfl ?_
 repeat first|apply wg|refine ss rfl ?_|apply nl
 refine L.cl (zSome_C b2 a2 c2 20 l2 _ (h2.cons hc) n2 (by decide)) rfl rfl ?_
 rintro _ T' ⟨⟨a2, c2, rfl, w2⟩, k', hf2⟩
 refine ⟨fun _ => k', ?_⟩
 replace hZ := hZ.cons k'
 replace hc := hc.trans k'
 repeat first|apply wg|refine ss rfl ?_|apply nl
 replace w0 := w0.cons k'
 replace w1 := w1.cons k'
 have fA : Bd 1280 (zv b0 (l0.take 20)) := Bd.take
 have fB : Bd 1280 (zv b1 (l1.take 20)) := Bd.take
 have fC : Bd 1280 (zv b2 (l2.take 20)) := Bd.take
 generalize zv b0 (l0.take 20) = A at *
 generalize zv b1 (l1.take 20) = B at *
 generalize zv b2 (l2.take 20) = C at *
 refine L.nr [.bool false, .slice none 0 0] wT rfl rfl (fun b0 T1' g1' k1' r1' => ?_)
 refine L.nr [.bool false, .slice none 0 0] wT rfl rfl (fun b1 T2' g2' k2' r2' => ?_)
 refine L.nr [.bool false, .slice none 0 0] wT rfl rfl (fun b2 T3' g3' k3' r3' => ?_)
 have n12 : b1 ≠ b0 := by have := row_lt r1'; omega
 have n13 : b2 ≠ b0 := by have := row_lt r1'; have := k2'.len; omega
 have n23 : b2 ≠ b1 := by have := row_lt r2'; omega
 replace r1' := Cons.row (h := k2'.trans k3') r1'
 replace r2' := Cons.row (h := k3') r2'
 refine L.st2 r1' rfl rfl rfl rfl rfl rfl (fun T4' kk1 s1' => ?_)
 refine L.st2 (kk1.row r2' n12) rfl rfl rfl rfl rfl rfl (fun T5' kk2 s2' => ?_)
 refine L.st2 (kk2.row (kk1.row r3' n13) n23) rfl rfl rfl rfl rfl rfl (fun T' kk3 s3' => ?_)
 replace s1' := kk3.row (kk2.row s1' (Ne.symm n12)) (Ne.symm n13)
 replace s2' := kk3.row s2' (Ne.symm n23)
 have kx := kk3.mono (kk2.mono (kk1.mono ((k1'.trans k2').trans k3') g1') (Nat.le_trans k1'.len g2')) (Nat.le_trans (k1'.trans k2').len g3')
 replace hZ := (((hZ.cons kx).add ⟨a0, c0, s1', w0.cons kx⟩).add ⟨a1, c1, s2', w1.cons kx⟩).add ⟨a2, c2, s3', w2.cons kx⟩
 replace hc := hc.trans kx
 clear kx kk1 kk2 kk3 s1' s2' s3' r1' r2' r3' k1' k2' k3' g1' g2' g3' n12 n13 n23
 repeat first|apply wg|refine ss rfl ?_|apply nl
 have hU := Us.nil T'
 refine L.zl (hZ.at 0 rfl) rfl rfl rfl (fun u hu => ?_)
 replace hU := hU.add hu
 clear hu
 repeat first|apply wg|refine ss rfl ?_|apply nl
 refine L.zl (hZ.at 1 rfl) rfl rfl rfl (fun u hu => ?_)
 replace hU := hU.add hu
 clear hu
 repeat first|apply wg|refine ss rfl ?_|apply nl
 have g1 : Bd 1281 (A + B) := Bd.add (k := 1280) (fA) (fB)
 refine L.cl (zSum_C (hU.at 1 rfl) (hU.at 0 rfl) (fA.ok (by decide)) (fB.ok (by decide)) (g1.ok (by decide))) rfl rfl ?_
 rintro u T' ⟨wu, k', _⟩
 refine ⟨fun _ => k', ?_⟩
 replace hZ := hZ.cons k'
 replace hc := hc.trans k'
 replace hU := (hU.cons k').add wu
 clear wu k'
 repeat first|apply wg|refine ss rfl ?_|apply nl
 refine L.zl (hZ.at 1 rfl) rfl rfl rfl (fun u hu => ?_)
 replace hU := hU.add hu
 clear hu
 repeat first|apply wg|refine ss rfl ?_|apply nl
 refine L.cl (nSub_C (hU.at 1 rfl) (hU.at 0 rfl) (g1.ok (by decide)) (fB.ok (by decide))) rfl rfl ?_
 rintro _ T' hr
 refine ⟨fun _ => let ⟨_, _, k, _⟩ := hr; k, ?_⟩
 have e1 : A + B - B = A := by omega
 rw [e1, show zE A = 0 from zok_E (fA.ok (by decide))] at hr
 obtain ⟨_, rfl, k', ⟨a4, c4, rfl, w4⟩, _⟩ := hr.ok rfl
 clear hr
 replace hZ := hZ.cons k'
 replace hc := hc.trans k'
 repeat first|apply wg|refine ss rfl ?_|apply nl
 refine L.nr [.bool false, .slice none 0 0] wT rfl rfl (fun b4 T' g' k' r' => ?_)
 refine L.st2 r' rfl rfl rfl rfl rfl rfl (fun T' kk' r'' => ?_)
 have kx := kk'.mono k' g'
 replace hZ := (hZ.cons kx).add ⟨a4, c4, r'', w4.cons kx⟩
 replace hc := hc.trans kx
 clear kx kk' r'' r' k' g' w4
 repeat first|apply wg|refine ss rfl ?_|apply nl
 replace hU := Us.nil T'
 repeat first|apply wg|refine ss rfl ?_|apply nl
 refine L.zl (hZ.at 0 rfl) rfl rfl rfl (fun u hu => ?_)
 replace hU := hU.add hu
 clear hu
 repeat first|apply wg|refine ss rfl ?_|apply nl
 refine L.cl (nNeg_C (hU.at 0 rfl)) rfl rfl ?_
 rintro _ T' hr
 refine ⟨fun _ => let ⟨_, _, k, _⟩ := hr; k, ?_⟩
 have fN : Bd 1280 (-A) := Bd.neg fA
 rw [show zE (-A) = 0 from zok_E (fN.ok (by decide))] at hr
 obtain ⟨_, rfl, k', ⟨a5, c5, rfl, w5⟩, _⟩ := hr.ok rfl
 clear hr
 replace hZ := hZ.cons k'
 replace hc := hc.trans k'
 repeat first|apply wg|refine ss rfl ?_|apply nl
 refine L.nr [.bool false, .slice none 0 0] wT rfl rfl (fun b5 T' g' k' r' => ?_)
 refine L.st2 r' rfl rfl rfl rfl rfl rfl (fun T' kk' r'' => ?_)
 have kx := kk'.mono k' g'
 replace hZ := (hZ.cons kx).add ⟨a5, c5, r'', w5.cons kx⟩
 replace hc := hc.trans kx
 clear kx kk' r'' r' k' g' w5
 repeat first|apply wg|refine ss rfl ?_|apply nl
 replace hU := Us.nil T'
 repeat first|apply wg|refine ss rfl ?_|apply nl
 refine L.zl (hZ.at 3 rfl) rfl rfl rfl (fun u hu => ?_)
 replace hU := hU.add hu
 clear hu
 repeat first|apply wg|refine ss rfl ?_|apply nl
 refine L.zl (hZ.at 0 rfl) rfl rfl rfl (fun u hu => ?_)
 replace hU := hU.add hu
 clear hu
 repeat first|apply wg|refine ss rfl ?_|apply nl
 refine L.cv (zSame2_C (hU.at 1 rfl) (hU.at 0 rfl)) rfl rfl fun T' k' => ?_
 replace hZ := hZ.cons k'
 replace hc := hc.trans k'
 replace hU := hU.cons k'
 clear k'
 repeat first|apply wg|refine ss rfl ?_|apply nl
 rw [decide_eq_true rfl]
 repeat first|apply wg|refine ss rfl ?_|apply nl
 replace hU := Us.nil T'
 refine L.zl (hZ.at 0 rfl) rfl rfl rfl (fun u hu => ?_)
 replace hU := hU.add hu
 clear hu
 repeat first|apply wg|refine ss rfl ?_|apply nl
 refine L.zl (hZ.at 4 rfl) rfl rfl rfl (fun u hu => ?_)
 replace hU := hU.add hu
 clear hu
 repeat first|apply wg|refine ss rfl ?_|apply nl
 have g2 : Bd 1281 (A + (-A)) := Bd.add (k := 1280) (fA) (fN)
 refine L.cl (zSum_C (hU.at 1 rfl) (hU.at 0 rfl) (fA.ok (by decide)) (fN.ok (by decide)) (g2.ok (by decide))) rfl rfl ?_
 rintro u T' ⟨wu, k', _⟩
 refine ⟨fun _ => k', ?_⟩
 replace hZ := hZ.cons k'
 replace hc := hc.trans k'
 replace hU := (hU.cons k').add wu
 clear wu k'
 repeat first|apply wg|refine ss rfl ?_|apply nl
 refine L.cv (nSign_C (hU.at 0 rfl)) rfl rfl fun T' k' => ?_
 replace hZ := hZ.cons k'
 replace hc := hc.trans k'
 replace hU := hU.cons k'
 clear k'
 repeat first|apply wg|refine ss rfl ?_|apply nl
 rw [show cmpI (A + (-A)) 0 = 0 by rw [show A + -A = 0 by omega]; rfl]
 repeat first|apply wg|refine ss rfl ?_|apply nl
 replace hU := Us.nil T'
 refine L.zl (hZ.at 4 rfl) rfl rfl rfl (fun u hu => ?_)
 replace hU := hU.add hu
 clear hu
 repeat first|apply wg|refine ss rfl ?_|apply nl
 refine L.cv (nSign_C (hU.at 0 rfl)) rfl rfl fun T' k' => ?_
 replace hZ := hZ.cons k'
 replace hc := hc.trans k'
 replace hU := hU.cons k'
 clear k'
 repeat first|apply wg|refine ss rfl ?_|apply nl
 replace hU := Us.nil T'
 refine L.zl (hZ.at 0 rfl) rfl rfl rfl (fun u hu => ?_)
 replace hU := hU.add hu
 clear hu
 repeat first|apply wg|refine ss rfl ?_|apply nl
 refine L.cv (nSign_C (hU.at 0 rfl)) rfl rfl fun T' k' => ?_
 replace hZ := hZ.cons k'
 replace hc := hc.trans k'
 replace hU := hU.cons k'
 clear k'
 repeat first|apply wg|refine ss rfl ?_|apply nl
 rw [sgn_neg]
 repeat first|apply wg|refine ss rfl ?_|apply nl
 rw [show (cmpI (-A) 0 != -cmpI A 0) = false by rw [cmp_negl]; exact bne_self_eq_false _]
 repeat first|apply wg|refine ss rfl ?_|apply nl
 replace hU := Us.nil T'
 refine W.condF rfl ?_
 repeat first|apply wg|refine ss rfl ?_|apply nl
 replace hU := Us.nil T'
 repeat first|apply wg|refine ss rfl ?_|apply nl
 refine L.zl (hZ.at 0 rfl) rfl rfl rfl (fun u hu => ?_)
 replace hU := hU.add hu
 clear hu
 repeat first|apply wg|refine ss rfl ?_|apply nl
 refine L.zl (hZ.at 1 rfl) rfl rfl rfl (fun u hu => ?_)
 replace hU := hU.add hu
 clear hu
 repeat first|apply wg|refine ss rfl ?_|apply nl
 refine L.cl (zSum_C (hU.at 1 rfl) (hU.at 0 rfl) (fA.ok (by decide)) (fB.ok (by decide)) (g1.ok (by decide))) rfl rfl ?_
 rintro u T' ⟨wu, k', _⟩
 refine ⟨fun _ => k', ?_⟩
 replace hZ := hZ.cons k'
 replace hc := hc.trans k'
 replace hU := (hU.cons k').add wu
 clear wu k'
 repeat first|apply wg|refine ss rfl ?_|apply nl
 refine L.zl (hZ.at 1 rfl) rfl rfl rfl (fun u hu => ?_)
 replace hU := hU.add hu
 clear hu
 repeat first|apply wg|refine ss rfl ?_|apply nl
 refine L.zl (hZ.at 0 rfl) rfl rfl rfl (fun u hu => ?_)
 replace hU := hU.add hu
 clear hu
 repeat first|apply wg|refine ss rfl ?_|apply nl
 have g3 : Bd 1281 (B + A) := Bd.add (k := 1280) (fB) (fA)
 refine L.cl (zSum_C (hU.at 1 rfl) (hU.at 0 rfl) (fB.ok (by decide)) (fA.ok (by decide)) (g3.ok (by decide))) rfl rfl ?_
 rintro u T' ⟨wu, k', _⟩
 refine ⟨fun _ => k', ?_⟩
 replace hZ := hZ.cons k'
 replace hc := hc.trans k'
 replace hU := (hU.cons k').add wu
 clear wu k'
 repeat first|apply wg|refine ss rfl ?_|apply nl
 refine L.cv (zSame2_C (hU.at 3 rfl) (hU.at 0 rfl)) rfl rfl fun T' k' => ?_
 replace hZ := hZ.cons k'
 replace hc := hc.trans k'
 replace hU := hU.cons k'
 clear k'
 repeat first|apply wg|refine ss rfl ?_|apply nl
 rw [show decide (A + B = B + A) = true from decide_eq_true (Int.add_comm A B)]
 repeat first|apply wg|refine ss rfl ?_|apply nl
 replace hU := Us.nil T'
 refine L.zl (hZ.at 0 rfl) rfl rfl rfl (fun u hu => ?_)
 replace hU := hU.add hu
 clear hu
 repeat first|apply wg|refine ss rfl ?_|apply nl
 refine L.zl (hZ.at 1 rfl) rfl rfl rfl (fun u hu => ?_)
 replace hU := hU.add hu
 clear hu
 repeat first|apply wg|refine ss rfl ?_|apply nl
 have g4 : Bd 2560 (A * B) := Bd.mul fA fB
 refine L.cl (zProd_C (hU.at 1 rfl) (hU.at 0 rfl) (fA.ok (by decide)) (fB.ok (by decide)) (g4.ok (by decide)) (hS.cons hc) (Nat.le_trans hG hc.len)) rfl rfl ?_
 rintro u T' ⟨wu, k', _⟩
 refine ⟨fun _ => k', ?_⟩
 replace hZ := hZ.cons k'
 replace hc := hc.trans k'
 replace hU := (hU.cons k').add wu
 clear wu k'
 repeat first|apply wg|refine ss rfl ?_|apply nl
 refine L.zl (hZ.at 1 rfl) rfl rfl rfl (fun u hu => ?_)
 replace hU := hU.add hu
 clear hu
 repeat first|apply wg|refine ss rfl ?_|apply nl
 refine L.zl (hZ.at 0 rfl) rfl rfl rfl (fun u hu => ?_)
 replace hU := hU.add hu
 clear hu
 repeat first|apply wg|refine ss rfl ?_|apply nl
 have g5 : Bd 2560 (B * A) := Bd.mul fB fA
 refine L.cl (zProd_C (hU.at 1 rfl) (hU.at 0 rfl) (fB.ok (by decide)) (fA.ok (by decide)) (g5.ok (by decide)) (hS.cons hc) (Nat.le_trans hG hc.len)) rfl rfl ?_
 rintro u T' ⟨wu, k', _⟩
 refine ⟨fun _ => k', ?_⟩
 replace hZ := hZ.cons k'
 replace hc := hc.trans k'
 replace hU := (hU.cons k').add wu
 clear wu k'
 repeat first|apply wg|refine ss rfl ?_|apply nl
 refine L.cv (zSame2_C (hU.at 3 rfl) (hU.at 0 rfl)) rfl rfl fun T' k' => ?_
 replace hZ := hZ.cons k'
 replace hc := hc.trans k'
 replace hU := hU.cons k'
 clear k'
 repeat first|apply wg|refine ss rfl ?_|apply nl
 rw [show decide (A * B = B * A) = true from decide_eq_true (Int.mul_comm A B)]
 repeat first|apply wg|refine ss rfl ?_|apply nl
 replace hU := Us.nil T'
 refine L.zl (hZ.at 0 rfl) rfl rfl rfl (fun u hu => ?_)
 replace hU := hU.add hu
 clear hu
 repeat first|apply wg|refine ss rfl ?_|apply nl
 refine L.zl (hZ.at 1 rfl) rfl rfl rfl (fun u hu => ?_)
 replace hU := hU.add hu
 clear hu
 repeat first|apply wg|refine ss rfl ?_|apply nl
 refine L.cl (zSum_C (hU.at 1 rfl) (hU.at 0 rfl) (fA.ok (by decide)) (fB.ok (by decide)) (g1.ok (by decide))) rfl rfl ?_
 rintro u T' ⟨wu, k', _⟩
 refine ⟨fun _ => k', ?_⟩
 replace hZ := hZ.cons k'
 replace hc := hc.trans k'
 replace hU := (hU.cons k').add wu
 clear wu k'
 repeat first|apply wg|refine ss rfl ?_|apply nl
 refine L.zl (hZ.at 2 rfl) rfl rfl rfl (fun u hu => ?_)
 replace hU := hU.add hu
 clear hu
 repeat first|apply wg|refine ss rfl ?_|apply nl
 have g6 : Bd 1282 ((A + B) + C) := Bd.add (k := 1281) (g1) (fC.up (by decide))
 refine L.cl (zSum_C (hU.at 1 rfl) (hU.at 0 rfl) (g1.ok (by decide)) (fC.ok (by decide)) (g6.ok (by decide))) rfl rfl ?_
 rintro u T' ⟨wu, k', _⟩
 refine ⟨fun _ => k', ?_⟩
 replace hZ := hZ.cons k'
 replace hc := hc.trans k'
 replace hU := (hU.cons k').add wu
 clear wu k'
 repeat first|apply wg|refine ss rfl ?_|apply nl
 refine L.zl (hZ.at 0 rfl) rfl rfl rfl (fun u hu => ?_)
 replace hU := hU.add hu
 clear hu
 repeat first|apply wg|refine ss rfl ?_|apply nl
 refine L.zl (hZ.at 1 rfl) rfl rfl rfl (fun u hu => ?_)
 replace hU := hU.add hu
 clear hu
 repeat first|apply wg|refine ss rfl ?_|apply nl
 refine L.zl (hZ.at 2 rfl) rfl rfl rfl (fun u hu => ?_)
 replace hU := hU.add hu
 clear hu
 repeat first|apply wg|refine ss rfl ?_|apply nl
 have g7 : Bd 1281 (B + C) := Bd.add (k := 1280) (fB) (fC)
 refine L.cl (zSum_C (hU.at 1 rfl) (hU.at 0 rfl) (fB.ok (by decide)) (fC.ok (by decide)) (g7.ok (by decide))) rfl rfl ?_
 rintro u T' ⟨wu, k', _⟩
 refine ⟨fun _ => k', ?_⟩
 replace hZ := hZ.cons k'
 replace hc := hc.trans k'
 replace hU := (hU.cons k').add wu
 clear wu k'
 repeat first|apply wg|refine ss rfl ?_|apply nl
 have g8 : Bd 1282 (A + (B + C)) := Bd.add (k := 1281) (fA.up (by decide)) (g7)
 refine L.cl (zSum_C (hU.at 3 rfl) (hU.at 0 rfl) (fA.ok (by decide)) (g7.ok (by decide)) (g8.ok (by decide))) rfl rfl ?_
 rintro u T' ⟨wu, k', _⟩
 refine ⟨fun _ => k', ?_⟩
 replace hZ := hZ.cons k'
 replace hc := hc.trans k'
 replace hU := (hU.cons k').add wu
 clear wu k'
 repeat first|apply wg|refine ss rfl ?_|apply nl
 refine L.cv (zSame2_C (hU.at 5 rfl) (hU.at 0 rfl)) rfl rfl fun T' k' => ?_
 replace hZ := hZ.cons k'
 replace hc := hc.trans k'
 replace hU := hU.cons k'
 clear k'
 repeat first|apply wg|refine ss rfl ?_|apply nl
 rw [show decide (A + B + C = A + (B + C)) = true from decide_eq_true (Int.add_assoc A B C)]
 repeat first|apply wg|refine ss rfl ?_|apply nl
 replace hU := Us.nil T'
 refine L.zl (hZ.at 0 rfl) rfl rfl rfl (fun u hu => ?_)
 replace hU := hU.add hu
 clear hu
 repeat first|apply wg|refine ss rfl ?_|apply nl
 refine L.zl (hZ.at 1 rfl) rfl rfl rfl (fun u hu => ?_)
 replace hU := hU.add hu
 clear hu
 repeat first|apply wg|refine ss rfl ?_|apply nl
 refine L.cl (zProd_C (hU.at 1 rfl) (hU.at 0 rfl) (fA.ok (by decide)) (fB.ok (by decide)) (g4.ok (by decide)) (hS.cons hc) (Nat.le_trans hG hc.len)) rfl rfl ?_
 rintro u T' ⟨wu, k', _⟩
 refine ⟨fun _ => k', ?_⟩
 replace hZ := hZ.cons k'
 replace hc := hc.trans k'
 replace hU := (hU.cons k').add wu
 clear wu k'
 repeat first|apply wg|refine ss rfl ?_|apply nl
 refine L.zl (hZ.at 2 rfl) rfl rfl rfl (fun u hu => ?_)
 replace hU := hU.add hu
 clear hu
 repeat first|apply wg|refine ss rfl ?_|apply nl
 have g9 : Bd 3840 ((A * B) * C) := Bd.mul g4 fC
 refine L.cl (zProd_C (hU.at 1 rfl) (hU.at 0 rfl) (g4.ok (by decide)) (fC.ok (by decide)) (g9.ok (by decide)) (hS.cons hc) (Nat.le_trans hG hc.len)) rfl rfl ?_
 rintro u T' ⟨wu, k', _⟩
 refine ⟨fun _ => k', ?_⟩
 replace hZ := hZ.cons k'
 replace hc := hc.trans k'
 replace hU := (hU.cons k').add wu
 clear wu k'
 repeat first|apply wg|refine ss rfl ?_|apply nl
 refine L.zl (hZ.at 0 rfl) rfl rfl rfl (fun u hu => ?_)
 replace hU := hU.add hu
 clear hu
 repeat first|apply wg|refine ss rfl ?_|apply nl
 refine L.zl (hZ.at 1 rfl) rfl rfl rfl (fun u hu => ?_)
 replace hU := hU.add hu
 clear hu
 repeat first|apply wg|refine ss rfl ?_|apply nl
 refine L.zl (hZ.at 2 rfl) rfl rfl rfl (fun u hu => ?_)
 replace hU := hU.add hu
 clear hu
 repeat first|apply wg|refine ss rfl ?_|apply nl
 have g10 : Bd 2560 (B * C) := Bd.mul fB fC
 refine L.cl (zProd_C (hU.at 1 rfl) (hU.at 0 rfl) (fB.ok (by decide)) (fC.ok (by decide)) (g10.ok (by decide)) (hS.cons hc) (Nat.le_trans hG hc.len)) rfl rfl ?_
 rintro u T' ⟨wu, k', _⟩
 refine ⟨fun _ => k', ?_⟩
 replace hZ := hZ.cons k'
 replace hc := hc.trans k'
 replace hU := (hU.cons k').add wu
 clear wu k'
 repeat first|apply wg|refine ss rfl ?_|apply nl
 have g11 : Bd 3840 (A * (B * C)) := Bd.mul fA g10
 refine L.cl (zProd_C (hU.at 3 rfl) (hU.at 0 rfl) (fA.ok (by decide)) (g10.ok (by decide)) (g11.ok (by decide)) (hS.cons hc) (Nat.le_trans hG hc.len)) rfl rfl ?_
 rintro u T' ⟨wu, k', _⟩
 refine ⟨fun _ => k', ?_⟩
 replace hZ := hZ.cons k'
 replace hc := hc.trans k'
 replace hU := (hU.cons k').add wu
 clear wu k'
 repeat first|apply wg|refine ss rfl ?_|apply nl
 refine L.cv (zSame2_C (hU.at 5 rfl) (hU.at 0 rfl)) rfl rfl fun T' k' => ?_
 replace hZ := hZ.cons k'
 replace hc := hc.trans k'
 replace hU := hU.cons k'
 clear k'
 repeat first|apply wg|refine ss rfl ?_|apply nl
 rw [show decide (A * B * C = A * (B * C)) = true from decide_eq_true (Int.mul_assoc A B C)]
 repeat first|apply wg|refine ss rfl ?_|apply nl
 replace hU := Us.nil T'
 refine L.zl (hZ.at 0 rfl) rfl rfl rfl (fun u hu => ?_)
 replace hU := hU.add hu
 clear hu
 repeat first|apply wg|refine ss rfl ?_|apply nl
 refine L.zl (hZ.at 1 rfl) rfl rfl rfl (fun u hu => ?_)
 replace hU := hU.add hu
 clear hu
 repeat first|apply wg|refine ss rfl ?_|apply nl
 refine L.zl (hZ.at 2 rfl) rfl rfl rfl (fun u hu => ?_)
 replace hU := hU.add hu
 clear hu
 repeat first|apply wg|refine ss rfl ?_|apply nl
 refine L.cl (zSum_C (hU.at 1 rfl) (hU.at 0 rfl) (fB.ok (by decide)) (fC.ok (by decide)) (g7.ok (by decide))) rfl rfl ?_
 rintro u T' ⟨wu, k', _⟩
 refine ⟨fun _ => k', ?_⟩
 replace hZ := hZ.cons k'
 replace hc := hc.trans k'
 replace hU := (hU.cons k').add wu
 clear wu k'
 repeat first|apply wg|refine ss rfl ?_|apply nl
 have g12 : Bd 2561 (A * (B + C)) := Bd.mul fA g7
 refine L.cl (zProd_C (hU.at 3 rfl) (hU.at 0 rfl) (fA.ok (by decide)) (g7.ok (by decide)) (g12.ok (by decide)) (hS.cons hc) (Nat.le_trans hG hc.len)) rfl rfl ?_
 rintro u T' ⟨wu, k', _⟩
 refine ⟨fun _ => k', ?_⟩
 replace hZ := hZ.cons k'
 replace hc := hc.trans k'
 replace hU := (hU.cons k').add wu
 clear wu k'
 repeat first|apply wg|refine ss rfl ?_|apply nl
 refine L.zl (hZ.at 0 rfl) rfl rfl rfl (fun u hu => ?_)
 replace hU := hU.add hu
 clear hu
 repeat first|apply wg|refine ss rfl ?_|apply nl
 refine L.zl (hZ.at 1 rfl) rfl rfl rfl (fun u hu => ?_)
 replace hU := hU.add hu
 clear hu
 repeat first|apply wg|refine ss rfl ?_|apply nl
 refine L.cl (zProd_C (hU.at 1 rfl) (hU.at 0 rfl) (fA.ok (by decide)) (fB.ok (by decide)) (g4.ok (by decide)) (hS.cons hc) (Nat.le_trans hG hc.len)) rfl rfl ?_
 rintro u T' ⟨wu, k', _⟩
 refine ⟨fun _ => k', ?_⟩
 replace hZ := hZ.cons k'
 replace hc := hc.trans k'
 replace hU := (hU.cons k').add wu
 clear wu k'
 repeat first|apply wg|refine ss rfl ?_|apply nl
 refine L.zl (hZ.at 0 rfl) rfl rfl rfl (fun u hu => ?_)
 replace hU := hU.add hu
 clear hu
 repeat first|apply wg|refine ss rfl ?_|apply nl
 refine L.zl (hZ.at 2 rfl) rfl rfl rfl (fun u hu => ?_)
 replace hU := hU.add hu
 clear hu
 repeat first|apply wg|refine ss rfl ?_|apply nl
 have g13 : Bd 2560 (A * C) := Bd.mul fA fC
 refine L.cl (zProd_C (hU.at 1 rfl) (hU.at 0 rfl) (fA.ok (by decide)) (fC.ok (by decide)) (g13.ok (by decide)) (hS.cons hc) (Nat.le_trans hG hc.len)) rfl rfl ?_
 rintro u T' ⟨wu, k', _⟩
 refine ⟨fun _ => k', ?_⟩
 replace hZ := hZ.cons k'
 replace hc := hc.trans k'
 replace hU := (hU.cons k').add wu
 clear wu k'
 repeat first|apply wg|refine ss rfl ?_|apply nl
 have g14 : Bd 2561 ((A * B) + (A * C)) := Bd.add (k := 2560) (g4) (g13)
 refine L.cl (zSum_C (hU.at 3 rfl) (hU.at 0 rfl) (g4.ok (by decide)) (g13.ok (by decide)) (g14.ok (by decide))) rfl rfl ?_
 rintro u T' ⟨wu, k', _⟩
 refine ⟨fun _ => k', ?_⟩
 replace hZ := hZ.cons k'
 replace hc := hc.trans k'
 replace hU := (hU.cons k').add wu
 clear wu k'
 repeat first|apply wg|refine ss rfl ?_|apply nl
 refine L.cv (zSame2_C (hU.at 7 rfl) (hU.at 0 rfl)) rfl rfl fun T' k' => ?_
 replace hZ := hZ.cons k'
 replace hc := hc.trans k'
 replace hU := hU.cons k'
 clear k'
 repeat first|apply wg|refine ss rfl ?_|apply nl
 rw [show decide (A * (B + C) = A * B + A * C) = true from decide_eq_true (Int.mul_add A B C)]
 repeat first|apply wg|refine ss rfl ?_|apply nl
 replace hU := Us.nil T'
 refine W.condF rfl ?_
 repeat first|apply wg|refine ss rfl ?_|apply nl
 replace hU := Us.nil T'
 repeat first|apply wg|refine ss rfl ?_|apply nl
 refine L.zl (hZ.at 0 rfl) rfl rfl rfl (fun u hu => ?_)
 replace hU := hU.add hu
 clear hu
 repeat first|apply wg|refine ss rfl ?_|apply nl
 refine L.zl (hZ.at 1 rfl) rfl rfl rfl (fun u hu => ?_)
 replace hU := hU.add hu
 clear hu
 repeat first|apply wg|refine ss rfl ?_|apply nl
 refine L.cv (nCmp_C (hU.at 1 rfl) (hU.at 0 rfl)) rfl rfl fun T' k' => ?_
 replace hZ := hZ.cons k'
 replace hc := hc.trans k'
 replace hU := hU.cons k'
 clear k'
 repeat first|apply wg|refine ss rfl ?_|apply nl
 replace hU := Us.nil T'
 replace hU := Us.nil T'
 repeat first|apply wg|refine ss rfl ?_|apply nl
 refine L.zl (hZ.at 0 rfl) rfl rfl rfl (fun u hu => ?_)
 replace hU := hU.add hu
 clear hu
 repeat first|apply wg|refine ss rfl ?_|apply nl
 refine L.zl (hZ.at 1 rfl) rfl rfl rfl (fun u hu => ?_)
 replace hU := hU.add hu
 clear hu
 repeat first|apply wg|refine ss rfl ?_|apply nl
 refine L.cl (zProd_C (hU.at 1 rfl) (hU.at 0 rfl) (fA.ok (by decide)) (fB.ok (by decide)) (g4.ok (by decide)) (hS.cons hc) (Nat.le_trans hG hc.len)) rfl rfl ?_
 rintro u T' ⟨wu, k', _⟩
 refine ⟨fun _ => k', ?_⟩
 replace hZ := hZ.cons k'
 replace hc := hc.trans k'
 replace hU := (hU.cons k').add wu
 clear wu k'
 repeat first|apply wg|refine ss rfl ?_|apply nl
 refine L.cv (nSign_C (hU.at 0 rfl)) rfl rfl fun T' k' => ?_
 replace hZ := hZ.cons k'
 replace hc := hc.trans k'
 replace hU := hU.cons k'
 clear k'
 repeat first|apply wg|refine ss rfl ?_|apply nl
 replace hU := Us.nil T'
 refine L.zl (hZ.at 0 rfl) rfl rfl rfl (fun u hu => ?_)
 replace hU := hU.add hu
 clear hu
 repeat first|apply wg|refine ss rfl ?_|apply nl
 refine L.cv (nSign_C (hU.at 0 rfl)) rfl rfl fun T' k' => ?_
 replace hZ := hZ.cons k'
 replace hc := hc.trans k'
 replace hU := hU.cons k'
 clear k'
 repeat first|apply wg|refine ss rfl ?_|apply nl
 replace hU := Us.nil T'
 refine L.zl (hZ.at 1 rfl) rfl rfl rfl (fun u hu => ?_)
 replace hU := hU.add hu
 clear hu
 repeat first|apply wg|refine ss rfl ?_|apply nl
 refine L.cv (nSign_C (hU.at 0 rfl)) rfl rfl fun T' k' => ?_
 replace hZ := hZ.cons k'
 replace hc := hc.trans k'
 replace hU := hU.cons k'
 clear k'
 repeat first|apply wg|refine ss rfl ?_|apply nl
 rw [sgn_mul]
 repeat first|apply wg|refine ss rfl ?_|apply nl
 rw [show (cmpI (A * B) 0 != cmpI A 0 * cmpI B 0) = false by rw [cmp_mul]; exact bne_self_eq_false _]
 repeat first|apply wg|refine ss rfl ?_|apply nl
 replace hU := Us.nil T'
 refine L.zl (hZ.at 0 rfl) rfl rfl rfl (fun u hu => ?_)
 replace hU := hU.add hu
 clear hu
 repeat first|apply wg|refine ss rfl ?_|apply nl
 refine L.zl (hZ.at 2 rfl) rfl rfl rfl (fun u hu => ?_)
 replace hU := hU.add hu
 clear hu
 repeat first|apply wg|refine ss rfl ?_|apply nl
 have g15 : Bd 1281 (A + C) := Bd.add (k := 1280) (fA) (fC)
 refine L.cl (zSum_C (hU.at 1 rfl) (hU.at 0 rfl) (fA.ok (by decide)) (fC.ok (by decide)) (g15.ok (by decide))) rfl rfl ?_
 rintro u T' ⟨wu, k', _⟩
 refine ⟨fun _ => k', ?_⟩
 replace hZ := hZ.cons k'
 replace hc := hc.trans k'
 replace hU := (hU.cons k').add wu
 clear wu k'
 repeat first|apply wg|refine ss rfl ?_|apply nl
 refine L.zl (hZ.at 1 rfl) rfl rfl rfl (fun u hu => ?_)
 replace hU := hU.add hu
 clear hu
 repeat first|apply wg|refine ss rfl ?_|apply nl
 refine L.zl (hZ.at 2 rfl) rfl rfl rfl (fun u hu => ?_)
 replace hU := hU.add hu
 clear hu
 repeat first|apply wg|refine ss rfl ?_|apply nl
 refine L.cl (zSum_C (hU.at 1 rfl) (hU.at 0 rfl) (fB.ok (by decide)) (fC.ok (by decide)) (g7.ok (by decide))) rfl rfl ?_
 rintro u T' ⟨wu, k', _⟩
 refine ⟨fun _ => k', ?_⟩
 replace hZ := hZ.cons k'
 replace hc := hc.trans k'
 replace hU := (hU.cons k').add wu
 clear wu k'
 repeat first|apply wg|refine ss rfl ?_|apply nl
 refine L.cv (nCmp_C (hU.at 3 rfl) (hU.at 0 rfl)) rfl rfl fun T' k' => ?_
 replace hZ := hZ.cons k'
 replace hc := hc.trans k'
 replace hU := hU.cons k'
 clear k'
 repeat first|apply wg|refine ss rfl ?_|apply nl
 rw [cmp_add]
 repeat first|apply wg|refine ss rfl ?_|apply nl
 rw [show (cmpI A B != cmpI A B) = false from bne_self_eq_false _]
 repeat first|apply wg|refine ss rfl ?_|apply nl
 replace hU := Us.nil T'
 refine L.zl (hZ.at 1 rfl) rfl rfl rfl (fun u hu => ?_)
 replace hU := hU.add hu
 clear hu
 repeat first|apply wg|refine ss rfl ?_|apply nl
 refine L.zl (hZ.at 0 rfl) rfl rfl rfl (fun u hu => ?_)
 replace hU := hU.add hu
 clear hu
 repeat first|apply wg|refine ss rfl ?_|apply nl
 refine L.cv (nCmp_C (hU.at 1 rfl) (hU.at 0 rfl)) rfl rfl fun T' k' => ?_
 replace hZ := hZ.cons k'
 replace hc := hc.trans k'
 replace hU := hU.cons k'
 clear k'
 repeat first|apply wg|refine ss rfl ?_|apply nl
 rw [sgn_neg]
 repeat first|apply wg|refine ss rfl ?_|apply nl
 rw [show (cmpI B A != -cmpI A B) = false by rw [cmp_swap A B]; exact bne_self_eq_false _]
 repeat first|apply wg|refine ss rfl ?_|apply nl
 replace hU := Us.nil T'
 refine L.zl (hZ.at 0 rfl) rfl rfl rfl (fun u hu => ?_)
 replace hU := hU.add hu
 clear hu
 repeat first|apply wg|refine ss rfl ?_|apply nl
 refine L.zl (hZ.at 1 rfl) rfl rfl rfl (fun u hu => ?_)
 replace hU := hU.add hu
 clear hu
 repeat first|apply wg|refine ss rfl ?_|apply nl
 refine L.cv (zSame2_C (hU.at 1 rfl) (hU.at 0 rfl)) rfl rfl fun T' k' => ?_
 replace hZ := hZ.cons k'
 replace hc := hc.trans k'
 replace hU := hU.cons k'
 clear k'
 repeat first|apply wg|refine ss rfl ?_|apply nl
 rw [show (!((cmpI A B == 0) == decide (A = B))) = false by rw [show (cmpI A B == 0) = decide (A = B) from decide_eq_decide.2 (cmp_eq A B), beq_self_eq_true]; rfl]
 repeat first|apply wg|refine ss rfl ?_|apply nl
 replace hU := Us.nil T'
 refine W.condF rfl ?_
 repeat first|apply wg|refine ss rfl ?_|apply nl
 replace hU := Us.nil T'
 repeat first|apply wg|refine ss rfl ?_|apply nl
 refine L.zl (hZ.at 0 rfl) rfl rfl rfl (fun u hu => ?_)
 replace hU := hU.add hu
 clear hu
 repeat first|apply wg|refine ss rfl ?_|apply nl
 refine L.zl (hZ.at 2 rfl) rfl rfl rfl (fun u hu => ?_)
 replace hU := hU.add hu
 clear hu
 repeat first|apply wg|refine ss rfl ?_|apply nl
 refine L.cl (zProd_C (hU.at 1 rfl) (hU.at 0 rfl) (fA.ok (by decide)) (fC.ok (by decide)) (g13.ok (by decide)) (hS.cons hc) (Nat.le_trans hG hc.len)) rfl rfl ?_
 rintro u T' ⟨wu, k', _⟩
 refine ⟨fun _ => k', ?_⟩
 replace hZ := hZ.cons k'
 replace hc := hc.trans k'
 replace hU := (hU.cons k').add wu
 clear wu k'
 repeat first|apply wg|refine ss rfl ?_|apply nl
 refine L.zl (hZ.at 1 rfl) rfl rfl rfl (fun u hu => ?_)
 replace hU := hU.add hu
 clear hu
 repeat first|apply wg|refine ss rfl ?_|apply nl
 refine L.zl (hZ.at 2 rfl) rfl rfl rfl (fun u hu => ?_)
 replace hU := hU.add hu
 clear hu
 repeat first|apply wg|refine ss rfl ?_|apply nl
 refine L.cl (zProd_C (hU.at 1 rfl) (hU.at 0 rfl) (fB.ok (by decide)) (fC.ok (by decide)) (g10.ok (by decide)) (hS.cons hc) (Nat.le_trans hG hc.len)) rfl rfl ?_
 rintro u T' ⟨wu, k', _⟩
 refine ⟨fun _ => k', ?_⟩
 replace hZ := hZ.cons k'
 replace hc := hc.trans k'
 replace hU := (hU.cons k').add wu
 clear wu k'
 repeat first|apply wg|refine ss rfl ?_|apply nl
 refine L.cv (nCmp_C (hU.at 3 rfl) (hU.at 0 rfl)) rfl rfl fun T' k' => ?_
 replace hZ := hZ.cons k'
 replace hc := hc.trans k'
 replace hU := hU.cons k'
 clear k'
 repeat first|apply wg|refine ss rfl ?_|apply nl
 replace hU := Us.nil T'
 refine L.zl (hZ.at 2 rfl) rfl rfl rfl (fun u hu => ?_)
 replace hU := hU.add hu
 clear hu
 repeat first|apply wg|refine ss rfl ?_|apply nl
 refine L.cv (nSign_C (hU.at 0 rfl)) rfl rfl fun T' k' => ?_
 replace hZ := hZ.cons k'
 replace hc := hc.trans k'
 replace hU := hU.cons k'
 clear k'
 repeat first|apply wg|refine ss rfl ?_|apply nl
 rw [cmp_mulc, sgn_mul]
 repeat first|apply wg|refine ss rfl ?_|apply nl
 rw [show (cmpI A B * cmpI C 0 == cmpI A B * cmpI C 0) = true from beq_self_eq_true _]
 repeat first|apply wg|refine ss rfl ?_|apply nl
 replace hU := Us.nil T'
 refine L.cv (works_C _ (hS.cons hc) (hP.cons hc) (Nat.le_trans hG hc.len)) rfl rfl fun T' k' => ?_
 replace hc := hc.trans k'
 clear k'
 repeat first|apply wg|refine ss rfl ?_|apply nl
 exact ⟨.inr rfl, _, rfl, rfl, kM.trans hc⟩
end Go.Proofs.YtbiigbicgfchiaaGreatDoor

/- Arguments that came in, on the abstract memory of the world in which a call begins. Conditions: none. -/
namespace Go.Proofs.YtbiigbicgfchiaaGreatDoor
open Go
def IsRow (k : IntKind) (w : World) (a : Option Addr) (len cap : Nat) (zs : List Int) : Prop :=
 (a = none ∧ len = 0 ∧ cap = 0 ∧ zs = []) ∨
 ∃ x, a = some x ∧ len ≤ cap ∧ cap ≤ maxLen ∧ zs.length = cap ∧ (∀ i, i < zs.length → w.cell? (x.add i) = some (.int k (zs.getD i 0))) ∧ ∀ n ∈ zs, (Lit.int k n).wf = true
theorem row_cap {k : IntKind} {W : World} {a : Option Addr} {len cap : Nat} {zs : List Int} (h : IsRow k W a len cap zs) : cap < UNK ∧ len ≤ cap := by
 rcases h with ⟨rfl, rfl, rfl, rfl⟩ | ⟨x, rfl, hlc, hm, hz, hcell, hwf⟩
 ·exact ⟨by decide, by decide⟩
 ·exact ⟨by unfold maxLen at hm; unfold UNK; omega, hlc⟩
theorem world_ints {k : IntKind} {W : World} {N : Nat} {a : Option Addr} {len cap : Nat} {zs : List Int} (h : IsRow k W a len cap zs) (hb : ∀ x, a = some x → x.block < W.heap.size + N) :
  Slv (mem0 W N) 1 (.slice a len cap) len ((zs.take len).map (Value.int k)) ∧ VR (rho0 W N) (.slice a len cap) (.slice a len cap) ∧ (zs.take len).length = len ∧ Cut len cap ∧ (∀ n ∈ zs, (Lit.int k n).wf = true) := by
 rcases h with ⟨rfl, rfl, rfl, rfl⟩ | ⟨x, rfl, hlc, hm, hz, hcell, hwf⟩
 ·exact ⟨Slv.nil _ _ _ _, .slNil _ _, rfl, .inl ⟨by decide, by decide⟩, nofun⟩
 ·have hcu : cap < UNK := by unfold maxLen at hm; unfold UNK; omega
  have hlen : (zs.take len).length = len := by rw [List.length_take]; omega
  refine ⟨?_, (fixed_slice (N := N) (hb x rfl) hcu).1, hlen, .inl ⟨hcu, hlc⟩, hwf⟩
  rcases Nat.eq_zero_or_pos len with rfl | hpos
  ·rw [List.take_zero]; exact Slv.nil _ _ _ _
  have h0 := hcell 0 (by omega)
  have hx0 : x.add 0 = x := rfl
  rw [hx0] at h0
  unfold World.cell? at h0
  split at h0
  ·rename_i c el fz hh
   split at h0
   ·cases h0
   ·rename_i hsp
    have hsp' : x.spot = none := by cases hxs : x.spot <;> simp_all
    obtain ⟨r, hr, hrl, hrc⟩ := mem0_live (N := N) hh
    have hxa : x = ⟨x.block, x.off, none⟩ := by cases x; simp at hsp'; subst hsp'; rfl
    have hci : ∀ i, i < cap → r.cells[x.off + i]? = some (.int k (zs.getD i 0)) := by
     intro i hi
     have h1 := hcell i (by omega)
     have hadd : x.add i = ⟨x.block, x.off + i, none⟩ := by
      unfold Addr.add
      split
      ·rename_i h9; rw [h9]; exact hxa
      ·rfl
     rw [hadd] at h1
     simp only [World.cell?, hh] at h1
     exact hrc _ _ (by simpa using h1) (fixed_scalar W N rfl)
    have hbound : x.off + len * 1 ≤ r.cells.length := by
     have := (List.getElem?_eq_some_iff.1 (hci (len - 1) (by omega))).1
     omega
    have hseg : (r.cells.drop x.off).take (len * 1) = (zs.take len).map (Value.int k) := by
     apply List.ext_getElem?
     intro i
     rw [List.getElem?_take, Nat.mul_one]
     split
     ·rename_i hi
      rw [List.getElem?_drop, hci i (by omega), List.getElem?_map, List.getElem?_take, if_pos hi, List.getD_eq_getElem?_getD, List.getElem?_eq_getElem (by omega)]
      rfl
     ·rename_i hi
      rw [List.getElem?_eq_none (by rw [List.length_map, hlen]; omega)]
    have := Slv.of (sz := 1) (n := len) (c := cap) hr hbound (.inr (by rw [hseg, List.all_map, List.all_eq_true]; intro n _; rfl))
    rw [hseg, ← hxa] at this
    exact this
  ·cases h0
end Go.Proofs.YtbiigbicgfchiaaGreatDoor

/- Lists of words that came in within a struct, on the abstract memory of the world in which a call begins. Conditions: none. -/
namespace Go.Proofs.YtbiigbicgfchiaaGreatDoor
open Go Go.ChangeShapes Go.WideShapes
theorem words_in (zs : List Int) (len : Nat) (hwf : ∀ n ∈ zs, (Lit.int .u64 n).wf = true) (hl : (zs.take len).length = len) : ∃ l : WL, l.length = len ∧ wv l = (zs.take len).map (Value.int .u64) := by
 refine ⟨(zs.take len).map (BitVec.ofInt 64), by rw [List.length_map, hl], ?_⟩
 unfold wv
 rw [List.map_map]
 refine List.map_congr_left fun n hn => ?_
 have h := hwf n (List.mem_of_mem_take hn)
 have hx : 0 ≤ n ∧ n ≤ 18446744073709551615 := by simpa [Lit.wf, IntKind.min, IntKind.max, IntKind.signed, IntKind.bits] using h
 show v64 (BitVec.ofInt 64 n) = _
 rw [v64, ← wrap_u64, wrapU64 (by omega) (by omega)]
def WordsAt (W : World) (N0 : Nat) (v : Value) (l : WL) : Prop := ∃ a c, v = .slice a l.length c ∧ l.length ≤ knownCap c ∧ (a = none → c = 0) ∧ c < UNK ∧ ∀ N, N0 ≤ N → Slv (mem0 W N) 1 (.slice a l.length c) l.length (wv l) ∧ VR (rho0 W N) (.slice a l.length c) (.slice a l.length c) ∧ ∀ x, a = some x → x.block < (mem0 W N).length
theorem words_at {W : World} {a : Option Addr} {n c : Nat} {zs : List Int} (h : IsRow .u64 W a n c zs) : ∃ N l, WordsAt W N (.slice a n c) l := by
 obtain ⟨N, hN⟩ : ∃ N, ∀ x, a = some x → x.block < W.heap.size + N := by
  cases a with
  | none => exact ⟨0, nofun⟩
  | some x => exact ⟨x.block + 1, by rintro y ⟨⟩; omega⟩
 obtain ⟨hs, hv, hl, hc, hwf⟩ := world_ints (N := N) h hN
 have hcap := row_cap h
 obtain ⟨l, rfl, hb⟩ := words_in zs n hwf hl
 refine ⟨N, l, a, c, rfl, by unfold knownCap; rw [if_pos hcap.1]; exact hcap.2, ?_, hcap.1, fun M hM => ?_⟩
 ·rintro rfl
  rcases h with ⟨_, _, e, _⟩ | ⟨x, e, _⟩
  ·exact e
  ·cases e
 ·have hM' : ∀ x, a = some x → x.block < W.heap.size + M := fun x hx => by have := hN x hx; omega
  obtain ⟨hs, hv, _⟩ := world_ints (N := M) h hM'
  rw [← hb] at hs
  exact ⟨hs, hv, fun x hx => by rw [mem0_len]; exact hM' x hx⟩
theorem VR.agg2 {ρ : Nat → Option Loc} {u v u' v' : Value} (h : VR ρ u u') (k : VR ρ v v') : VR ρ (.agg #[u, v]) (.agg #[u', v']) := .agg _ _ rfl fun i x y hx hy => by
 match i with
 | 0 => cases hx; cases hy; exact h
 | 1 => cases hx; cases hy; exact k
 | i + 2 => simp at hx
theorem words_open {H : Type} {enc : TypeId × Value → H} {W : World} {fuel : Nat} {cs : List Value} {x : DataW H × List MemPlace} (h : DataW.trod enc Tryz.prog W 0 (fun _ => true) true fuel 22 cs = some x) : ∃ v N l, cs = [v] ∧ WordsAt W N v l := by
 rcases open_ints Tryz.underlying22 Tryz.underlying57 (by kernel_rfl) h with ⟨hcs, _⟩ | ⟨x, l, c, zs, hcs, _, hl, hm, hz, _, hcell, hwz⟩
 ·obtain ⟨N, w, hw⟩ := words_at (W := W) (a := none) (n := 0) (c := 0) (zs := []) (.inl ⟨rfl, rfl, rfl, rfl⟩)
  exact ⟨_, N, w, hcs, hw⟩
 ·obtain ⟨N, w, hw⟩ := words_at (W := W) (a := some x) (n := l) (c := c) (zs := zs) (.inr ⟨_, rfl, hl, hm, by simpa using hz, hcell, hwz⟩)
  exact ⟨_, N, w, hcs, hw⟩
end Go.Proofs.YtbiigbicgfchiaaGreatDoor

/- Whole numbers that came in, on the abstract memory of the world in which a call begins. Conditions: none. -/
namespace Go.Proofs.YtbiigbicgfchiaaGreatDoor
open Go Go.ChangeShapes Go.WideShapes
theorem known_lt {l : WL} {c : Nat} (h : l.length ≤ knownCap c) (hu : c < UNK) : l.length < UNK := by
 unfold knownCap at h
 rw [if_pos hu] at h
 omega
def WholeAt (W : World) (N0 : Nat) (v : Value) (b : Bool) (l : WL) : Prop := ∃ u, v = .agg #[.bool b, u] ∧ WordsAt W N0 u l
theorem whole_open {H : Type} {enc : TypeId × Value → H} {W : World} {fuel : Nat} {cs : List Value} {x : DataW H × List MemPlace} (h : DataW.trod enc Tryz.prog W 0 (fun _ => true) true fuel 24 cs = some x) : ∃ b u N l, cs = [.bool b, u] ∧ WordsAt W N u l := by
 obtain ⟨y0, y1, n, _, hl, h0, h1⟩ := trod_struct2 Tryz.underlying24 h
 obtain ⟨b, e1, _⟩ := DataW.trod_bool Tryz.underlying4 h0
 obtain ⟨u2, N2, l2, e2, k2⟩ := words_open h1
 have c1 : Tryz.prog.cellsOf 4 = 1 := by kernel_rfl
 have c2 : Tryz.prog.cellsOf 22 = 1 := by kernel_rfl
 have c3 : Tryz.prog.cellsOf 24 = 2 := by kernel_rfl
 rw [c3] at hl
 match cs, hl with
 | [x, y], _ =>
  have e3 : x = .bool b := by simpa [c1] using e1
  have e4 : y = u2 := by simpa [c1, c2] using e2
  rw [e3, e4]
  exact ⟨b, u2, N2, l2, rfl, k2⟩
theorem whole_world {H : Type} {enc : TypeId × Value → H} {W : World} {v : Value} {d : DataW H} {p : List MemPlace} (hw : ∃ cs, v = .agg cs ∧ cs.size = 2) (h : DataW.Trod enc Tryz.prog W 0 (fun _ => true) true 24 v d p) :
  ∃ N b l, WholeAt W N v b l := by
 obtain ⟨cs, rfl, hcs⟩ := hw
 obtain ⟨fuel, hf⟩ := h
 obtain ⟨x, y, rfl⟩ : ∃ x y, cs = #[x, y] := by
  obtain ⟨l⟩ := cs
  match l, hcs with
  | [x, y], _ => exact ⟨x, y, rfl⟩
 obtain ⟨b, u, N, l, e, k⟩ := whole_open hf
 obtain ⟨rfl, rfl⟩ : x = .bool b ∧ y = u := by simpa [Value.cells] using e
 exact ⟨N, b, l, _, rfl, k⟩
end Go.Proofs.YtbiigbicgfchiaaGreatDoor

/- What listed variables read as, in the abstract memory. Conditions: none. -/
namespace Go.Proofs.YtbiigbicgfchiaaGreatDoor
open Go Go.RowKit Ie
open Go.ChangeShapes Go.WideShapes Go.ChangeAt
section
variable {H : Type} {enc : TypeId × Value → H} {P : Program} {w : World} {base : Nat} {spare : Nat → Bool} {held : Bool} {fuel : Nat} {t : TypeId} {cs : List Value} {x : DataW H × List MemPlace}
theorem trod_float {k : FloatKind} (ht : P.underlying t = some (.float k)) (h : DataW.trod enc P w base spare held fuel t cs = some x) : ∃ b, cs = [.float k b] ∧ x = (.lit (.float k b), []) := by
 cases fuel with
 | zero => simp [DataW.trod] at h
 | succ n =>
  unfold DataW.trod at h
  rw [ht] at h
  split at h <;> simp_all
theorem arr_cells {n : Nat} {e : TypeId} {vs : List Value} {ls : List (DataW H)} {p : List MemPlace} (ht : P.underlying t = some (.array n e)) (c1 : P.cellsOf e = 1) (ct : P.cellsOf t = n) (hl : ls.length = n) (hvl : vs.length = n)
  (hel : ∀ (m i : Nat) (c : List Value) (y : DataW H × List MemPlace) (d : DataW H) (v : Value), DataW.trod enc P w base spare held m e c = some y → y.1 = d → ls[i]? = some d → vs[i]? = some v → c = [v])
  (h : DataW.trod enc P w base spare held fuel t cs = some (.agg ls, p)) : cs = vs := by
 obtain ⟨xs, m, rfl, hx, hlen, hn, hels⟩ := DataW.trod_array ht h
 simp only [Prod.mk.injEq, DataW.agg.injEq] at hx
 rw [ct] at hlen
 apply List.ext_getElem?
 intro i
 by_cases hi : i < n
 ·have h1 := hels i hi
  rw [c1, Nat.mul_one] at h1
  obtain ⟨y, hy⟩ : ∃ y, xs[i]? = some y := ⟨_, List.getElem?_eq_getElem (by omega)⟩
  obtain ⟨v, hv⟩ : ∃ v, vs[i]? = some v := ⟨_, List.getElem?_eq_getElem (by omega)⟩
  rw [hy] at h1
  have hd : ls[i]? = some y.1 := by rw [hx.1, List.getElem?_map, hy]; rfl
  have h2 := hel m i _ y y.1 v h1 rfl hd hv
  have h3 : ((cs.drop i).take 1)[0]? = some v := by rw [h2]; rfl
  rw [List.getElem?_take, if_pos (by decide), List.getElem?_drop, Nat.add_zero] at h3
  rw [h3, hv]
 ·rw [List.getElem?_eq_none (by omega), List.getElem?_eq_none (by omega)]
theorem arr_ints {n : Nat} {e : TypeId} {k : IntKind} {zs : List Int} {p : List MemPlace} (ht : P.underlying t = some (.array n e)) (he : P.underlying e = some (.int k)) (c1 : P.cellsOf e = 1) (ct : P.cellsOf t = n) (hl : zs.length = n)
  (h : DataW.trod enc P w base spare held fuel t cs = some (.agg (zs.map fun z => .lit (.int k z)), p)) : cs = zs.map (Value.int k) := by
 refine arr_cells ht c1 ct (by rw [List.length_map, hl]) (by rw [List.length_map, hl]) (fun m i c y d v h1 h2 h3 h4 => ?_) h
 obtain ⟨z, rfl, rfl, _⟩ := DataW.trod_int he h1
 dsimp only at h2
 subst h2
 rw [List.getElem?_map, Option.map_eq_some_iff] at h3 h4
 obtain ⟨z1, q1, q2⟩ := h3
 obtain ⟨z2, q3, rfl⟩ := h4
 rw [q1] at q3
 cases q3
 cases q2
 rfl
theorem arr_floats {n : Nat} {e : TypeId} {k : FloatKind} {zs : List Nat} {p : List MemPlace} (ht : P.underlying t = some (.array n e)) (he : P.underlying e = some (.float k)) (c1 : P.cellsOf e = 1) (ct : P.cellsOf t = n) (hl : zs.length = n)
  (h : DataW.trod enc P w base spare held fuel t cs = some (.agg (zs.map fun z => .lit (.float k z)), p)) : cs = zs.map (Value.float k) := by
 refine arr_cells ht c1 ct (by rw [List.length_map, hl]) (by rw [List.length_map, hl]) (fun m i c y d v h1 h2 h3 h4 => ?_) h
 obtain ⟨z, rfl, rfl⟩ := trod_float he h1
 dsimp only at h2
 subst h2
 rw [List.getElem?_map, Option.map_eq_some_iff] at h3 h4
 obtain ⟨z1, q1, q2⟩ := h3
 obtain ⟨z2, q3, rfl⟩ := h4
 rw [q1] at q3
 cases q3
 cases q2
 rfl
theorem laid_var {laid : List (String × DataW Unit)} {n : String} {d : DataW Unit} {ps : List MemPlace} (hm : (n, d) ∈ laid) (h : DataW.LaidVars P w laid ps) :
  ∃ g t cs fuel p, P.globalNamed n = some g ∧ (P.globals[g]?).map (·.type) = some t ∧ w.var? P n = some cs ∧ DataW.trod (fun _ => ()) P w 0 (fun _ => true) false fuel t cs.toList = some (d, p) := by
 induction laid generalizing ps with
 | nil => simp at hm
 | cons y l ih =>
  obtain ⟨n', d'⟩ := y
  obtain ⟨g, t, cs, fuel, p, q, h1, h2, h3, h4, h5, _⟩ := h
  rcases List.mem_cons.1 hm with h6 | h6
  ·cases h6
   exact ⟨g, t, cs, fuel, p, h1, h2, h3, h4⟩
  ·exact ih h6 h5
end
theorem var_row {W : World} {n : String} {g : Nat} {cs : Array Value} {vs : List Value} (hg : Tryz.prog.globalNamed n = some g) (hv : W.var? Tryz.prog n = some cs) (hcs : cs.toList = vs) (hs : vs.all scalar = true) :
  g < W.heap.size ∧ ∀ N, RowIs (mem0 W N) g vs := by
 simp only [World.var?, hg, Option.bind_some] at hv
 split at hv
 ·rename_i c e fz hh
  obtain rfl : c = cs := by simpa using hv
  refine ⟨(Array.getElem?_eq_some_iff.1 hh).1, fun N => ?_⟩
  obtain ⟨rw', hr, hrl, hrc⟩ := mem0_live (N := N) hh
  refine ⟨rw', hr, List.ext_getElem? fun k => ?_⟩
  rw [List.getElem?_take]
  split
  ·rename_i hk
   obtain ⟨v, hv⟩ : ∃ v, vs[k]? = some v := ⟨_, List.getElem?_eq_getElem hk⟩
   rw [hv]
   refine hrc k _ ?_ (fixed_scalar W N ?_)
   ·rw [← Array.getElem?_toList, hcs]; exact hv
   ·exact List.all_eq_true.1 hs _ (List.mem_of_getElem? hv)
  ·rename_i hk
   rw [List.getElem?_eq_none (by omega)]
 ·cases hv
end Go.Proofs.YtbiigbicgfchiaaGreatDoor

/- What the listed variables of layer 1 read as, in the abstract memory. Conditions: none. -/
namespace Go.Proofs.YtbiigbicgfchiaaGreatDoor
open Go Go.RowKit Ie
open Go.ChangeShapes Go.WideShapes Go.ChangeAt
abbrev laidL : List (String × DataW Unit) := [("math/bits.deBruijn32tab", Rows.laid_math_bits_deBruijn32tab), ("math/bits.deBruijn64tab", Rows.laid_math_bits_deBruijn64tab), ("internal/strconv.uint64pow10", Rows.laid_internal_strconv_uint64pow10), ("math._sin", Rows.laid_math_sin), ("math._cos", Rows.laid_math_cos), ("math.mPi4", Rows.laid_math_mPi4)]
theorem of_laid {W : World} (h : laidMetH Tryz.prog laidL W) : gN ≤ W.heap.size ∧ ∀ N, SinOk (mem0 W N) ∧ PowOk (mem0 W N) := by
 rw [MakeChecks.laidMetH_plain _ _ _ (by kernel_rfl)] at h
 obtain ⟨ps, hv, _, _⟩ := h
 obtain ⟨g1, t1, cs1, f1, p1, a1, b1, c1, d1⟩ := laid_var (n := "internal/strconv.uint64pow10") (d := Rows.laid_internal_strconv_uint64pow10) (by simp) hv
 obtain ⟨g2, t2, cs2, f2, p2, a2, b2, c2, d2⟩ := laid_var (n := "math._sin") (d := Rows.laid_math_sin) (by simp) hv
 obtain ⟨g3, t3, cs3, f3, p3, a3, b3, c3, d3⟩ := laid_var (n := "math._cos") (d := Rows.laid_math_cos) (by simp) hv
 obtain ⟨g4, t4, cs4, f4, p4, a4, b4, c4, d4⟩ := laid_var (n := "math/bits.deBruijn64tab") (d := Rows.laid_math_bits_deBruijn64tab) (by simp) hv
 obtain rfl := Option.some.inj ((show Tryz.prog.globalNamed "internal/strconv.uint64pow10" = some 5 by kernel_rfl).symm.trans a1)
 obtain rfl := Option.some.inj ((show Tryz.prog.globalNamed "math._sin" = some 4 by kernel_rfl).symm.trans a2)
 obtain rfl := Option.some.inj ((show Tryz.prog.globalNamed "math._cos" = some 3 by kernel_rfl).symm.trans a3)
 obtain rfl := Option.some.inj ((show Tryz.prog.globalNamed "math/bits.deBruijn64tab" = some 13 by kernel_rfl).symm.trans a4)
 obtain rfl := Option.some.inj ((show (Tryz.prog.globals[5]?).map (·.type) = some 171 by kernel_rfl).symm.trans b1)
 obtain rfl := Option.some.inj ((show (Tryz.prog.globals[4]?).map (·.type) = some 169 by kernel_rfl).symm.trans b2)
 obtain rfl := Option.some.inj ((show (Tryz.prog.globals[3]?).map (·.type) = some 169 by kernel_rfl).symm.trans b3)
 have e1 : cs1.toList = powT := arr_ints (k := .u64) (zs := (List.range 20).map fun i => ((10 ^ i : Nat) : Int)) Tryz.underlying171 Tryz.underlying57 (by kernel_rfl) (by kernel_rfl) rfl d1
 have e2 : cs2.toList = sinT.map vf := arr_floats (k := .f64) (zs := sinT) Tryz.underlying169 Tryz.underlying117 (by kernel_rfl) (by kernel_rfl) rfl d2
 have e3 : cs3.toList = cosT.map vf := arr_floats (k := .f64) (zs := cosT) Tryz.underlying169 Tryz.underlying117 (by kernel_rfl) (by kernel_rfl) rfl d3
 have r1 := var_row a1 c1 e1 rfl
 have r2 := var_row a2 c2 e2 rfl
 have r3 := var_row a3 c3 e3 rfl
 have hlt : 13 < W.heap.size := by
  simp only [World.var?, a4, Option.bind_some] at c4
  split at c4
  ·rename_i c e fz hh
   exact (Array.getElem?_eq_some_iff.1 hh).1
  ·cases c4
 have hgN : gN ≤ 13 + 1 := Nat.le_of_ble_eq_true (by kernel_rfl)
 exact ⟨by omega, fun N => ⟨⟨r3.2 N, r2.2 N⟩, r1.2 N⟩⟩
theorem door_met (os : Os) (args : Array Value) : laidMetH Tryz.prog laidL ((World.doorLaid Tryz.prog 400 os).forCall (fun _ _ => 0) ⟨#[], args, []⟩).memory :=
 laidMetH_of_parts3 (fuel := 8) (laidMet_of_run' 8 (by kernel_rfl) (by kernel_rfl)) (by kernel_rfl) (by kernel_rfl)
end Go.Proofs.YtbiigbicgfchiaaGreatDoor
