/- What several proofs share, part 7: a model of memory, contracts of functions. Conditions: none. -/
import Derived.Test.YtbiigbicgfchiaaGreatDoorLidC
import Derived.Test.YtbiigbicgfchiaaGreatDoorLidD
import Derived.Test.YtbiigbicgfchiaaGreatDoorLidE
import Derived.Test.YtbiigbicgfchiaaGreatDoorLidF
import Derived.WalkKit
import Derived.ProofKit
import Derived.OpenShut
import Derived.ShutString
import Derived.ChangeOld
import Derived.Below
import Derived.ChangeSame
import Derived.Test.YtbiigbicgfchiaaGreatDoorRows
import Derived.LaidMore
import Derived.Stop.Joined
import Derived.MakeChecks
import Derived.Lay

/- strings.Trim by the digits. Conditions: none. -/
set_option linter.unusedSimpArgs false
set_option linter.unusedVariables false
set_option maxRecDepth 100000
set_option maxHeartbeats 4000000
namespace Go.Proofs.YtbiigbicgfchiaaGreatDoor
open Go
variable {G : Nat} {Ext : FuncId → List Value → Mem → Outc → Mem → Prop}
section
variable {P : Program} {G : Nat} {Ext : FuncId → List Value → Mem → Outc → Mem → Prop} {e : Env} {S : Mem} {fl : Bool} {ops : Array Oper} {K : Kont}
variable {rest : List Oper} {dst : Option Tmp} {ty : TypeId} {pos : String} {af : Array Edge} {gd : Option (Nat × Bool)}
theorem L.sub {t : TypeId} {x lo hi : Operand} {l : BL} {k k' : IntKind} {i j : Nat} (hx : e.eval x = .string (strB l)) (hlo : e.eval lo = .int k (i : Int)) (hj : e.eval hi = .int k' (j : Int)) (hij : i ≤ j) (hb : j ≤ l.length) (hu : P.underlying t = some .string)
  (hw : awanted ops ⟨dst, .slice t x (some lo) (some hi) none, ty, pos, af, gd⟩ e = true) (h : L P G Ext fl ops rest (e.put dst (.string (strB ((l.take j).drop i)))) S K) : L P G Ext fl ops (⟨dst, .slice t x (some lo) (some hi) none, ty, pos, af, gd⟩ :: rest) e S K := by
 refine L.flat (by simp [Op.operands, hx, hlo, hj]; exact ⟨rfl, rfl, rfl⟩) rfl nofun ?_ hw h
 have h0 : (0 : Int) ≤ (i : Int) ∧ (i : Int) ≤ (l.length : Nat) := by omega
 have h1 : (0 : Int) ≤ (j : Int) ∧ (j : Int) ≤ (l.length : Nat) := by omega
 have hb : pureRun P (Instr.sliceAt t (.string (strB l)) (some (.int k (i : Int))) (some (.int k' (j : Int))) none) = some (.string (strB ((l.take j).drop i))) := by
  unfold Instr.sliceAt
  rw [pureRun_bind, pureRun_underlying hu]
  show pureRun P (Instr.slice t (.string (strB l)) (some (.int k (i : Int))) (some (.int k' (j : Int))) none) = _
  unfold Instr.slice
  rw [pureRun_bind, pureRun_underlying hu]
  show pureRun P (Instr.sliceBounds false (strB l).size (strB l).size (some (.int k (i : Int))) (some (.int k' (j : Int))) none >>= fun (l', h, _) => Pure.pure (Value.string ((strB l).extract l' h))) = _
  rw [pureRun_bind]
  have hs : pureRun P (Instr.sliceBounds false (strB l).size (strB l).size (some (.int k (i : Int))) (some (.int k' (j : Int))) none) = some (i, j, (strB l).size) := by
   unfold Instr.sliceBounds
   simp [pureRun_bind, Instr.sliceBound, asIntOf, h0, h1, strB_size]
   rw [if_pos hb]
   show pureRun P ((fun a_1 => (a_1, j, l.length)) <$> if i ≤ j then Pure.pure i else boundsPanic k (i : Int) (j : Int) BoundsCode.sliceB) = _
   rw [if_pos hij]; rfl
  rw [hs]
  show some (Value.string ((strB l).extract _ _)) = _
  rw [strB_part]
 simp only [execOp, hx, hlo, hj, Option.map_some, Option.map_none, pureRun_bind, hb]
 rfl
end
def digT (x : BitVec 8) : Bool := decide (48 ≤ x.toNat ∧ x.toNat < 58)
theorem digT_dig {x : BitVec 8} : digT x = true ↔ isDig x := by
 unfold digT isDig
 rw [decide_eq_true_eq]
 omega
theorem contains_C (b : Nat) (x : BitVec 8) (S : Mem) (hr : S.row? b = some (newR (setTo 10) 135)) : C Tryz.prog G Ext 166 [.pointer (some ⟨b, 0, none⟩), v8 x] S fun v S' => v = .bool (digT x) ∧ S' = S := by
 refine C.fn Tryz.func166 rfl (by kernel_rfl) rfl ?_
 repeat first|apply wg|refine ss rfl ?_|apply nl
 refine L.ixA (b := b) (o := 0) (n := 256) (k := x.toNat) (sz := 1) rfl x.isLt rfl rfl rfl rfl ?_
 have hg : (setTo 10)[0 + x.toNat * 1]? = some (.bool (digT x)) := by
  rw [Nat.zero_add, Nat.mul_one]
  unfold setTo digT
  rw [List.getElem?_map, List.getElem?_range x.isLt]
  rfl
 refine L.ld (a := ⟨b, 0 + x.toNat * 1, none⟩) (v := .bool (digT x)) (cell_of hr hg (.inl rfl)) rfl rfl rfl ?_
 repeat first|apply wg|refine ss rfl ?_|apply nl
 exact ⟨.inr rfl, _, rfl, rfl, rfl⟩
theorem trimR_C (b : Nat) (l : BL) (S : Mem) (hr : S.row? b = some (newR (setTo 10) 135)) (hl : l.length < 1000000000) :
  C Tryz.prog G Ext 147 [.string (strB l), .pointer (some ⟨b, 0, none⟩)] S fun v S' => (∃ m : BL, v = .string (strB m) ∧ m.length ≤ l.length ∧ (∃ ds, l = m ++ ds ∧ ∀ x ∈ ds, isDig x) ∧ ∀ x, m.getLast? = some x → ¬ isDig x) ∧ S' = S := by
 refine C.fn Tryz.func147 rfl (by kernel_rfl) rfl ?_
 repeat first|apply wg|refine ss rfl ?_|apply nl
 refine W.loop (fun j e T => ∃ m : BL, j = m.length ∧ T = S ∧ e 0 = .string (strB m) ∧ e 1 = .pointer (some ⟨b, 0, none⟩) ∧ m.length ≤ l.length ∧ ∃ ds, l = m ++ ds ∧ ∀ x ∈ ds, isDig x) l.length ⟨l, rfl, rfl, rfl, rfl, Nat.le_refl _, [], by simp, by simp⟩ ?_
 rintro j e T ⟨m, rfl, hT, e0, e1, hml, ds, hds, hdd⟩
 have hT := hT.symm
 subst hT
 refine W.env2 e0 e1 ?_
 clear e0 e1
 repeat first|apply wg|refine ss rfl ?_|apply nl
 refine L.tlen rfl rfl rfl rfl ?_
 rcases List.eq_nil_or_concat m with rfl | ⟨m', x, rfl⟩
 ·repeat first|apply wg|refine ss rfl ?_|apply nl
  refine W.condF rfl ?_
  repeat first|apply wg|refine ss rfl ?_|apply nl
  exact ⟨.inr rfl, _, rfl, ⟨[], rfl, Nat.zero_le _, ⟨ds, hds, hdd⟩, nofun⟩, rfl⟩
 ·simp only [List.concat_eq_append] at *
  have hlen : (m' ++ [x]).length = m'.length + 1 := by simp
  have hp : decide ((((m' ++ [x]).length : Nat) : Int) > 0) = true := decide_eq_true (by omega)
  have e1 : IntKind.i64.wrap ((((m' ++ [x]).length : Nat) : Int) - 1) = (m'.length : Int) := by rw [wrap64 (by omega) (by omega)]; omega
  repeat first|apply wg|refine ss rfl ?_|apply nl
  rw [hp]
  repeat first|apply wg|refine ss rfl ?_|apply nl
  refine W.condT rfl ?_
  repeat first|apply wg|refine ss rfl ?_|apply nl
  refine L.tlen rfl rfl rfl rfl ?_
  repeat first|apply wg|refine ss rfl ?_|apply nl
  rw [e1]
  refine L.sB (l := m' ++ [x]) (i := m'.length) (b := x) rfl rfl (by simp) rfl rfl ?_
  repeat first|apply wg|refine ss rfl ?_|apply nl
  refine L.cs (contains_C b x S hr) rfl rfl ?_
  repeat first|apply wg|refine ss rfl ?_|apply nl
  cases hd : digT x
  ·repeat first|apply wg|refine ss rfl ?_|apply nl
   refine W.condT rfl ?_
   repeat first|apply wg|refine ss rfl ?_|apply nl
   refine ⟨.inr rfl, _, rfl, ⟨m' ++ [x], rfl, hml, ⟨ds, hds, hdd⟩, fun y hy => ?_⟩, rfl⟩
   rw [List.getLast?_concat] at hy
   cases hy
   intro hdig
   rw [digT_dig.2 hdig] at hd
   cases hd
  ·repeat first|apply wg|refine ss rfl ?_|apply nl
   refine W.condF rfl ?_
   repeat first|apply wg|refine ss rfl ?_|apply nl
   refine L.tlen rfl rfl rfl rfl ?_
   repeat first|apply wg|refine ss rfl ?_|apply nl
   rw [e1]
   refine L.upto (l := m' ++ [x]) (i := m'.length) rfl rfl (by omega) rfl rfl ?_
   rw [List.take_left]
   repeat first|apply wg|refine ss rfl ?_|apply nl
   exact ⟨m'.length, by omega, m', rfl, rfl, rfl, rfl, by omega, x :: ds, by rw [hds]; simp, fun y hy => by
    rcases List.mem_cons.1 hy with rfl | hy
    ·exact digT_dig.1 hd
    ·exact hdd y hy⟩
theorem trimLA_C (b : Nat) (l : BL) (S : Mem) (hr : S.row? b = some (newR (setTo 10) 135)) (hl : l.length < 1000000000) :
  C Tryz.prog G Ext 146 [.string (strB l), .pointer (some ⟨b, 0, none⟩)] S fun v S' => (∃ m : BL, v = .string (strB m) ∧ (∃ ds, l = ds ++ m ∧ ∀ x ∈ ds, isDig x) ∧ ∀ x, m.head? = some x → ¬ isDig x) ∧ S' = S := by
 refine C.fn Tryz.func146 rfl (by kernel_rfl) rfl ?_
 repeat first|apply wg|refine ss rfl ?_|apply nl
 refine W.loop (fun j e T => ∃ m : BL, j = m.length ∧ T = S ∧ e 0 = .string (strB m) ∧ e 1 = .pointer (some ⟨b, 0, none⟩) ∧ m.length ≤ l.length ∧ ∃ ds, l = ds ++ m ∧ ∀ x ∈ ds, isDig x) l.length ⟨l, rfl, rfl, rfl, rfl, Nat.le_refl _, [], by simp, by simp⟩ ?_
 rintro j e T ⟨m, rfl, hT, e0, e1, hml, ds, hds, hdd⟩
 have hT := hT.symm
 subst hT
 refine W.env2 e0 e1 ?_
 clear e0 e1
 repeat first|apply wg|refine ss rfl ?_|apply nl
 refine L.tlen rfl rfl rfl rfl ?_
 cases m with
 | nil =>
  repeat first|apply wg|refine ss rfl ?_|apply nl
  refine W.condF rfl ?_
  repeat first|apply wg|refine ss rfl ?_|apply nl
  exact ⟨.inr rfl, _, rfl, ⟨[], rfl, ⟨ds, hds, hdd⟩, nofun⟩, rfl⟩
 | cons x m =>
  have hp : decide ((((x :: m).length : Nat) : Int) > 0) = true := decide_eq_true (by simp)
  repeat first|apply wg|refine ss rfl ?_|apply nl
  rw [hp]
  repeat first|apply wg|refine ss rfl ?_|apply nl
  refine W.condT rfl ?_
  repeat first|apply wg|refine ss rfl ?_|apply nl
  have hv : Value.int .u8 (((UInt8.ofNat x.toNat).toNat : Nat) : Int) = v8 x := by rw [byte_back]
  refine L.cs (contains_C b x S hr) rfl ((show acall _ _ = some (_, [.pointer (some ⟨b, 0, none⟩), .int .u8 (((UInt8.ofNat x.toNat).toNat : Nat) : Int)]) from rfl).trans (by rw [hv])) ?_
  repeat first|apply wg|refine ss rfl ?_|apply nl
  cases hd : digT x
  ·repeat first|apply wg|refine ss rfl ?_|apply nl
   refine W.condT rfl ?_
   repeat first|apply wg|refine ss rfl ?_|apply nl
   refine ⟨.inr rfl, _, rfl, ⟨x :: m, rfl, ⟨ds, hds, hdd⟩, fun y hy => ?_⟩, rfl⟩
   cases hy
   intro hdig
   rw [digT_dig.2 hdig] at hd
   cases hd
  ·repeat first|apply wg|refine ss rfl ?_|apply nl
   refine W.condF rfl ?_
   repeat first|apply wg|refine ss rfl ?_|apply nl
   refine L.from (l := x :: m) (i := 1) rfl rfl (by simp) rfl rfl ?_
   repeat first|apply wg|refine ss rfl ?_|apply nl
   exact ⟨m.length, by simp, m, rfl, rfl, rfl, rfl, by simp at hml; omega, ds ++ [x], by rw [hds]; simp, fun y hy => by
    rcases List.mem_append.1 hy with hy | hy
    ·exact hdd y hy
    ·rw [List.mem_singleton] at hy; rw [hy]; exact digT_dig.1 hd⟩
theorem trim_digits_C (l : BL) (S : Mem) (h0 : l ≠ []) (hl : l.length < 1000000000) :
  C Tryz.prog G Ext 120 [.string (strB l), .string (strB digL)] S fun v S' => (∃ m : BL, v = .string (strB m) ∧ (m = [] ↔ ∀ x ∈ l, isDig x)) ∧ Cons S S' := by
 refine C.fn Tryz.func120 rfl (by kernel_rfl) rfl ?_
 have he : ((strB l).toList == (ByteArray.mk #[]).toList) = false := by
  rw [show ByteArray.mk #[] = strB [] from rfl, strB_same, decide_eq_false h0]
 have he2 : ((strB digL).toList == (ByteArray.mk #[]).toList) = false := by
  rw [show ByteArray.mk #[] = strB [] from rfl, strB_same]; rfl
 repeat first|apply wg|refine ss rfl ?_|apply nl
 rw [he]
 repeat first|apply wg|refine ss rfl ?_|apply nl
 rw [he2]
 repeat first|apply wg|refine ss rfl ?_|apply nl
 refine W.condF rfl ?_
 repeat first|apply wg|refine ss rfl ?_|apply nl
 refine L.tlen (a := digL) rfl rfl rfl rfl ?_
 repeat first|apply wg|refine ss rfl ?_|apply nl
 refine W.condF rfl ?_
 repeat first|apply wg|refine ss rfl ?_|apply nl
 refine L.cv (makeSet_C S) rfl rfl fun T1 k1 => ?_
 repeat first|apply wg|refine ss rfl ?_|apply nl
 refine L.eff (v := .pointer (some ⟨T1.length, 0, none⟩)) (S1 := T1 ++ [newR (setTo 0) 135]) rfl (by rfl) ?_
 have hc : Cons T1 (T1 ++ [newR (setTo 0) 135]) := Cons.push _ _
 have hr : Mem.row? (T1 ++ [newR (setTo 0) 135]) T1.length = some (newR (setTo 0) 135) := row_push_new rfl
 generalize T1 ++ [newR (setTo 0) 135] = T2 at *
 have hl2 : ∀ i, (setTo i).length = 256 := fun i => by simp [setTo]
 have hall : (setTo 10).all oneCell = true := by
  unfold setTo
  rw [List.all_map]
  exact List.all_eq_true.2 fun x _ => rfl
 refine L.st (ad := ⟨T1.length, 0, none⟩) (vs := setTo 10) (write_of (o := 0) hr rfl (by show 0 + (setTo 10).length ≤ (setTo 0).length; rw [hl2, hl2]; omega) hall) rfl rfl (set_cells 10) (by rw [hl2]; rfl) ?_
 have hr2 : Mem.row? (List.set T2 T1.length { newR (setTo 0) 135 with cells := putFrom (newR (setTo 0) 135).cells 0 (setTo 10) }) T1.length = some (newR (setTo 10) 135) := by
  rw [row_set_same hr rfl]
  show some (newR (putFrom (setTo 0) 0 (setTo 10)) 135) = _
  unfold putFrom
  rw [Nat.zero_add, hl2, List.drop_of_length_le (by rw [hl2]; omega)]
  simp
 have hc2 := (k1.trans hc).set T1.length { newR (setTo 0) 135 with cells := putFrom (newR (setTo 0) 135).cells 0 (setTo 10) } k1.len
 generalize List.set T2 T1.length _ = T3 at *
 repeat first|apply wg|refine ss rfl ?_|apply nl
 refine W.condT rfl ?_
 repeat first|apply wg|refine ss rfl ?_|apply nl
 refine L.cl (trimR_C T1.length l T3 hr2 hl) rfl rfl ?_
 rintro _ M ⟨⟨m, rfl, hml, ⟨ds, hds, hdd⟩, hlast⟩, hM⟩
 have hM := hM.symm
 subst hM
 refine ⟨fun _ => Cons.refl _, ?_⟩
 repeat first|apply wg|refine ss rfl ?_|apply nl
 refine L.cl (trimLA_C T1.length m T3 hr2 (by omega)) rfl rfl ?_
 rintro _ M ⟨⟨m2, rfl, ⟨es, hes, hee⟩, hhead⟩, hM⟩
 have hM := hM.symm
 subst hM
 refine ⟨fun _ => Cons.refl _, ?_⟩
 repeat first|apply wg|refine ss rfl ?_|apply nl
 refine ⟨.inr rfl, _, rfl, ⟨m2, rfl, ?_, ?_⟩, hc2⟩
 ·rintro rfl
  rw [List.append_nil] at hes
  subst hes
  intro x hx
  rw [hds] at hx
  rcases List.mem_append.1 hx with hx | hx
  ·exact hee x hx
  ·exact hdd x hx
 ·intro hd
  cases m2 with
  | nil => rfl
  | cons x t =>
   exfalso
   refine hhead x rfl (hd x ?_)
   rw [hds, hes]
   simp
end Go.Proofs.YtbiigbicgfchiaaGreatDoor

/- A list of limbs times a small number, and more. Conditions: none. -/
set_option exponentiation.threshold 20000
namespace Go.Proofs.YtbiigbicgfchiaaGreatDoor
open Go
theorem toW_eq {l : WL} {N : Nat} (hl : wnum l = N) (h : l.length = 0 ∨ 2 ^ (64 * (l.length - 1)) ≤ N) : toW N = l := by
 have h1 : (toW N).length = l.length := by
  have h2 : (toW N).length ≤ l.length := (toW_len N l.length).2 (by rw [← hl]; exact wnum_lt l)
  rcases h with h | h
  ·omega
  ·by_cases h0 : l.length = 0
   ·omega
   ·have h3 : ¬ (toW N).length ≤ l.length - 1 := fun hc => by
     have := (toW_len N (l.length - 1)).1 hc
     omega
    omega
 have h4 := toW_take l
 rw [hl, h1, List.take_length] at h4
 exact h4.symm
theorem short_mul {l l2 : WL} {k p n0 cr : Nat} {x q : BitVec 64} (hk : k < l.length) (hll : l2.length = l.length) (hx : l2[k]? = some x) (hd : l2.drop k = l.drop k) (hinv : wnum (l2.take k) + 2 ^ (64 * k) * cr = wnum (l.take k) * p + n0) (hq : q.toNat = (x.toNat * p + cr) % 18446744073709551616) :
  wnum ((l2.set k q).take (k + 1)) + 2 ^ (64 * (k + 1)) * ((x.toNat * p + cr) / 18446744073709551616) = wnum (l.take (k + 1)) * p + n0 ∧ (l2.set k q).drop (k + 1) = l.drop (k + 1) := by
 have hx2 : l[k]? = some x := by
  have h1 : (l2.drop k)[0]? = some x := by rw [List.getElem?_drop, Nat.add_zero]; exact hx
  rw [hd, List.getElem?_drop, Nat.add_zero] at h1
  exact h1
 have h1 := wnum_take_succ (l := l2.set k q) (i := k) (x := q) (by rw [List.getElem?_set_self (by omega)])
 have h2 := wnum_take_succ hx2
 rw [List.take_set_of_le (Nat.le_refl k)] at h1
 constructor
 ·rw [h1, h2, hq]
  have e : 2 ^ (64 * (k + 1)) = 2 ^ (64 * k) * 18446744073709551616 := by rw [Nat.mul_add, Nat.pow_add]
  have hdm := Nat.div_add_mod (x.toNat * p + cr) 18446744073709551616
  rw [e, Nat.add_mul (wnum (l.take k)), Nat.mul_assoc, Nat.mul_assoc]
  have h5 : 2 ^ (64 * k) * ((x.toNat * p + cr) % 18446744073709551616) + 2 ^ (64 * k) * (18446744073709551616 * ((x.toNat * p + cr) / 18446744073709551616)) = 2 ^ (64 * k) * (x.toNat * p) + 2 ^ (64 * k) * cr := by
   rw [← Nat.mul_add, ← Nat.mul_add, Nat.add_comm ((x.toNat * p + cr) % _), hdm]
  omega
 ·rw [List.drop_set_of_lt (by omega), ← List.drop_drop, ← List.drop_drop, hd]
theorem short_fin {V p n0 cr : Nat} {l2 : WL} {q : BitVec 64} (hp : 1 ≤ p) (hl : l2.length = (toW V).length) (h : wnum l2 + 2 ^ (64 * l2.length) * cr = V * p + n0) (hq : q.toNat = cr) : (0 < cr → toW (V * p + n0) = l2 ++ [q]) ∧ (cr = 0 → toW (V * p + n0) = l2) := by
 constructor
 ·intro hc
  refine toW_eq ?_ (.inr ?_)
  ·rw [wnum_append]
   show wnum l2 + 2 ^ (64 * l2.length) * (q.toNat + 18446744073709551616 * 0) = _
   rw [hq, Nat.mul_zero, Nat.add_zero, h]
  ·rw [List.length_append, List.length_singleton, Nat.add_sub_cancel, ← h]
   have := Nat.mul_le_mul_left (2 ^ (64 * l2.length)) hc
   omega
 ·intro hc
  subst hc
  rw [Nat.mul_zero, Nat.add_zero] at h
  refine toW_eq h ?_
  by_cases h0 : l2.length = 0
  ·exact .inl h0
  ·right
   have h1 := toW_ge (N := V) (by omega)
   rw [← hl] at h1
   have := Nat.mul_le_mul_left V hp
   omega
end Go.Proofs.YtbiigbicgfchiaaGreatDoor

/- nat.Parse: a number read from its digits. Conditions: none. -/
namespace Go.Proofs.YtbiigbicgfchiaaGreatDoor
open Go
variable {Ext : FuncId → List Value → Mem → Outc → Mem → Prop}
instance (l : BL) : Decidable (∀ x ∈ l, isDig x) := by unfold isDig; infer_instance
def prsE (s : BL) : Int := if 65536 < s.length then 3 else if s = [] ∨ ¬ (∀ x ∈ s, isDig x) then 12 else if decN 0 s < 2 ^ 8192 then 0 else 3
def prsL (s : BL) : WL := if prsE s = 0 then toW (decN 0 s) else []
theorem decN_drop0 (s : BL) : decN 0 (s.dropWhile (· == 48#8)) = decN 0 s := by
 induction s with
 | nil => rfl
 | cons x s ih =>
  by_cases h : x = 48#8
  ·subst h
   rw [List.dropWhile_cons_of_pos (by decide), ih]
   rfl
  ·rw [List.dropWhile_cons_of_neg (by simpa using h)]
theorem dropw_mem {s : BL} {x : BitVec 8} (h : x ∈ s.dropWhile (· == 48#8)) : x ∈ s := (List.dropWhile_sublist _).subset h
theorem decN_part (t : BL) {i j : Nat} (hij : i ≤ j) (hj : j ≤ t.length) : decN 0 (t.take j) = decN 0 (t.take i) * 10 ^ (j - i) + decN 0 ((t.take j).drop i) := by
 have e : t.take j = t.take i ++ (t.take j).drop i := by
  have := (List.take_append_drop i (t.take j)).symm
  rwa [List.take_take, Nat.min_eq_left hij] at this
 rw [e, decN_app, decN_pow (decN 0 (t.take i))]
 rw [← e, List.length_drop, List.length_take, Nat.min_eq_left hj]
theorem decN_mono (t : BL) (i : Nat) (hi : i ≤ t.length) : decN 0 (t.take i) ≤ decN 0 t := by
 have h := decN_part t hi (Nat.le_refl _)
 rw [List.take_length] at h
 have h1 : decN 0 (t.take i) * 1 ≤ decN 0 (t.take i) * 10 ^ (t.length - i) := Nat.mul_le_mul_left _ (Nat.one_le_pow _ _ (by decide))
 omega
theorem pow10_lt {k : Nat} (h : k ≤ 19) : 10 ^ k < 18446744073709551616 := Nat.lt_of_le_of_lt (Nat.pow_le_pow_right (by decide) h) (by decide)
theorem nParse_C (s : BL) (S : Mem) (hl : s.length < 1000000000) :
  C Tryz.prog gN Ext 80 [.string (strB s)] S fun v S' => ∃ d : Hd, v = .tuple #[d.v, .int .i64 (prsE s)] ∧ RetW S S' d (prsL s) := by
 refine C.fn Tryz.func80 rfl (by kernel_rfl) rfl ?_
 obtain ⟨E, hE⟩ : ∃ E, prsE s = E := ⟨_, rfl⟩
 have hL : prsL s = if E = 0 then toW (decN 0 s) else [] := by unfold prsL; rw [hE]
 rw [hE, hL]
 unfold prsE at hE
 repeat first|apply wg|refine ss rfl ?_|apply nl
 refine L.tlen rfl rfl rfl rfl ?_
 repeat first|apply wg|refine ss rfl ?_|apply nl
 refine W.ite rfl (fun h => ?_) (fun h => ?_)
 ·have := of_decide_eq_true h
  rw [if_pos (by omega)] at hE
  subst hE
  clear h
  repeat first|apply wg|refine ss rfl ?_|apply nl
  exact ⟨.inr rfl, _, rfl, Hd0, rfl, RetW.nil (Cons.refl _)⟩
 rw [if_neg (by have := of_decide_eq_false h; omega)] at hE
 clear h
 have he : ∀ m : BL, ((strB m).toList == (ByteArray.mk #[]).toList) = decide (m = []) := fun m => by
  rw [show ByteArray.mk #[] = strB [] from rfl, strB_same]
 repeat first|apply wg|refine ss rfl ?_|apply nl
 rw [he]
 by_cases h0 : s = []
 ·rw [decide_eq_true h0]
  rw [if_pos (.inl h0)] at hE
  subst hE
  repeat first|apply wg|refine ss rfl ?_|apply nl
  refine W.condT rfl ?_
  repeat first|apply wg|refine ss rfl ?_|apply nl
  exact ⟨.inr rfl, _, rfl, Hd0, rfl, RetW.nil (Cons.refl _)⟩
 rw [decide_eq_false h0]
 repeat first|apply wg|refine ss rfl ?_|apply nl
 refine L.cl (trim_digits_C s S h0 hl) rfl rfl ?_
 rintro _ S1 ⟨⟨m, rfl, hm⟩, k1⟩
 refine ⟨fun _ => k1, ?_⟩
 repeat first|apply wg|refine ss rfl ?_|apply nl
 rw [show (!((strB m).toList == (ByteArray.mk #[]).toList)) = !decide (m = []) by rw [he]]
 by_cases hd : ∀ x ∈ s, isDig x
 rotate_left
 ·have hm0 : m ≠ [] := fun h => hd (hm.1 h)
  rw [decide_eq_false hm0]
  rw [if_pos (.inr hd)] at hE
  subst hE
  repeat first|apply wg|refine ss rfl ?_|apply nl
  refine W.condT rfl ?_
  repeat first|apply wg|refine ss rfl ?_|apply nl
  exact ⟨.inr rfl, _, rfl, Hd0, rfl, RetW.nil k1⟩
 rw [decide_eq_true (hm.2 hd)]
 rw [if_neg (fun h => h.elim h0 (fun h => h hd))] at hE
 repeat first|apply wg|refine ss rfl ?_|apply nl
 refine W.ite rfl (fun h => ?_) (fun h => ?_)
 ·cases h
 clear h hm
 repeat first|apply wg|refine ss rfl ?_|apply nl
 refine L.cs (trimL0_C s S1 hl) rfl rfl ?_
 rw [← decN_drop0] at hE ⊢
 have htd : ∀ x ∈ s.dropWhile (· == 48#8), isDig x := fun x hx => hd x (dropw_mem hx)
 have htl : (s.dropWhile (· == 48#8)).length < 1000000000 := Nat.lt_of_le_of_lt (List.dropWhile_sublist _).length_le hl
 generalize s.dropWhile (· == 48#8) = t at *
 clear hd h0 hL
 repeat first|apply wg|refine ss rfl ?_|apply nl
 refine W.loop (fun j e T => ∃ (i : Nat) (d : Hd) (l : WL), j = t.length - i ∧ i ≤ t.length ∧ Cons S T ∧ e 0 = .string (strB t) ∧ e 4 = .slice d.ad l.length d.c ∧ e 5 = vi i ∧ HdOk T 57 d (wv l) ∧ (∀ b, d.a = some b → S.length ≤ b) ∧ l = toW (decN 0 (t.take i)) ∧ l.length ≤ 128) t.length
  ⟨0, Hd0, [], by omega, by omega, k1, rfl, rfl, rfl, HdOk.nil _ _, nofun, by rw [List.take_zero]; exact toW_zero.symm, by decide⟩ ?_
 clear k1
 rintro j e T ⟨i, d, l, rfl, hi, hc, e0, e4, e5, hdk, hdn, hlV, hl128⟩
 refine W.env3 e0 e4 e5 ?_
 clear e0 e4 e5
 have hdl : d.n = l.length := by have := hdk.len; rw [wv_len] at this; omega
 repeat first|apply wg|refine ss rfl ?_|apply nl
 refine L.tlen rfl rfl rfl rfl ?_
 repeat first|apply wg|refine ss rfl ?_|apply nl
 refine W.ite rfl (fun h => ?_) (fun h => ?_)
 ·have hin : i < t.length := by have := of_decide_eq_true h; omega
  clear h
  repeat first|apply wg|refine ss rfl ?_|apply nl
  refine L.tlen rfl rfl rfl rfl ?_
  repeat first|apply wg|refine ss rfl ?_|apply nl
  obtain ⟨q, hq⟩ : ∃ q, q = min t.length (i + 19) := ⟨_, rfl⟩
  have hqi : i < q := by omega
  have hqt : q ≤ t.length := by omega
  have hq19 : q - i ≤ 19 := by omega
  rw [wrap64 (x := (i : Int) + 19) (by omega) (by omega)]
  refine L.min (c := ((q : Nat) : Int)) rfl rfl rfl ?_ ?_
  ·split <;> omega
  clear hq
  repeat first|apply wg|refine ss rfl ?_|apply nl
  refine L.sub (l := t) (i := i) (j := q) rfl rfl rfl (by omega) hqt rfl rfl ?_
  have hpart := decN_part t (i := i) (j := q) (by omega) hqt
  have hpl : ((t.take q).drop i).length = q - i := by rw [List.length_drop, List.length_take]; omega
  have hpd : ∀ x ∈ (t.take q).drop i, isDig x := fun x hx => htd x (List.mem_of_mem_take (List.mem_of_mem_drop hx))
  have hp0 : (t.take q).drop i ≠ [] := fun h => by rw [h] at hpl; simp at hpl; omega
  have hplt := decN_lt _ hpd
  rw [hpl] at hplt
  generalize (t.take q).drop i = dg at *
  repeat first|apply wg|refine ss rfl ?_|apply nl
  refine L.cv (parseUint_C dg T hp0 hpd (by omega)) rfl rfl fun T1 k1 => ?_
  replace hc := hc.trans k1
  replace hdk := hdk.cons k1
  clear k1
  generalize decN 0 dg = n0 at *
  generalize hV : decN 0 (t.take i) = V at *
  obtain ⟨kk, hkk⟩ : ∃ kk, kk = q - i := ⟨_, rfl⟩
  rw [← hkk] at hpart hplt hq19
  have hp10 := pow10_lt hq19
  repeat first|apply wg|refine ss rfl ?_|apply nl
  rw [show IntKind.i64.wrap ((q : Int) - (i : Int)) = (kk : Int) by rw [wrap64 (by omega) (by omega)]; omega]
  refine W.mono (R := fun x e' T' => x = .exit 2 ∧ T' = T1 ∧ e' 0 = .string (strB t) ∧ e' 4 = .slice d.ad l.length d.c ∧ e' 5 = vi i ∧ e' 6 = vi q ∧ e' 7 = .int .u64 (n0 : Int) ∧ e' 9 = .int .u64 ((10 ^ kk : Nat) : Int)) ?_ ?_
  ·refine W.loop (fun j e' T' => ∃ z : Nat, j = kk - z ∧ z ≤ kk ∧ T' = T1 ∧ e' 0 = .string (strB t) ∧ e' 4 = .slice d.ad l.length d.c ∧ e' 5 = vi i ∧ e' 6 = vi q ∧ e' 7 = .int .u64 (n0 : Int) ∧ e' 9 = .int .u64 ((10 ^ z : Nat) : Int) ∧ e' 45 = vi kk ∧ e' 46 = vi z) kk
    ⟨0, rfl, Nat.zero_le _, rfl, rfl, rfl, rfl, rfl, rfl, rfl, rfl, rfl⟩ ?_
   rintro j e' T' ⟨z, rfl, hz, hT, e0, e4, e5, e6, e7, e9, e45, e46⟩
   have hT := hT.symm
   subst hT
   refine W.env8 e0 e4 e5 e6 e7 e9 e45 e46 ?_
   clear e0 e4 e5 e6 e7 e9 e45 e46
   repeat first|apply wg|refine ss rfl ?_|apply nl
   refine W.ite rfl (fun h => ?_) (fun h => ?_)
   ·have hzk : z < kk := by have := of_decide_eq_true h; omega
    clear h
    have hp := pow10_lt (k := z + 1) (by omega)
    have e1 : IntKind.u64.wrap (((10 ^ z : Nat) : Int) * 10) = ((10 ^ (z + 1) : Nat) : Int) := by
     rw [Nat.pow_succ] at hp ⊢
     rw [wrapU64 (by omega) (by omega)]
     omega
    repeat first|apply wg|refine ss rfl ?_|apply nl
    rw [e1]
    refine ⟨kk - (z + 1), by omega, z + 1, rfl, by omega, rfl, rfl, rfl, rfl, rfl, rfl, rfl, rfl, ?_⟩
    exact congrArg (Value.int .i64) (wrap64 (by omega) (by omega))
   ·have hzk : z = kk := by have := of_decide_eq_false h; omega
    subst hzk
    clear h
    repeat first|apply wg|refine ss rfl ?_|apply nl
    exact ⟨rfl, rfl, rfl, rfl, rfl, rfl, rfl, rfl⟩
  rintro _ e' T' ⟨rfl, hT, e0, e4, e5, e6, e7, e9⟩
  have hT := hT.symm
  subst hT
  refine W.env6 e0 e4 e5 e6 e7 e9 ?_
  clear e0 e4 e5 e6 e7 e9
  obtain ⟨p, hp⟩ : ∃ p, p = 10 ^ kk := ⟨_, rfl⟩
  have hp1 : 1 ≤ p := by rw [hp]; exact Nat.one_le_pow _ _ (by decide)
  rw [← hp] at hpart hplt hp10 ⊢
  clear hp
  repeat first|apply wg|refine ss rfl ?_|apply nl
  refine W.mono (R := fun x e' T' => x = .exit 4 ∧ ∃ (l2 : WL) (cr : Nat), e' 0 = .string (strB t) ∧ e' 4 = .slice d.ad l.length d.c ∧ e' 6 = vi q ∧ e' 7 = .int .u64 (cr : Int) ∧ Cons S T' ∧ HdOk T' 57 d (wv l2) ∧ l2.length = l.length ∧ cr < 18446744073709551616 ∧ wnum l2 + 2 ^ (64 * l2.length) * cr = V * p + n0) ?_ ?_
  ·refine W.loop (fun j e' T' => ∃ (k : Nat) (l2 : WL) (cr : Nat), j = l.length - k ∧ k ≤ l.length ∧ e' 0 = .string (strB t) ∧ e' 4 = .slice d.ad l.length d.c ∧ e' 6 = vi q ∧ e' 7 = .int .u64 (cr : Int) ∧ e' 9 = .int .u64 (p : Int) ∧ e' 52 = vi l.length ∧ e' 53 = vi k ∧ Cons S T' ∧ HdOk T' 57 d (wv l2) ∧ l2.length = l.length ∧ cr < 18446744073709551616 ∧ l2.drop k = l.drop k ∧ wnum (l2.take k) + 2 ^ (64 * k) * cr = wnum (l.take k) * p + n0) l.length
    ⟨0, l, n0, by omega, Nat.zero_le _, rfl, rfl, rfl, rfl, rfl, rfl, rfl, hc, hdk, rfl, by omega, rfl, by simp [wnum]⟩ ?_
   clear hdk hc
   rintro j e' T' ⟨k, l2, cr, rfl, hk, e0, e4, e6, e7, e9, e52, e53, hc, hdk, hl2, hcr, hdr, hinv⟩
   refine W.env7 e0 e4 e6 e7 e9 e52 e53 ?_
   clear e0 e4 e6 e7 e9 e52 e53
   repeat first|apply wg|refine ss rfl ?_|apply nl
   refine W.ite rfl (fun h => ?_) (fun h => ?_)
   ·have hkl : k < l.length := by have := of_decide_eq_true h; omega
    clear h
    obtain ⟨b, hb⟩ : ∃ b, d.a = some b := by
     cases hda : d.a with
     | some b => exact ⟨b, rfl⟩
     | none =>
      obtain ⟨h1, ⟨_, h3, _⟩ | ⟨b, r, h2, _⟩⟩ := hdk
      ·omega
      ·rw [hda] at h2; cases h2
    have hbS := hdn b hb
    have hd3 : d = ⟨some b, l.length, d.c⟩ := by cases d; simp at hb hdl ⊢; exact ⟨hb, hdl⟩
    rw [hd3] at hdk
    obtain ⟨r, hr, hro, hrl, hrt⟩ := hdk.row
    have had : d.ad = some ⟨b, 0, none⟩ := by rw [hd3]; rfl
    rw [had]
    obtain ⟨x, hx⟩ : ∃ x, l2[k]? = some x := ⟨_, List.getElem?_eq_getElem (by omega)⟩
    have hsl : Slv T' 1 (.slice (some ⟨b, 0, none⟩) l.length d.c) l.length (wv l2) := hdk.slv
    repeat first|apply wg|refine ss rfl ?_|apply nl
    refine L.el hsl (k := k) rfl (wv_get hx) rfl rfl rfl rfl (fun _ => rfl) rfl (fun _ => ?_)
    repeat first|apply wg|refine ss rfl ?_|apply nl
    obtain ⟨pw, hpw⟩ := word_of (n := p) hp10
    rw [← hpw]
    refine L.cl (mul64_C x pw T') rfl rfl ?_
    rintro _ T5 ⟨rfl, hT5⟩
    have hT5 := hT5.symm
    subst hT5
    refine ⟨nofun, ?_⟩
    repeat first|apply wg|refine ss rfl ?_|apply nl
    refine L.add64 (a := (x * pw).toNat) (b := cr) (c := 0) (by omega) rfl rfl ?_
    have hxp : (x * pw).toNat = x.toNat * p % 18446744073709551616 := by rw [BitVec.toNat_mul, hpw]
    have hhi : (hiW x pw).toNat = x.toNat * p / 18446744073709551616 := by rw [hiW_val, hpw]
    have hxl := x.isLt
    have hprod : x.toNat * p ≤ 18446744073709551615 * p := Nat.mul_le_mul_right p (by omega)
    obtain ⟨XP, hXP⟩ : ∃ XP, XP = x.toNat * p := ⟨_, rfl⟩
    rw [← hXP] at hxp hhi hprod
    have hnew : (XP + cr) / 18446744073709551616 = XP / 18446744073709551616 + (XP % 18446744073709551616 + cr + 0) / 18446744073709551616 := by omega
    have hlo : (XP + cr) % 18446744073709551616 = (XP % 18446744073709551616 + cr + 0) % 18446744073709551616 := by omega
    have hcr2 : (XP + cr) / 18446744073709551616 < 18446744073709551616 := by omega
    rw [hxp]
    repeat first|apply wg|refine ss rfl ?_|apply nl
    rw [hhi]
    rw [show IntKind.u64.wrap (((XP / 18446744073709551616 : Nat) : Int) + (((XP % 18446744073709551616 + cr + 0) / 18446744073709551616 : Nat) : Int)) = (((XP + cr) / 18446744073709551616 : Nat) : Int) by rw [wrapU64 (by omega) (by omega)]; omega]
    obtain ⟨qw, hqw⟩ := word_of (n := (XP % 18446744073709551616 + cr + 0) % 18446744073709551616) (Nat.mod_lt _ (by decide))
    rw [← hqw]
    have hst := short_mul (q := qw) hkl hl2 hx hdr hinv (by rw [hqw, ← hXP, hlo])
    rw [← hXP] at hst
    refine L.elst hr hro (by omega) (k := k) rfl hkl rfl rfl rfl rfl (fun _ => rfl) (fun _ => rfl) rfl rfl rfl (fun _ => ?_)
    have hset := hdk.set (i := 0 + k) (v64 qw) hr
    have hc2 := hc.set b { r with cells := r.cells.set (0 + k) (v64 qw) } hbS
    rw [← hd3, show (wv l2).set (0 + k) (v64 qw) = wv (l2.set k qw) by rw [Nat.zero_add]; unfold wv; rw [List.map_set]] at hset
    generalize List.set T' b _ = T6 at *
    repeat first|apply wg|refine ss rfl ?_|apply nl
    refine ⟨l.length - (k + 1), by omega, k + 1, l2.set k qw, (XP + cr) / 18446744073709551616, rfl, by omega, rfl, rfl, rfl, rfl, rfl, rfl, ?_, hc2, hset, by rw [List.length_set]; exact hl2, hcr2, hst.2, by rw [hpw]; exact hst.1⟩
    ·exact congrArg (Value.int .i64) (wrap64 (by omega) (by omega))
   ·have hkl : k = l.length := by have := of_decide_eq_false h; omega
    subst hkl
    clear h
    rw [List.take_length, ← hl2, List.take_length] at hinv
    repeat first|apply wg|refine ss rfl ?_|apply nl
    refine ⟨rfl, l2, cr, rfl, rfl, rfl, rfl, hc, hdk, hl2, hcr, ?_⟩
    rw [hinv, hlV, wnum_toW]
  clear hdk hc
  rintro _ e' T' ⟨rfl, l2, cr, e0, e4, e6, e7, hc, hdk, hl2, hcr, hsum⟩
  refine W.env4 e0 e4 e6 e7 ?_
  clear e0 e4 e6 e7
  obtain ⟨qw, hqw⟩ := word_of (n := cr) hcr
  have hfin := short_fin (V := V) hp1 (by rw [hl2, hlV]) hsum hqw
  rw [← hpart] at hfin
  have hmono := decN_mono t q hqt
  repeat first|apply wg|refine ss rfl ?_|apply nl
  refine W.ite rfl (fun h => ?_) (fun h => ?_)
  ·have hc0 : 0 < cr := by have := of_decide_eq_true h; omega
   clear h
   have hl' := hfin.1 hc0
   repeat first|apply wg|refine ss rfl ?_|apply nl
   rw [← hqw]
   refine L.pushC (w := v64 qw) (h := d) rfl hdk rfl rfl rfl rfl ((force_eq rfl).trans (by unfold Hd.v; rw [hdl]; rfl)) (by omega) rfl (fun _ => rfl) ?_
   rintro _ h' T3 u1 u2 uc ⟨b', u3, u5⟩ u4
   have hc3 : Cons S T3 := u4.cons0 hc (fun x hx => hdn x (by simpa using hx))
   rw [show wv l2 ++ [v64 qw] = wv (l2 ++ [qw]) by unfold wv; rw [List.map_append]; rfl] at u1
   have hlen' : (l2 ++ [qw]).length = h'.n := by have := u1.len; rw [wv_len] at this; exact this
   repeat first|apply wg|refine ss rfl ?_|apply nl
   rw [← hlen']
   refine W.ite rfl (fun h => ?_) (fun h => ?_)
   ·have hbig : 128 < ((l2 ++ [qw])).length := by have := of_decide_eq_true h; omega
    clear h
    have hge : 2 ^ 8192 ≤ decN 0 (t.take q) := by
     refine Nat.le_of_not_lt fun hlt => ?_
     have := (toW_len (decN 0 (t.take q)) 128).2 hlt
     rw [hl'] at this
     omega
    rw [if_neg (by omega)] at hE
    subst hE
    repeat first|apply wg|refine ss rfl ?_|apply nl
    exact ⟨.inr rfl, _, rfl, Hd0, rfl, RetW.nil hc3⟩
   ·have hsm : ((l2 ++ [qw])).length ≤ 128 := by have := of_decide_eq_false h; omega
    clear h
    repeat first|apply wg|refine ss rfl ?_|apply nl
    exact ⟨t.length - q, by omega, q, h', ((l2 ++ [qw])), rfl, hqt, hc3, rfl, rfl, rfl, u1, (fun b hb => by rw [u3] at hb; cases hb; have := hc.len; omega), hl'.symm, hsm⟩
  ·have hc0 : cr = 0 := by have := of_decide_eq_false h; omega
   clear h
   have hl' := hfin.2 hc0
   have hlen' : l2.length = d.n := by rw [hl2, hdl]
   repeat first|apply wg|refine ss rfl ?_|apply nl
   rw [← hl2]
   refine W.ite rfl (fun h => ?_) (fun h => ?_)
   ·have hbig : 128 < (l2).length := by have := of_decide_eq_true h; omega
    clear h
    have hge : 2 ^ 8192 ≤ decN 0 (t.take q) := by
     refine Nat.le_of_not_lt fun hlt => ?_
     have := (toW_len (decN 0 (t.take q)) 128).2 hlt
     rw [hl'] at this
     omega
    rw [if_neg (by omega)] at hE
    subst hE
    repeat first|apply wg|refine ss rfl ?_|apply nl
    exact ⟨.inr rfl, _, rfl, Hd0, rfl, RetW.nil hc⟩
   ·have hsm : (l2).length ≤ 128 := by have := of_decide_eq_false h; omega
    clear h
    repeat first|apply wg|refine ss rfl ?_|apply nl
    exact ⟨t.length - q, by omega, q, d, (l2), rfl, hqt, hc, rfl, rfl, rfl, hdk, hdn, hl'.symm, hsm⟩
 ·have hin : i = t.length := by have := of_decide_eq_false h; omega
  subst hin
  clear h
  rw [List.take_length] at hlV
  have hNlt : decN 0 t < 2 ^ 8192 := by
   have := (toW_len (decN 0 t) 128).1 (by rw [← hlV]; exact hl128)
   exact this
  rw [if_pos hNlt] at hE
  subst hE
  have hdv : d.v = .slice d.ad l.length d.c := by unfold Hd.v; rw [hdl]; rfl
  have hw : WIn T d.ad d.c l := (hdk.wown (N := 0) (fun _ _ => Nat.zero_le _) (by omega)).1.1
  repeat first|apply wg|refine ss rfl ?_|apply nl
  refine L.cs (clip_C d.ad d.c l T hw) rfl rfl ?_
  repeat first|apply wg|refine ss rfl ?_|apply nl
  have e0 : (if (0 : Int) = 0 then toW (decN 0 t) else []) = l := by rw [if_pos rfl, hlV]
  rw [e0]
  cases hda : d.a with
  | none =>
   have hl0 : l = [] := by
    obtain ⟨h1, ⟨_, h3, _⟩ | ⟨b, r, h2, _⟩⟩ := hdk
    ·exact List.length_eq_zero_iff.1 (by omega)
    ·rw [hda] at h2; cases h2
   subst hl0
   refine ⟨.inr rfl, _, rfl, Hd0, ?_, RetW.nil hc⟩
   unfold Hd.ad
   rw [hda]
   rfl
  | some b =>
   have hd3 : d = ⟨some b, l.length, d.c⟩ := by cases d; simp at hda hdl ⊢; exact ⟨hda, hdl⟩
   rw [hd3] at hdk
   obtain ⟨r, hr, hro, hrl, hrt⟩ := hdk.row
   refine ⟨.inr rfl, _, rfl, ⟨some b, l.length, l.length⟩, ?_, hc, by omega, HdOk.full hr hro (wv_len l) hrt (by unfold UNK; omega), fun x hx => by cases hx; exact hdn b hda⟩
   unfold Hd.ad
   rw [hda]
   rfl
end Go.Proofs.YtbiigbicgfchiaaGreatDoor

/- Halves of limbs times ten, and more. Conditions: none. -/
namespace Go.Proofs.YtbiigbicgfchiaaGreatDoor
open Go
def HC (l : WL) (V : Nat) : Prop := hnum l = V ∧ Small32 l ∧ (l.length = 0 ∨ 2 ^ (32 * (l.length - 1)) ≤ V)
theorem HC.big {l : WL} {V : Nat} (h : HC l V) : 256 < l.length ↔ 2 ^ 8192 ≤ V := by
 constructor
 ·intro hl
  rcases h.2.2 with h0 | h0
  ·omega
  ·exact Nat.le_trans (Nat.pow_le_pow_right (by decide) (by omega)) h0
 ·intro hV
  refine Nat.lt_of_not_le fun hl => ?_
  have h1 := hnum_lt h.2.1
  rw [h.1] at h1
  have h2 : (2 : Nat) ^ (32 * l.length) ≤ 2 ^ 8192 := Nat.pow_le_pow_right (by decide) (by omega)
  omega
theorem half_mul {l l2 : WL} {k n0 cr : Nat} {x q : BitVec 64} (hk : k < l.length) (hll : l2.length = l.length) (hx : l2[k]? = some x) (hd : l2.drop k = l.drop k) (hinv : hnum (l2.take k) + 2 ^ (32 * k) * cr = hnum (l.take k) * 10 + n0) (hq : q.toNat = (x.toNat * 10 + cr) % 4294967296) :
  hnum ((l2.set k q).take (k + 1)) + 2 ^ (32 * (k + 1)) * ((x.toNat * 10 + cr) / 4294967296) = hnum (l.take (k + 1)) * 10 + n0 ∧ (l2.set k q).drop (k + 1) = l.drop (k + 1) := by
 have hx2 : l[k]? = some x := by
  have h1 : (l2.drop k)[0]? = some x := by rw [List.getElem?_drop, Nat.add_zero]; exact hx
  rw [hd, List.getElem?_drop, Nat.add_zero] at h1
  exact h1
 have h1 := hnum_take_succ (l := l2.set k q) (i := k) (x := q) (by rw [List.getElem?_set_self (by omega)])
 have h2 := hnum_take_succ hx2
 rw [List.take_set_of_le (Nat.le_refl k)] at h1
 constructor
 ·rw [h1, h2, hq]
  have e : 2 ^ (32 * (k + 1)) = 2 ^ (32 * k) * 4294967296 := by rw [Nat.mul_add, Nat.pow_add]
  have hdm := Nat.div_add_mod (x.toNat * 10 + cr) 4294967296
  rw [e, Nat.add_mul (hnum (l.take k)), Nat.mul_assoc, Nat.mul_assoc]
  have h5 : 2 ^ (32 * k) * ((x.toNat * 10 + cr) % 4294967296) + 2 ^ (32 * k) * (4294967296 * ((x.toNat * 10 + cr) / 4294967296)) = 2 ^ (32 * k) * (x.toNat * 10) + 2 ^ (32 * k) * cr := by
   rw [← Nat.mul_add, ← Nat.mul_add, Nat.add_comm ((x.toNat * 10 + cr) % _), hdm]
  omega
 ·rw [List.drop_set_of_lt (by omega), ← List.drop_drop, ← List.drop_drop, hd]
theorem half_fin {V n0 cr : Nat} {l l2 : WL} {q : BitVec 64} (hV : HC l V) (hl : l2.length = l.length) (hs : Small32 l2) (h : hnum l2 + 2 ^ (32 * l2.length) * cr = V * 10 + n0) (hq : q.toNat = cr) (hcr : cr < 4294967296) : (0 < cr → HC (l2 ++ [q]) (V * 10 + n0)) ∧ (cr = 0 → HC l2 (V * 10 + n0)) := by
 constructor
 ·intro hc
  refine ⟨by rw [hnum_snoc, hq, h], fun x hx => ?_, .inr ?_⟩
  ·rcases List.mem_append.1 hx with h1 | h1
   ·exact hs x h1
   ·rw [List.mem_singleton] at h1; rw [h1, hq]; exact hcr
  ·rw [List.length_append, List.length_singleton, Nat.add_sub_cancel, ← h]
   have := Nat.mul_le_mul_left (2 ^ (32 * l2.length)) hc
   omega
 ·intro hc
  subst hc
  rw [Nat.mul_zero, Nat.add_zero] at h
  refine ⟨h, hs, ?_⟩
  rcases hV.2.2 with h0 | h0
  ·exact .inl (by omega)
  ·right
   rw [hl]
   omega
end Go.Proofs.YtbiigbicgfchiaaGreatDoor

/- The reference's Parse: digit by digit, over halves in place. Conditions: none. -/
namespace Go.Proofs.YtbiigbicgfchiaaGreatDoor
open Go
variable {Ext : FuncId → List Value → Mem → Outc → Mem → Prop}
theorem hc_nil : HC [] 0 := ⟨rfl, fun x hx => by simp at hx, .inl rfl⟩
theorem half_len256 {l : WL} {V : Nat} (h : HC l V) (hl : l.length ≤ 256) : V < 2 ^ 8192 := Nat.lt_of_not_le fun hc => by
 have := h.big.2 hc
 omega
theorem nilP (S : Mem) : WIn S none 0 [] := ⟨Slv.nil _ _ _ _, by decide, fun _ => rfl, by decide⟩
theorem pParse_C (s : BL) (S : Mem) (hl : s.length < 1000000000) :
  C Tryz.prog gN Ext 82 [.string (strB s)] S fun v S' => ∃ a c, v = .tuple #[.slice a (prsL s).length c, .int .i64 (prsE s)] ∧ Cons S S' ∧ WIn S' a c (prsL s) := by
 refine C.fn Tryz.func82 rfl (by kernel_rfl) rfl ?_
 obtain ⟨E, hE⟩ : ∃ E, prsE s = E := ⟨_, rfl⟩
 have hL : prsL s = if E = 0 then toW (decN 0 s) else [] := by unfold prsL; rw [hE]
 rw [hE, hL]
 unfold prsE at hE
 repeat first|apply wg|refine ss rfl ?_|apply nl
 refine L.tlen rfl rfl rfl rfl ?_
 repeat first|apply wg|refine ss rfl ?_|apply nl
 refine W.ite rfl (fun h => ?_) (fun h => ?_)
 ·have := of_decide_eq_true h
  rw [if_pos (by omega)] at hE
  subst hE
  clear h
  repeat first|apply wg|refine ss rfl ?_|apply nl
  exact ⟨.inr rfl, _, rfl, none, 0, rfl, Cons.refl _, nilP _⟩
 rw [if_neg (by have := of_decide_eq_false h; omega)] at hE
 clear h
 repeat first|apply wg|refine ss rfl ?_|apply nl
 refine L.tlen rfl rfl rfl rfl ?_
 repeat first|apply wg|refine ss rfl ?_|apply nl
 refine W.ite rfl (fun h => ?_) (fun h => ?_)
 ·have h0 : (s.length : Int) = 0 := of_decide_eq_true h
  rw [if_pos (.inl (List.length_eq_zero_iff.1 (by omega)))] at hE
  subst hE
  clear h
  repeat first|apply wg|refine ss rfl ?_|apply nl
  exact ⟨.inr rfl, _, rfl, none, 0, rfl, Cons.refl _, nilP _⟩
 have hs0 : s ≠ [] := fun hc => by
  have h0 : ¬ (s.length : Int) = 0 := of_decide_eq_false h
  subst hc
  exact h0 rfl
 clear h
 repeat first|apply wg|refine ss rfl ?_|apply nl
 refine W.mono (R := fun q e T => (q = .exit 0 ∧ T = S ∧ e 0 = .string (strB s) ∧ ∀ x ∈ s, isDig x) ∨ (q = .ret ∧ T = S ∧ e 2 = .slice none 0 0 ∧ e 3 = .int .i64 12 ∧ ¬ ∀ x ∈ s, isDig x)) ?_ ?_
 ·refine W.loop (fun j e T => ∃ i : Nat, j = s.length - i ∧ i ≤ s.length ∧ T = S ∧ e 0 = .string (strB s) ∧ e 4 = vi i ∧ ∀ k x, k < i → s[k]? = some x → isDig x) s.length
   ⟨0, rfl, Nat.zero_le _, rfl, rfl, rfl, fun k x hk => by omega⟩ ?_
  rintro j e T ⟨i, rfl, hi, hT, e0, e4, hd⟩
  have hT := hT.symm
  subst hT
  refine W.env2 e0 e4 ?_
  clear e0 e4
  repeat first|apply wg|refine ss rfl ?_|apply nl
  refine L.tlen rfl rfl rfl rfl ?_
  repeat first|apply wg|refine ss rfl ?_|apply nl
  refine W.ite rfl (fun h => ?_) (fun h => ?_)
  ·have hil : i < s.length := by have := of_decide_eq_true h; omega
   clear h
   obtain ⟨x, hx⟩ : ∃ x, s[i]? = some x := ⟨_, List.getElem?_eq_getElem hil⟩
   repeat first|apply wg|refine ss rfl ?_|apply nl
   refine L.sB (l := s) (i := i) (b := x) rfl rfl hx rfl rfl ?_
   repeat first|apply wg|refine ss rfl ?_|apply nl
   cases h48 : decide ((x.toNat : Int) < 48)
   ·have h48' := of_decide_eq_false h48
    repeat first|apply wg|refine ss rfl ?_|apply nl
    refine L.sB (l := s) (i := i) (b := x) rfl rfl hx rfl rfl ?_
    repeat first|apply wg|refine ss rfl ?_|apply nl
    refine W.ite rfl (fun h => ?_) (fun h => ?_)
    ·have := of_decide_eq_true h
     repeat first|apply wg|refine ss rfl ?_|apply nl
     exact .inr ⟨rfl, rfl, rfl, rfl, fun hc => by have := hc x (List.mem_of_getElem? hx); unfold isDig at this; omega⟩
    ·have := of_decide_eq_false h
     clear h
     repeat first|apply wg|refine ss rfl ?_|apply nl
     refine ⟨s.length - (i + 1), by omega, i + 1, rfl, by omega, rfl, rfl, congrArg (Value.int .i64) (wrap64 (by omega) (by omega)), fun k y hk hy => ?_⟩
     by_cases hki : k = i
     ·subst hki
      rw [hx] at hy
      cases hy
      unfold isDig
      omega
     ·exact hd k y (by omega) hy
   ·have h48' := of_decide_eq_true h48
    repeat first|apply wg|refine ss rfl ?_|apply nl
    refine W.ite rfl (fun h => ?_) (fun h => ?_)
    ·repeat first|apply wg|refine ss rfl ?_|apply nl
     exact .inr ⟨rfl, rfl, rfl, rfl, fun hc => by have := hc x (List.mem_of_getElem? hx); unfold isDig at this; omega⟩
    ·cases h
  ·have hil : i = s.length := by have := of_decide_eq_false h; omega
   subst hil
   clear h
   repeat first|apply wg|refine ss rfl ?_|apply nl
   refine .inl ⟨rfl, rfl, rfl, fun x hx => ?_⟩
   obtain ⟨k, hk, rfl⟩ := List.mem_iff_getElem.1 hx
   exact hd k _ hk (List.getElem?_eq_getElem hk)
 rintro q e T (⟨rfl, hT, e0, hd⟩ | ⟨rfl, hT, e2, e3, hd⟩)
 rotate_left
 ·have hT := hT.symm
  subst hT
  rw [if_pos (.inr hd)] at hE
  subst hE
  refine ⟨.inr rfl, .tuple #[e 2, e 3], rfl, none, 0, ?_, Cons.refl _, nilP _⟩
  rw [e2, e3]
  rfl
 have hT := hT.symm
 subst hT
 rw [if_neg (fun h => h.elim hs0 (fun h => h hd))] at hE
 refine W.env e0 ?_
 clear e0
 repeat first|apply wg|refine ss rfl ?_|apply nl
 refine W.loop (fun j e T => ∃ (i : Nat) (d : Hd) (l : WL), j = s.length - i ∧ i ≤ s.length ∧ Cons S T ∧ e 0 = .string (strB s) ∧ e 5 = .slice d.ad l.length d.c ∧ e 6 = vi i ∧ HdOk T 57 d (wv l) ∧ (∀ b, d.a = some b → S.length ≤ b) ∧ HC l (decN 0 (s.take i)) ∧ l.length ≤ 256) s.length
  ⟨0, Hd0, [], by omega, by omega, Cons.refl _, rfl, rfl, rfl, HdOk.nil _ _, nofun, by rw [List.take_zero]; exact hc_nil, by decide⟩ ?_
 rintro j e T ⟨i, d, l, rfl, hi, hc, e0, e5, e6, hdk, hdn, hlV, hl256⟩
 refine W.env3 e0 e5 e6 ?_
 clear e0 e5 e6
 have hdl : d.n = l.length := by have := hdk.len; rw [wv_len] at this; omega
 repeat first|apply wg|refine ss rfl ?_|apply nl
 refine L.tlen rfl rfl rfl rfl ?_
 repeat first|apply wg|refine ss rfl ?_|apply nl
 refine W.ite rfl (fun h => ?_) (fun h => ?_)
 ·have hin : i < s.length := by have := of_decide_eq_true h; omega
  clear h
  obtain ⟨y, hy⟩ : ∃ y, s[i]? = some y := ⟨_, List.getElem?_eq_getElem hin⟩
  have hyd := hd y (List.mem_of_getElem? hy)
  unfold isDig at hyd
  obtain ⟨n0, hn0⟩ : ∃ n0, n0 = y.toNat - 48 := ⟨_, rfl⟩
  have hstep : decN 0 (s.take (i + 1)) = decN 0 (s.take i) * 10 + n0 := by
   rw [List.take_add_one, hy]
   show decN 0 (s.take i ++ [y]) = _
   rw [decN_snoc, hn0]
  repeat first|apply wg|refine ss rfl ?_|apply nl
  refine L.sB (l := s) (i := i) (b := y) rfl rfl hy rfl rfl ?_
  repeat first|apply wg|refine ss rfl ?_|apply nl
  rw [show IntKind.u64.wrap (IntKind.u8.wrap ((y.toNat : Int) - 48)) = (n0 : Int) by rw [wrapU8 (by omega) (by omega), wrapU64 (by omega) (by omega)]; omega]
  generalize hV : decN 0 (s.take i) = V at *
  refine W.mono (R := fun q e' T' => q = .exit 4 ∧ ∃ (l2 : WL) (cr : Nat), e' 0 = .string (strB s) ∧ e' 5 = .slice d.ad l.length d.c ∧ e' 6 = vi i ∧ e' 7 = .int .u64 (cr : Int) ∧ Cons S T' ∧ HdOk T' 57 d (wv l2) ∧ l2.length = l.length ∧ cr < 10 ∧ Small32 l2 ∧ hnum l2 + 2 ^ (32 * l2.length) * cr = V * 10 + n0) ?_ ?_
  ·refine W.loop (fun j e' T' => ∃ (k : Nat) (l2 : WL) (cr : Nat), j = l.length - k ∧ k ≤ l.length ∧ e' 0 = .string (strB s) ∧ e' 5 = .slice d.ad l.length d.c ∧ e' 6 = vi i ∧ e' 7 = .int .u64 (cr : Int) ∧ e' 8 = vi k ∧ Cons S T' ∧ HdOk T' 57 d (wv l2) ∧ l2.length = l.length ∧ cr < 10 ∧ Small32 l2 ∧ l2.drop k = l.drop k ∧ hnum (l2.take k) + 2 ^ (32 * k) * cr = hnum (l.take k) * 10 + n0) l.length
    ⟨0, l, n0, by omega, Nat.zero_le _, rfl, rfl, rfl, rfl, rfl, hc, hdk, rfl, by omega, hlV.2.1, rfl, by simp [hnum]⟩ ?_
   clear hdk hc
   rintro j e' T' ⟨k, l2, cr, rfl, hk, e0, e5, e6, e7, e8, hc, hdk, hl2, hcr, hs2, hdr, hinv⟩
   refine W.env5 e0 e5 e6 e7 e8 ?_
   clear e0 e5 e6 e7 e8
   repeat first|apply wg|refine ss rfl ?_|apply nl
   refine W.ite rfl (fun h => ?_) (fun h => ?_)
   ·have hkl : k < l.length := by have := of_decide_eq_true h; omega
    clear h
    obtain ⟨b, hb⟩ : ∃ b, d.a = some b := by
     cases hda : d.a with
     | some b => exact ⟨b, rfl⟩
     | none =>
      obtain ⟨h1, ⟨_, h3, _⟩ | ⟨b, r, h2, _⟩⟩ := hdk
      ·omega
      ·rw [hda] at h2; cases h2
    have hbS := hdn b hb
    have hd3 : d = ⟨some b, l.length, d.c⟩ := by cases d; simp at hb hdl ⊢; exact ⟨hb, hdl⟩
    rw [hd3] at hdk
    obtain ⟨r, hr, hro, hrl, hrt⟩ := hdk.row
    have had : d.ad = some ⟨b, 0, none⟩ := by rw [hd3]; rfl
    rw [had]
    obtain ⟨x, hx⟩ : ∃ x, l2[k]? = some x := ⟨_, List.getElem?_eq_getElem (by omega)⟩
    have hxl := small32_get hs2 hx
    have hsl : Slv T' 1 (.slice (some ⟨b, 0, none⟩) l.length d.c) l.length (wv l2) := hdk.slv
    obtain ⟨q, hq⟩ : ∃ q, q = x.toNat * 10 + cr := ⟨_, rfl⟩
    have hw1 : IntKind.u64.wrap (IntKind.u64.wrap ((x.toNat : Int) * 10) + (cr : Int)) = (q : Int) := by
     rw [wrapU64 (x := (x.toNat : Int) * 10) (by omega) (by omega), wrapU64 (by omega) (by omega)]
     omega
    have hql : q < 18446744073709551616 := by omega
    obtain ⟨rw_, hrw⟩ := word32 q
    have hst := half_mul (q := rw_) hkl hl2 hx hdr hinv (by rw [hrw, hq])
    repeat first|apply wg|refine ss rfl ?_|apply nl
    refine L.el hsl (k := k) rfl (wv_get hx) rfl rfl rfl rfl (fun _ => rfl) rfl (fun p => ?_)
    repeat first|apply wg|refine ss rfl ?_|apply nl
    rw [hw1]
    repeat first|apply wg|refine ss rfl ?_|apply nl
    rw [andLo hql, ← hrw]
    refine L.elst hr hro (by omega) (k := k) rfl hkl rfl rfl rfl rfl (fun _ => rfl) (fun _ => rfl) rfl rfl rfl (fun _ => ?_)
    have hset := hdk.set (i := 0 + k) (v64 rw_) hr
    have hc2 := hc.set b { r with cells := r.cells.set (0 + k) (v64 rw_) } hbS
    rw [← hd3, show (wv l2).set (0 + k) (v64 rw_) = wv (l2.set k rw_) by rw [Nat.zero_add]; unfold wv; rw [List.map_set]] at hset
    generalize List.set T' b _ = T6 at *
    repeat first|apply wg|refine ss rfl ?_|apply nl
    refine ⟨l.length - (k + 1), by omega, k + 1, l2.set k rw_, q / 4294967296, rfl, by omega, rfl, rfl, rfl, (force_eq rfl).trans (congrArg (Value.int .u64) (shrHi q)), congrArg (Value.int .i64) (wrap64 (by omega) (by omega)), hc2, hset, by rw [List.length_set]; exact hl2, by omega, small32_set hs2 (by omega), hst.2, by rw [hq]; exact hst.1⟩
   ·have hkl : k = l.length := by have := of_decide_eq_false h; omega
    subst hkl
    clear h
    rw [List.take_length, ← hl2, List.take_length] at hinv
    repeat first|apply wg|refine ss rfl ?_|apply nl
    refine ⟨rfl, l2, cr, rfl, rfl, rfl, rfl, hc, hdk, hl2, hcr, hs2, ?_⟩
    rw [hinv, hlV.1]
  clear hdk hc
  rintro _ e' T' ⟨rfl, l2, cr, e0, e5, e6, e7, hc, hdk, hl2, hcr, hs2, hsum⟩
  refine W.env4 e0 e5 e6 e7 ?_
  clear e0 e5 e6 e7
  obtain ⟨qw, hqw⟩ := word_of (n := cr) (by omega)
  have hfin := half_fin hlV hl2 hs2 hsum hqw (by omega)
  rw [← hstep] at hfin
  repeat first|apply wg|refine ss rfl ?_|apply nl
  refine W.ite rfl (fun h => ?_) (fun h => ?_)
  ·have hc0 : 0 < cr := by have := of_decide_eq_true h; omega
   clear h
   replace hfin := hfin.1 hc0
   repeat first|apply wg|refine ss rfl ?_|apply nl
   rw [← hqw]
   refine L.pushC (w := v64 qw) (h := d) rfl hdk rfl rfl rfl rfl ((force_eq rfl).trans (by unfold Hd.v; rw [hdl]; rfl)) (by omega) rfl (fun _ => rfl) ?_
   rintro _ h' T3 u1 u2 uc ⟨b', u3, u5⟩ u4
   have hc3 : Cons S T3 := u4.cons0 hc (fun x hx => hdn x (by simpa using hx))
   rw [show wv l2 ++ [v64 qw] = wv (l2 ++ [qw]) by unfold wv; rw [List.map_append]; rfl] at u1
   have hlen' : (l2 ++ [qw]).length = h'.n := by have := u1.len; rw [wv_len] at this; exact this
   repeat first|apply wg|refine ss rfl ?_|apply nl
   rw [← hlen']
   refine W.ite rfl (fun h => ?_) (fun h => ?_)
   ·have hbig : 256 < ((l2 ++ [qw])).length := by have := of_decide_eq_true h; omega
    clear h
    have hge := hfin.big.1 hbig
    have hge2 := decN_mono s (i + 1) (by omega)
    rw [if_neg (by omega)] at hE
    subst hE
    repeat first|apply wg|refine ss rfl ?_|apply nl
    exact ⟨.inr rfl, _, rfl, none, 0, rfl, hc3, nilP _⟩
   ·have hsm : ((l2 ++ [qw])).length ≤ 256 := by have := of_decide_eq_false h; omega
    clear h
    repeat first|apply wg|refine ss rfl ?_|apply nl
    refine ⟨s.length - (i + 1), by omega, i + 1, h', (l2 ++ [qw]), rfl, by omega, hc3, rfl, rfl, congrArg (Value.int .i64) (wrap64 (by omega) (by omega)), u1, (fun b hb => by rw [u3] at hb; cases hb; have := hc.len; omega), hfin, hsm⟩
  ·have hc0 : cr = 0 := by have := of_decide_eq_false h; omega
   clear h
   replace hfin := hfin.2 hc0
   have hlen' : l2.length = d.n := by rw [hl2, hdl]
   repeat first|apply wg|refine ss rfl ?_|apply nl
   rw [← hl2]
   refine W.ite rfl (fun h => ?_) (fun h => ?_)
   ·have hbig : 256 < (l2).length := by have := of_decide_eq_true h; omega
    clear h
    have hge := hfin.big.1 hbig
    have hge2 := decN_mono s (i + 1) (by omega)
    rw [if_neg (by omega)] at hE
    subst hE
    repeat first|apply wg|refine ss rfl ?_|apply nl
    exact ⟨.inr rfl, _, rfl, none, 0, rfl, hc, nilP _⟩
   ·have hsm : (l2).length ≤ 256 := by have := of_decide_eq_false h; omega
    clear h
    repeat first|apply wg|refine ss rfl ?_|apply nl
    refine ⟨s.length - (i + 1), by omega, i + 1, d, l2, rfl, by omega, hc, rfl, rfl, congrArg (Value.int .i64) (wrap64 (by omega) (by omega)), hdk, hdn, hfin, hsm⟩
 ·have hin : i = s.length := by have := of_decide_eq_false h; omega
  subst hin
  clear h
  rw [List.take_length] at hlV
  have hNlt := half_len256 hlV hl256
  rw [if_pos hNlt] at hE
  subst hE
  rw [if_pos rfl]
  have hw : WIn T d.ad d.c l := (hdk.wown (N := 0) (fun _ _ => Nat.zero_le _) (by omega)).1.1
  repeat first|apply wg|refine ss rfl ?_|apply nl
  refine L.cl (limbsN_C d.ad d.c l T hw hlV.2.1 (by omega)) rfl rfl ?_
  rintro _ T' ⟨k', a9, c9, rfl, w9⟩
  refine ⟨fun _ => k', ?_⟩
  rw [hlV.1] at w9 ⊢
  repeat first|apply wg|refine ss rfl ?_|apply nl
  exact ⟨.inr rfl, _, rfl, a9, c9, rfl, hc.trans k', w9⟩
end Go.Proofs.YtbiigbicgfchiaaGreatDoor

/- The reference's digits. Conditions: none. -/
namespace Go.Proofs.YtbiigbicgfchiaaGreatDoor
open Go Ie
variable {G : Nat} {Ext : FuncId → List Value → Mem → Outc → Mem → Prop}
theorem orHi {r x : Nat} (hr : r < 4294967296) (hx : x < 4294967296) : IntKind.u64.wrap ((BitVec.ofInt IntKind.u64.bits (IntKind.u64.wrap ((r : Int) * 2 ^ min (Int.toNat 32) IntKind.u64.bits)) ||| BitVec.ofInt IntKind.u64.bits (x : Int)).toNat : Int) = ((r * 4294967296 + x : Nat) : Int) := by
 rw [show min (Int.toNat 32) IntKind.u64.bits = 32 from rfl, shl_nat]
 rw [Nat.mod_eq_of_lt (by omega), or_nat (by omega) (by omega)]
 congr 1
 have := Nat.two_pow_add_eq_or_of_lt (i := 32) (b := x) (by omega) r
 rw [Nat.mul_comm r, show (2 : Nat) ^ 32 = 4294967296 from rfl] at *
 exact this.symm
theorem nine_step {h q : WL} {i r : Nat} {x y : BitVec 64} (hx : h[i]? = some x) (hy : y.toNat = (r * 4294967296 + x.toNat) / 1000000000) (e : hnum (h.drop (i + 1)) = 1000000000 * hnum q.reverse + r) :
  hnum (h.drop i) = 1000000000 * hnum (q ++ [y]).reverse + (r * 4294967296 + x.toNat) % 1000000000 := by
 have hlt := (List.getElem?_eq_some_iff.1 hx).1
 have hd : h.drop i = x :: h.drop (i + 1) := by
  rw [List.drop_eq_getElem_cons hlt, (List.getElem?_eq_some_iff.1 hx).2]
 rw [hd, List.reverse_append, List.reverse_singleton, List.singleton_append, hnum, hnum, e, hy]
 have := Nat.div_add_mod (r * 4294967296 + x.toNat) 1000000000
 omega
def DigI (N M : Nat) (d : BL) : Prop := dec N = (if M = 0 then [] else dec M) ++ d
def partD (M : Nat) : BL := if M < 1000000000 then dec M else pad 9 M
theorem DigI.step {N M : Nat} {d : BL} (h : DigI N M d) (hM : 0 < M) : DigI N (M / 1000000000) (partD M ++ d) := by
 unfold DigI at h ⊢
 rw [if_neg (by omega)] at h
 rw [h, ← List.append_assoc]
 congr 1
 unfold partD
 by_cases hl : M < 1000000000
 ·rw [if_pos hl, if_pos (by omega), List.nil_append]
 ·rw [if_neg hl, if_neg (by omega)]
  exact dec_split (k := 9) (n := M) (by omega)
theorem part_end {M i : Nat} (hM : 0 < M) (hi : i ≤ 9) (hp : i = 0 ∨ 0 < M / 1000000000 ∨ 10 ^ (i - 1) ≤ M % 1000000000) (he : i = 9 ∨ (M / 1000000000 = 0 ∧ M % 1000000000 / 10 ^ i = 0)) : pad i (M % 1000000000) = partD M := by
 unfold partD
 by_cases hl : M < 1000000000
 ·rw [if_pos hl]
  have hm : M % 1000000000 = M := Nat.mod_eq_of_lt hl
  have h0 : M / 1000000000 = 0 := Nat.div_eq_of_lt hl
  rw [hm] at hp he ⊢
  have hi0 : i ≠ 0 := by
   intro e
   rcases he with he | ⟨_, he⟩
   ·omega
   ·rw [e, Nat.pow_zero, Nat.div_one] at he; omega
  obtain ⟨k, rfl⟩ : ∃ k, i = k + 1 := ⟨i - 1, by omega⟩
  refine (dec_pad ?_ ?_).symm
  ·rcases he with he | ⟨_, he⟩
   ·rw [he]; exact hl
   ·exact (Nat.div_eq_zero_iff_lt (Nat.pow_pos (by decide))).1 he
  ·rcases hp with hp | hp | hp
   ·omega
   ·omega
   ·exact .inr hp
 ·rw [if_neg hl]
  have h0 : M / 1000000000 ≠ 0 := by omega
  have h9 : i = 9 := by
   rcases he with he | ⟨he, _⟩
   ·exact he
   ·exact absurd he h0
  subst h9
  exact pad_mod 9 M
theorem digW (n : Nat) : IntKind.u8.wrap (IntKind.u64.wrap (48 + ((n % 10 : Nat) : Int))) = ((48 + n % 10 : Nat) : Int) := by
 have h : ∀ n : Fin 10, IntKind.u8.wrap (IntKind.u64.wrap (48 + (n.val : Int))) = ((48 + n.val : Nat) : Int) := by decide +kernel
 exact h ⟨n % 10, Nat.mod_lt _ (by decide)⟩
theorem dec_size {n b : Nat} (h : n < 2 ^ b) : (dec n).length ≤ b + 1 := by
 obtain ⟨k, k1, k2, k3, k4⟩ := dec_of_len (n := n)
 rw [k1]
 rcases k3 with rfl | k3
 ·omega
 ·have h1 : 2 ^ k ≤ 10 ^ k := Nat.pow_le_pow_left (by decide) k
  have h2 : k < b := (Nat.pow_lt_pow_iff_right (by decide)).1 (Nat.lt_of_le_of_lt (Nat.le_trans h1 k3) h)
  omega
theorem refDigits_C (a : Option Addr) (c : Nat) (l : WL) (S : Mem) (hI : WIn S a c l) (hlen : l.length < 400000) :
  C Tryz.prog G Ext 124 [.slice a l.length c] S fun v S' => v = .string (strB (dec (wnum l))) ∧ Cons S S' := by
 refine C.fn Tryz.func124 rfl (by kernel_rfl) rfl ?_
 repeat first|apply wg|refine ss rfl ?_|apply nl
 refine L.cl (halvesN_C a c l S hI (by omega)) rfl rfl ?_
 rintro _ S1 ⟨f, ⟨k1, a1, c1, rfl, i1⟩, o1, e1, q1⟩
 refine ⟨fun _ => k1, ?_⟩
 repeat first|apply wg|refine ss rfl ?_|apply nl
 repeat first|apply wg|refine ss rfl ?_|apply nl
 refine W.ite rfl (fun h => ?_) (fun h => ?_)
 ·have h0 : f = [] := List.length_eq_zero_iff.1 (by have := of_decide_eq_true h; omega)
  subst h0
  clear h
  have hN : wnum l = 0 := e1.symm
  have hz : (⟨#[48]⟩ : ByteArray) = strB (dec 0) := by rw [dec_small (by decide)]; rfl
  rw [hN, ← hz]
  repeat first|apply wg|refine ss rfl ?_|apply nl
  exact ⟨.inr rfl, _, rfl, rfl, k1⟩
 have hf0 : f ≠ [] := by
  rintro rfl
  cases h
 clear h
 have hfp : 0 < hnum f := half_pos o1 (List.length_pos_iff.2 hf0)
 have hI0 : DigI (wnum l) (hnum f) [] := by
  unfold DigI
  rw [if_neg (by omega), e1, List.append_nil]
 repeat first|apply wg|refine ss rfl ?_|apply nl
 refine W.loop (fun j e T => ∃ (g : WL) (ag : Option Addr) (cg : Nat) (d : BL), j = hnum g ∧ g.length < 1000000 ∧ Cons S T ∧ e 3 = .slice ag g.length cg ∧ e 4 = .string (strB d) ∧ WIn T ag cg g ∧ HalfOk g ∧ DigI (wnum l) (hnum g) d) (hnum f)
  ⟨f, a1, c1, [], rfl, by omega, k1, rfl, rfl, i1, o1, hI0⟩ ?_
 rintro j e T ⟨g, ag, cg, d, rfl, hgl, hc, e3, e4, hg, og, hd⟩
 refine W.env2 e3 e4 ?_
 repeat first|apply wg|refine ss rfl ?_|apply nl
 refine W.ite rfl (fun h => ?_) (fun h => ?_)
 ·have hlp : 0 < g.length := by have := of_decide_eq_true h; omega
  clear h
  have hgp := half_pos og hlp
  repeat first|apply wg|refine ss rfl ?_|apply nl
  refine W.loop (fun i e T' => ∃ (q : WL) (a6 : Option Addr) (c6 r : Nat), i ≤ g.length ∧ Cons T T' ∧ e 3 = .slice ag g.length cg ∧ e 4 = .string (strB d) ∧ e 5 = .int .u64 (r : Int) ∧ e 6 = .slice a6 q.length c6 ∧ e 7 = .int .i64 ((i : Int) - 1) ∧ Grow T.length T' 57 1 (.slice a6 q.length c6) q.length (wv q) ∧ q.length = g.length - i ∧ Small32 q ∧ r < 1000000000 ∧ hnum (g.drop i) = 1000000000 * hnum q.reverse + r) g.length
   ⟨[], none, 0, 0, Nat.le_refl _, Cons.refl _, rfl, rfl, rfl, rfl, congrArg (Value.int .i64) (wrap64 (by omega) (by omega)), Grow.nil _ _ _ _, by simp, (fun x hx => by simp at hx), by decide, by rw [List.drop_length]; rfl⟩ ?_
  rintro i e T' ⟨q, a6, c6, r, hi, hk, e3, e4, e5, e6, e7, hq, hql, hqs, hr, hv⟩
  refine W.env5 e3 e4 e5 e6 e7 ?_
  repeat first|apply wg|refine ss rfl ?_|apply nl
  refine W.ite rfl (fun h => ?_) (fun h => ?_)
  ·have hi1 : 1 ≤ i := by have := of_decide_eq_true h; omega
   clear h
   obtain ⟨j, rfl⟩ : ∃ j, i = j + 1 := ⟨i - 1, by omega⟩
   have hm : (((j + 1 : Nat) : Int) - 1) = (j : Int) := by omega
   rw [hm]
   obtain ⟨x, hx⟩ : ∃ x, g[j]? = some x := ⟨_, List.getElem?_eq_getElem (by omega)⟩
   have hxl := small32_get og.1 hx
   obtain ⟨y, hy⟩ := word_of (n := (r * 4294967296 + x.toNat) / 1000000000) (by omega)
   have hst := nine_step hx hy hv
   repeat first|apply wg|refine ss rfl ?_|apply nl
   refine L.el (hg.cons hk).1 (k := j) rfl (wv_get hx) rfl rfl rfl rfl (fun _ => rfl) rfl (fun p => ?_)
   repeat first|apply wg|refine ss rfl ?_|apply nl
   rw [orHi (by omega) hxl]
   repeat first|apply wg|refine ss rfl ?_|apply nl
   have hwq : IntKind.u64.wrap (Int.tdiv ((r * 4294967296 + x.toNat : Nat) : Int) 1000000000) = ((y.toNat : Nat) : Int) := by
    rw [show Int.tdiv ((r * 4294967296 + x.toNat : Nat) : Int) 1000000000 = (((r * 4294967296 + x.toNat) / 1000000000 : Nat) : Int) from (Int.ofNat_tdiv _ 1000000000).symm, ← hy, wrapU64 (by omega) (by have := y.isLt; omega)]
   have hyl : y.toNat < 4294967296 := by rw [hy]; omega
   rw [hwq]
   refine L.push1 (w := v64 y) rfl hk.len (.inl hq) rfl rfl rfl rfl rfl (by omega) rfl (fun _ => rfl) (fun p a7 c7 T2 h2 h3 h4 => ?_)
   repeat first|apply wg|refine ss rfl ?_|apply nl
   refine ⟨j, by omega, q ++ [y], a7, c7, (r * 4294967296 + x.toNat) % 1000000000, by omega, hk.trans' h4, rfl, rfl, ?_, by rw [List.length_append]; rfl, congrArg (Value.int .i64) (wrap64 (by omega) (by omega)), by rw [List.length_append, wv, List.map_append]; exact h2, by rw [List.length_append, hql]; show _ + 1 = _; omega, small32_snoc hqs hyl, Nat.mod_lt _ (by decide), hst⟩
   refine (force_eq rfl).trans (congrArg (Value.int .u64) ?_)
   exact (Int.ofNat_tmod _ 1000000000).symm
  ·have hi0 : i = 0 := by have := of_decide_eq_false h; omega
   subst hi0
   clear h
   rw [List.drop_zero] at hv
   have hwq : WIn T' a6 c6 q := grow_win hq (by omega)
   have hM1 : hnum g / 1000000000 = hnum q.reverse := by omega
   have hM2 : hnum g % 1000000000 = r := by omega
   repeat first|apply wg|refine ss rfl ?_|apply nl
   refine W.loop (fun i e T2 => ∃ (a9 : Option Addr) (c9 : Nat), i ≤ q.length ∧ Cons T' T2 ∧ e 4 = .string (strB d) ∧ e 5 = .int .u64 (r : Int) ∧ e 6 = .slice a6 q.length c6 ∧ e 9 = .slice a9 (q.length - i) c9 ∧ e 10 = .int .i64 ((i : Int) - 1) ∧ Grow T'.length T2 57 1 (.slice a9 (q.length - i) c9) (q.length - i) (wv (q.reverse.take (q.length - i)))) q.length
    ⟨none, 0, Nat.le_refl _, Cons.refl _, rfl, rfl, rfl, by rw [Nat.sub_self]; rfl, congrArg (Value.int .i64) (wrap64 (by omega) (by omega)), by rw [Nat.sub_self]; exact Grow.nil _ _ _ _⟩ ?_
   rintro i e T2 ⟨a9, c9, hi, hk2, e4, e5, e6, e9, e10, hg9⟩
   refine W.env5 e4 e5 e6 e9 e10 ?_
   repeat first|apply wg|refine ss rfl ?_|apply nl
   refine W.ite rfl (fun h => ?_) (fun h => ?_)
   ·have hi1 : 1 ≤ i := by have := of_decide_eq_true h; omega
    clear h
    obtain ⟨j, rfl⟩ : ∃ j, i = j + 1 := ⟨i - 1, by omega⟩
    have hm : (((j + 1 : Nat) : Int) - 1) = (j : Int) := by omega
    rw [hm]
    obtain ⟨x, hx⟩ : ∃ x, q[j]? = some x := ⟨_, List.getElem?_eq_getElem (by omega)⟩
    have hxr : q.reverse[q.length - (j + 1)]? = some x := by
     rw [List.getElem?_reverse (by omega), ← hx]
     congr 1
     omega
    repeat first|apply wg|refine ss rfl ?_|apply nl
    refine L.el (hwq.cons hk2).1 (k := j) rfl (wv_get hx) rfl rfl rfl rfl (fun _ => rfl) rfl (fun p => ?_)
    repeat first|apply wg|refine ss rfl ?_|apply nl
    refine L.push1 (w := v64 x) rfl hk2.len (.inl hg9) rfl rfl rfl rfl rfl (by omega) rfl (fun _ => rfl) (fun p a7 c7 T3 h2 h3 h4 => ?_)
    repeat first|apply wg|refine ss rfl ?_|apply nl
    have hs : q.length - j = q.length - (j + 1) + 1 := by omega
    refine ⟨j, by omega, a7, c7, by omega, hk2.trans' h4, rfl, rfl, rfl, by rw [hs]; rfl, congrArg (Value.int .i64) (wrap64 (by omega) (by omega)), ?_⟩
    rw [hs, List.take_add_one, hxr, wv, List.map_append]
    exact h2
   ·have hi0 : i = 0 := by have := of_decide_eq_false h; omega
    subst hi0
    clear h
    rw [Nat.sub_zero, List.take_of_length_le (by rw [List.length_reverse]; exact Nat.le_refl _)] at hg9
    rw [Nat.sub_zero]
    have hW : WIn T2 a9 c9 q.reverse := grow_win (by rw [List.length_reverse]; exact hg9) (by rw [List.length_reverse]; omega)
    repeat first|apply wg|refine ss rfl ?_|apply nl
    refine L.cl (strip_C a9 c9 q.reverse T2 hW) rfl (by rw [List.length_reverse]; rfl) ?_
    rintro _ _ ⟨rfl, rfl⟩
    refine ⟨nofun, ?_⟩
    repeat first|apply wg|refine ss rfl ?_|apply nl
    rename Mem => T2
    have hF : WIn T2 a9 c9 (fm q.reverse) := hW.form
    have hFok : HalfOk (fm q.reverse) := HalfOk.form (fun x hx => hqs x (List.mem_reverse.1 hx))
    have hFn : hnum (fm q.reverse) = hnum g / 1000000000 := by rw [hnum_form]; exact hM1.symm
    have hFl : (fm q.reverse).length ≤ g.length := by
     have := toW_len_le q.reverse
     rw [List.length_reverse] at this
     exact Nat.le_trans this (by omega)
    have hF0 : (fm q.reverse).length = 0 ↔ hnum g / 1000000000 = 0 := by
     rw [← hFn]
     constructor
     ·intro e; rw [List.length_eq_zero_iff.1 e]; rfl
     ·intro e; rw [half_zero hFok e]; rfl
    generalize fm q.reverse = F at *
    clear hW hg9 hv hq hwq hqs hql e9 e10 hi e6
    refine W.loop (fun j e T3 => ∃ i : Nat, j = 9 - i ∧ i ≤ 9 ∧ Cons T2 T3 ∧ e 3 = .slice a9 F.length c9 ∧ e 4 = .string (strB d) ∧ e 5 = .int .u64 ((r / 10 ^ i : Nat) : Int) ∧ e 11 = .string (strB (pad i r)) ∧ e 12 = vi i ∧ (i = 0 ∨ 0 < hnum g / 1000000000 ∨ 10 ^ (i - 1) ≤ r)) 9
     ⟨0, rfl, by decide, Cons.refl _, rfl, rfl, by rw [Nat.pow_zero, Nat.div_one]; rfl, rfl, rfl, .inl rfl⟩ ?_
    rintro j e T3 ⟨i, rfl, hi, hk3, e3, e4, e5, e11, e12, hp⟩
    refine W.env5 e3 e4 e5 e11 e12 ?_
    refine W.seq ?_
    refine W.seq ?_
    refine W.mono (R := fun x' e' T' => x' = .nrm ∧ T' = T3 ∧ e' 3 = .slice a9 F.length c9 ∧ e' 4 = .string (strB d) ∧ e' 5 = .int .u64 ((r / 10 ^ i : Nat) : Int) ∧ e' 11 = .string (strB (pad i r)) ∧ e' 12 = vi i ∧ e' 68 = .bool (decide (i < 9 ∧ (0 < F.length ∨ 0 < r / 10 ^ i)))) ?_ ?_
    ·have hc9 : decide ((i : Int) < 9) = decide (i < 9) := decide_eq_decide.2 (by omega)
     have hcF : decide ((F.length : Int) > 0) = decide (0 < F.length) := decide_eq_decide.2 (by omega)
     have hcr : decide (((r / 10 ^ i : Nat) : Int) > 0) = decide (0 < r / 10 ^ i) := decide_eq_decide.2 (by omega)
     repeat first|apply wg|refine ss rfl ?_|apply nl
     rw [hc9]
     by_cases q1 : i < 9
     ·rw [decide_eq_true q1]
      repeat first|apply wg|refine ss rfl ?_|apply nl
      rw [hcF]
      by_cases q2 : 0 < F.length
      ·rw [decide_eq_true q2]
       repeat first|apply wg|refine ss rfl ?_|apply nl
       exact ⟨rfl, rfl, rfl, rfl, rfl, rfl, rfl, congrArg Value.bool (decide_eq_true ⟨q1, .inl q2⟩).symm⟩
      ·rw [decide_eq_false q2]
       repeat first|apply wg|refine ss rfl ?_|apply nl
       rw [hcr]
       by_cases q3 : 0 < r / 10 ^ i
       ·rw [decide_eq_true q3]
        repeat first|apply wg|refine ss rfl ?_|apply nl
        exact ⟨rfl, rfl, rfl, rfl, rfl, rfl, rfl, congrArg Value.bool (decide_eq_true ⟨q1, .inr q3⟩).symm⟩
       ·rw [decide_eq_false q3]
        repeat first|apply wg|refine ss rfl ?_|apply nl
        exact ⟨rfl, rfl, rfl, rfl, rfl, rfl, rfl, congrArg Value.bool (decide_eq_false (fun h => h.2.elim q2 q3)).symm⟩
     ·rw [decide_eq_false q1]
      repeat first|apply wg|refine ss rfl ?_|apply nl
      exact ⟨rfl, rfl, rfl, rfl, rfl, rfl, rfl, congrArg Value.bool (decide_eq_false (fun h => q1 h.1)).symm⟩
    ·rintro _ e' T' ⟨rfl, rfl, e3, e4, e5, e11, e12, e68⟩
     refine W.env6 e3 e4 e5 e11 e12 e68 ?_
     repeat first|apply wg|refine ss rfl ?_|apply nl
     refine W.ite rfl (fun h => ?_) (fun h => ?_)
     ·have hc1 := of_decide_eq_true h
      clear h
      repeat first|apply wg|refine ss rfl ?_|apply nl
      have hdg : Value.int IntKind.u8 (IntKind.u8.wrap (IntKind.u64.wrap (48 + Int.tmod ((r / 10 ^ i : Nat) : Int) 10))) = v8 (digB (r / 10 ^ i)) := by
       rw [show Int.tmod ((r / 10 ^ i : Nat) : Int) 10 = ((r / 10 ^ i % 10 : Nat) : Int) from (Int.ofNat_tmod _ 10).symm]
       unfold v8
       rw [digB_val, digW]
      rw [hdg]
      refine L.bs [v8 (digB (r / 10 ^ i))] rfl rfl rfl rfl rfl rfl ?_
      have hkp : Cons T' (T' ++ [newR [v8 (digB (r / 10 ^ i))] 5]) := Cons.push _ _
      have hrp : Mem.row? (T' ++ [newR [v8 (digB (r / 10 ^ i))] 5]) T'.length = some (newR [v8 (digB (r / 10 ^ i))] 5) := row_push_new rfl
      generalize T' ++ [newR [v8 (digB (r / 10 ^ i))] 5] = T5 at *
      repeat first|apply wg|refine ss rfl ?_|apply nl
      refine L.text (h := ⟨some T'.length, 1, 1⟩) (l := [digB (r / 10 ^ i)]) (el2 := 5) rfl (HdOk.full hrp rfl rfl rfl (by decide)) rfl rfl rfl rfl ?_
      repeat first|apply wg|refine ss rfl ?_|apply nl
      refine L.tadd rfl rfl (by rw [pad_len]; simp; omega) rfl ?_
      repeat first|apply wg|refine ss rfl ?_|apply nl
      refine ⟨9 - (i + 1), by omega, i + 1, rfl, by omega, hk3.trans hkp, rfl, rfl, ?_, ?_, congrArg (Value.int .i64) (wrap64 (by omega) (by omega)), ?_⟩
      ·refine (force_eq rfl).trans (congrArg (Value.int .u64) ?_)
       rw [Nat.pow_succ, ← Nat.div_div_eq_div_mul]
       have hle : r / 10 ^ i / 10 ≤ r := Nat.le_trans (Nat.div_le_self _ _) (Nat.div_le_self _ _)
       show IntKind.u64.wrap (Int.tdiv ((r / 10 ^ i : Nat) : Int) 10) = _
       rw [show Int.tdiv ((r / 10 ^ i : Nat) : Int) 10 = ((r / 10 ^ i / 10 : Nat) : Int) from (Int.ofNat_tdiv (r / 10 ^ i) 10).symm]
       generalize r / 10 ^ i / 10 = z at *
       rw [wrapU64 (by omega) (by omega)]
      ·rw [Nat.add_comm i 1, pad_add 1 i r]; rfl
      ·refine .inr ?_
       rcases hc1.2 with h1 | h1
       ·exact .inl (Nat.pos_of_ne_zero fun e => by have := hF0.2 e; omega)
       ·refine .inr ?_
        rw [Nat.add_sub_cancel]
        exact (Nat.div_pos_iff.1 h1).2
     ·have hc1 := of_decide_eq_false h
      clear h
      have hfin : pad i r = partD (hnum g) := by
       have := part_end (M := hnum g) (i := i) hgp hi (by rw [hM2]; exact hp) (by
        rw [hM2]
        rcases Nat.lt_or_ge i 9 with h1 | h1
        ·refine .inr ⟨hF0.1 (Nat.eq_zero_of_not_pos fun h2 => hc1 ⟨h1, .inl h2⟩), Nat.eq_zero_of_not_pos fun h2 => hc1 ⟨h1, .inr h2⟩⟩
        ·exact .inl (by omega))
       rwa [hM2] at this
      have hlen2 : (pad i r).length + d.length < 1000000000 := by
       have h1 := dec_size (wnum_lt l)
       have h2 := congrArg List.length hd
       rw [List.length_append] at h2
       rw [pad_len]
       omega
      repeat first|apply wg|refine ss rfl ?_|apply nl
      refine L.tadd rfl rfl hlen2 rfl ?_
      repeat first|apply wg|refine ss rfl ?_|apply nl
      have hMlt : hnum g / 1000000000 < hnum g := Nat.div_lt_self hgp (by decide)
      refine ⟨hnum F, by rw [hFn]; exact hMlt, F, a9, c9, pad i r ++ d, rfl, by omega, ?_, rfl, rfl, hF.cons hk3, hFok, ?_⟩
      ·exact ((hc.trans hk).trans hk2).trans hk3
      ·rw [hFn, hfin]
       exact hd.step hgp
 ·have hl0 : g = [] := List.length_eq_zero_iff.1 (by have := of_decide_eq_false h; omega)
  subst hl0
  clear h
  have hdd : dec (wnum l) = d := by
   unfold DigI at hd
   rw [if_pos (show hnum [] = 0 from rfl), List.nil_append] at hd
   exact hd
  rw [hdd]
  repeat first|apply wg|refine ss rfl ?_|apply nl
  exact ⟨.inr rfl, _, rfl, rfl, hc⟩
end Go.Proofs.YtbiigbicgfchiaaGreatDoor

/- Layer 2: numbers as texts, told and read, by the program and by the document. Conditions: the tables lie in memory. -/
namespace Go.Proofs.YtbiigbicgfchiaaGreatDoor
open Go Ie
variable {Ext : FuncId → List Value → Mem → Outc → Mem → Prop} {S : Mem} {u v : Value} {x y : Int} {i j : Nat}
def txtL (x : Int) : BL := if zfz x then zText x else []
def txtE (x : Int) : Int := if zfz x then 0 else 3
theorem iText_C (hx : ZIn S u x i) (hP : PowOk S) : C Tryz.prog gN Ext 45 [u] S fun w S' => w = .tuple #[.string (strB (txtL x)), .int .i64 (txtE x)] ∧ Cons S S' := by
 obtain ⟨n, a1, c1, l, rfl, h1, hl, hX⟩ := hx
 refine C.fn Tryz.func45 rfl (by kernel_rfl) rfl ?_
 repeat first|apply wg|refine ss rfl ?_|apply nl
 refine L.nr [.bool n, .slice a1 l.length c1] wT rfl rfl (fun b2 Tb2 gb2 kb2 rb2 => ?_)
 have hc := Cons.refl Tb2
 repeat first|apply wg|refine ss rfl ?_|apply nl
 refine L.z2 (Cons.row (h := hc) rb2) rfl rfl rfl ?_
 repeat first|apply wg|refine ss rfl ?_|apply nl
 refine L.bz [(n, ⟨a1, c1, l⟩)] rfl rfl rfl rfl rfl (fun bs Ts gs ks rs => ?_)
 replace hc := hc.trans ks
 repeat first|apply wg|refine ss rfl ?_|apply nl
 refine L.cl (zFit_C bs [(n, ⟨a1, c1, l⟩)] Ts rs (fun z hz => by
  simp only [List.mem_cons, List.not_mem_nil, or_false] at hz
  rcases hz with rfl
  exact h1.cons (kb2.trans hc)) (by simp)) rfl rfl ?_
 rintro _ Tf ⟨rfl, kf⟩
 refine ⟨fun _ => kf, ?_⟩
 replace hc := hc.trans kf
 rw [show (([(n, WS.mk a1 c1 l)] : List ZW).all fun z => zfit z.2.l) = zfit l by simp, zfit_zv n l, hX]
 unfold txtL txtE
 cases hz : zfz x
 ·repeat first|apply wg|refine ss rfl ?_|apply nl
  refine W.condT rfl ?_
  repeat first|apply wg|refine ss rfl ?_|apply nl
  exact ⟨.inr rfl, _, rfl, rfl, kb2.trans hc⟩
 repeat first|apply wg|refine ss rfl ?_|apply nl
 refine W.condF rfl ?_
 repeat first|apply wg|refine ss rfl ?_|apply nl
 refine L.zf (Cons.row (h := hc) rb2) rfl rfl rfl rfl rfl ?_
 repeat first|apply wg|refine ss rfl ?_|apply nl
 have hab : x.natAbs = wnum l := by rw [← hX, zv_abs]
 have fx : zok x := of_decide_eq_true (p := x.natAbs < 2 ^ 4096) hz
 have hsm : small l = true := small_of (by rw [← hab]; exact up4 fx)
 refine L.cv (natText_C a1 c1 l _ (h1.cons (kb2.trans hc)) (hP.cons (kb2.trans hc))) rfl rfl fun Tt kt => ?_
 replace hc := hc.trans kt
 rw [show textL l = dec x.natAbs by unfold textL; rw [hsm, if_pos rfl, hab], show textE l = 0 by unfold textE; rw [hsm]; rfl]
 repeat first|apply wg|refine ss rfl ?_|apply nl
 refine L.z2 (Cons.row (h := hc) rb2) rfl rfl rfl ?_
 repeat first|apply wg|refine ss rfl ?_|apply nl
 refine L.cv (zSign_C n a1 c1 l _ (h1.cons (kb2.trans hc))) rfl rfl fun Tg kg => ?_
 replace hc := hc.trans kg
 rw [hX]
 have hd := dec_short fx
 rw [if_pos rfl, if_pos rfl]
 unfold zText
 by_cases hneg : x < 0
 ·rw [if_pos hneg, cmp_neg hneg]
  repeat first|apply wg|refine ss rfl ?_|apply nl
  refine W.condT rfl ?_
  repeat first|apply wg|refine ss rfl ?_|apply nl
  refine L.tadd (a := [45#8]) (b := dec x.natAbs) rfl rfl (by simp; omega) rfl ?_
  repeat first|apply wg|refine ss rfl ?_|apply nl
  exact ⟨.inr rfl, _, rfl, rfl, kb2.trans hc⟩
 ·rw [if_neg hneg]
  repeat first|apply wg|refine ss rfl ?_|apply nl
  rw [show decide (cmpI x 0 < 0) = false from decide_eq_false (by rcases cmpI_vals x 0 with h | h | h <;> first | omega | (exact absurd (cz1 h) hneg))]
  repeat first|apply wg|refine ss rfl ?_|apply nl
  refine W.condF rfl ?_
  repeat first|apply wg|refine ss rfl ?_|apply nl
  exact ⟨.inr rfl, _, rfl, rfl, kb2.trans hc⟩
theorem rzDigits_C (hx : ZIn S u x i) (hi : i < 1000) : C Tryz.prog gN Ext 81 [u] S fun w S' => w = .string (strB (zText x)) ∧ Cons S S' := by
 have hlt := hx.lt
 obtain ⟨n, a, c, l, rfl, h1, hl, rfl⟩ := hx
 refine C.fn Tryz.func81 rfl (by kernel_rfl) rfl ?_
 repeat first|apply wg|refine ss rfl ?_|apply nl
 refine L.nr [.bool n, .slice a l.length c] wT rfl rfl (fun b2 Tb2 gb2 kb2 rb2 => ?_)
 have hc := Cons.refl Tb2
 repeat first|apply wg|refine ss rfl ?_|apply nl
 refine L.z2 (Cons.row (h := hc) rb2) rfl rfl rfl ?_
 repeat first|apply wg|refine ss rfl ?_|apply nl
 refine L.cl (rzForm_C ⟨n, a, c, l, rfl, h1.cons (kb2.trans hc), hl, rfl⟩ (by omega)) rfl rfl ?_
 rintro _ T' ⟨⟨a9, c9, rfl, w9⟩, k'⟩
 refine ⟨fun _ => k', ?_⟩
 replace hc := hc.trans k'
 repeat first|apply wg|refine ss rfl ?_|apply nl
 generalize zv n l = z at *
 refine L.nr [.bool false, .slice none 0 0] wT rfl rfl (fun b6 T5 g5 k5 r5 => ?_)
 refine L.st2 r5 rfl rfl rfl rfl rfl rfl (fun T8 kk6 r8 => ?_)
 have k9 := kk6.mono k5 g5
 have hcS := (kb2.trans hc).trans k9
 have w8 := w9.cons k9
 clear hc
 have hc := Cons.refl T8
 have hl8 : (toW z.natAbs).length < 400000 := Nat.lt_of_le_of_lt ((toW_len _ i).2 hlt) (by omega)
 have hdl : (dec z.natAbs).length ≤ 64 * i + 1 := dec_size hlt
 repeat first|apply wg|refine ss rfl ?_|apply nl
 refine L.zf (Cons.row (h := hc) r8) rfl rfl rfl rfl rfl ?_
 repeat first|apply wg|refine ss rfl ?_|apply nl
 unfold zText
 by_cases hneg : z < 0
 ·rw [if_pos hneg, show decide (z < 0) = true from decide_eq_true hneg]
  repeat first|apply wg|refine ss rfl ?_|apply nl
  refine W.condT rfl ?_
  repeat first|apply wg|refine ss rfl ?_|apply nl
  refine L.zf (Cons.row (h := hc) r8) rfl rfl rfl rfl rfl ?_
  repeat first|apply wg|refine ss rfl ?_|apply nl
  refine L.cv (refDigits_C a9 c9 (toW z.natAbs) _ w8 hl8) rfl rfl fun T' k' => ?_
  rw [wnum_toW]
  repeat first|apply wg|refine ss rfl ?_|apply nl
  refine L.tadd (a := [45#8]) (b := dec z.natAbs) rfl rfl (by simp; omega) rfl ?_
  repeat first|apply wg|refine ss rfl ?_|apply nl
  exact ⟨.inr rfl, _, rfl, rfl, hcS.trans k'⟩
 ·rw [if_neg hneg, show decide (z < 0) = false from decide_eq_false hneg]
  repeat first|apply wg|refine ss rfl ?_|apply nl
  refine W.condF rfl ?_
  repeat first|apply wg|refine ss rfl ?_|apply nl
  refine L.zf (Cons.row (h := hc) r8) rfl rfl rfl rfl rfl ?_
  repeat first|apply wg|refine ss rfl ?_|apply nl
  refine L.cv (refDigits_C a9 c9 (toW z.natAbs) _ w8 hl8) rfl rfl fun T' k' => ?_
  rw [wnum_toW]
  repeat first|apply wg|refine ss rfl ?_|apply nl
  exact ⟨.inr rfl, _, rfl, rfl, hcS.trans k'⟩
theorem rzText_C (hx : ZIn S u x i) (hi : i < 1000) : C Tryz.prog gN Ext 47 [u] S fun w S' => w = .tuple #[.string (strB (txtL x)), .int .i64 (txtE x)] ∧ Cons S S' := by
 obtain ⟨n, a, c, l, rfl, h1, hl, rfl⟩ := hx
 refine C.fn Tryz.func47 rfl (by kernel_rfl) rfl ?_
 repeat first|apply wg|refine ss rfl ?_|apply nl
 refine L.nr [.bool n, .slice a l.length c] wT rfl rfl (fun b2 Tb2 gb2 kb2 rb2 => ?_)
 have hc := Cons.refl Tb2
 repeat first|apply wg|refine ss rfl ?_|apply nl
 refine L.z2 (Cons.row (h := hc) rb2) rfl rfl rfl ?_
 repeat first|apply wg|refine ss rfl ?_|apply nl
 refine L.cv (rzFits_C ⟨n, a, c, l, rfl, h1.cons (kb2.trans hc), hl, rfl⟩ (by omega)) rfl rfl fun T' k' => ?_
 replace hc := hc.trans k'
 repeat first|apply wg|refine ss rfl ?_|apply nl
 unfold txtL txtE
 cases hz : zfz (zv n l)
 ·repeat first|apply wg|refine ss rfl ?_|apply nl
  refine W.condT rfl ?_
  repeat first|apply wg|refine ss rfl ?_|apply nl
  exact ⟨.inr rfl, _, rfl, rfl, kb2.trans hc⟩
 ·rw [if_pos rfl, if_pos rfl]
  repeat first|apply wg|refine ss rfl ?_|apply nl
  refine W.condF rfl ?_
  repeat first|apply wg|refine ss rfl ?_|apply nl
  refine L.z2 (Cons.row (h := hc) rb2) rfl rfl rfl ?_
  repeat first|apply wg|refine ss rfl ?_|apply nl
  refine L.cv (rzDigits_C ⟨n, a, c, l, rfl, h1.cons (kb2.trans hc), hl, rfl⟩ hi) rfl rfl fun T' k' => ?_
  replace hc := hc.trans k'
  repeat first|apply wg|refine ss rfl ?_|apply nl
  exact ⟨.inr rfl, _, rfl, rfl, kb2.trans hc⟩
def zNeg (s : BL) : Bool := s.head? == some 45#8
def zRest (s : BL) : BL := if zNeg s then s.drop 1 else s
def zprsZ (s : BL) : Int := zv (zNeg s) (prsL (zRest s))
def zprsE (s : BL) : Int := if 65536 < s.length then 3 else if prsE (zRest s) = 0 then zE (zprsZ s) else prsE (zRest s)
theorem neg_pre (s : BL) : preB s [45#8] = zNeg s := by
 unfold preB zNeg
 cases s with
 | nil => rfl
 | cons x s =>
  show (decide (1 ≤ s.length + 1) && decide ([x] = [45#8])) = (some x == some 45#8)
  rw [decide_eq_true (by omega), Bool.true_and, Bool.eq_iff_iff]
  simp
theorem cutPre_C (s : BL) (S : Mem) : C Tryz.prog gN Ext 79 [.string (strB s), .string (strB [45#8])] S fun v S' => v = .tuple #[.string (strB (zRest s)), .bool (zNeg s)] ∧ S' = S := by
 refine C.fn Tryz.func79 rfl (by kernel_rfl) rfl ?_
 repeat first|apply wg|refine ss rfl ?_|apply nl
 have h0 : C Tryz.prog gN Ext 119 [.string (strB s), .string (strB [45#8])] S fun v S' => v = .tuple #[.string (strB (zRest s)), .bool (zNeg s)] ∧ S' = S := by
  refine C.fn Tryz.func119 rfl (by kernel_rfl) rfl ?_
  repeat first|apply wg|refine ss rfl ?_|apply nl
  refine L.cl (hasPrefix0_C s [45#8] S) rfl rfl ?_
  rintro _ _ ⟨rfl, rfl⟩
  refine ⟨nofun, ?_⟩
  rw [neg_pre]
  unfold zRest
  cases hn : zNeg s
  ·repeat first|apply wg|refine ss rfl ?_|apply nl
   refine W.condT rfl ?_
   repeat first|apply wg|refine ss rfl ?_|apply nl
   exact ⟨.inr rfl, _, rfl, rfl, rfl⟩
  ·repeat first|apply wg|refine ss rfl ?_|apply nl
   refine W.condF rfl ?_
   repeat first|apply wg|refine ss rfl ?_|apply nl
   refine L.tlen (a := [45#8]) rfl rfl rfl rfl ?_
   repeat first|apply wg|refine ss rfl ?_|apply nl
   have hl1 : 1 ≤ s.length := by
    cases s with
    | nil => cases hn
    | cons x s => simp
   refine L.from (l := s) (i := 1) rfl rfl hl1 rfl rfl ?_
   repeat first|apply wg|refine ss rfl ?_|apply nl
   exact ⟨.inr rfl, _, rfl, rfl, rfl⟩
 refine L.cl h0 rfl rfl ?_
 rintro _ _ ⟨rfl, rfl⟩
 refine ⟨nofun, ?_⟩
 repeat first|apply wg|refine ss rfl ?_|apply nl
 exact ⟨.inr rfl, _, rfl, rfl, rfl⟩
theorem zMade2_C (z : Int) (d : Value) (E : Int) (hE : E ≠ 0) (bx : Nat) (S : Mem) : C Tryz.prog gN Ext 92 [d, .int .i64 E, .pointer (some ⟨bx, 0, none⟩)] S fun v S' => ZAns S S' v E z := by
 refine C.fn Tryz.func92 rfl (by kernel_rfl) rfl ?_
 repeat first|apply wg|refine ss rfl ?_|apply nl
 refine L.nr [.bool false, .slice none 0 0] wT rfl rfl (fun b1 Tb1 gb1 kb1 rb1 => ?_)
 repeat first|apply wg|refine ss rfl ?_|apply nl
 rw [show (E != (0 : Int)) = true from bne_iff_ne.2 hE]
 refine W.condT rfl ?_
 repeat first|apply wg|refine ss rfl ?_|apply nl
 refine L.b0 rfl ?_
 repeat first|apply wg|refine ss rfl ?_|apply nl
 refine L.st2 rb1 rfl rfl rfl rfl rfl rfl (fun T2 kk r2 => ?_)
 repeat first|apply wg|refine ss rfl ?_|apply nl
 exact ⟨.inr rfl, _, res2 rfl (load2 r2 rfl), .no (kk.mono kb1 gb1) hE⟩
theorem zParse_C (s : BL) (S : Mem) (hl : s.length < 1000000000) : C Tryz.prog gN Ext 46 [.string (strB s)] S fun v S' => ZAns S S' v (zprsE s) (zprsZ s) := by
 refine C.fn Tryz.func46 rfl (by kernel_rfl) rfl ?_
 repeat first|apply wg|refine ss rfl ?_|apply nl
 refine L.nr [.bool false, .slice none 0 0] wT rfl rfl (fun b4 Tb4 gb4 kb4 rb4 => ?_)
 have hc := Cons.refl Tb4
 repeat first|apply wg|refine ss rfl ?_|apply nl
 refine L.tlen rfl rfl rfl rfl ?_
 repeat first|apply wg|refine ss rfl ?_|apply nl
 unfold zprsE
 refine W.ite rfl (fun h => ?_) (fun h => ?_)
 ·have hbig := of_decide_eq_true h
  clear h
  rw [if_pos (by omega)]
  repeat first|apply wg|refine ss rfl ?_|apply nl
  refine L.b0 rfl ?_
  repeat first|apply wg|refine ss rfl ?_|apply nl
  refine L.st2 rb4 rfl rfl rfl rfl rfl rfl (fun T2 kk r2 => ?_)
  repeat first|apply wg|refine ss rfl ?_|apply nl
  exact ⟨.inr rfl, _, res2 rfl (load2 r2 rfl), .no (kk.mono kb4 gb4) (by decide)⟩
 have hsm := of_decide_eq_false h
 clear h
 rw [if_neg (by omega)]
 repeat first|apply wg|refine ss rfl ?_|apply nl
 refine L.cs (cutPre_C s _) rfl rfl ?_
 repeat first|apply wg|refine ss rfl ?_|apply nl
 have hrl : (zRest s).length < 1000000000 := by
  unfold zRest
  split
  ·rw [List.length_drop]; omega
  ·exact hl
 refine L.cl (zMade_C (zNeg s) _) rfl rfl ?_
 rintro _ Tm ⟨bx, rfl, km, rx⟩
 refine ⟨fun _ => km, ?_⟩
 replace hc := hc.trans km
 clear km
 repeat first|apply wg|refine ss rfl ?_|apply nl
 refine L.cl (nParse_C (zRest s) _ hrl) rfl rfl ?_
 rintro _ Tn ⟨d, rfl, r⟩
 refine ⟨fun _ => r.1, ?_⟩
 rw [r.val]
 have hc0 := hc
 replace hc := hc.trans r.1
 repeat first|apply wg|refine ss rfl ?_|apply nl
 have fin : C Tryz.prog gN Ext 92 [.slice d.ad (prsL (zRest s)).length d.c, .int .i64 (prsE (zRest s)), .pointer (some ⟨bx, 0, none⟩)] Tn fun v S' => ZAns Tn S' v (if prsE (zRest s) = 0 then zE (zprsZ s) else prsE (zRest s)) (zprsZ s) := by
  by_cases h0 : prsE (zRest s) = 0
  ·rw [h0, if_pos rfl]
   exact zMade1_C (zNeg s) _ _ bx _ Tn r.win (Cons.row (h := r.1) rx)
  ·rw [if_neg h0]
   exact zMade2_C _ _ _ h0 bx Tn
 refine L.cl fin rfl rfl ?_
 rintro _ T9 ⟨d9, rfl, r9⟩
 refine ⟨fun _ => r9.1, ?_⟩
 repeat first|apply wg|refine ss rfl ?_|apply nl
 refine L.st2 (Cons.row (h := hc.trans r9.1) rb4) rfl rfl rfl rfl rfl rfl (fun T10 kk r10 => ?_)
 repeat first|apply wg|refine ss rfl ?_|apply nl
 exact ⟨.inr rfl, _, res2 rfl (load2 r10 rfl), d9, rfl, zfin kb4 hc r9 kk gb4 rb4⟩
theorem rzParse_C (s : BL) (S : Mem) (hl : s.length < 1000000000) : C Tryz.prog gN Ext 48 [.string (strB s)] S fun v S' => ZT S S' v (zprsE s) (zprsZ s) := by
 refine C.fn Tryz.func48 rfl (by kernel_rfl) rfl ?_
 repeat first|apply wg|refine ss rfl ?_|apply nl
 refine L.nr [.bool false, .slice none 0 0] wT rfl rfl (fun b4 Tb4 gb4 kb4 rb4 => ?_)
 have kM := kb4
 have g4 := gb4
 have hc := Cons.refl Tb4
 clear kb4 gb4
 repeat first|apply wg|refine ss rfl ?_|apply nl
 refine L.tlen rfl rfl rfl rfl ?_
 repeat first|apply wg|refine ss rfl ?_|apply nl
 unfold zprsE
 refine W.ite rfl (fun h => ?_) (fun h => ?_)
 ·have hbig := of_decide_eq_true h
  clear h
  rw [if_pos (by omega)]
  repeat first|apply wg|refine ss rfl ?_|apply nl
  refine L.b0 rfl ?_
  repeat first|apply wg|refine ss rfl ?_|apply nl
  refine L.st2 (Cons.row (h := hc) rb4) rfl rfl rfl rfl rfl rfl (fun T2 kk r2 => ?_)
  repeat first|apply wg|refine ss rfl ?_|apply nl
  exact ⟨.inr rfl, _, res2 rfl (load2 r2 rfl), _, rfl, kk.mono (kM.trans hc) g4, ZIs.z0 (by decide)⟩
 have hsm := of_decide_eq_false h
 clear h
 rw [if_neg (by omega)]
 repeat first|apply wg|refine ss rfl ?_|apply nl
 refine L.tlen rfl rfl rfl rfl ?_
 repeat first|apply wg|refine ss rfl ?_|apply nl
 have hll : prsE (zRest s) = 0 → (prsL (zRest s)).length ≤ 128 := fun h0 => by
  unfold prsL
  rw [if_pos h0]
  refine (toW_len _ 128).2 ?_
  unfold prsE at h0
  split at h0
  ·cases h0
  ·split at h0
   ·cases h0
   ·split at h0
    ·assumption
    ·cases h0
 have rest : ∀ r : BL, zRest s = r → r.length < 1000000000 → C Tryz.prog gN Ext 82 [.string (strB r)] Tb4 fun v S' => ∃ a c, v = .tuple #[.slice a (prsL (zRest s)).length c, .int .i64 (prsE (zRest s))] ∧ Cons Tb4 S' ∧ WIn S' a c (prsL (zRest s)) := fun r hr hr2 => by
  rw [hr]
  exact pParse_C r Tb4 hr2
 have hZ : zprsZ s = zv (zNeg s) (prsL (zRest s)) := rfl
 generalize zprsZ s = Z at *
 generalize prsL (zRest s) = L1 at *
 generalize prsE (zRest s) = E1 at *
 cases s with
 | nil =>
  repeat first|apply wg|refine ss rfl ?_|apply nl
  refine W.condF rfl ?_
  repeat first|apply wg|refine ss rfl ?_|apply nl
  refine L.cl (rest [] rfl (by decide)) rfl rfl ?_
  rintro _ T' ⟨a9, c9, rfl, k', w9⟩
  refine ⟨fun _ => k', ?_⟩
  replace hc := hc.trans k'
  repeat first|apply wg|refine ss rfl ?_|apply nl
  by_cases h0 : E1 = 0
  ·rw [h0, if_pos rfl]
   repeat first|apply wg|refine ss rfl ?_|apply nl
   refine W.condF rfl ?_
   repeat first|apply wg|refine ss rfl ?_|apply nl
   refine L.b2 rfl rfl rfl ?_
   repeat first|apply wg|refine ss rfl ?_|apply nl
   have ht := rzTold_C (Ext := Ext) (i := 128) (S := T') (u := .agg #[.bool false, .slice a9 L1.length c9]) (x := Z) ⟨_, _, _, _, rfl, w9, hll h0, by rw [hZ, show zNeg [] = false from rfl]⟩ (by decide)
   refine L.cl ht rfl rfl ?_
   rintro _ T' ⟨_, rfl, k', a9, c9, rfl, w9⟩
   refine ⟨fun _ => k', ?_⟩
   replace hc := hc.trans k'
   repeat first|apply wg|refine ss rfl ?_|apply nl
   refine L.st2 (Cons.row (h := hc) rb4) rfl rfl rfl rfl rfl rfl (fun T2 kk r2 => ?_)
   repeat first|apply wg|refine ss rfl ?_|apply nl
   exact ⟨.inr rfl, _, res2 rfl (load2 r2 rfl), _, rfl, kk.mono (kM.trans hc) g4, ⟨a9, c9, rfl, w9.kn kk (Cons.row (h := hc) rb4) noW⟩⟩
  ·rw [if_neg h0]
   rw [show (E1 != (0 : Int)) = true from bne_iff_ne.2 h0]
   refine W.condT rfl ?_
   repeat first|apply wg|refine ss rfl ?_|apply nl
   refine L.b0 rfl ?_
   repeat first|apply wg|refine ss rfl ?_|apply nl
   refine L.st2 (Cons.row (h := hc) rb4) rfl rfl rfl rfl rfl rfl (fun T2 kk r2 => ?_)
   repeat first|apply wg|refine ss rfl ?_|apply nl
   exact ⟨.inr rfl, _, res2 rfl (load2 r2 rfl), _, rfl, kk.mono (kM.trans hc) g4, ZIs.z0 h0⟩
 | cons c s =>
  rw [show decide (((c :: s).length : Int) > 0) = true from decide_eq_true (by simp)]
  repeat first|apply wg|refine ss rfl ?_|apply nl
  have hb : (((UInt8.ofNat c.toNat).toNat : Int) == 45) = (c == 45#8) := by rw [byte_back]; exact v8_beq c 45#8
  refine W.env2 (t1 := 4) (v1 := .bool (c == 45#8)) (t2 := 19) (v2 := .bool (c == 45#8)) ((force_eq rfl).trans (congrArg Value.bool hb)) ((force_eq rfl).trans (congrArg Value.bool hb)) ?_
  clear hb
  cases hcc : (c == 45#8)
  ·have hn : zNeg (c :: s) = false := by unfold zNeg; simpa using hcc
   have hr : zRest (c :: s) = c :: s := by unfold zRest; rw [hn]; rfl
   repeat first|apply wg|refine ss rfl ?_|apply nl
   refine W.condF rfl ?_
   repeat first|apply wg|refine ss rfl ?_|apply nl
   refine L.cl (rest (c :: s) hr hl) rfl rfl ?_
   rintro _ T' ⟨a9, c9, rfl, k', w9⟩
   refine ⟨fun _ => k', ?_⟩
   replace hc := hc.trans k'
   repeat first|apply wg|refine ss rfl ?_|apply nl
   by_cases h0 : E1 = 0
   ·rw [h0, if_pos rfl]
    repeat first|apply wg|refine ss rfl ?_|apply nl
    refine W.condF rfl ?_
    repeat first|apply wg|refine ss rfl ?_|apply nl
    refine L.b2 rfl rfl rfl ?_
    repeat first|apply wg|refine ss rfl ?_|apply nl
    have ht := rzTold_C (Ext := Ext) (i := 128) (S := T') (u := .agg #[.bool false, .slice a9 L1.length c9]) (x := Z) ⟨_, _, _, _, rfl, w9, hll h0, by rw [hZ, hn]⟩ (by decide)
    refine L.cl ht rfl rfl ?_
    rintro _ T' ⟨_, rfl, k', a9, c9, rfl, w9⟩
    refine ⟨fun _ => k', ?_⟩
    replace hc := hc.trans k'
    repeat first|apply wg|refine ss rfl ?_|apply nl
    refine L.st2 (Cons.row (h := hc) rb4) rfl rfl rfl rfl rfl rfl (fun T2 kk r2 => ?_)
    repeat first|apply wg|refine ss rfl ?_|apply nl
    exact ⟨.inr rfl, _, res2 rfl (load2 r2 rfl), _, rfl, kk.mono (kM.trans hc) g4, ⟨a9, c9, rfl, w9.kn kk (Cons.row (h := hc) rb4) noW⟩⟩
   ·rw [if_neg h0]
    rw [show (E1 != (0 : Int)) = true from bne_iff_ne.2 h0]
    refine W.condT rfl ?_
    repeat first|apply wg|refine ss rfl ?_|apply nl
    refine L.b0 rfl ?_
    repeat first|apply wg|refine ss rfl ?_|apply nl
    refine L.st2 (Cons.row (h := hc) rb4) rfl rfl rfl rfl rfl rfl (fun T2 kk r2 => ?_)
    repeat first|apply wg|refine ss rfl ?_|apply nl
    exact ⟨.inr rfl, _, res2 rfl (load2 r2 rfl), _, rfl, kk.mono (kM.trans hc) g4, ZIs.z0 h0⟩
  ·have hn : zNeg (c :: s) = true := by unfold zNeg; simpa using hcc
   have hr : zRest (c :: s) = s := by unfold zRest; rw [hn]; rfl
   repeat first|apply wg|refine ss rfl ?_|apply nl
   refine W.condT rfl ?_
   repeat first|apply wg|refine ss rfl ?_|apply nl
   refine L.from (l := c :: s) (i := 1) rfl rfl (by simp) rfl rfl ?_
   repeat first|apply wg|refine ss rfl ?_|apply nl
   refine L.cl (rest s hr (by simp at hl; omega)) rfl rfl ?_
   rintro _ T' ⟨a9, c9, rfl, k', w9⟩
   refine ⟨fun _ => k', ?_⟩
   replace hc := hc.trans k'
   repeat first|apply wg|refine ss rfl ?_|apply nl
   by_cases h0 : E1 = 0
   ·rw [h0, if_pos rfl]
    repeat first|apply wg|refine ss rfl ?_|apply nl
    refine W.condF rfl ?_
    repeat first|apply wg|refine ss rfl ?_|apply nl
    refine L.b2 rfl rfl rfl ?_
    repeat first|apply wg|refine ss rfl ?_|apply nl
    have ht := rzTold_C (Ext := Ext) (i := 128) (S := T') (u := .agg #[.bool true, .slice a9 L1.length c9]) (x := Z) ⟨_, _, _, _, rfl, w9, hll h0, by rw [hZ, hn]⟩ (by decide)
    refine L.cl ht rfl rfl ?_
    rintro _ T' ⟨_, rfl, k', a9, c9, rfl, w9⟩
    refine ⟨fun _ => k', ?_⟩
    replace hc := hc.trans k'
    repeat first|apply wg|refine ss rfl ?_|apply nl
    refine L.st2 (Cons.row (h := hc) rb4) rfl rfl rfl rfl rfl rfl (fun T2 kk r2 => ?_)
    repeat first|apply wg|refine ss rfl ?_|apply nl
    exact ⟨.inr rfl, _, res2 rfl (load2 r2 rfl), _, rfl, kk.mono (kM.trans hc) g4, ⟨a9, c9, rfl, w9.kn kk (Cons.row (h := hc) rb4) noW⟩⟩
   ·rw [if_neg h0]
    rw [show (E1 != (0 : Int)) = true from bne_iff_ne.2 h0]
    refine W.condT rfl ?_
    repeat first|apply wg|refine ss rfl ?_|apply nl
    refine L.b0 rfl ?_
    repeat first|apply wg|refine ss rfl ?_|apply nl
    refine L.st2 (Cons.row (h := hc) rb4) rfl rfl rfl rfl rfl rfl (fun T2 kk r2 => ?_)
    repeat first|apply wg|refine ss rfl ?_|apply nl
    exact ⟨.inr rfl, _, res2 rfl (load2 r2 rfl), _, rfl, kk.mono (kM.trans hc) g4, ZIs.z0 h0⟩
end Go.Proofs.YtbiigbicgfchiaaGreatDoor

/- The law of reading and writing whole numbers, walked. Conditions: the tables lie in memory. -/
namespace Go.Proofs.YtbiigbicgfchiaaGreatDoor
open Go Ie
variable {Ext : FuncId → List Value → Mem → Outc → Mem → Prop}
theorem zprs_zok {s : BL} (h : zprsE s = 0) : zok (zprsZ s) := by
 unfold zprsE at h
 split at h
 ·cases h
 ·split at h
  ·exact zE_zok h
  ·rename_i h1; exact absurd h h1
theorem zprs_ok {s : BL} : zok (zcE (zprsE s) (zprsZ s)) := zcE_ok zprs_zok
theorem int_zok {n : Int} (h : -9223372036854775808 ≤ n ∧ n ≤ 9223372036854775807) : zok n := zok_small (by omega)
theorem wholeReads_C (sb : ByteArray) (b0 : Bool) (a0 : Option Addr) (c0 : Nat) (l0 : WL) (n : Int) (S : Mem) (h0 : WPre S a0 c0 l0) (hn : -9223372036854775808 ≤ n ∧ n ≤ 9223372036854775807) (hS : SinOk S) (hP : PowOk S) (hG : gN ≤ S.length) :
  C Tryz.prog gN Ext 8 [.string sb, wZ b0 (.slice a0 l0.length c0), .int .i64 n] S fun v S' => v = .bool true ∧ Cons S S' := by
 obtain ⟨s, rfl⟩ := strB_of sb
 refine C.fn Tryz.func8 rfl (by kernel_rfl) rfl ?_
 repeat first|apply wg|refine ss rfl ?_|apply nl
 refine L.nr [.bool b0, .slice a0 l0.length c0] wT rfl rfl (fun b2 Tb2 gb2 kb2 rb2 => ?_)
 have kM := kb2
 have hc := Cons.refl Tb2
 clear kb2 gb2
 repeat first|apply wg|refine ss rfl ?_|apply nl
 refine L.tlen rfl rfl rfl rfl ?_
 repeat first|apply wg|refine ss rfl ?_|apply nl
 cases hg0 : decide ((s.length : Int) > 4096)
 case true =>
  repeat first|apply wg|refine ss rfl ?_|apply nl
  refine W.ite rfl (fun h => ?_) (fun h => ?_)
  ·repeat first|apply wg|refine ss rfl ?_|apply nl
   exact ⟨.inr rfl, _, rfl, rfl, kM.trans hc⟩
  ·cases h
 repeat first|apply wg|refine ss rfl ?_|apply nl
 refine L.zf (Cons.row (h := hc) rb2) rfl rfl rfl rfl rfl ?_
 repeat first|apply wg|refine ss rfl ?_|apply nl
 cases hg1 : decide ((l0.length : Int) > 200)
 case true =>
  repeat first|apply wg|refine ss rfl ?_|apply nl
  refine W.ite rfl (fun h => ?_) (fun h => ?_)
  ·repeat first|apply wg|refine ss rfl ?_|apply nl
   exact ⟨.inr rfl, _, rfl, rfl, kM.trans hc⟩
  ·cases h
 repeat first|apply wg|refine ss rfl ?_|apply nl
 refine W.condF rfl ?_
 have hsl : s.length < 1000000000 := by have := of_decide_eq_false hg0; omega
 have hn0 : l0.length ≤ 200 := by have := of_decide_eq_false hg1; omega
 clear hg0 hg1
 replace h0 := (h0.win (by omega)).cons kM
 repeat first|apply wg|refine ss rfl ?_|apply nl
 refine L.z2 (Cons.row (h := hc) rb2) rfl rfl rfl ?_
 repeat first|apply wg|refine ss rfl ?_|apply nl
 refine L.cl (lentZ_C b0 a0 c0 l0 _ (h0.cons hc) (by omega)) rfl rfl ?_
 rintro _ S1 ⟨k1, x, hx, rfl, hr0⟩
 refine ⟨fun _ => k1, ?_⟩
 replace hc := hc.trans k1
 repeat first|apply wg|refine ss rfl ?_|apply nl
 refine L.nr [.bool false, .slice none 0 0] wT rfl rfl (fun b5 T1' g1' k1' r1' => ?_)
 refine L.st2 r1' rfl rfl rfl rfl rfl rfl (fun M0 kk1 rb5 => ?_)
 have kx := kk1.mono k1' g1'
 replace hc := hc.trans kx
 replace hr0 := Cons.row (h := kx) hr0
 replace rb2 := Cons.row (h := hc) rb2
 replace h0 := h0.cons hc
 have kS := kM.trans hc
 replace hS := hS.cons kS
 replace hP := hP.cons kS
 replace hG := Nat.le_trans hG kS.len
 have hx := lent_win hr0 (by omega)
 clear kx kk1 r1' k1' g1' hc kM
 have hc := Cons.refl M0
 have hZ := Zs.nil M0
 have hQ := Qs.nil M0
 have hK := PK.nil M0
 obtain ⟨X, hX⟩ : ∃ X, zv b0 l0 = X := ⟨_, rfl⟩
 have X5 : ZIn M0 (.agg #[.bool b0, .slice (some ⟨x, 0, none⟩) l0.length (UNK + (l0.length + 16))]) X 200 := ⟨_, _, _, _, rfl, hx, hn0, hX⟩
 have X2 : ZIn M0 (.agg #[.bool b0, .slice a0 l0.length c0]) X 200 := ⟨_, _, _, _, rfl, h0, hn0, hX⟩
 repeat first|apply wg|refine ss rfl ?_|apply nl
 refine L.z2 (Cons.row (h := hc) rb5) rfl rfl rfl ?_
 repeat first|apply wg|refine ss rfl ?_|apply nl
 refine L.cv (iText_C (X5.cons hc) (hP.cons hc)) rfl rfl fun T' k' => ?_
 replace hZ := hZ.cons k'
 replace hQ := hQ.cons k'
 replace hK := hK.cons k'
 replace hc := hc.trans k'
 clear k'
 repeat first|apply wg|refine ss rfl ?_|apply nl
 refine L.cl (zParse_C s _ hsl) rfl rfl ?_
 rintro _ T' hr
 obtain ⟨d11, rfl, r11⟩ := hr.both
 refine ⟨fun _ => r11.1, ?_⟩
 clear hr
 have w11 := r11.win
 have v11 := r11.val
 replace hZ := hZ.cons r11.1
 replace hQ := hQ.cons r11.1
 replace hK := hK.add r11 (zcE_len (zprs_ok))
 replace hc := hc.trans r11.1
 clear r11
 repeat first|apply wg|refine ss rfl ?_|apply nl
 refine L.nr [.bool false, .slice none 0 0] wT rfl rfl (fun b11 T' g' k' r' => ?_)
 refine L.st2 r' rfl rfl rfl rfl rfl rfl (fun T' kk' r'' => ?_)
 have kx := kk'.mono k' g'
 replace hZ := hZ.cons kx
 replace hQ := (hQ.cons kx).add ⟨r'', w11.cons kx⟩
 replace hK := hK.cons kx
 replace hc := hc.trans kx
 clear kx kk' r'' r' k' g' w11
 repeat first|apply wg|refine ss rfl ?_|apply nl
 refine L.cl (zInt_C n _ hn) rfl rfl ?_
 rintro _ T' ⟨d12, rfl, r12⟩
 refine ⟨fun _ => r12.1, ?_⟩
 have w12 := r12.win
 have v12 := r12.val
 rw [v12]
 replace hZ := hZ.cons r12.1
 replace hQ := hQ.cons r12.1
 replace hK := hK.add r12 (zcE_len (int_zok hn))
 replace hc := hc.trans r12.1
 clear r12
 repeat first|apply wg|refine ss rfl ?_|apply nl
 refine L.nr [.bool false, .slice none 0 0] wT rfl rfl (fun b12 T' g' k' r' => ?_)
 refine L.st2 r' rfl rfl rfl rfl rfl rfl (fun T' kk' r'' => ?_)
 have kx := kk'.mono k' g'
 replace hZ := hZ.cons kx
 replace hQ := (hQ.cons kx).add ⟨r'', w12.cons kx⟩
 replace hK := hK.cons kx
 replace hc := hc.trans kx
 clear kx kk' r'' r' k' g' w12
 repeat first|apply wg|refine ss rfl ?_|apply nl
 refine L.z2 (Cons.row (h := hc) rb2) rfl rfl rfl ?_
 repeat first|apply wg|refine ss rfl ?_|apply nl
 refine L.cv (rzText_C (X2.cons hc) (by decide)) rfl rfl fun T' k' => ?_
 replace hZ := hZ.cons k'
 replace hQ := hQ.cons k'
 replace hK := hK.cons k'
 replace hc := hc.trans k'
 clear k'
 repeat first|apply wg|refine ss rfl ?_|apply nl
 refine L.cl (rzParse_C s _ hsl) rfl rfl ?_
 rintro _ T' ⟨_, rfl, k0', a21, c21, rfl, w21⟩
 refine ⟨fun _ => k0', ?_⟩
 replace hZ := hZ.cons k0'
 replace hQ := hQ.cons k0'
 replace hK := hK.cons k0'
 replace hc := hc.trans k0'
 clear k0'
 repeat first|apply wg|refine ss rfl ?_|apply nl
 refine L.nr [.bool false, .slice none 0 0] wT rfl rfl (fun b21 T' g' k' r' => ?_)
 refine L.st2 r' rfl rfl rfl rfl rfl rfl (fun T' kk' r'' => ?_)
 have kx := kk'.mono k' g'
 replace hZ := (hZ.cons kx).add ⟨_, _, r'', w21.cons kx⟩
 replace hK := hK.cons kx
 replace hQ := hQ.cons kx
 replace hc := hc.trans kx
 clear kx kk' r'' r' k' g' w21
 repeat first|apply wg|refine ss rfl ?_|apply nl
 refine L.eff (v := .pointer (some ⟨List.length T', 0, none⟩)) (S1 := T' ++ [newR [.slice none 0 0, .slice none 0 0] 33]) rfl rfl ?_
 have hB := hK.bookT
 have hL := hK.2.2.2
 have hQ0 := hQ
 have hc0 := hc
 have kb : Cons T' (T' ++ [newR [.slice none 0 0, .slice none 0 0] 33]) := Cons.push _ _
 replace hZ := hZ.cons kb
 replace hQ := hQ.cons kb
 replace hc := hc.trans kb
 generalize T' ++ [newR [.slice none 0 0, .slice none 0 0] 33] = TB at *
 clear kb
 repeat first|apply wg|refine ss rfl ?_|apply nl
 rw [show ((strB (txtL X)).toList == (strB (txtL X)).toList) = true from beq_self_eq_true _]
 repeat first|apply wg|refine ss rfl ?_|apply nl
 rw [show (txtE X == txtE X) = true from beq_self_eq_true _]
 repeat first|apply wg|refine ss rfl ?_|apply nl
 refine L.ql (hQ.at 0 rfl) rfl rfl rfl ?_
 repeat first|apply wg|refine ss rfl ?_|apply nl
 refine L.zl (hZ.at 0 rfl) rfl rfl rfl (fun u hu => ?_)
 repeat first|apply wg|refine ss rfl ?_|apply nl
 refine L.cv (zsame_C _ (hQ.at 0 rfl).zis hu) rfl rfl fun T2 k' => ?_
 clear hu
 replace hQ := hQ.cons k'
 replace hB := hB.cons k'
 replace hc := hc.trans k'
 clear k' hZ
 repeat first|apply wg|refine ss rfl ?_|apply nl
 refine L.ql (hQ.at 1 rfl) rfl rfl rfl ?_
 repeat first|apply wg|refine ss rfl ?_|apply nl
 refine L.cl (rzInt_C n _ hn) rfl rfl ?_
 rintro u T3 ⟨hu, k'⟩
 refine ⟨fun _ => k', ?_⟩
 replace hQ := hQ.cons k'
 replace hB := hB.cons k'
 replace hc := hc.trans k'
 clear k'
 repeat first|apply wg|refine ss rfl ?_|apply nl
 refine L.cv (nSame_C (hQ.at 1 rfl).zis hu) rfl rfl fun T4 k' => ?_
 rw [show decide (n = n) = true from decide_eq_true rfl]
 replace hB := hB.cons k'
 clear k' hu hQ hc
 have hQ := hQ0
 have hc := hc0
 repeat first|apply wg|refine ss rfl ?_|apply nl
 refine L.ql ((hQ.cons hB.1).at 0 rfl) rfl rfl rfl ?_
 repeat first|apply wg|refine ss rfl ?_|apply nl
 refine L.cl (zBook_C _ _ v11 hB (by first | omega | (simp <;> omega))) rfl rfl ?_
 rintro _ TB' hB'
 refine ⟨nofun, ?_⟩
 replace hB := hB'
 clear hB'
 repeat first|apply wg|refine ss rfl ?_|apply nl
 refine L.ql ((hQ.cons hB.1).at 1 rfl) rfl rfl rfl ?_
 repeat first|apply wg|refine ss rfl ?_|apply nl
 refine L.cl (zBook_C _ _ v12 hB (by first | omega | (simp <;> omega))) rfl rfl ?_
 rintro _ TB' hB'
 refine ⟨nofun, ?_⟩
 replace hB := hB'
 clear hB'
 repeat first|apply wg|refine ss rfl ?_|apply nl
 refine L.cl (apart_BkT hB hc hL (by first | omega | (simp <;> omega))) rfl rfl ?_
 rintro _ TA ⟨rfl, hc'⟩
 refine ⟨nofun, ?_⟩
 replace hc := hc'
 clear hc' hB hL hQ hK
 repeat first|apply wg|refine ss rfl ?_|apply nl
 refine L.z2 (Cons.row (h := hc) rb5) rfl rfl rfl ?_
 repeat first|apply wg|refine ss rfl ?_|apply nl
 refine L.z2 (Cons.row (h := hc) rb2) rfl rfl rfl ?_
 repeat first|apply wg|refine ss rfl ?_|apply nl
 refine L.cv (keptZ_C b0 a0 x c0 l0 _ (Cons.row (h := hc) hr0) (h0.cons hc) (by omega)) rfl rfl fun T' k' => ?_
 replace hc := hc.trans k'
 clear k'
 repeat first|apply wg|refine ss rfl ?_|apply nl
 refine L.cv (works_C _ (hS.cons hc) (hP.cons hc) (Nat.le_trans hG hc.len)) rfl rfl fun M4 k4 => ?_
 repeat first|apply wg|refine ss rfl ?_|apply nl
 exact ⟨.inr rfl, _, rfl, rfl, (kS.trans hc).trans k4⟩
end Go.Proofs.YtbiigbicgfchiaaGreatDoor

/- Arguments that came in, on the abstract memory of the world in which a call begins. Conditions: none. -/
namespace Go.Proofs.YtbiigbicgfchiaaGreatDoor
open Go
def IsRow (k : IntKind) (w : World) (a : Option Addr) (len cap : Nat) (zs : List Int) : Prop :=
 (a = none ∧ len = 0 ∧ cap = 0 ∧ zs = []) ∨
 ∃ x, a = some x ∧ len ≤ cap ∧ cap ≤ maxLen ∧ zs.length = cap ∧ (∀ i, i < zs.length → w.cell? (x.add i) = some (.int k (zs.getD i 0))) ∧ ∀ n ∈ zs, (Lit.int k n).wf = true
theorem row_cap {k : IntKind} {W : World} {a : Option Addr} {len cap : Nat} {zs : List Int} (h : IsRow k W a len cap zs) : cap < UNK ∧ len ≤ cap := by
 rcases h with ⟨rfl, rfl, rfl, rfl⟩ | ⟨x, rfl, hlc, hm, hz, hcell, hwf⟩
 ·exact ⟨by decide, by decide⟩
 ·exact ⟨by unfold maxLen at hm; unfold UNK; omega, hlc⟩
theorem world_ints {k : IntKind} {W : World} {N : Nat} {a : Option Addr} {len cap : Nat} {zs : List Int} (h : IsRow k W a len cap zs) (hb : ∀ x, a = some x → x.block < W.heap.size + N) :
  Slv (mem0 W N) 1 (.slice a len cap) len ((zs.take len).map (Value.int k)) ∧ VR (rho0 W N) (.slice a len cap) (.slice a len cap) ∧ (zs.take len).length = len ∧ Cut len cap ∧ (∀ n ∈ zs, (Lit.int k n).wf = true) := by
 rcases h with ⟨rfl, rfl, rfl, rfl⟩ | ⟨x, rfl, hlc, hm, hz, hcell, hwf⟩
 ·exact ⟨Slv.nil _ _ _ _, .slNil _ _, rfl, .inl ⟨by decide, by decide⟩, nofun⟩
 ·have hcu : cap < UNK := by unfold maxLen at hm; unfold UNK; omega
  have hlen : (zs.take len).length = len := by rw [List.length_take]; omega
  refine ⟨?_, (fixed_slice (N := N) (hb x rfl) hcu).1, hlen, .inl ⟨hcu, hlc⟩, hwf⟩
  rcases Nat.eq_zero_or_pos len with rfl | hpos
  ·rw [List.take_zero]; exact Slv.nil _ _ _ _
  have h0 := hcell 0 (by omega)
  have hx0 : x.add 0 = x := rfl
  rw [hx0] at h0
  unfold World.cell? at h0
  split at h0
  ·rename_i c el fz hh
   split at h0
   ·cases h0
   ·rename_i hsp
    have hsp' : x.spot = none := by cases hxs : x.spot <;> simp_all
    obtain ⟨r, hr, hrl, hrc⟩ := mem0_live (N := N) hh
    have hxa : x = ⟨x.block, x.off, none⟩ := by cases x; simp at hsp'; subst hsp'; rfl
    have hci : ∀ i, i < cap → r.cells[x.off + i]? = some (.int k (zs.getD i 0)) := by
     intro i hi
     have h1 := hcell i (by omega)
     have hadd : x.add i = ⟨x.block, x.off + i, none⟩ := by
      unfold Addr.add
      split
      ·rename_i h9; rw [h9]; exact hxa
      ·rfl
     rw [hadd] at h1
     simp only [World.cell?, hh] at h1
     exact hrc _ _ (by simpa using h1) (fixed_scalar W N rfl)
    have hbound : x.off + len * 1 ≤ r.cells.length := by
     have := (List.getElem?_eq_some_iff.1 (hci (len - 1) (by omega))).1
     omega
    have hseg : (r.cells.drop x.off).take (len * 1) = (zs.take len).map (Value.int k) := by
     apply List.ext_getElem?
     intro i
     rw [List.getElem?_take, Nat.mul_one]
     split
     ·rename_i hi
      rw [List.getElem?_drop, hci i (by omega), List.getElem?_map, List.getElem?_take, if_pos hi, List.getD_eq_getElem?_getD, List.getElem?_eq_getElem (by omega)]
      rfl
     ·rename_i hi
      rw [List.getElem?_eq_none (by rw [List.length_map, hlen]; omega)]
    have := Slv.of (sz := 1) (n := len) (c := cap) hr hbound (.inr (by rw [hseg, List.all_map, List.all_eq_true]; intro n _; rfl))
    rw [hseg, ← hxa] at this
    exact this
  ·cases h0
end Go.Proofs.YtbiigbicgfchiaaGreatDoor

/- Lists of words that came in within a struct, on the abstract memory of the world in which a call begins. Conditions: none. -/
namespace Go.Proofs.YtbiigbicgfchiaaGreatDoor
open Go Go.ChangeShapes Go.WideShapes
theorem words_in (zs : List Int) (len : Nat) (hwf : ∀ n ∈ zs, (Lit.int .u64 n).wf = true) (hl : (zs.take len).length = len) : ∃ l : WL, l.length = len ∧ wv l = (zs.take len).map (Value.int .u64) := by
 refine ⟨(zs.take len).map (BitVec.ofInt 64), by rw [List.length_map, hl], ?_⟩
 unfold wv
 rw [List.map_map]
 refine List.map_congr_left fun n hn => ?_
 have h := hwf n (List.mem_of_mem_take hn)
 have hx : 0 ≤ n ∧ n ≤ 18446744073709551615 := by simpa [Lit.wf, IntKind.min, IntKind.max, IntKind.signed, IntKind.bits] using h
 show v64 (BitVec.ofInt 64 n) = _
 rw [v64, ← wrap_u64, wrapU64 (by omega) (by omega)]
def WordsAt (W : World) (N0 : Nat) (v : Value) (l : WL) : Prop := ∃ a c, v = .slice a l.length c ∧ l.length ≤ knownCap c ∧ (a = none → c = 0) ∧ c < UNK ∧ ∀ N, N0 ≤ N → Slv (mem0 W N) 1 (.slice a l.length c) l.length (wv l) ∧ VR (rho0 W N) (.slice a l.length c) (.slice a l.length c) ∧ ∀ x, a = some x → x.block < (mem0 W N).length
theorem words_at {W : World} {a : Option Addr} {n c : Nat} {zs : List Int} (h : IsRow .u64 W a n c zs) : ∃ N l, WordsAt W N (.slice a n c) l := by
 obtain ⟨N, hN⟩ : ∃ N, ∀ x, a = some x → x.block < W.heap.size + N := by
  cases a with
  | none => exact ⟨0, nofun⟩
  | some x => exact ⟨x.block + 1, by rintro y ⟨⟩; omega⟩
 obtain ⟨hs, hv, hl, hc, hwf⟩ := world_ints (N := N) h hN
 have hcap := row_cap h
 obtain ⟨l, rfl, hb⟩ := words_in zs n hwf hl
 refine ⟨N, l, a, c, rfl, by unfold knownCap; rw [if_pos hcap.1]; exact hcap.2, ?_, hcap.1, fun M hM => ?_⟩
 ·rintro rfl
  rcases h with ⟨_, _, e, _⟩ | ⟨x, e, _⟩
  ·exact e
  ·cases e
 ·have hM' : ∀ x, a = some x → x.block < W.heap.size + M := fun x hx => by have := hN x hx; omega
  obtain ⟨hs, hv, _⟩ := world_ints (N := M) h hM'
  rw [← hb] at hs
  exact ⟨hs, hv, fun x hx => by rw [mem0_len]; exact hM' x hx⟩
theorem VR.agg2 {ρ : Nat → Option Loc} {u v u' v' : Value} (h : VR ρ u u') (k : VR ρ v v') : VR ρ (.agg #[u, v]) (.agg #[u', v']) := .agg _ _ rfl fun i x y hx hy => by
 match i with
 | 0 => cases hx; cases hy; exact h
 | 1 => cases hx; cases hy; exact k
 | i + 2 => simp at hx
theorem words_open {H : Type} {enc : TypeId × Value → H} {W : World} {fuel : Nat} {cs : List Value} {x : DataW H × List MemPlace} (h : DataW.trod enc Tryz.prog W 0 (fun _ => true) true fuel 22 cs = some x) : ∃ v N l, cs = [v] ∧ WordsAt W N v l := by
 rcases open_ints Tryz.underlying22 Tryz.underlying57 (by kernel_rfl) h with ⟨hcs, _⟩ | ⟨x, l, c, zs, hcs, _, hl, hm, hz, _, hcell, hwz⟩
 ·obtain ⟨N, w, hw⟩ := words_at (W := W) (a := none) (n := 0) (c := 0) (zs := []) (.inl ⟨rfl, rfl, rfl, rfl⟩)
  exact ⟨_, N, w, hcs, hw⟩
 ·obtain ⟨N, w, hw⟩ := words_at (W := W) (a := some x) (n := l) (c := c) (zs := zs) (.inr ⟨_, rfl, hl, hm, by simpa using hz, hcell, hwz⟩)
  exact ⟨_, N, w, hcs, hw⟩
end Go.Proofs.YtbiigbicgfchiaaGreatDoor

/- Whole numbers that came in, on the abstract memory of the world in which a call begins. Conditions: none. -/
namespace Go.Proofs.YtbiigbicgfchiaaGreatDoor
open Go Go.ChangeShapes Go.WideShapes
theorem known_lt {l : WL} {c : Nat} (h : l.length ≤ knownCap c) (hu : c < UNK) : l.length < UNK := by
 unfold knownCap at h
 rw [if_pos hu] at h
 omega
def WholeAt (W : World) (N0 : Nat) (v : Value) (b : Bool) (l : WL) : Prop := ∃ u, v = .agg #[.bool b, u] ∧ WordsAt W N0 u l
theorem whole_open {H : Type} {enc : TypeId × Value → H} {W : World} {fuel : Nat} {cs : List Value} {x : DataW H × List MemPlace} (h : DataW.trod enc Tryz.prog W 0 (fun _ => true) true fuel 24 cs = some x) : ∃ b u N l, cs = [.bool b, u] ∧ WordsAt W N u l := by
 obtain ⟨y0, y1, n, _, hl, h0, h1⟩ := trod_struct2 Tryz.underlying24 h
 obtain ⟨b, e1, _⟩ := DataW.trod_bool Tryz.underlying4 h0
 obtain ⟨u2, N2, l2, e2, k2⟩ := words_open h1
 have c1 : Tryz.prog.cellsOf 4 = 1 := by kernel_rfl
 have c2 : Tryz.prog.cellsOf 22 = 1 := by kernel_rfl
 have c3 : Tryz.prog.cellsOf 24 = 2 := by kernel_rfl
 rw [c3] at hl
 match cs, hl with
 | [x, y], _ =>
  have e3 : x = .bool b := by simpa [c1] using e1
  have e4 : y = u2 := by simpa [c1, c2] using e2
  rw [e3, e4]
  exact ⟨b, u2, N2, l2, rfl, k2⟩
theorem whole_world {H : Type} {enc : TypeId × Value → H} {W : World} {v : Value} {d : DataW H} {p : List MemPlace} (hw : ∃ cs, v = .agg cs ∧ cs.size = 2) (h : DataW.Trod enc Tryz.prog W 0 (fun _ => true) true 24 v d p) :
  ∃ N b l, WholeAt W N v b l := by
 obtain ⟨cs, rfl, hcs⟩ := hw
 obtain ⟨fuel, hf⟩ := h
 obtain ⟨x, y, rfl⟩ : ∃ x y, cs = #[x, y] := by
  obtain ⟨l⟩ := cs
  match l, hcs with
  | [x, y], _ => exact ⟨x, y, rfl⟩
 obtain ⟨b, u, N, l, e, k⟩ := whole_open hf
 obtain ⟨rfl, rfl⟩ : x = .bool b ∧ y = u := by simpa [Value.cells] using e
 exact ⟨N, b, l, _, rfl, k⟩
end Go.Proofs.YtbiigbicgfchiaaGreatDoor

/- What listed variables read as, in the abstract memory. Conditions: none. -/
namespace Go.Proofs.YtbiigbicgfchiaaGreatDoor
open Go Go.RowKit Ie
open Go.ChangeShapes Go.WideShapes Go.ChangeAt
section
variable {H : Type} {enc : TypeId × Value → H} {P : Program} {w : World} {base : Nat} {spare : Nat → Bool} {held : Bool} {fuel : Nat} {t : TypeId} {cs : List Value} {x : DataW H × List MemPlace}
theorem trod_float {k : FloatKind} (ht : P.underlying t = some (.float k)) (h : DataW.trod enc P w base spare held fuel t cs = some x) : ∃ b, cs = [.float k b] ∧ x = (.lit (.float k b), []) := by
 cases fuel with
 | zero => simp [DataW.trod] at h
 | succ n =>
  unfold DataW.trod at h
  rw [ht] at h
  split at h <;> simp_all
theorem arr_cells {n : Nat} {e : TypeId} {vs : List Value} {ls : List (DataW H)} {p : List MemPlace} (ht : P.underlying t = some (.array n e)) (c1 : P.cellsOf e = 1) (ct : P.cellsOf t = n) (hl : ls.length = n) (hvl : vs.length = n)
  (hel : ∀ (m i : Nat) (c : List Value) (y : DataW H × List MemPlace) (d : DataW H) (v : Value), DataW.trod enc P w base spare held m e c = some y → y.1 = d → ls[i]? = some d → vs[i]? = some v → c = [v])
  (h : DataW.trod enc P w base spare held fuel t cs = some (.agg ls, p)) : cs = vs := by
 obtain ⟨xs, m, rfl, hx, hlen, hn, hels⟩ := DataW.trod_array ht h
 simp only [Prod.mk.injEq, DataW.agg.injEq] at hx
 rw [ct] at hlen
 apply List.ext_getElem?
 intro i
 by_cases hi : i < n
 ·have h1 := hels i hi
  rw [c1, Nat.mul_one] at h1
  obtain ⟨y, hy⟩ : ∃ y, xs[i]? = some y := ⟨_, List.getElem?_eq_getElem (by omega)⟩
  obtain ⟨v, hv⟩ : ∃ v, vs[i]? = some v := ⟨_, List.getElem?_eq_getElem (by omega)⟩
  rw [hy] at h1
  have hd : ls[i]? = some y.1 := by rw [hx.1, List.getElem?_map, hy]; rfl
  have h2 := hel m i _ y y.1 v h1 rfl hd hv
  have h3 : ((cs.drop i).take 1)[0]? = some v := by rw [h2]; rfl
  rw [List.getElem?_take, if_pos (by decide), List.getElem?_drop, Nat.add_zero] at h3
  rw [h3, hv]
 ·rw [List.getElem?_eq_none (by omega), List.getElem?_eq_none (by omega)]
theorem arr_ints {n : Nat} {e : TypeId} {k : IntKind} {zs : List Int} {p : List MemPlace} (ht : P.underlying t = some (.array n e)) (he : P.underlying e = some (.int k)) (c1 : P.cellsOf e = 1) (ct : P.cellsOf t = n) (hl : zs.length = n)
  (h : DataW.trod enc P w base spare held fuel t cs = some (.agg (zs.map fun z => .lit (.int k z)), p)) : cs = zs.map (Value.int k) := by
 refine arr_cells ht c1 ct (by rw [List.length_map, hl]) (by rw [List.length_map, hl]) (fun m i c y d v h1 h2 h3 h4 => ?_) h
 obtain ⟨z, rfl, rfl, _⟩ := DataW.trod_int he h1
 dsimp only at h2
 subst h2
 rw [List.getElem?_map, Option.map_eq_some_iff] at h3 h4
 obtain ⟨z1, q1, q2⟩ := h3
 obtain ⟨z2, q3, rfl⟩ := h4
 rw [q1] at q3
 cases q3
 cases q2
 rfl
theorem arr_floats {n : Nat} {e : TypeId} {k : FloatKind} {zs : List Nat} {p : List MemPlace} (ht : P.underlying t = some (.array n e)) (he : P.underlying e = some (.float k)) (c1 : P.cellsOf e = 1) (ct : P.cellsOf t = n) (hl : zs.length = n)
  (h : DataW.trod enc P w base spare held fuel t cs = some (.agg (zs.map fun z => .lit (.float k z)), p)) : cs = zs.map (Value.float k) := by
 refine arr_cells ht c1 ct (by rw [List.length_map, hl]) (by rw [List.length_map, hl]) (fun m i c y d v h1 h2 h3 h4 => ?_) h
 obtain ⟨z, rfl, rfl⟩ := trod_float he h1
 dsimp only at h2
 subst h2
 rw [List.getElem?_map, Option.map_eq_some_iff] at h3 h4
 obtain ⟨z1, q1, q2⟩ := h3
 obtain ⟨z2, q3, rfl⟩ := h4
 rw [q1] at q3
 cases q3
 cases q2
 rfl
theorem laid_var {laid : List (String × DataW Unit)} {n : String} {d : DataW Unit} {ps : List MemPlace} (hm : (n, d) ∈ laid) (h : DataW.LaidVars P w laid ps) :
  ∃ g t cs fuel p, P.globalNamed n = some g ∧ (P.globals[g]?).map (·.type) = some t ∧ w.var? P n = some cs ∧ DataW.trod (fun _ => ()) P w 0 (fun _ => true) false fuel t cs.toList = some (d, p) := by
 induction laid generalizing ps with
 | nil => simp at hm
 | cons y l ih =>
  obtain ⟨n', d'⟩ := y
  obtain ⟨g, t, cs, fuel, p, q, h1, h2, h3, h4, h5, _⟩ := h
  rcases List.mem_cons.1 hm with h6 | h6
  ·cases h6
   exact ⟨g, t, cs, fuel, p, h1, h2, h3, h4⟩
  ·exact ih h6 h5
end
theorem var_row {W : World} {n : String} {g : Nat} {cs : Array Value} {vs : List Value} (hg : Tryz.prog.globalNamed n = some g) (hv : W.var? Tryz.prog n = some cs) (hcs : cs.toList = vs) (hs : vs.all scalar = true) :
  g < W.heap.size ∧ ∀ N, RowIs (mem0 W N) g vs := by
 simp only [World.var?, hg, Option.bind_some] at hv
 split at hv
 ·rename_i c e fz hh
  obtain rfl : c = cs := by simpa using hv
  refine ⟨(Array.getElem?_eq_some_iff.1 hh).1, fun N => ?_⟩
  obtain ⟨rw', hr, hrl, hrc⟩ := mem0_live (N := N) hh
  refine ⟨rw', hr, List.ext_getElem? fun k => ?_⟩
  rw [List.getElem?_take]
  split
  ·rename_i hk
   obtain ⟨v, hv⟩ : ∃ v, vs[k]? = some v := ⟨_, List.getElem?_eq_getElem hk⟩
   rw [hv]
   refine hrc k _ ?_ (fixed_scalar W N ?_)
   ·rw [← Array.getElem?_toList, hcs]; exact hv
   ·exact List.all_eq_true.1 hs _ (List.mem_of_getElem? hv)
  ·rename_i hk
   rw [List.getElem?_eq_none (by omega)]
 ·cases hv
end Go.Proofs.YtbiigbicgfchiaaGreatDoor

/- What the listed variables of the laws that read texts read as, in the abstract memory. Conditions: none. -/
namespace Go.Proofs.YtbiigbicgfchiaaGreatDoor
open Go Go.RowKit Ie
open Go.ChangeShapes Go.WideShapes Go.ChangeAt
abbrev laidL : List (String × DataW Unit) := [("math/bits.deBruijn32tab", Rows.laid_math_bits_deBruijn32tab), ("math/bits.deBruijn64tab", Rows.laid_math_bits_deBruijn64tab), ("internal/strconv.uint64pow10", Rows.laid_internal_strconv_uint64pow10), ("unicode/utf8.acceptRanges", Rows.laid_unicode_utf8_acceptRanges), ("math._sin", Rows.laid_math_sin), ("math._cos", Rows.laid_math_cos), ("math.mPi4", Rows.laid_math_mPi4), ("strconv.ErrRange", Rows.laid_strconv_ErrRange), ("strconv.ErrSyntax", Rows.laid_strconv_ErrSyntax), ("unicode/utf8.first", Rows.laid_unicode_utf8_first)]
theorem of_laid {W : World} (h : laidMetH Tryz.prog laidL W) : gN ≤ W.heap.size ∧ ∀ N, SinOk (mem0 W N) ∧ PowOk (mem0 W N) := by
 rw [MakeChecks.laidMetH_plain _ _ _ (by kernel_rfl)] at h
 obtain ⟨ps, hv, _, _⟩ := h
 obtain ⟨g1, t1, cs1, f1, p1, a1, b1, c1, d1⟩ := laid_var (n := "internal/strconv.uint64pow10") (d := Rows.laid_internal_strconv_uint64pow10) (by simp) hv
 obtain ⟨g2, t2, cs2, f2, p2, a2, b2, c2, d2⟩ := laid_var (n := "math._sin") (d := Rows.laid_math_sin) (by simp) hv
 obtain ⟨g3, t3, cs3, f3, p3, a3, b3, c3, d3⟩ := laid_var (n := "math._cos") (d := Rows.laid_math_cos) (by simp) hv
 obtain ⟨g4, t4, cs4, f4, p4, a4, b4, c4, d4⟩ := laid_var (n := "math/bits.deBruijn64tab") (d := Rows.laid_math_bits_deBruijn64tab) (by simp) hv
 obtain rfl := Option.some.inj ((show Tryz.prog.globalNamed "internal/strconv.uint64pow10" = some 5 by kernel_rfl).symm.trans a1)
 obtain rfl := Option.some.inj ((show Tryz.prog.globalNamed "math._sin" = some 4 by kernel_rfl).symm.trans a2)
 obtain rfl := Option.some.inj ((show Tryz.prog.globalNamed "math._cos" = some 3 by kernel_rfl).symm.trans a3)
 obtain rfl := Option.some.inj ((show Tryz.prog.globalNamed "math/bits.deBruijn64tab" = some 13 by kernel_rfl).symm.trans a4)
 obtain rfl := Option.some.inj ((show (Tryz.prog.globals[5]?).map (·.type) = some 171 by kernel_rfl).symm.trans b1)
 obtain rfl := Option.some.inj ((show (Tryz.prog.globals[4]?).map (·.type) = some 169 by kernel_rfl).symm.trans b2)
 obtain rfl := Option.some.inj ((show (Tryz.prog.globals[3]?).map (·.type) = some 169 by kernel_rfl).symm.trans b3)
 have e1 : cs1.toList = powT := arr_ints (k := .u64) (zs := (List.range 20).map fun i => ((10 ^ i : Nat) : Int)) Tryz.underlying171 Tryz.underlying57 (by kernel_rfl) (by kernel_rfl) rfl d1
 have e2 : cs2.toList = sinT.map vf := arr_floats (k := .f64) (zs := sinT) Tryz.underlying169 Tryz.underlying117 (by kernel_rfl) (by kernel_rfl) rfl d2
 have e3 : cs3.toList = cosT.map vf := arr_floats (k := .f64) (zs := cosT) Tryz.underlying169 Tryz.underlying117 (by kernel_rfl) (by kernel_rfl) rfl d3
 have r1 := var_row a1 c1 e1 rfl
 have r2 := var_row a2 c2 e2 rfl
 have r3 := var_row a3 c3 e3 rfl
 have hlt : 13 < W.heap.size := by
  simp only [World.var?, a4, Option.bind_some] at c4
  split at c4
  ·rename_i c e fz hh
   exact (Array.getElem?_eq_some_iff.1 hh).1
  ·cases c4
 have hgN : gN ≤ 13 + 1 := Nat.le_of_ble_eq_true (by kernel_rfl)
 exact ⟨by omega, fun N => ⟨⟨r3.2 N, r2.2 N⟩, r1.2 N⟩⟩
theorem door_met (os : Os) (args : Array Value) : laidMetH Tryz.prog laidL ((World.laidAll Tryz.prog os laidL).forCall (fun _ _ => 0) ⟨#[], args, []⟩).memory := by
 rw [MakeChecks.laidMetH_plain _ _ _ (by kernel_rfl)]
 exact laidMet_laidAll _ (by kernel_rfl) (by kernel_rfl)
end Go.Proofs.YtbiigbicgfchiaaGreatDoor
