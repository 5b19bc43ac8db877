/- What several proofs share, part 4: a model of memory, contracts of functions. Conditions: none. -/
import Derived.Test.YtccdlijohkljcaaLibC

/- Layer 1's reference: digits to the base 2^32, forms, lengths. Conditions: none. -/
set_option linter.unusedSimpArgs false
set_option linter.unusedVariables false
set_option maxRecDepth 100000
namespace Go.Proofs.Ytccdlijohkljcaa
open Go
variable {G : Nat} {Ext : FuncId → List Value → Mem → Outc → Mem → Prop}

/-- the number of digits to the base 2^32 -/
def hnum : WL → Nat
  | [] => 0
  | x :: l => x.toNat + 4294967296 * hnum l
theorem hnum_append (l m : WL) : hnum (l ++ m) = hnum l + 2 ^ (32 * l.length) * hnum m := by
  induction l with
  | nil => simp [hnum]
  | cons x l ih =>
    rw [List.cons_append, hnum, hnum, ih, List.length_cons, Nat.mul_succ, Nat.pow_add, Nat.mul_add, ← Nat.mul_assoc, Nat.mul_comm (2 ^ (32 * l.length)) (2 ^ 32)]
    have e : (2 : Nat) ^ 32 = 4294967296 := by decide
    rw [e]
    omega
theorem hnum_zeros (k : Nat) : hnum (List.replicate k 0#64) = 0 := by
  induction k with
  | zero => rfl
  | succ k ih => rw [List.replicate_succ, hnum, ih]; rfl
/-- a list is its form, and noughts -/
theorem form_zeros (l : WL) : l = fm l ++ List.replicate (l.length - (fm l).length) 0#64 := by
  have h1 : l.take (fm l).length = fm l := toW_take l
  have hs : fm l ++ l.drop (fm l).length = l := by
    have := List.take_append_drop (fm l).length l
    rwa [h1] at this
  have h0 : wnum (l.drop (fm l).length) = 0 := by
    have h2 := wnum_append (fm l) (l.drop (fm l).length)
    rw [hs, show wnum (fm l) = wnum l from wnum_toW _] at h2
    have hp : 0 < 2 ^ (64 * (fm l).length) := Nat.pow_pos (by decide)
    have h3 : 2 ^ (64 * (fm l).length) * wnum (l.drop (fm l).length) = 0 := by omega
    rcases Nat.mul_eq_zero.1 h3 with h4 | h4
    · omega
    · exact h4
  have hz : ∀ m : WL, wnum m = 0 → m = List.replicate m.length 0#64 := by
    intro m
    induction m with
    | nil => intro _; rfl
    | cons x m ih =>
      intro h
      rw [wnum] at h
      have hx : x = 0#64 := BitVec.eq_of_toNat_eq (by simp; omega)
      rw [List.length_cons, List.replicate_succ, ← ih (by omega), hx]
  have h5 := hz _ h0
  rw [List.length_drop] at h5
  rw [h5] at hs
  exact hs.symm
theorem hnum_form (l : WL) : hnum (fm l) = hnum l := by
  conv => rhs; rw [form_zeros l, hnum_append, hnum_zeros]
  simp
def Small32 (l : WL) : Prop := ∀ x ∈ l, x.toNat < 4294967296
theorem small32_form {l : WL} (h : Small32 l) : Small32 (fm l) := fun x hx => h x (by
  rw [show fm l = l.take (fm l).length from (toW_take l).symm] at hx
  exact List.mem_of_mem_take hx)
/-- each limb in two -/
def hl (l : WL) : WL := l.flatMap fun x => [x &&& 0xffffffff#64, x >>> 32]
theorem and32 (x : BitVec 64) : (x &&& 0xffffffff#64).toNat = x.toNat % 4294967296 := by
  rw [BitVec.toNat_and]
  exact Nat.and_two_pow_sub_one_eq_mod x.toNat 32
theorem shr32 (x : BitVec 64) : (x >>> 32).toNat = x.toNat / 4294967296 := by
  rw [BitVec.toNat_ushiftRight, Nat.shiftRight_eq_div_pow]
theorem hnum_hl (l : WL) : hnum (hl l) = wnum l := by
  induction l with
  | nil => rfl
  | cons x l ih =>
    have hx := x.isLt
    show hnum ((x &&& 0xffffffff#64) :: (x >>> 32) :: hl l) = _
    rw [hnum, hnum, ih, wnum, and32, shr32]
    omega
theorem small_hl (l : WL) : Small32 (hl l) := by
  intro y hy
  obtain ⟨x, _, hx⟩ := List.mem_flatMap.1 hy
  have hlt := x.isLt
  simp at hx
  rcases hx with rfl | rfl
  · rw [and32]; omega
  · rw [shr32]; omega
/-- two digits in one -/
def un : WL → WL
  | [] => []
  | [x] => [x]
  | x :: y :: l => (x ||| y <<< 32) :: un l
theorem wnum_un (l : WL) (h : Small32 l) : wnum (un l) = hnum l := by
  match l, h with
  | [], _ => rfl
  | [x], _ => rfl
  | x :: y :: l, h =>
    have hx := h x (by simp)
    have hy := h y (by simp)
    rw [un, wnum, wnum_un l (fun z hz => h z (by simp [hz])), hnum, hnum]
    have : (x ||| y <<< 32).toNat = x.toNat + 4294967296 * y.toNat := by
      rw [BitVec.toNat_or, BitVec.toNat_shiftLeft, Nat.shiftLeft_eq, Nat.mod_eq_of_lt (by omega)]
      have := Nat.two_pow_add_eq_or_of_lt (i := 32) (show x.toNat < 2 ^ 32 from hx) y.toNat
      rw [Nat.or_comm, Nat.mul_comm y.toNat, ← this]
      omega
    rw [this]
    omega
theorem form_un (l : WL) : fm (un (fm (hl l))) = fm l := by
  show toW (wnum (un (fm (hl l)))) = toW (wnum l)
  rw [wnum_un _ (small32_form (small_hl l)), hnum_form, hnum_hl]

theorem strip_C (a : Option Addr) (c : Nat) (l : WL) (S : Mem) (h : WIn S a c l) : C Try.prog G Ext 64 [.slice a l.length c] S fun v S' => v = .slice a (fm l).length c ∧ S' = S := by
  refine C.fn Try.func64 rfl (by kernel_rfl) rfl ?_
  obtain ⟨hs, hc, ha, hlen⟩ := h
  repeat (first | refine W.seq ?_ | refine W.block ?_ | refine W.reg ?_ | refine W.skip ?_ | refine W.exit ?_ | refine W.ret ?_ | refine L.nil ?_ | refine L.p rfl rfl ?_ | refine L.skip rfl ?_)
  refine W.loop (fun j e S' => ∃ k : Nat, j = k ∧ k ≤ l.length ∧ S' = S ∧ e 0 = .slice a l.length c ∧ e 3 = vi k ∧ ∀ i, k ≤ i → i < l.length → l[i]? = some 0#64) l.length ⟨l.length, rfl, Nat.le_refl _, rfl, rfl, rfl, fun i h1 h2 => by omega⟩ ?_
  rintro k e S' ⟨_, rfl, hk, rfl, e0, e3, hz⟩
  refine W.env2 e0 e3 ?_
  have fin : (k = 0 ∨ l[k - 1]? ≠ some 0#64) → k = (fm l).length := fun h => by
    have := take_canon hk hz h
    unfold fm
    rw [← this, List.length_take]; omega
  repeat (first | refine W.seq ?_ | refine W.block ?_ | refine W.reg ?_ | refine W.skip ?_ | refine W.exit ?_ | refine W.ret ?_ | refine L.nil ?_ | refine L.p rfl rfl ?_ | refine L.skip rfl ?_)
  cases hb : decide ((k : Int) > 0)
  · have hk0 : k = 0 := by have := of_decide_eq_false hb; omega
    clear hb
    repeat (first | refine W.seq ?_ | refine W.block ?_ | refine W.reg ?_ | refine W.skip ?_ | refine W.exit ?_ | refine W.ret ?_ | refine L.nil ?_ | refine L.p rfl rfl ?_ | refine L.skip rfl ?_)
    refine W.ite rfl (fun h => ?_) (fun h => ?_)
    · cases h
    repeat (first | refine W.seq ?_ | refine W.block ?_ | refine W.reg ?_ | refine W.skip ?_ | refine W.exit ?_ | refine W.ret ?_ | refine L.nil ?_ | refine L.p rfl rfl ?_ | refine L.skip rfl ?_)
    refine L.is (.slice a k c) ((slice_at0 rfl rfl rfl).trans (aslice_to (kd := .i64) rfl (by omega) ha)) rfl ?_
    repeat (first | refine W.seq ?_ | refine W.block ?_ | refine W.reg ?_ | refine W.skip ?_ | refine W.exit ?_ | refine W.ret ?_ | refine L.nil ?_ | refine L.p rfl rfl ?_ | refine L.skip rfl ?_)
    exact ⟨.inr rfl, _, rfl, by rw [← fin (.inl hk0)]; rfl, rfl⟩
  have hk0 : 0 < k := by have := of_decide_eq_true hb; omega
  clear hb
  repeat (first | refine W.seq ?_ | refine W.block ?_ | refine W.reg ?_ | refine W.skip ?_ | refine W.exit ?_ | refine W.ret ?_ | refine L.nil ?_ | refine L.p rfl rfl ?_ | refine L.skip rfl ?_)
  have hkl : k - 1 < l.length := by omega
  have hget : l[k - 1]? = some l[k - 1] := List.getElem?_eq_getElem hkl
  refine L.el hs (k := k - 1) (by rw [wrap64 (by omega) (by omega)]; omega) (wv_get hget) rfl rfl rfl rfl (fun _ => rfl) rfl (fun p => ?_)
  repeat (first | refine W.seq ?_ | refine W.block ?_ | refine W.reg ?_ | refine W.skip ?_ | refine W.exit ?_ | refine W.ret ?_ | refine L.nil ?_ | refine L.p rfl rfl ?_ | refine L.skip rfl ?_)
  cases hz0 : (l[k - 1] == 0#64)
  · have hne : l[k - 1] ≠ 0#64 := by simpa using hz0
    have hv : ((l[k - 1].toNat : Int) == 0) = false := by
      rw [beq_eq_false_iff_ne]
      intro e; exact hne (BitVec.eq_of_toNat_eq (by simpa using e))
    rw [hv]
    repeat (first | refine W.seq ?_ | refine W.block ?_ | refine W.reg ?_ | refine W.skip ?_ | refine W.exit ?_ | refine W.ret ?_ | refine L.nil ?_ | refine L.p rfl rfl ?_ | refine L.skip rfl ?_)
    refine W.ite rfl (fun h => ?_) (fun h => ?_)
    · cases h
    repeat (first | refine W.seq ?_ | refine W.block ?_ | refine W.reg ?_ | refine W.skip ?_ | refine W.exit ?_ | refine W.ret ?_ | refine L.nil ?_ | refine L.p rfl rfl ?_ | refine L.skip rfl ?_)
    refine L.is (.slice a k c) ((slice_at0 rfl rfl rfl).trans (aslice_to (kd := .i64) rfl (by omega) ha)) rfl ?_
    repeat (first | refine W.seq ?_ | refine W.block ?_ | refine W.reg ?_ | refine W.skip ?_ | refine W.exit ?_ | refine W.ret ?_ | refine L.nil ?_ | refine L.p rfl rfl ?_ | refine L.skip rfl ?_)
    exact ⟨.inr rfl, _, rfl, by rw [← fin (.inr (by rw [hget]; simpa using hne))]; rfl, rfl⟩
  · have he : l[k - 1] = 0#64 := by simpa using hz0
    rw [show ((l[k - 1].toNat : Int) == 0) = true by rw [he]; rfl]
    repeat (first | refine W.seq ?_ | refine W.block ?_ | refine W.reg ?_ | refine W.skip ?_ | refine W.exit ?_ | refine W.ret ?_ | refine L.nil ?_ | refine L.p rfl rfl ?_ | refine L.skip rfl ?_)
    refine W.ite rfl (fun h => ?_) (fun h => ?_)
    rotate_left
    · cases h
    repeat (first | refine W.seq ?_ | refine W.block ?_ | refine W.reg ?_ | refine W.skip ?_ | refine W.exit ?_ | refine W.ret ?_ | refine L.nil ?_ | refine L.p rfl rfl ?_ | refine L.skip rfl ?_)
    refine ⟨k - 1, by omega, k - 1, rfl, by omega, rfl, rfl, ?_, fun i h1 h2 => ?_⟩
    · refine (force_eq rfl).trans ?_
      rw [wrap64 (by omega) (by omega)]
      congr 1; omega
    rcases Nat.eq_or_lt_of_le h1 with h3 | h3
    · rw [← h3, hget, he]
    · exact hz i (by omega) h2
/-- a list that a reference hands out -/
def RefW (S S' : Mem) (v : Value) (l : WL) : Prop := Cons S S' ∧ ∃ a c, v = .slice a l.length c ∧ WIn S' a c l
theorem grow_win {N : Nat} {S : Mem} {el : TypeId} {a : Option Addr} {c : Nat} {l : WL} (h : Grow N S el 1 (.slice a l.length c) l.length (wv l)) (hl : l.length < 1099511627776) : WIn S a c l := by
  refine ⟨h.slv, ?_, ?_, hl⟩
  · obtain ⟨h1, ⟨hv, h0⟩ | ⟨b, hb, hv, hr⟩⟩ := h
    · rw [h0]; exact Nat.zero_le _
    · cases hv; rw [knownCap_unk]; exact Nat.le_refl _
  · intro ha
    obtain ⟨h1, ⟨hv, h0⟩ | ⟨b, hb, hv, hr⟩⟩ := h
    · injection hv
    · rw [ha] at hv; injection hv with e1; cases e1
theorem and_u64 (x : BitVec 64) : IntKind.u64.wrap ((BitVec.ofInt IntKind.u64.bits (x.toNat : Int) &&& BitVec.ofInt IntKind.u64.bits 4294967295).toNat : Int) = ((x &&& 0xffffffff#64).toNat : Int) := by
  rw [bits_u64, ofInt_toNat, wrap_u64, ofInt_toNat]; rfl
theorem halves_C (a : Option Addr) (c : Nat) (l : WL) (S : Mem) (hI : WIn S a c l) (hlen : l.length < 1000000) : C Try.prog G Ext 61 [.slice a l.length c] S fun v S' => RefW S S' v (fm (hl l)) := by
  refine C.fn Try.func61 rfl (by kernel_rfl) rfl ?_
  repeat (first | refine W.seq ?_ | refine W.block ?_ | refine W.reg ?_ | refine W.skip ?_ | refine W.exit ?_ | refine W.ret ?_ | refine L.nil ?_ | refine L.p rfl rfl ?_ | refine L.skip rfl ?_)
  refine W.loop (fun j e S' => ∃ (i : Nat) (a3 : Option Addr) (c3 : Nat), j = l.length - i ∧ i ≤ l.length ∧ Cons S S' ∧ e 0 = .slice a l.length c ∧ e 3 = .slice a3 (i + i) c3 ∧ e 4 = vi i ∧ Grow S.length S' 56 1 (.slice a3 (i + i) c3) (i + i) (wv (hl (l.take i)))) l.length
    ⟨0, none, 0, by omega, by omega, Cons.refl _, rfl, rfl, rfl, Grow.nil _ _ _ _⟩ ?_
  rintro j e S' ⟨i, a3, c3, rfl, hi, hc, e0, e3, e4, hg⟩
  refine W.env3 e0 e3 e4 ?_
  repeat (first | refine W.seq ?_ | refine W.block ?_ | refine W.reg ?_ | refine W.skip ?_ | refine W.exit ?_ | refine W.ret ?_ | refine L.nil ?_ | refine L.p rfl rfl ?_ | refine L.skip rfl ?_)
  refine W.ite rfl (fun h => ?_) (fun h => ?_)
  · have hin : i < l.length := by have := of_decide_eq_true h; omega
    clear h
    obtain ⟨x, hx⟩ : ∃ x, l[i]? = some x := ⟨_, List.getElem?_eq_getElem hin⟩
    repeat (first | refine W.seq ?_ | refine W.block ?_ | refine W.reg ?_ | refine W.skip ?_ | refine W.exit ?_ | refine W.ret ?_ | refine L.nil ?_ | refine L.p rfl rfl ?_ | refine L.skip rfl ?_)
    refine L.el (hI.cons hc).1 rfl (wv_get hx) rfl rfl rfl rfl (fun _ => rfl) rfl (fun p => ?_)
    repeat (first | refine W.seq ?_ | refine W.block ?_ | refine W.reg ?_ | refine W.skip ?_ | refine W.exit ?_ | refine W.ret ?_ | refine L.nil ?_ | refine L.p rfl rfl ?_ | refine L.skip rfl ?_)
    refine L.push1 (w := v64 (x &&& 0xffffffff#64)) rfl hc.len (.inl hg) rfl ((force_eq rfl).trans (congrArg (Value.int .u64) (and_u64 x))) rfl rfl rfl (by omega) rfl (fun _ => rfl) (fun p a4 c4 S2 h2 h3 h4 => ?_)
    have hc2 := hc.trans' h4
    repeat (first | refine W.seq ?_ | refine W.block ?_ | refine W.reg ?_ | refine W.skip ?_ | refine W.exit ?_ | refine W.ret ?_ | refine L.nil ?_ | refine L.p rfl rfl ?_ | refine L.skip rfl ?_)
    refine L.el (hI.cons hc2).1 rfl (wv_get hx) rfl rfl rfl rfl (fun _ => rfl) rfl (fun p => ?_)
    repeat (first | refine W.seq ?_ | refine W.block ?_ | refine W.reg ?_ | refine W.skip ?_ | refine W.exit ?_ | refine W.ret ?_ | refine L.nil ?_ | refine L.p rfl rfl ?_ | refine L.skip rfl ?_)
    refine L.push1 (w := v64 (x >>> 32)) rfl hc2.len (.inl h2) rfl ((force_eq rfl).trans (congrArg (Value.int .u64) (fdiv_shr x 32))) rfl rfl rfl (by omega) rfl (fun _ => rfl) (fun p a5 c5 S3 k2 k3 k4 => ?_)
    repeat (first | refine W.seq ?_ | refine W.block ?_ | refine W.reg ?_ | refine W.skip ?_ | refine W.exit ?_ | refine W.ret ?_ | refine L.nil ?_ | refine L.p rfl rfl ?_ | refine L.skip rfl ?_)
    refine ⟨l.length - (i + 1), by omega, i + 1, a5, c5, rfl, by omega, hc2.trans' k4, rfl, ?_, ?_, ?_⟩
    · refine (force_eq rfl).trans ?_
      rw [show i + i + 1 + 1 = i + 1 + (i + 1) by omega]
    · refine (force_eq rfl).trans ?_
      rw [wrap64 (by omega) (by omega)]; rfl
    · rw [show i + i + 1 + 1 = i + 1 + (i + 1) by omega] at k2
      have : wv (hl (l.take (i + 1))) = (wv (hl (l.take i)) ++ [v64 (x &&& 0xffffffff#64)]) ++ [v64 (x >>> 32)] := by
        rw [List.take_add_one, hx, hl, List.flatMap_append, wv, List.map_append]
        show List.map v64 (hl (l.take i)) ++ [_, _] = _
        rw [List.append_assoc]; rfl
      rw [this]
      exact k2
  · have hin : i = l.length := by have := of_decide_eq_false h; omega
    subst hin
    rw [List.take_length] at hg
    have hll : (hl l).length = l.length + l.length := by have := hg.1; rw [wv_len] at this; omega
    rw [← hll] at hg ⊢
    have hW := grow_win hg (by omega)
    repeat (first | refine W.seq ?_ | refine W.block ?_ | refine W.reg ?_ | refine W.skip ?_ | refine W.exit ?_ | refine W.ret ?_ | refine L.nil ?_ | refine L.p rfl rfl ?_ | refine L.skip rfl ?_)
    refine L.cl (strip_C a3 c3 (hl l) _ hW) rfl rfl ?_
    rintro _ _ ⟨rfl, rfl⟩
    refine ⟨nofun, ?_⟩
    repeat (first | refine W.seq ?_ | refine W.block ?_ | refine W.reg ?_ | refine W.skip ?_ | refine W.exit ?_ | refine W.ret ?_ | refine L.nil ?_ | refine L.p rfl rfl ?_ | refine L.skip rfl ?_)
    exact ⟨.inr rfl, _, rfl, hc, a3, c3, rfl, hW.form⟩
end Go.Proofs.Ytccdlijohkljcaa

/- Layer 1's reference: forms, lengths, numbers out of bytes. Conditions: none. -/
set_option linter.unusedSimpArgs false
set_option linter.unusedVariables false
set_option maxRecDepth 100000
namespace Go.Proofs.Ytccdlijohkljcaa
open Go
variable {G : Nat} {Ext : FuncId → List Value → Mem → Outc → Mem → Prop}

theorem un_app : ∀ (q : Nat) (l m : WL), l.length = 2 * q → un (l ++ m) = un l ++ un m
  | 0, l, m, h => by rw [List.length_eq_zero_iff.1 (by omega : l.length = 0)]; rfl
  | q + 1, [], m, h => by simp at h
  | q + 1, [x], m, h => by simp at h; omega
  | q + 1, x :: y :: l, m, h => by
    show un (x :: y :: (l ++ m)) = _
    rw [un, un, un_app q l m (by simp at h; omega)]; rfl
theorem un_len (l : WL) : (un l).length ≤ l.length := by
  match l with
  | [] => exact Nat.le_refl _
  | [x] => exact Nat.le_refl _
  | x :: y :: l => rw [un, List.length_cons, List.length_cons, List.length_cons]; have := un_len l; omega
theorem or_shl64 (x y : BitVec 64) : IntKind.u64.wrap ((BitVec.ofInt IntKind.u64.bits (x.toNat : Int) ||| BitVec.ofInt IntKind.u64.bits (IntKind.u64.wrap ((y.toNat : Int) * 2 ^ 32))).toNat : Int) = ((x ||| y <<< 32).toNat : Int) := by
  rw [wrap_u64 ((y.toNat : Int) * 2 ^ 32), ofInt_shl, bits_u64, ofInt_toNat, ofInt_toNat, wrap_u64, ofInt_toNat]
theorem limbs_C (a : Option Addr) (c : Nat) (h : WL) (S : Mem) (hI : WIn S a c h) (hlen : h.length < 1000000) : C Try.prog G Ext 71 [.slice a h.length c] S fun v S' => RefW S S' v (fm (un h)) := by
  refine C.fn Try.func71 rfl (by kernel_rfl) rfl ?_
  repeat (first | refine W.seq ?_ | refine W.block ?_ | refine W.reg ?_ | refine W.skip ?_ | refine W.exit ?_ | refine W.ret ?_ | refine L.nil ?_ | refine L.p rfl rfl ?_ | refine L.skip rfl ?_)
  refine W.loop (fun j e S' => ∃ (q : Nat) (a3 : Option Addr) (c3 : Nat), j = h.length + 1 - 2 * q ∧ 2 * q ≤ h.length + 1 ∧ Cons S S' ∧ e 0 = .slice a h.length c ∧ e 3 = .slice a3 q c3 ∧ e 4 = vi (2 * q) ∧ Grow S.length S' 56 1 (.slice a3 q c3) q (wv (un (h.take (2 * q))))) (h.length + 1)
    ⟨0, none, 0, by omega, by omega, Cons.refl _, rfl, rfl, rfl, Grow.nil _ _ _ _⟩ ?_
  rintro j e S' ⟨q, a3, c3, rfl, hi, hc, e0, e3, e4, hg⟩
  refine W.env3 e0 e3 e4 ?_
  repeat (first | refine W.seq ?_ | refine W.block ?_ | refine W.reg ?_ | refine W.skip ?_ | refine W.exit ?_ | refine W.ret ?_ | refine L.nil ?_ | refine L.p rfl rfl ?_ | refine L.skip rfl ?_)
  have hIc := hI.cons hc
  refine W.ite rfl (fun hb => ?_) (fun hb => ?_)
  · have hin : 2 * q < h.length := by have := of_decide_eq_true hb; omega
    clear hb
    obtain ⟨x, hx⟩ : ∃ x, h[2 * q]? = some x := ⟨_, List.getElem?_eq_getElem hin⟩
    have hw1 : IntKind.i64.wrap (((2 * q : Nat) : Int) + 1) = ((2 * q + 1 : Nat) : Int) := by rw [wrap64 (by omega) (by omega)]; omega
    repeat (first | refine W.seq ?_ | refine W.block ?_ | refine W.reg ?_ | refine W.skip ?_ | refine W.exit ?_ | refine W.ret ?_ | refine L.nil ?_ | refine L.p rfl rfl ?_ | refine L.skip rfl ?_)
    refine L.el hIc.1 rfl (wv_get hx) rfl rfl rfl rfl (fun _ => rfl) rfl (fun p => ?_)
    repeat (first | refine W.seq ?_ | refine W.block ?_ | refine W.reg ?_ | refine W.skip ?_ | refine W.exit ?_ | refine W.ret ?_ | refine L.nil ?_ | refine L.p rfl rfl ?_ | refine L.skip rfl ?_)
    rw [hw1]
    refine W.ite rfl (fun hb => ?_) (fun hb => ?_)
    · have hin2 : 2 * q + 1 < h.length := by have := of_decide_eq_true hb; omega
      clear hb
      obtain ⟨y, hy⟩ : ∃ y, h[2 * q + 1]? = some y := ⟨_, List.getElem?_eq_getElem hin2⟩
      repeat (first | refine W.seq ?_ | refine W.block ?_ | refine W.reg ?_ | refine W.skip ?_ | refine W.exit ?_ | refine W.ret ?_ | refine L.nil ?_ | refine L.p rfl rfl ?_ | refine L.skip rfl ?_)
      refine L.el hIc.1 hw1 (wv_get hy) rfl rfl rfl rfl (fun _ => rfl) rfl (fun p => ?_)
      repeat (first | refine W.seq ?_ | refine W.block ?_ | refine W.reg ?_ | refine W.skip ?_ | refine W.exit ?_ | refine W.ret ?_ | refine L.nil ?_ | refine L.p rfl rfl ?_ | refine L.skip rfl ?_)
      repeat (first | refine W.seq ?_ | refine W.block ?_ | refine W.reg ?_ | refine W.skip ?_ | refine W.exit ?_ | refine W.ret ?_ | refine L.nil ?_ | refine L.p rfl rfl ?_ | refine L.skip rfl ?_)
      refine L.push1 (w := v64 (x ||| y <<< 32)) rfl hc.len (.inl hg) rfl ((force_eq rfl).trans (congrArg (Value.int .u64) (or_shl64 x y))) rfl rfl rfl (by omega) rfl (fun _ => rfl) (fun p a5 c5 S3 k2 k3 k4 => ?_)
      repeat (first | refine W.seq ?_ | refine W.block ?_ | refine W.reg ?_ | refine W.skip ?_ | refine W.exit ?_ | refine W.ret ?_ | refine L.nil ?_ | refine L.p rfl rfl ?_ | refine L.skip rfl ?_)
      refine ⟨h.length + 1 - 2 * (q + 1), by omega, q + 1, a5, c5, rfl, by omega, hc.trans' k4, rfl, ?_, ?_, ?_⟩
      · exact force_eq rfl
      · refine (force_eq rfl).trans ?_
        rw [wrap64 (by omega) (by omega)]
        congr 1
      · rw [show 2 * (q + 1) = 2 * q + 2 by omega]
        have : un (h.take (2 * q + 2)) = un (h.take (2 * q)) ++ [(x ||| y <<< 32)] := by
          rw [List.take_add, un_app q _ _ (by rw [List.length_take]; omega), show (h.drop (2 * q)).take 2 = [x, y] by (rw [List.drop_eq_getElem_cons hin, List.drop_eq_getElem_cons hin2]; rw [List.getElem?_eq_getElem hin] at hx; rw [List.getElem?_eq_getElem hin2] at hy; cases hx; cases hy; rfl)]
          rfl
        rw [this, wv, List.map_append]
        exact k2
    · have hin2 : 2 * q + 1 = h.length := by have := of_decide_eq_false hb; omega
      clear hb
      repeat (first | refine W.seq ?_ | refine W.block ?_ | refine W.reg ?_ | refine W.skip ?_ | refine W.exit ?_ | refine W.ret ?_ | refine L.nil ?_ | refine L.p rfl rfl ?_ | refine L.skip rfl ?_)
      refine L.push1 (w := v64 x) rfl hc.len (.inl hg) rfl rfl rfl rfl rfl (by omega) rfl (fun _ => rfl) (fun p a5 c5 S3 k2 k3 k4 => ?_)
      repeat (first | refine W.seq ?_ | refine W.block ?_ | refine W.reg ?_ | refine W.skip ?_ | refine W.exit ?_ | refine W.ret ?_ | refine L.nil ?_ | refine L.p rfl rfl ?_ | refine L.skip rfl ?_)
      refine ⟨h.length + 1 - 2 * (q + 1), by omega, q + 1, a5, c5, rfl, by omega, hc.trans' k4, rfl, ?_, ?_, ?_⟩
      · exact force_eq rfl
      · refine (force_eq rfl).trans ?_
        rw [wrap64 (by omega) (by omega)]
        congr 1
      · rw [show 2 * (q + 1) = 2 * q + 2 by omega]
        have : un (h.take (2 * q + 2)) = un (h.take (2 * q)) ++ [x] := by
          rw [List.take_add, un_app q _ _ (by rw [List.length_take]; omega), show (h.drop (2 * q)).take 2 = [x] by (rw [List.drop_eq_getElem_cons hin, List.drop_eq_nil_of_le (by omega)]; rw [List.getElem?_eq_getElem hin] at hx; cases hx; rfl)]
          rfl
        rw [this, wv, List.map_append]
        exact k2
  · have hin : h.length ≤ 2 * q := by have := of_decide_eq_false hb; omega
    clear hb
    rw [List.take_of_length_le hin] at hg
    have hll : (un h).length = q := by have := hg.1; rw [wv_len] at this; omega
    rw [← hll] at hg ⊢
    have hW := grow_win hg (by have := un_len h; omega)
    repeat (first | refine W.seq ?_ | refine W.block ?_ | refine W.reg ?_ | refine W.skip ?_ | refine W.exit ?_ | refine W.ret ?_ | refine L.nil ?_ | refine L.p rfl rfl ?_ | refine L.skip rfl ?_)
    refine L.cl (strip_C a3 c3 (un h) _ hW) rfl rfl ?_
    rintro _ _ ⟨rfl, rfl⟩
    refine ⟨nofun, ?_⟩
    repeat (first | refine W.seq ?_ | refine W.block ?_ | refine W.reg ?_ | refine W.skip ?_ | refine W.exit ?_ | refine W.ret ?_ | refine L.nil ?_ | refine L.p rfl rfl ?_ | refine L.skip rfl ?_)
    exact ⟨.inr rfl, _, rfl, hc, a3, c3, rfl, hW.form⟩
theorem hl_len (l : WL) : (hl l).length = 2 * l.length := by
  induction l with
  | nil => rfl
  | cons x l ih => show ((x &&& 0xffffffff#64) :: (x >>> 32) :: hl l).length = _; simp [ih]; omega
theorem form_C (a : Option Addr) (c : Nat) (l : WL) (S : Mem) (hI : WIn S a c l) (hlen : l.length < 400000) : C Try.prog G Ext 69 [.slice a l.length c] S fun v S' => RefW S S' v (fm l) := by
  refine C.fn Try.func69 rfl (by kernel_rfl) rfl ?_
  repeat (first | refine W.seq ?_ | refine W.block ?_ | refine W.reg ?_ | refine W.skip ?_ | refine W.exit ?_ | refine W.ret ?_ | refine L.nil ?_ | refine L.p rfl rfl ?_ | refine L.skip rfl ?_)
  refine L.cl (halves_C a c l S hI (by omega)) rfl rfl ?_
  rintro _ S1 ⟨hc1, a1, c1, rfl, hW1⟩
  refine ⟨nofun, ?_⟩
  have hln : (fm (hl l)).length ≤ 2 * l.length := by have h1 : (fm (hl l)).length ≤ (hl l).length := toW_len_le _; rw [hl_len] at h1; exact h1
  refine L.cl (limbs_C a1 c1 (fm (hl l)) S1 hW1 (by omega)) rfl rfl ?_
  rintro _ S2 ⟨hc2, a2, c2, rfl, hW2⟩
  refine ⟨nofun, ?_⟩
  rw [form_un] at hW2 ⊢
  repeat (first | refine W.seq ?_ | refine W.block ?_ | refine W.reg ?_ | refine W.skip ?_ | refine W.exit ?_ | refine W.ret ?_ | refine L.nil ?_ | refine L.p rfl rfl ?_ | refine L.skip rfl ?_)
  exact ⟨.inr rfl, _, rfl, hc1.trans hc2, a2, c2, rfl, hW2⟩
theorem fits_C (a : Option Addr) (c : Nat) (l : WL) (S : Mem) (hI : WIn S a c l) (hlen : l.length < 400000) : C Try.prog G Ext 68 [.slice a l.length c] S fun v S' => v = .bool (small l) ∧ Cons S S' := by
  refine C.fn Try.func68 rfl (by kernel_rfl) rfl ?_
  repeat (first | refine W.seq ?_ | refine W.block ?_ | refine W.reg ?_ | refine W.skip ?_ | refine W.exit ?_ | refine W.ret ?_ | refine L.nil ?_ | refine L.p rfl rfl ?_ | refine L.skip rfl ?_)
  refine L.cl (form_C a c l S hI hlen) rfl rfl ?_
  rintro _ S1 ⟨hc1, a1, c1, rfl, hW1⟩
  refine ⟨nofun, ?_⟩
  repeat (first | refine W.seq ?_ | refine W.block ?_ | refine W.reg ?_ | refine W.skip ?_ | refine W.exit ?_ | refine W.ret ?_ | refine L.nil ?_ | refine L.p rfl rfl ?_ | refine L.skip rfl ?_)
  refine ⟨.inr rfl, _, rfl, (force_eq rfl).trans (congrArg Value.bool ?_), hc1⟩
  unfold small
  rw [Bool.eq_iff_iff]
  simp only [decide_eq_true_eq]
  omega
theorem hnum_lt {l : WL} (h : Small32 l) : hnum l < 2 ^ (32 * l.length) := by
  induction l with
  | nil => simp [hnum]
  | cons x l ih =>
    have hx := h x (by simp)
    have h2 := ih (fun y hy => h y (by simp [hy]))
    rw [hnum, List.length_cons, Nat.mul_succ, Nat.pow_add]
    have := Nat.mul_le_mul_left 4294967296 (Nat.succ_le_of_lt h2)
    rw [Nat.mul_comm (2 ^ (32 * l.length))]
    have e : (2 : Nat) ^ 32 = 4294967296 := by decide
    rw [e]
    omega
theorem blen_top32 {l : WL} {x : BitVec 64} (hs : Small32 l) (h : l.getLast? = some x) (hx : x ≠ 0#64) : blen (hnum l) = 32 * (l.length - 1) + blen x.toNat := by
  have hne : l ≠ [] := by intro e; subst e; simp at h
  have hs2 := List.dropLast_concat_getLast hne
  have he : l.getLast hne = x := by rw [List.getLast?_eq_some_getLast hne] at h; simpa using h
  have hw := hnum_append l.dropLast [l.getLast hne]
  rw [hs2, he] at hw
  have hx0 : x.toNat ≠ 0 := fun e => hx (BitVec.eq_of_toNat_eq (by simpa using e))
  rw [hw]
  simp only [hnum, Nat.mul_zero, Nat.add_zero, List.length_dropLast]
  have hlt := hnum_lt (l := l.dropLast) (fun y hy => hs y (List.dropLast_subset _ hy))
  rw [List.length_dropLast] at hlt
  exact blen_shift hlt hx0
theorem blen_half {m : Nat} (h : 0 < m) : blen m = blen (m / 2) + 1 := by
  by_cases h1 : m < 2
  · have : m = 1 := by omega
    subst this; decide
  · have := blen_div (n := m) (k := 1) (by omega)
    rw [this, Nat.pow_one]; omega
theorem length_C (a : Option Addr) (c : Nat) (l : WL) (S : Mem) (hI : WIn S a c l) (hlen : l.length < 400000) : C Try.prog G Ext 47 [.slice a l.length c] S fun v S' => v = vi (blen (wnum l)) ∧ Cons S S' := by
  refine C.fn Try.func47 rfl (by kernel_rfl) rfl ?_
  repeat (first | refine W.seq ?_ | refine W.block ?_ | refine W.reg ?_ | refine W.skip ?_ | refine W.exit ?_ | refine W.ret ?_ | refine L.nil ?_ | refine L.p rfl rfl ?_ | refine L.skip rfl ?_)
  refine L.cl (halves_C a c l S hI (by omega)) rfl rfl ?_
  rintro _ S1 ⟨hc1, a1, c1, rfl, hW1⟩
  refine ⟨nofun, ?_⟩
  have hln : (fm (hl l)).length ≤ 2 * l.length := by have h1 : (fm (hl l)).length ≤ (hl l).length := toW_len_le _; rw [hl_len] at h1; exact h1
  have hnum' : hnum (fm (hl l)) = wnum l := by rw [hnum_form, hnum_hl]
  have hcan := canon_toW (wnum (hl l))
  have hsm := small32_form (small_hl l)
  obtain ⟨h, hh⟩ : ∃ h, h = fm (hl l) := ⟨_, rfl⟩
  rw [← hh] at hW1 hln hnum' hsm ⊢
  rw [show toW (wnum (hl l)) = h from hh.symm] at hcan
  clear hh
  repeat (first | refine W.seq ?_ | refine W.block ?_ | refine W.reg ?_ | refine W.skip ?_ | refine W.exit ?_ | refine W.ret ?_ | refine L.nil ?_ | refine L.p rfl rfl ?_ | refine L.skip rfl ?_)
  refine W.ite rfl (fun hb => ?_) (fun hb => ?_)
  · have h0 : h = [] := by simpa using hb
    have : wnum l = 0 := by rw [← hnum', h0]; rfl
    repeat (first | refine W.seq ?_ | refine W.block ?_ | refine W.reg ?_ | refine W.skip ?_ | refine W.exit ?_ | refine W.ret ?_ | refine L.nil ?_ | refine L.p rfl rfl ?_ | refine L.skip rfl ?_)
    exact ⟨.inr rfl, _, rfl, by rw [this]; rfl, hc1⟩
  · have h0 : 0 < h.length := by
      rcases Nat.eq_zero_or_pos h.length with h1 | h1
      · rw [h1] at hb; simp at hb
      · exact h1
    clear hb
    obtain ⟨x, hx⟩ : ∃ x, h.getLast? = some x := ⟨_, List.getLast?_eq_some_getLast (by intro e; rw [e] at h0; simp at h0)⟩
    have hxi : h[h.length - 1]? = some x := by rw [← List.getLast?_eq_getElem?]; exact hx
    have hx0 : x ≠ 0#64 := fun e => hcan (by rw [← e]; exact hx)
    have ht := blen_top32 hsm hx hx0
    rw [hnum'] at ht
    have hb64 := blen_le.2 (show x.toNat < 2 ^ 64 from x.isLt)
    repeat (first | refine W.seq ?_ | refine W.block ?_ | refine W.reg ?_ | refine W.skip ?_ | refine W.exit ?_ | refine W.ret ?_ | refine L.nil ?_ | refine L.p rfl rfl ?_ | refine L.skip rfl ?_)
    refine L.el hW1.1 (k := h.length - 1) (by rw [wrap64 (by omega) (by omega)]; omega) (wv_get hxi) rfl rfl rfl rfl (fun _ => rfl) rfl (fun p => ?_)
    repeat (first | refine W.seq ?_ | refine W.block ?_ | refine W.reg ?_ | refine W.skip ?_ | refine W.exit ?_ | refine W.ret ?_ | refine L.nil ?_ | refine L.p rfl rfl ?_ | refine L.skip rfl ?_)
    refine W.loop (fun j e S' => ∃ m k : Nat, j = m ∧ S' = S1 ∧ e 4 = vi k ∧ e 5 = .int .u64 (m : Int) ∧ k + blen m = blen (wnum l) ∧ m < 18446744073709551616) x.toNat
      ⟨x.toNat, 32 * (h.length - 1), rfl, rfl, ?_, rfl, ht.symm, x.isLt⟩ ?_
    · refine (force_eq rfl).trans ?_
      rw [wrap64 (x := (h.length : Int) - 1) (by omega) (by omega), wrap64 (by omega) (by omega)]
      congr 1; omega
    rintro m e _ ⟨_, k, rfl, rfl, e4, e5, hk, hm⟩
    refine W.env2 e4 e5 ?_
    repeat (first | refine W.seq ?_ | refine W.block ?_ | refine W.reg ?_ | refine W.skip ?_ | refine W.exit ?_ | refine W.ret ?_ | refine L.nil ?_ | refine L.p rfl rfl ?_ | refine L.skip rfl ?_)
    refine W.ite rfl (fun hb => ?_) (fun hb => ?_)
    · have hm0 : 0 < m := by have := of_decide_eq_true hb; omega
      have hb1 := blen_half hm0
      have hb2 := blen_le.2 (show m < 2 ^ 64 from hm)
      repeat (first | refine W.seq ?_ | refine W.block ?_ | refine W.reg ?_ | refine W.skip ?_ | refine W.exit ?_ | refine W.ret ?_ | refine L.nil ?_ | refine L.p rfl rfl ?_ | refine L.skip rfl ?_)
      refine ⟨m / 2, Nat.div_lt_self hm0 (by decide), m / 2, k + 1, rfl, rfl, ?_, ?_, by omega, by omega⟩
      · refine (force_eq rfl).trans ?_
        rw [wrap64 (by omega) (by omega)]; rfl
      · exact (force_eq rfl).trans (congrArg (Value.int .u64) (fdiv_nat m (2 ^ 1)))
    · have hm0 : m = 0 := by have := of_decide_eq_false hb; omega
      subst hm0
      repeat (first | refine W.seq ?_ | refine W.block ?_ | refine W.reg ?_ | refine W.skip ?_ | refine W.exit ?_ | refine W.ret ?_ | refine L.nil ?_ | refine L.p rfl rfl ?_ | refine L.skip rfl ?_)
      refine ⟨.inr rfl, _, rfl, ?_, hc1⟩
      refine (force_eq rfl).trans ?_
      rw [← hk]; rfl
end Go.Proofs.Ytccdlijohkljcaa

/- Layer 1: bytes out of numbers; the reference's numbers out of bytes. Conditions: none. -/
set_option linter.unusedSimpArgs false
set_option linter.unusedVariables false
set_option maxRecDepth 100000
namespace Go.Proofs.Ytccdlijohkljcaa
open Go
variable {G : Nat} {Ext : FuncId → List Value → Mem → Outc → Mem → Prop}

/-- what a call hands out: bytes in new memory -/
def RetB (S S' : Mem) (d : Hd) (l : BL) : Prop := Cons S S' ∧ l.length < 1099511627776 ∧ HdOk S' 5 d (bv l) ∧ ∀ b, d.a = some b → S.length ≤ b
theorem RetB.nil {S S' : Mem} (k : Cons S S') : RetB S S' Hd0 [] := ⟨k, by decide, HdOk.nil _ _, nofun⟩
theorem RetB.pre {S S1 S' : Mem} {d : Hd} {l : BL} (k : Cons S S1) (h : RetB S1 S' d l) : RetB S S' d l := by
  obtain ⟨h1, h2, h4, h5⟩ := h
  exact ⟨k.trans h1, h2, h4, fun b e => Nat.le_trans k.len (h5 b e)⟩
theorem RetB.post {S S1 S' : Mem} {d : Hd} {l : BL} (h : RetB S S1 d l) (k : Cons S1 S') : RetB S S' d l := by
  obtain ⟨h1, h2, h4, h5⟩ := h
  exact ⟨h1.trans k, h2, h4.cons k, h5⟩
theorem HdOk.bin {S : Mem} {d : Hd} {l : BL} (h : HdOk S 5 d (bv l)) (hl : l.length < 1099511627776) : BIn S d.ad d.c l ∧ d.v = .slice d.ad l.length d.c := by
  have hn := h.len
  rw [bv_len] at hn
  have hv : d.v = .slice d.ad l.length d.c := by unfold Hd.v Hd.ad; rw [hn]
  have hs := h.slv
  rw [hv, ← hn] at hs
  refine ⟨⟨hs, .of ?_, hl⟩, hv⟩
  obtain ⟨_, ⟨_, h2, h3⟩ | ⟨b, r, _, _, _, _, _, ⟨h3, h4⟩ | ⟨h3, _⟩⟩⟩ := h
  · omega
  · rw [h3, ← hn]; unfold knownCap; rw [if_pos (by omega)]; exact Nat.le_refl _
  · rw [h3, knownCap_unk]; omega
def bytesL (l : WL) : BL := if small l then toB (wnum l) else []
theorem natBytes_C (a : Option Addr) (c : Nat) (l : WL) (S : Mem) (hI : WIn S a c l) : C Try.prog G Ext 44 [.slice a l.length c] S fun v S' => ∃ d : Hd, v = .tuple #[d.v, .int .i64 (toldE l)] ∧ RetB S S' d (bytesL l) := by
  refine C.fn Try.func44 rfl (by kernel_rfl) rfl ?_
  repeat (first | refine W.seq ?_ | refine W.block ?_ | refine W.reg ?_ | refine W.skip ?_ | refine W.exit ?_ | refine W.ret ?_ | refine L.nil ?_ | refine L.p rfl rfl ?_ | refine L.skip rfl ?_)
  refine L.bs [WS.v ⟨a, c, l⟩] rfl rfl rfl rfl rfl rfl ?_
  have hc : Cons S (S ++ [newR [WS.v ⟨a, c, l⟩] 24]) := Cons.push _ _
  have hs : Slv (S ++ [newR [WS.v ⟨a, c, l⟩] 24]) 1 (.slice (some ⟨S.length, 0, none⟩) 1 1) 1 ([WS.mk a c l].map WS.v) := Slv.all (row_push_new rfl) rfl rfl
  generalize S ++ [newR [WS.v ⟨a, c, l⟩] 24] = S1 at *
  refine L.cl (fit_C _ [⟨a, c, l⟩] S1 hs (fun w hw => by simp at hw; subst hw; exact hI.cons hc) (by simp)) rfl rfl ?_
  rintro _ _ ⟨rfl, rfl⟩
  refine ⟨nofun, ?_⟩
  repeat (first | refine W.seq ?_ | refine W.block ?_ | refine W.reg ?_ | refine W.skip ?_ | refine W.exit ?_ | refine W.ret ?_ | refine L.nil ?_ | refine L.p rfl rfl ?_ | refine L.skip rfl ?_)
  refine W.ite rfl (fun h => ?_) (fun h => ?_)
  · have hs : small l = false := by simpa using h
    repeat (first | refine W.seq ?_ | refine W.block ?_ | refine W.reg ?_ | refine W.skip ?_ | refine W.exit ?_ | refine W.ret ?_ | refine L.nil ?_ | refine L.p rfl rfl ?_ | refine L.skip rfl ?_)
    exact ⟨.inr rfl, _, rfl, Hd0, (by unfold toldE; rw [hs]; rfl), by unfold bytesL; rw [if_neg (by rw [hs]; decide)]; exact RetB.nil hc⟩
  have hsm : small l = true := by simpa using h
  clear h
  rename Mem => S1
  have hI1 := hI.cons hc
  have hF := hI1.form
  repeat (first | refine W.seq ?_ | refine W.block ?_ | refine W.reg ?_ | refine W.skip ?_ | refine W.exit ?_ | refine W.ret ?_ | refine L.nil ?_ | refine L.p rfl rfl ?_ | refine L.skip rfl ?_)
  refine L.cl (trim_C a c l _ hI1) rfl rfl ?_
  rintro _ _ ⟨rfl, rfl⟩
  refine ⟨nofun, ?_⟩
  repeat (first | refine W.seq ?_ | refine W.block ?_ | refine W.reg ?_ | refine W.skip ?_ | refine W.exit ?_ | refine W.ret ?_ | refine L.nil ?_ | refine L.p rfl rfl ?_ | refine L.skip rfl ?_)
  refine L.cl (bits_C a c (fm l) _ hF) rfl rfl ?_
  rintro _ S2 ⟨rfl, rfl⟩
  refine ⟨nofun, ?_⟩
  have hn : wnum (fm l) = wnum l := wnum_toW _
  have hcan : Canon (fm l) := canon_toW _
  obtain ⟨f, hf⟩ : ∃ f, f = fm l := ⟨_, rfl⟩
  rw [← hf] at hF hn hcan ⊢
  have hb : blen (wnum l) ≤ 8192 := by
    have := wnum_lt f
    rw [hn] at this
    have h8 := blen_le.2 this
    clear this
    have h9 : (fm l).length ≤ 128 := of_decide_eq_true hsm
    rw [← hf] at h9; omega
  clear hf
  rw [hn]
  have hq := up8 (n := blen (wnum l)) (by omega)
  obtain ⟨N, hN⟩ : ∃ N, N = wnum l := ⟨_, rfl⟩
  have hbL : bytesL l = toB N := by unfold bytesL; rw [if_pos hsm, hN]
  have htE : toldE l = 0 := by unfold toldE; rw [if_pos hsm]
  rw [← hN] at hq hb hn ⊢
  rw [show (blen N + 7) / 8 = bsz N from rfl] at hq
  have hbz : bsz N ≤ 1024 := by unfold bsz; omega
  repeat (first | refine W.seq ?_ | refine W.block ?_ | refine W.reg ?_ | refine W.skip ?_ | refine W.exit ?_ | refine W.ret ?_ | refine L.nil ?_ | refine L.p rfl rfl ?_ | refine L.skip rfl ?_)
  refine L.mk (n := bsz N) (m := bsz N) (bytes := 1) (zv := v8 0#8) rfl rfl hq rfl hq (Nat.le_refl _) (by omega) rfl rfl ?_
  have hr : Mem.row? (S2 ++ [newR (List.replicate (bsz N) (v8 0#8)) 5]) S2.length = some (newR (List.replicate (bsz N) (v8 0#8)) 5) := row_push_new rfl
  have hc2 : Cons S2 (S2 ++ [newR (List.replicate (bsz N) (v8 0#8)) 5]) := Cons.push _ _
  generalize S2 ++ [newR (List.replicate (bsz N) (v8 0#8)) 5] = S3 at *
  obtain ⟨ro, hro⟩ : ∃ ro, ro = S2.length := ⟨_, rfl⟩
  rw [← hro] at hr ⊢
  repeat (first | refine W.seq ?_ | refine W.block ?_ | refine W.reg ?_ | refine W.skip ?_ | refine W.exit ?_ | refine W.ret ?_ | refine L.nil ?_ | refine L.p rfl rfl ?_ | refine L.skip rfl ?_)
  refine W.loop (fun j e T => ∃ (i : Nat) (o : BL), j = bsz N - i ∧ i ≤ bsz N ∧ e 0 = .slice a f.length c ∧ e 4 = .slice (some ⟨ro, 0, none⟩) (bsz N) (bsz N) ∧ e 19 = vi (bsz N) ∧ e 20 = vi i ∧
      Cons S2 T ∧ T.row? ro = some (newR (bv o) 5) ∧ o.length = bsz N ∧ o.take i = (toB N).take i) (bsz N)
    ⟨0, List.replicate (bsz N) 0#8, by omega, by omega, rfl, rfl, rfl, rfl, hc2, by rw [hr]; simp [bv], by simp, rfl⟩ ?_
  clear hr hc2
  rintro j e T ⟨i, o, rfl, hi, e0, e4, e19, e20, hcT, hr, ho, htk⟩
  refine W.env4 e0 e4 e19 e20 ?_
  repeat (first | refine W.seq ?_ | refine W.block ?_ | refine W.reg ?_ | refine W.skip ?_ | refine W.exit ?_ | refine W.ret ?_ | refine L.nil ?_ | refine L.p rfl rfl ?_ | refine L.skip rfl ?_)
  refine W.ite rfl (fun h => ?_) (fun h => ?_)
  · have hin : i < bsz N := by have := of_decide_eq_true h; omega
    clear h
    obtain ⟨k, hk⟩ : ∃ k, k = bsz N - 1 - i := ⟨_, rfl⟩
    have hkf : k / 8 < f.length := limb_in hcan (by rw [hn]; omega)
    obtain ⟨x, hx⟩ : ∃ x, f[k / 8]? = some x := ⟨_, List.getElem?_eq_getElem hkf⟩
    have hby := byte_limb hx
    rw [hn] at hby
    have e1 : IntKind.i64.wrap (IntKind.i64.wrap ((bsz N : Int) - 1) - (i : Int)) = (k : Int) := by
      rw [wrap64 (x := (bsz N : Int) - 1) (by omega) (by omega), wrap64 (by omega) (by omega)]; omega
    have e2 : IntKind.i64.wrap (Int.tdiv (k : Int) 8) = ((k / 8 : Nat) : Int) := by
      rw [show Int.tdiv (k : Int) 8 = ((k / 8 : Nat) : Int) from (Int.ofNat_tdiv k 8).symm, wrap64 (by omega) (by omega)]
    have e3 : IntKind.i64.wrap (8 * Int.tmod (k : Int) 8) = ((8 * (k % 8) : Nat) : Int) := by
      rw [show Int.tmod (k : Int) 8 = ((k % 8 : Nat) : Int) from (Int.ofNat_tmod k 8).symm, wrap64 (by omega) (by omega)]; omega
    repeat (first | refine W.seq ?_ | refine W.block ?_ | refine W.reg ?_ | refine W.skip ?_ | refine W.exit ?_ | refine W.ret ?_ | refine L.nil ?_ | refine L.p rfl rfl ?_ | refine L.skip rfl ?_)
    rw [e1]
    refine L.el (hF.cons hcT).1 e2 (wv_get hx) rfl rfl rfl rfl (fun _ => rfl) rfl (fun p => ?_)
    repeat (first | refine W.seq ?_ | refine W.block ?_ | refine W.reg ?_ | refine W.skip ?_ | refine W.exit ?_ | refine W.ret ?_ | refine L.nil ?_ | refine L.p rfl rfl ?_ | refine L.skip rfl ?_)
    refine L.shr (8 * (k % 8)) rfl rfl e3 (by rw [bits_u64]; omega) rfl ?_
    repeat (first | refine W.seq ?_ | refine W.block ?_ | refine W.reg ?_ | refine W.skip ?_ | refine W.exit ?_ | refine W.ret ?_ | refine L.nil ?_ | refine L.p rfl rfl ?_ | refine L.skip rfl ?_)
    refine L.elst hr rfl (by show 0 + _ ≤ (bv o).length; rw [bv_len, ho]; omega) rfl hin rfl rfl rfl rfl (fun _ => rfl) (fun _ => rfl) rfl rfl rfl (fun p => ?_)
    repeat (first | refine W.seq ?_ | refine W.block ?_ | refine W.reg ?_ | refine W.skip ?_ | refine W.exit ?_ | refine W.ret ?_ | refine L.nil ?_ | refine L.p rfl rfl ?_ | refine L.skip rfl ?_)
    rw [fdiv_shr, u8_of_v64, hby, Nat.zero_add]
    refine ⟨bsz N - (i + 1), by omega, i + 1, o.set i (byteAt N k), rfl, by omega, rfl, rfl, rfl, ?_, hcT.set _ _ (by omega), ?_, by simpa using ho, ?_⟩
    · refine (force_eq rfl).trans ?_
      rw [wrap64 (by omega) (by omega)]; rfl
    · rw [row_set_same hr rfl]
      simp only [newR, bv, List.map_set]
    · rw [List.take_add_one, List.take_set_of_le (Nat.le_refl i), htk, List.getElem?_set_self (by omega), List.take_add_one]
      congr 1
      unfold toB
      rw [List.getElem?_map, List.getElem?_range hin, hk]; rfl
  · have hin : i = bsz N := by have := of_decide_eq_false h; omega
    subst hin
    have hoB : o = toB N := by
      rw [List.take_of_length_le (by omega), List.take_of_length_le (by rw [toB_len]; omega)] at htk
      exact htk
    repeat (first | refine W.seq ?_ | refine W.block ?_ | refine W.reg ?_ | refine W.skip ?_ | refine W.exit ?_ | refine W.ret ?_ | refine L.nil ?_ | refine L.p rfl rfl ?_ | refine L.skip rfl ?_)
    refine ⟨.inr rfl, _, rfl, ⟨some ro, bsz N, bsz N⟩, by rw [htE]; rfl, hc.trans hcT, ?_, ?_, ?_⟩
    · rw [hbL, toB_len]; omega
    · rw [hbL, ← hoB]
      exact HdOk.full hr rfl (by rw [bv_len, ho]) (by show (bv o).take _ = _; exact List.take_of_length_le (by rw [bv_len, ho]; exact Nat.le_refl _)) (by unfold UNK; omega)
    · rintro b' ⟨⟩
      have := hc.len; omega
end Go.Proofs.Ytccdlijohkljcaa

/- slices.Grow of nothing, slices.Concat, on bytes. Conditions: none. -/
set_option linter.unusedSimpArgs false
set_option linter.unusedVariables false
set_option maxRecDepth 100000
namespace Go.Proofs.Ytccdlijohkljcaa
open Go
variable {G : Nat} {Ext : FuncId → List Value → Mem → Outc → Mem → Prop}

/-- an append where there is room -/
theorem app_room {P : Program} {ts xs : TypeId} {el : TypeId} {bytes b m n T : Nat} {S : Mem} {x : Value} {l news z : List Value} (hok : appOk P ts xs = some (el, 1, bytes)) (hr : S.row? b = some (grownR (l ++ z) el 1)) (hl : l.length = n)
    (hx : firstOf S 1 m x = some news) (hm : lenOf' x = some m) (hnews : news.length = m) (h1 : news.all oneCell = true) (hT : (l ++ z).length = T) (hroom : n + m ≤ T) :
    ∃ S', aappend P ts xs (.slice (some ⟨b, 0, none⟩) n (UNK + T)) x S = some (.slice (some ⟨b, 0, none⟩) (n + m) (UNK + T), S') ∧ S'.row? b = some (grownR (l ++ news ++ z.drop m) el 1) ∧ KeepL [b] S S' := by
  obtain ⟨dx, i, zz, hu1, hu2, hi, hd, hz, hzz1, hzz2, hsz, rfl⟩ := appOk_some hok
  have hcond : ¬ (zz.cells.size ≠ i.size ∨ ¬ zz.cells.toList.all scalar = true) := fun h => h.elim (fun h => h hzz1) (fun h => h hzz2)
  have hf : firstOf S 1 n (.slice (some ⟨b, 0, none⟩) n (UNK + T)) = some l := by
    have hs : Slv S 1 (.slice (some ⟨b, 0, none⟩) n (UNK + T)) n (((l ++ z).drop 0).take (n * 1)) := Slv.of (o := 0) hr (by show 0 + n * 1 ≤ (l ++ z).length; omega) (.inl rfl)
    rw [List.drop_zero, Nat.mul_one, List.take_left' hl] at hs
    have := hs.first (Nat.le_refl n)
    rwa [List.take_of_length_le (by omega)] at this
  rw [aappend_eq hu1 hu2 hi hd hz hm, hsz]
  simp only [hx, hf, Option.bind_some]
  rw [hsz] at hcond
  rw [if_neg hcond, if_pos (by rw [knownCap_unk]; exact hroom)]
  by_cases h0 : news = []
  · subst h0
    have hm0 : m = 0 := by simpa using hnews.symm
    subst hm0
    rw [if_pos rfl]
    exact ⟨S, rfl, by simpa using hr, KeepL.refl _ _⟩
  · rw [if_neg h0, add_one, Nat.zero_add]
    have hw := write_of (S := S) (b := b) (o := n) (l := news) hr rfl (by show n + news.length ≤ (l ++ z).length; omega) h1
    rw [hw]
    refine ⟨_, rfl, ?_, ⟨by simp, fun r h2 h3 => by rw [List.getElem?_set, if_neg (fun h => h3 (by simp [h]))]⟩⟩
    rw [row_set_same hr rfl]
    refine congrArg some ?_
    show grownR (putFrom (l ++ z) n news) el 1 = _
    congr 1
    unfold putFrom
    rw [List.take_left' hl, List.drop_append, hl, show n + news.length - n = m by omega, List.drop_of_length_le (l := l) (by omega)]
    rfl
theorem aeff_appendZ {P : Program} {S : Mem} {ts xs : TypeId} {s x : Operand} {o : Oper} {ev : Operand → Value} {c : Call} {r : Value × Mem} (ho : o.op = .call c) (hc : c = ⟨.builtin .append, #[s, x], #[ts, xs]⟩) (h0 : aappend P ts xs (ev s) (ev x) S = none)
    (h : aappendZ P ts xs (ev s) (ev x) S = some r) : aeff P o ev S = some r := by
  subst hc
  simp [aeff, ho, h0, h]
theorem zeroBytes (n : Nat) : zeroList #[v8 0#8] (n * 1) = bv (List.replicate n 0#8) := by
  unfold zeroList bv
  rw [Nat.mul_one, List.map_replicate]
  refine List.ext_getElem (by simp) fun i h1 h2 => ?_
  simp only [List.getElem_map, List.getElem_range, List.getElem_replicate]
  show (#[v8 0#8] : Array Value)[i % 1]! = v8 0#8
  rw [Nat.mod_one]
  rfl
theorem growZ (n : Nat) (h0 : 0 < n) (hn : n ≤ 1099511627776) (S : Mem) : aappendZ Try.prog 22 3 (.slice none 0 0) (.int .i64 (n : Int)) S = some (.slice (some ⟨S.length, 0, none⟩) (0 + n) (UNK + (0 + n)), S ++ [grownR (bv (List.replicate n 0#8)) 5 1]) := by
  have h1 : aappendZ Try.prog 22 3 (.slice none 0 0) (.int .i64 (n : Int)) S = if (0 < UNK ∧ (1 : Nat) = 1 ∧ true = true ∧ 0 < n * 1 ∧ ¬ 0 + n ≤ 0 ∧ roomy (0 + n) 1 ∧ ([] : List Value).length = 0 * 1) then
      some (.slice (some ⟨S.length, 0, none⟩) (0 + n) (UNK + (0 + n)), S ++ [grownR ([] ++ zeroList #[v8 0#8] (n * 1)) 5 1]) else none := rfl
  rw [h1, if_pos ⟨by unfold UNK; omega, rfl, rfl, by omega, by omega, by unfold roomy; omega, rfl⟩, zeroBytes]
  rfl
theorem grow_C (n : Nat) (h0 : 0 < n) (hn : n ≤ 1099511627776) (S : Mem) : C Try.prog G Ext 60 [.slice none 0 0, .int .i64 (n : Int)] S fun v S' => v = .slice (some ⟨S.length, 0, none⟩) 0 (UNK + n) ∧ S' = S ++ [grownR (bv (List.replicate n 0#8)) 5 1] := by
  refine C.fn Try.func60 rfl (by kernel_rfl) rfl ?_
  repeat (first | refine W.seq ?_ | refine W.block ?_ | refine W.reg ?_ | refine W.skip ?_ | refine W.exit ?_ | refine W.ret ?_ | refine L.nil ?_ | refine L.p rfl rfl ?_ | refine L.skip rfl ?_)
  refine W.ite rfl (fun h => ?_) (fun h => ?_)
  · have := of_decide_eq_true h; omega
  clear h
  repeat (first | refine W.seq ?_ | refine W.block ?_ | refine W.reg ?_ | refine W.skip ?_ | refine W.exit ?_ | refine W.ret ?_ | refine L.nil ?_ | refine L.p rfl rfl ?_ | refine L.skip rfl ?_)
  have e1 : IntKind.i64.wrap ((n : Int) - IntKind.i64.wrap (((0 : Nat) : Int) - ((0 : Nat) : Int))) = (n : Int) := by
    rw [show IntKind.i64.wrap (((0 : Nat) : Int) - ((0 : Nat) : Int)) = 0 by decide, wrap64 (by omega) (by omega)]; omega
  rw [e1]
  refine W.ite rfl (fun h => ?_) (fun h => ?_)
  rotate_left
  · have := of_decide_eq_false h; omega
  clear h
  repeat (first | refine W.seq ?_ | refine W.block ?_ | refine W.reg ?_ | refine W.skip ?_ | refine W.exit ?_ | refine W.ret ?_ | refine L.nil ?_ | refine L.p rfl rfl ?_ | refine L.skip rfl ?_)
  refine L.eff (v := .slice (some ⟨S.length, 0, none⟩) (0 + n) (UNK + (0 + n))) (S1 := S ++ [grownR (bv (List.replicate n 0#8)) 5 1]) rfl ?_ ?_
  · exact aeff_appendZ rfl rfl rfl (growZ n h0 hn S)
  repeat (first | refine W.seq ?_ | refine W.block ?_ | refine W.reg ?_ | refine W.skip ?_ | refine W.exit ?_ | refine W.ret ?_ | refine L.nil ?_ | refine L.p rfl rfl ?_ | refine L.skip rfl ?_)
  refine L.is (.slice (some ⟨S.length, 0, none⟩) 0 (UNK + (0 + n))) ?_ rfl ?_
  · refine (slice_at0 rfl rfl rfl).trans ?_
    refine (aslice_at (k := 0) (h := 0) (.inl ⟨rfl, rfl⟩) (.inr ⟨.i64, rfl⟩) (Nat.le_refl _) (Nat.zero_le _)).trans ?_
    rw [if_neg (by omega)]
    dsimp only
    rw [if_pos (.inl rfl), knownCap_unk]
    rfl
  repeat (first | refine W.seq ?_ | refine W.block ?_ | refine W.reg ?_ | refine W.skip ?_ | refine W.exit ?_ | refine W.ret ?_ | refine L.nil ?_ | refine L.p rfl rfl ?_ | refine L.skip rfl ?_)
  refine ⟨.inr rfl, _, rfl, ?_, rfl⟩
  refine (force_eq rfl).trans ?_
  rw [Nat.zero_add]
/-- parts to be joined -/
def Parts (S : Mem) (vs : List Value) (ps : List BL) : Prop := vs.length = ps.length ∧ ∀ (i : Nat) (l : BL), ps[i]? = some l → ∃ a c, vs[i]? = some (.slice a l.length c) ∧ Slv S 1 (.slice a l.length c) l.length (bv l)
theorem Parts.cons {S S' : Mem} {vs : List Value} {ps : List BL} (h : Parts S vs ps) (k : Cons S S') : Parts S' vs ps := ⟨h.1, fun i l hl => let ⟨a, c, h1, h2⟩ := h.2 i l hl; ⟨a, c, h1, h2.cons k⟩⟩
theorem flat_step {ps : List BL} {i : Nat} {l : BL} (h : ps[i]? = some l) : (ps.take (i + 1)).flatten = (ps.take i).flatten ++ l := by
  rw [List.take_add_one, h]; simp
theorem flat_le (ps : List BL) (i : Nat) : (ps.take i).flatten.length ≤ ps.flatten.length := by
  have : ps.flatten = (ps.take i).flatten ++ (ps.drop i).flatten := by rw [← List.flatten_append, List.take_append_drop]
  rw [this, List.length_append]; omega
theorem concat_C (a : Option Addr) (c : Nat) (vs : List Value) (ps : List BL) (S : Mem) (hv : Slv S 1 (.slice a ps.length c) ps.length vs) (hp : Parts S vs ps) (h0 : 0 < ps.flatten.length) (hn : ps.flatten.length < 1099511627776) (hk : ps.length < 1099511627776) :
    C Try.prog G Ext 45 [.slice a ps.length c] S fun v S' => ∃ d : Hd, v = d.v ∧ RetB S S' d ps.flatten := by
  refine C.fn Try.func45 rfl (by kernel_rfl) rfl ?_
  repeat (first | refine W.seq ?_ | refine W.block ?_ | refine W.reg ?_ | refine W.skip ?_ | refine W.exit ?_ | refine W.ret ?_ | refine L.nil ?_ | refine L.p rfl rfl ?_ | refine L.skip rfl ?_)
  refine W.loop (fun j e T => ∃ i, j = ps.length - i ∧ i ≤ ps.length ∧ S = T ∧ e 0 = .slice a ps.length c ∧ e 3 = vi (ps.take i).flatten.length ∧ e 9 = .slice a ps.length c ∧ e 10 = vi ps.length ∧ e 11 = vi i) ps.length
    ⟨0, by omega, by omega, rfl, rfl, rfl, rfl, rfl, rfl⟩ ?_
  rintro j e T ⟨i, rfl, hi, rfl, e0, e3, e9, e10, e11⟩
  refine W.env5 e0 e3 e9 e10 e11 ?_
  have hle := flat_le ps i
  repeat (first | refine W.seq ?_ | refine W.block ?_ | refine W.reg ?_ | refine W.skip ?_ | refine W.exit ?_ | refine W.ret ?_ | refine L.nil ?_ | refine L.p rfl rfl ?_ | refine L.skip rfl ?_)
  refine W.ite rfl (fun h => ?_) (fun h => ?_)
  · have hin : i < ps.length := by have := of_decide_eq_true h; omega
    clear h
    obtain ⟨l, hl⟩ : ∃ l, ps[i]? = some l := ⟨_, List.getElem?_eq_getElem hin⟩
    obtain ⟨a1, c1, hv1, hs1⟩ := hp.2 i l hl
    have hst := flat_step hl
    have hle2 := flat_le ps (i + 1)
    rw [hst, List.length_append] at hle2
    repeat (first | refine W.seq ?_ | refine W.block ?_ | refine W.reg ?_ | refine W.skip ?_ | refine W.exit ?_ | refine W.ret ?_ | refine L.nil ?_ | refine L.p rfl rfl ?_ | refine L.skip rfl ?_)
    refine L.el hv rfl hv1 rfl rfl rfl rfl (fun _ => rfl) rfl (fun p => ?_)
    repeat (first | refine W.seq ?_ | refine W.block ?_ | refine W.reg ?_ | refine W.skip ?_ | refine W.exit ?_ | refine W.ret ?_ | refine L.nil ?_ | refine L.p rfl rfl ?_ | refine L.skip rfl ?_)
    rw [show IntKind.i64.wrap (((ps.take i).flatten.length : Int) + (l.length : Int)) = (((ps.take i).flatten.length + l.length : Nat) : Int) by rw [wrap64 (by omega) (by omega)]; rfl]
    repeat (first | refine W.seq ?_ | refine W.block ?_ | refine W.reg ?_ | refine W.skip ?_ | refine W.exit ?_ | refine W.ret ?_ | refine L.nil ?_ | refine L.p rfl rfl ?_ | refine L.skip rfl ?_)
    refine W.ite rfl (fun h => ?_) (fun h => ?_)
    · have := of_decide_eq_true h; omega
    clear h
    repeat (first | refine W.seq ?_ | refine W.block ?_ | refine W.reg ?_ | refine W.skip ?_ | refine W.exit ?_ | refine W.ret ?_ | refine L.nil ?_ | refine L.p rfl rfl ?_ | refine L.skip rfl ?_)
    refine ⟨ps.length - (i + 1), by omega, i + 1, rfl, by omega, rfl, rfl, ?_, rfl, rfl, ?_⟩
    · refine (force_eq rfl).trans ?_
      rw [hst, List.length_append]
    · refine (force_eq rfl).trans ?_
      rw [wrap64 (by omega) (by omega)]; rfl
  have hin : i = ps.length := by have := of_decide_eq_false h; omega
  subst hin
  clear h hle
  rw [List.take_length]
  obtain ⟨n, hnn⟩ : ∃ n, n = ps.flatten.length := ⟨_, rfl⟩
  rw [← hnn] at h0 hn ⊢
  repeat (first | refine W.seq ?_ | refine W.block ?_ | refine W.reg ?_ | refine W.skip ?_ | refine W.exit ?_ | refine W.ret ?_ | refine L.nil ?_ | refine L.p rfl rfl ?_ | refine L.skip rfl ?_)
  refine L.cl (grow_C n h0 (by omega) S) rfl rfl ?_
  rintro _ _ ⟨rfl, rfl⟩
  refine ⟨nofun, ?_⟩
  have hc1 : Cons S (S ++ [grownR (bv (List.replicate n 0#8)) 5 1]) := Cons.push _ _
  have hr1 : Mem.row? (S ++ [grownR (bv (List.replicate n 0#8)) 5 1]) S.length = some (grownR (bv (List.replicate n 0#8)) 5 1) := row_push_new rfl
  generalize S ++ [grownR (bv (List.replicate n 0#8)) 5 1] = S1 at *
  repeat (first | refine W.seq ?_ | refine W.block ?_ | refine W.reg ?_ | refine W.skip ?_ | refine W.exit ?_ | refine W.ret ?_ | refine L.nil ?_ | refine L.p rfl rfl ?_ | refine L.skip rfl ?_)
  refine W.loop (fun j e T => ∃ i z, j = ps.length - i ∧ i ≤ ps.length ∧ Cons S T ∧ e 6 = .slice (some ⟨S.length, 0, none⟩) (ps.take i).flatten.length (UNK + n) ∧ e 25 = .slice a ps.length c ∧ e 26 = vi ps.length ∧ e 27 = vi i ∧
      T.row? S.length = some (grownR (bv (ps.take i).flatten ++ z) 5 1) ∧ (bv (ps.take i).flatten ++ z).length = n) ps.length
    ⟨0, bv (List.replicate n 0#8), by omega, by omega, hc1, rfl, rfl, rfl, rfl, hr1, by simp [bv]⟩ ?_
  clear hr1 hc1 e0 e3 e9 e10 e11
  rintro j e T ⟨i, z, rfl, hi, hc, e6, e25, e26, e27, hr, hz⟩
  refine W.env4 e6 e25 e26 e27 ?_
  have hle := flat_le ps i
  repeat (first | refine W.seq ?_ | refine W.block ?_ | refine W.reg ?_ | refine W.skip ?_ | refine W.exit ?_ | refine W.ret ?_ | refine L.nil ?_ | refine L.p rfl rfl ?_ | refine L.skip rfl ?_)
  refine W.ite rfl (fun h => ?_) (fun h => ?_)
  · have hin : i < ps.length := by have := of_decide_eq_true h; omega
    clear h
    obtain ⟨l, hl⟩ : ∃ l, ps[i]? = some l := ⟨_, List.getElem?_eq_getElem hin⟩
    obtain ⟨a1, c1, hv1, hs1⟩ := hp.2 i l hl
    have hst := flat_step hl
    have hle2 := flat_le ps (i + 1)
    rw [hst, List.length_append] at hle2
    repeat (first | refine W.seq ?_ | refine W.block ?_ | refine W.reg ?_ | refine W.skip ?_ | refine W.exit ?_ | refine W.ret ?_ | refine L.nil ?_ | refine L.p rfl rfl ?_ | refine L.skip rfl ?_)
    refine L.el (hv.cons hc) rfl hv1 rfl rfl rfl rfl (fun _ => rfl) rfl (fun p => ?_)
    repeat (first | refine W.seq ?_ | refine W.block ?_ | refine W.reg ?_ | refine W.skip ?_ | refine W.exit ?_ | refine W.ret ?_ | refine L.nil ?_ | refine L.p rfl rfl ?_ | refine L.skip rfl ?_)
    have hs2 := hs1.cons hc
    obtain ⟨T1, q1, q2, q3⟩ := app_room (P := Try.prog) (ts := 22) (xs := 22) (x := .slice a1 l.length c1) (m := l.length) (n := (ps.take i).flatten.length) (T := n) rfl hr (bv_len _)
      (by have := hs2.first (Nat.le_refl _); rwa [Nat.mul_one, List.take_of_length_le (by rw [bv_len]; exact Nat.le_refl _)] at this) rfl (bv_len _) (bv_one _) hz (by omega)
    refine L.eff (v := .slice (some ⟨S.length, 0, none⟩) ((ps.take i).flatten.length + l.length) (UNK + n)) (S1 := T1) rfl (aeff_append rfl rfl q1) ?_
    repeat (first | refine W.seq ?_ | refine W.block ?_ | refine W.reg ?_ | refine W.skip ?_ | refine W.exit ?_ | refine W.ret ?_ | refine L.nil ?_ | refine L.p rfl rfl ?_ | refine L.skip rfl ?_)
    refine ⟨ps.length - (i + 1), by omega, i + 1, z.drop l.length, rfl, by omega, q3.cons0 hc (fun b hb => by simp at hb; omega), ?_, rfl, rfl, ?_, ?_, ?_⟩
    · refine (force_eq rfl).trans ?_
      rw [hst, List.length_append]
    · refine (force_eq rfl).trans ?_
      rw [wrap64 (by omega) (by omega)]; rfl
    · rw [q2, hst]; simp [bv]
    · rw [hst]
      simp only [List.length_append, bv_len, List.length_drop] at hz ⊢
      omega
  have hin : i = ps.length := by have := of_decide_eq_false h; omega
  subst hin
  clear h hle
  rw [List.take_length] at hr hz ⊢
  have hz0 : z = [] := by
    rw [List.length_append, bv_len, ← hnn] at hz
    exact List.length_eq_zero_iff.1 (by omega)
  rw [hz0, List.append_nil] at hr
  repeat (first | refine W.seq ?_ | refine W.block ?_ | refine W.reg ?_ | refine W.skip ?_ | refine W.exit ?_ | refine W.ret ?_ | refine L.nil ?_ | refine L.p rfl rfl ?_ | refine L.skip rfl ?_)
  refine ⟨.inr rfl, _, rfl, ⟨some S.length, n, UNK + n⟩, ?_, hc, by omega, HdOk.grown hr (by rw [bv_len, hnn]), by rintro b' ⟨⟩; exact Nat.le_refl _⟩
  refine (force_eq rfl).trans ?_
  rw [hnn]; rfl
end Go.Proofs.Ytccdlijohkljcaa

/- Layer 7: an item's bytes are laid out. Conditions: none. -/
set_option linter.unusedSimpArgs false
set_option linter.unusedVariables false
set_option maxRecDepth 100000
namespace Go.Proofs.Ytccdlijohkljcaa
open Go
variable {G : Nat} {Ext : FuncId → List Value → Mem → Outc → Mem → Prop}

/-- an item's bytes -/
def laidS (tag : BitVec 8) (l : BL) : BL := if l.length < 128 then tag :: BitVec.ofNat 8 l.length :: l else tag :: BitVec.ofNat 8 (128 + (toB l.length).length) :: (toB l.length ++ l)
theorem laidS_len (tag : BitVec 8) (l : BL) : (laidS tag l).length ≤ l.length + 2 + (toB l.length).length := by
  unfold laidS; split <;> simp <;> omega
theorem wrap_of8 (n : Nat) : IntKind.u8.wrap (n : Int) = ((BitVec.ofNat 8 n).toNat : Int) := by
  simp [IntKind.wrap, IntKind.signed, IntKind.bits]
theorem one_slv {S : Mem} {b : Nat} {x : BitVec 8} (hr : S.row? b = some (newR [v8 x] 5)) : Slv S 1 (.slice (some ⟨b, 0, none⟩) 1 1) 1 (bv [x]) := Slv.all hr rfl rfl
theorem Parts.nil (S : Mem) : Parts S [] [] := ⟨rfl, fun i l h => by simp at h⟩
theorem Parts.add {S : Mem} {a : Option Addr} {c n : Nat} {l : BL} {vs : List Value} {ps : List BL} (h : Slv S 1 (.slice a n c) n (bv l)) (hn : n = l.length) (k : Parts S vs ps) : Parts S (.slice a n c :: vs) (l :: ps) := by
  subst hn
  refine ⟨by simp [k.1], fun i m hm => ?_⟩
  cases i with
  | zero => simp at hm; subst hm; exact ⟨a, c, rfl, h⟩
  | succ i => simpa using k.2 i m (by simpa using hm)
theorem toB_lt {n : Nat} (h : n < 1099511627776) : (toB n).length ≤ 5 := by
  rw [toB_len]; unfold bsz
  have : blen n ≤ 40 := blen_le.2 (by omega)
  omega
theorem small1 (x : BitVec 64) : small [x] = true := by
  unfold small
  have : (fm [x]).length ≤ 1 := toW_len_le [x]
  simp; omega
theorem laid_C (tag : BitVec 8) (a : Option Addr) (c : Nat) (l : BL) (S : Mem) (hs : Slv S 1 (.slice a l.length c) l.length (bv l)) (hl : l.length < 549755813888) : C Try.prog G Ext 46 [v8 tag, .slice a l.length c] S fun v S' => ∃ d : Hd, v = d.v ∧ RetB S S' d (laidS tag l) := by
  refine C.fn Try.func46 rfl (by kernel_rfl) rfl ?_
  repeat (first | refine W.seq ?_ | refine W.block ?_ | refine W.reg ?_ | refine W.skip ?_ | refine W.exit ?_ | refine W.ret ?_ | refine L.nil ?_ | refine L.p rfl rfl ?_ | refine L.skip rfl ?_)
  refine L.bs [v8 tag] rfl rfl rfl rfl rfl rfl ?_
  have hcA : Cons S (S ++ [newR [v8 tag] 5]) := Cons.push _ _
  have hrA : Mem.row? (S ++ [newR [v8 tag] 5]) S.length = some (newR [v8 tag] 5) := row_push_new rfl
  generalize S ++ [newR [v8 tag] 5] = SA at *
  have hsA := one_slv hrA
  repeat (first | refine W.seq ?_ | refine W.block ?_ | refine W.reg ?_ | refine W.skip ?_ | refine W.exit ?_ | refine W.ret ?_ | refine L.nil ?_ | refine L.p rfl rfl ?_ | refine L.skip rfl ?_)
  refine W.ite rfl (fun h => ?_) (fun h => ?_)
  · have hlt : l.length < 128 := by have := of_decide_eq_true h; omega
    clear h
    repeat (first | refine W.seq ?_ | refine W.block ?_ | refine W.reg ?_ | refine W.skip ?_ | refine W.exit ?_ | refine W.ret ?_ | refine L.nil ?_ | refine L.p rfl rfl ?_ | refine L.skip rfl ?_)
    rw [wrap_of8]
    refine L.bs [v8 (BitVec.ofNat 8 l.length)] rfl rfl rfl rfl rfl rfl ?_
    have hcB : Cons SA (SA ++ [newR [v8 (BitVec.ofNat 8 l.length)] 5]) := Cons.push _ _
    have hrB : Mem.row? (SA ++ [newR [v8 (BitVec.ofNat 8 l.length)] 5]) SA.length = some (newR [v8 (BitVec.ofNat 8 l.length)] 5) := row_push_new rfl
    generalize SA ++ [newR [v8 (BitVec.ofNat 8 l.length)] 5] = SB at *
    have hsB := one_slv hrB
    repeat (first | refine W.seq ?_ | refine W.block ?_ | refine W.reg ?_ | refine W.skip ?_ | refine W.exit ?_ | refine W.ret ?_ | refine L.nil ?_ | refine L.p rfl rfl ?_ | refine L.skip rfl ?_)
    refine L.bs [.slice (some ⟨S.length, 0, none⟩) 1 1, .slice (some ⟨SA.length, 0, none⟩) 1 1, .slice a l.length c] rfl rfl rfl rfl rfl rfl ?_
    have hcC : Cons SB (SB ++ [newR [.slice (some ⟨S.length, 0, none⟩) 1 1, .slice (some ⟨SA.length, 0, none⟩) 1 1, .slice a l.length c] 22]) := Cons.push _ _
    have hrC : Mem.row? (SB ++ [newR [.slice (some ⟨S.length, 0, none⟩) 1 1, .slice (some ⟨SA.length, 0, none⟩) 1 1, .slice a l.length c] 22]) SB.length = some (newR [.slice (some ⟨S.length, 0, none⟩) 1 1, .slice (some ⟨SA.length, 0, none⟩) 1 1, .slice a l.length c] 22) := row_push_new rfl
    generalize SB ++ [newR [.slice (some ⟨S.length, 0, none⟩) 1 1, .slice (some ⟨SA.length, 0, none⟩) 1 1, .slice a l.length c] 22] = SC at *
    refine L.cl (concat_C (some ⟨SB.length, 0, none⟩) 3 _ [[tag], [BitVec.ofNat 8 l.length], l] SC (Slv.all hrC rfl rfl) (.add ((hsA.cons hcB).cons hcC) rfl (.add (hsB.cons hcC) rfl (.add (((hs.cons hcA).cons hcB).cons hcC) rfl (.nil _)))) (by simp) (by simp; omega) (by simp)) rfl rfl ?_
    rintro _ S' ⟨d, rfl, hR⟩
    refine ⟨nofun, ?_⟩
    repeat (first | refine W.seq ?_ | refine W.block ?_ | refine W.reg ?_ | refine W.skip ?_ | refine W.exit ?_ | refine W.ret ?_ | refine L.nil ?_ | refine L.p rfl rfl ?_ | refine L.skip rfl ?_)
    refine ⟨.inr rfl, _, rfl, d, rfl, ?_⟩
    unfold laidS
    rw [if_pos hlt]
    have hR2 := ((hR.pre hcC).pre hcB).pre hcA
    rwa [show [[tag], [BitVec.ofNat 8 l.length], l].flatten = tag :: BitVec.ofNat 8 l.length :: l by simp] at hR2
  have hge : ¬ l.length < 128 := by have := of_decide_eq_false h; omega
  clear h
  obtain ⟨x, hx⟩ : ∃ x : BitVec 64, x = BitVec.ofNat 64 l.length := ⟨_, rfl⟩
  have hxn : x.toNat = l.length := by rw [hx, BitVec.toNat_ofNat, Nat.mod_eq_of_lt (by omega)]
  repeat (first | refine W.seq ?_ | refine W.block ?_ | refine W.reg ?_ | refine W.skip ?_ | refine W.exit ?_ | refine W.ret ?_ | refine L.nil ?_ | refine L.p rfl rfl ?_ | refine L.skip rfl ?_)
  rw [show IntKind.u64.wrap (l.length : Int) = (x.toNat : Int) by rw [wrapU64 (by omega) (by omega), hxn]]
  refine L.bs [v64 x] rfl rfl rfl rfl rfl rfl ?_
  have hcB : Cons SA (SA ++ [newR [v64 x] 56]) := Cons.push _ _
  have hrB : Mem.row? (SA ++ [newR [v64 x] 56]) SA.length = some (newR [v64 x] 56) := row_push_new rfl
  generalize SA ++ [newR [v64 x] 56] = SB at *
  have hWB : WIn SB (some ⟨SA.length, 0, none⟩) 1 [x] := ⟨Slv.all hrB rfl rfl, Nat.le_refl 1, nofun, by simp⟩
  repeat (first | refine W.seq ?_ | refine W.block ?_ | refine W.reg ?_ | refine W.skip ?_ | refine W.exit ?_ | refine W.ret ?_ | refine L.nil ?_ | refine L.p rfl rfl ?_ | refine L.skip rfl ?_)
  refine L.cl (natBytes_C (some ⟨SA.length, 0, none⟩) 1 [x] SB hWB) rfl rfl ?_
  rintro _ S1 ⟨d1, rfl, hR1⟩
  refine ⟨nofun, ?_⟩
  have hB1 : bytesL [x] = toB l.length := by unfold bytesL; rw [small1, if_pos rfl]; simp [wnum, hxn]
  have hE1 : toldE [x] = 0 := by unfold toldE; rw [small1, if_pos rfl]
  rw [hB1] at hR1
  rw [hE1]
  repeat (first | refine W.seq ?_ | refine W.block ?_ | refine W.reg ?_ | refine W.skip ?_ | refine W.exit ?_ | refine W.ret ?_ | refine L.nil ?_ | refine L.p rfl rfl ?_ | refine L.skip rfl ?_)
  refine L.fail (so := false) rfl rfl (fun h => ?_) (fun h => ?_)
  · cases h
  clear h
  have hdn : d1.n = (toB l.length).length := by have := hR1.2.2.1.len; rw [bv_len] at this; exact this.symm
  have htl := toB_lt (n := l.length) (by omega)
  repeat (first | refine W.seq ?_ | refine W.block ?_ | refine W.reg ?_ | refine W.skip ?_ | refine W.exit ?_ | refine W.ret ?_ | refine L.nil ?_ | refine L.p rfl rfl ?_ | refine L.skip rfl ?_)
  rw [show IntKind.u8.wrap (IntKind.i64.wrap (128 + (d1.n : Int))) = ((BitVec.ofNat 8 (128 + (toB l.length).length)).toNat : Int) by
    rw [wrap64 (x := 128 + (d1.n : Int)) (by omega) (by omega), show (128 + (d1.n : Int)) = ((128 + (toB l.length).length : Nat) : Int) by omega, wrap_of8]]
  refine L.bs [v8 (BitVec.ofNat 8 (128 + (toB l.length).length))] rfl rfl rfl rfl rfl rfl ?_
  have hcC : Cons S1 (S1 ++ [newR [v8 (BitVec.ofNat 8 (128 + (toB l.length).length))] 5]) := Cons.push _ _
  have hrC : Mem.row? (S1 ++ [newR [v8 (BitVec.ofNat 8 (128 + (toB l.length).length))] 5]) S1.length = some (newR [v8 (BitVec.ofNat 8 (128 + (toB l.length).length))] 5) := row_push_new rfl
  generalize S1 ++ [newR [v8 (BitVec.ofNat 8 (128 + (toB l.length).length))] 5] = SC at *
  have hsC := one_slv hrC
  repeat (first | refine W.seq ?_ | refine W.block ?_ | refine W.reg ?_ | refine W.skip ?_ | refine W.exit ?_ | refine W.ret ?_ | refine L.nil ?_ | refine L.p rfl rfl ?_ | refine L.skip rfl ?_)
  refine L.bs [.slice (some ⟨S.length, 0, none⟩) 1 1, .slice (some ⟨S1.length, 0, none⟩) 1 1, d1.v, .slice a l.length c] rfl rfl rfl rfl rfl rfl ?_
  have hcD : Cons SC (SC ++ [newR [.slice (some ⟨S.length, 0, none⟩) 1 1, .slice (some ⟨S1.length, 0, none⟩) 1 1, d1.v, .slice a l.length c] 22]) := Cons.push _ _
  have hrD : Mem.row? (SC ++ [newR [.slice (some ⟨S.length, 0, none⟩) 1 1, .slice (some ⟨S1.length, 0, none⟩) 1 1, d1.v, .slice a l.length c] 22]) SC.length = some (newR [.slice (some ⟨S.length, 0, none⟩) 1 1, .slice (some ⟨S1.length, 0, none⟩) 1 1, d1.v, .slice a l.length c] 22) := row_push_new rfl
  generalize SC ++ [newR [.slice (some ⟨S.length, 0, none⟩) 1 1, .slice (some ⟨S1.length, 0, none⟩) 1 1, d1.v, .slice a l.length c] 22] = SD at *
  have hA1 := hcB.trans hR1.1
  refine L.cl (concat_C (some ⟨SC.length, 0, none⟩) 4 _ [[tag], [BitVec.ofNat 8 (128 + (toB l.length).length)], toB l.length, l] SD (Slv.all hrD rfl rfl) (.add (((hsA.cons hA1).cons hcC).cons hcD) rfl (.add (hsC.cons hcD) rfl (.add ((hR1.2.2.1.slv.cons hcC).cons hcD) hdn (.add ((((hs.cons hcA).cons hA1).cons hcC).cons hcD) rfl (.nil _))))) (by simp) (by simp; omega) (by simp)) rfl rfl ?_
  rintro _ S' ⟨d, rfl, hR⟩
  refine ⟨nofun, ?_⟩
  repeat (first | refine W.seq ?_ | refine W.block ?_ | refine W.reg ?_ | refine W.skip ?_ | refine W.exit ?_ | refine W.ret ?_ | refine L.nil ?_ | refine L.p rfl rfl ?_ | refine L.skip rfl ?_)
  refine ⟨.inr rfl, _, rfl, d, rfl, ?_⟩
  unfold laidS
  rw [if_neg hge]
  have hR2 := (((hR.pre hcD).pre hcC).pre hA1).pre hcA
  rwa [show [[tag], [BitVec.ofNat 8 (128 + (toB l.length).length)], toB l.length, l].flatten = tag :: BitVec.ofNat 8 (128 + (toB l.length).length) :: (toB l.length ++ l) by simp] at hR2
end Go.Proofs.Ytccdlijohkljcaa

/- Layer 1's reference: numbers out of bytes, bytes out of numbers. Conditions: none. -/
set_option linter.unusedSimpArgs false
set_option linter.unusedVariables false
set_option maxRecDepth 100000
namespace Go.Proofs.Ytccdlijohkljcaa
open Go
variable {G : Nat} {Ext : FuncId → List Value → Mem → Outc → Mem → Prop}

theorem strip0_drop {b : BL} {z : Nat} (h0 : ∀ i, i < z → b[i]? = some 0#8) (hz : z ≤ b.length) (hc : z = b.length ∨ b[z]? ≠ some 0#8) : strip0 b = b.drop z := by
  induction z generalizing b with
  | zero =>
    cases b with
    | nil => rfl
    | cons x b =>
      have hx : x ≠ 0#8 := by
        rcases hc with hc | hc
        · simp at hc
        · simpa using hc
      unfold strip0
      rw [List.dropWhile_cons_of_neg (by simpa using hx)]; rfl
  | succ z ih =>
    cases b with
    | nil => simp at hz
    | cons x b =>
      have hx : x = 0#8 := by simpa using h0 0 (by omega)
      have := ih (b := b) (fun i hi => by simpa using h0 (i + 1) (by omega)) (by simpa using hz) (by rcases hc with hc | hc; exact .inl (by simpa using hc); exact .inr (by simpa using hc))
      unfold strip0 at this ⊢
      rw [List.dropWhile_cons_of_pos (by simp [hx]), this]; rfl
theorem refFrom_C (a : Option Addr) (c : Nat) (b : BL) (S : Mem) (hI : BIn S a c b) : C Try.prog G Ext 52 [.slice a b.length c] S fun v S' => ∃ a' c', v = .tuple #[.slice a' (fromL b).length c', .int .i64 (fromE b)] ∧ Cons S S' ∧ WIn S' a' c' (fromL b) := by
  refine C.fn Try.func52 rfl (by kernel_rfl) rfl ?_
  have hbl := hI.2.2
  repeat (first | refine W.seq ?_ | refine W.block ?_ | refine W.reg ?_ | refine W.skip ?_ | refine W.exit ?_ | refine W.ret ?_ | refine L.nil ?_ | refine L.p rfl rfl ?_ | refine L.skip rfl ?_)
  refine W.loop (fun j e S' => ∃ z : Nat, j = b.length - z ∧ z ≤ b.length ∧ S' = S ∧ e 0 = .slice a b.length c ∧ e 4 = vi z ∧ ∀ i, i < z → b[i]? = some 0#8) b.length ⟨0, by omega, by omega, rfl, rfl, rfl, fun i h => by omega⟩ ?_
  rintro j e S' ⟨z, rfl, hz, rfl, e0, e4, h0⟩
  refine W.env2 e0 e4 ?_
  repeat (first | refine W.seq ?_ | refine W.block ?_ | refine W.reg ?_ | refine W.skip ?_ | refine W.exit ?_ | refine W.ret ?_ | refine L.nil ?_ | refine L.p rfl rfl ?_ | refine L.skip rfl ?_)
  cases hb : decide ((z : Int) < (b.length : Int))
  · have hzl : z = b.length := by have := of_decide_eq_false hb; omega
    clear hb
    have hF : strip0 b = b.drop z := strip0_drop h0 hz (.inl hzl)
    repeat (first | refine W.seq ?_ | refine W.block ?_ | refine W.reg ?_ | refine W.skip ?_ | refine W.exit ?_ | refine W.ret ?_ | refine L.nil ?_ | refine L.p rfl rfl ?_ | refine L.skip rfl ?_)
    refine W.ite rfl (fun h => ?_) (fun h => ?_)
    · cases h
    clear h hzl h0
    have hdl : (b.drop z).length = b.length - z := List.length_drop
    obtain ⟨m, hm⟩ : ∃ m, m = b.drop z := ⟨_, rfl⟩
    rw [← hm] at hF hdl
    repeat (first | refine W.seq ?_ | refine W.block ?_ | refine W.reg ?_ | refine W.skip ?_ | refine W.exit ?_ | refine W.ret ?_ | refine L.nil ?_ | refine L.p rfl rfl ?_ | refine L.skip rfl ?_)
    have e25 : IntKind.i64.wrap ((b.length : Int) - (z : Int)) = (m.length : Int) := by rw [wrap64 (by omega) (by omega)]; omega
    rw [e25]
    refine W.ite rfl (fun h => ?_) (fun h => ?_)
    · have hbig : ¬ m.length ≤ 1024 := by have := of_decide_eq_true h; omega
      repeat (first | refine W.seq ?_ | refine W.block ?_ | refine W.reg ?_ | refine W.skip ?_ | refine W.exit ?_ | refine W.ret ?_ | refine L.nil ?_ | refine L.p rfl rfl ?_ | refine L.skip rfl ?_)
      refine ⟨.inr rfl, _, rfl, none, 0, ?_, Cons.refl _, ?_⟩
      · unfold fromE fromL; rw [hF, if_neg hbig, if_neg hbig]; rfl
      · unfold fromL; rw [hF, if_neg hbig]; exact ⟨Slv.nil _ _ _ _, Nat.zero_le _, fun _ => rfl, by decide⟩
    have hsm : m.length ≤ 1024 := by have := of_decide_eq_false h; omega
    clear h
    repeat (first | refine W.seq ?_ | refine W.block ?_ | refine W.reg ?_ | refine W.skip ?_ | refine W.exit ?_ | refine W.ret ?_ | refine L.nil ?_ | refine L.p rfl rfl ?_ | refine L.skip rfl ?_)
    rw [e25]
    have hq := up8 (n := m.length) (by omega)
    refine L.mk (n := (m.length + 7) / 8) (m := (m.length + 7) / 8) (bytes := 8) (zv := v64 0#64) rfl rfl hq rfl hq (Nat.le_refl _) (by omega) rfl rfl ?_
    have hr : Mem.row? (S' ++ [newR (List.replicate ((m.length + 7) / 8) (v64 0#64)) 56]) S'.length = some (newR (List.replicate ((m.length + 7) / 8) (v64 0#64)) 56) := row_push_new rfl
    have hc : Cons S' (S' ++ [newR (List.replicate ((m.length + 7) / 8) (v64 0#64)) 56]) := Cons.push _ _
    generalize S' ++ [newR (List.replicate ((m.length + 7) / 8) (v64 0#64)) 56] = S1 at *
    obtain ⟨ro, hro⟩ : ∃ ro, ro = S'.length := ⟨_, rfl⟩
    rw [← hro] at hr ⊢
    repeat (first | refine W.seq ?_ | refine W.block ?_ | refine W.reg ?_ | refine W.skip ?_ | refine W.exit ?_ | refine W.ret ?_ | refine L.nil ?_ | refine L.p rfl rfl ?_ | refine L.skip rfl ?_)
    refine W.loop (fun j e T => ∃ (i : Nat) (o : WL), j = m.length - i ∧ i ≤ m.length ∧ e 0 = .slice a b.length c ∧ e 5 = .slice (some ⟨ro, 0, none⟩) ((m.length + 7) / 8) ((m.length + 7) / 8) ∧ e 6 = vi (z + i) ∧
        Cons S' T ∧ T.row? ro = some (newR (wv o) 56) ∧ Laid m i o) m.length
      ⟨0, _, by omega, by omega, rfl, rfl, rfl, hc, by rw [hr]; simp [wv], laid_zero m⟩ ?_
    clear hr hc e0 e4
    rintro j e T ⟨i, o, rfl, hi, e0, e5, e6, hc, hr, hL⟩
    refine W.env3 e0 e5 e6 ?_
    repeat (first | refine W.seq ?_ | refine W.block ?_ | refine W.reg ?_ | refine W.skip ?_ | refine W.exit ?_ | refine W.ret ?_ | refine L.nil ?_ | refine L.p rfl rfl ?_ | refine L.skip rfl ?_)
    refine W.ite rfl (fun h => ?_) (fun h => ?_)
    · have hin : i < m.length := by have := of_decide_eq_true h; omega
      clear h
      obtain ⟨cc, hcc⟩ : ∃ cc, m[i]? = some cc := ⟨_, List.getElem?_eq_getElem hin⟩
      have hbc : b[z + i]? = some cc := by rw [hm, List.getElem?_drop] at hcc; exact hcc
      obtain ⟨x, hx, hL2⟩ := laid_step hL hcc
      obtain ⟨k, hk⟩ : ∃ k, k = m.length - 1 - i := ⟨_, rfl⟩
      rw [← hk] at hx hL2
      have e1 : IntKind.i64.wrap (IntKind.i64.wrap ((b.length : Int) - 1) - ((z + i : Nat) : Int)) = (k : Int) := by
        rw [wrap64 (x := (b.length : Int) - 1) (by omega) (by omega), wrap64 (by omega) (by omega)]; omega
      have e2 : IntKind.i64.wrap (Int.tdiv (k : Int) 8) = ((k / 8 : Nat) : Int) := by
        rw [show Int.tdiv (k : Int) 8 = ((k / 8 : Nat) : Int) from (Int.ofNat_tdiv k 8).symm, wrap64 (by omega) (by omega)]
      have e3 : IntKind.i64.wrap (8 * Int.tmod (k : Int) 8) = ((8 * (k % 8) : Nat) : Int) := by
        rw [show Int.tmod (k : Int) 8 = ((k % 8 : Nat) : Int) from (Int.ofNat_tmod k 8).symm, wrap64 (by omega) (by omega)]; omega
      have hsl : Slv T 1 (.slice (some ⟨ro, 0, none⟩) ((m.length + 7) / 8) ((m.length + 7) / 8)) ((m.length + 7) / 8) (wv o) := Slv.all hr rfl (by rw [wv_len, hL.1, Nat.mul_one])
      have hkl : k / 8 < (m.length + 7) / 8 := by rw [← hL.1]; exact (List.getElem?_eq_some_iff.1 hx).1
      repeat (first | refine W.seq ?_ | refine W.block ?_ | refine W.reg ?_ | refine W.skip ?_ | refine W.exit ?_ | refine W.ret ?_ | refine L.nil ?_ | refine L.p rfl rfl ?_ | refine L.skip rfl ?_)
      rw [e1]
      refine L.el hsl e2 (wv_get hx) rfl rfl rfl rfl (fun _ => rfl) rfl (fun p => ?_)
      repeat (first | refine W.seq ?_ | refine W.block ?_ | refine W.reg ?_ | refine W.skip ?_ | refine W.exit ?_ | refine W.ret ?_ | refine L.nil ?_ | refine L.p rfl rfl ?_ | refine L.skip rfl ?_)
      refine L.el (hI.cons hc).1 rfl (bv_get hbc) rfl rfl rfl rfl (fun _ => rfl) rfl (fun p => ?_)
      repeat (first | refine W.seq ?_ | refine W.block ?_ | refine W.reg ?_ | refine W.skip ?_ | refine W.exit ?_ | refine W.ret ?_ | refine L.nil ?_ | refine L.p rfl rfl ?_ | refine L.skip rfl ?_)
      refine L.shl (8 * (k % 8)) rfl rfl e3 (by rw [bits_u64]; omega) rfl ?_
      repeat (first | refine W.seq ?_ | refine W.block ?_ | refine W.reg ?_ | refine W.skip ?_ | refine W.exit ?_ | refine W.ret ?_ | refine L.nil ?_ | refine L.p rfl rfl ?_ | refine L.skip rfl ?_)
      refine L.elst hr rfl (by show 0 + _ ≤ (wv o).length; rw [wv_len, hL.1]; omega) e2 hkl rfl rfl rfl rfl (fun _ => rfl) (fun _ => rfl) rfl rfl rfl (fun p => ?_)
      repeat (first | refine W.seq ?_ | refine W.block ?_ | refine W.reg ?_ | refine W.skip ?_ | refine W.exit ?_ | refine W.ret ?_ | refine L.nil ?_ | refine L.p rfl rfl ?_ | refine L.skip rfl ?_)
      refine ⟨m.length - (i + 1), by omega, i + 1, _, rfl, by omega, rfl, rfl, ?_, hc.set _ _ (by omega), ?_, hL2⟩
      · refine (force_eq rfl).trans ?_
        rw [wrap64 (by omega) (by omega)]; rfl
      · rw [row_set_same hr rfl, Nat.zero_add]
        rw [or_shl]
        simp only [newR, wv, List.map_set]
    have hin : i = m.length := by have := of_decide_eq_false h; omega
    subst hin
    clear h
    have hfin : fm o = toW (bnum b) := by rw [← bnum_strip0 b, hF]; exact laid_any hL
    have hW : WIn T (some ⟨ro, 0, none⟩) ((m.length + 7) / 8) o := by
      refine ⟨?_, ?_, nofun, by rw [hL.1]; omega⟩
      · rw [hL.1]; exact Slv.all hr rfl (by rw [wv_len, hL.1, Nat.mul_one])
      · rw [hL.1]; unfold knownCap; rw [if_pos (by unfold UNK; omega)]; exact Nat.le_refl _
    repeat (first | refine W.seq ?_ | refine W.block ?_ | refine W.reg ?_ | refine W.skip ?_ | refine W.exit ?_ | refine W.ret ?_ | refine L.nil ?_ | refine L.p rfl rfl ?_ | refine L.skip rfl ?_)
    refine L.cl (strip_C _ _ o T hW) rfl (by rw [hL.1]; rfl) ?_
    rintro _ _ ⟨rfl, rfl⟩
    refine ⟨nofun, ?_⟩
    repeat (first | refine W.seq ?_ | refine W.block ?_ | refine W.reg ?_ | refine W.skip ?_ | refine W.exit ?_ | refine W.ret ?_ | refine L.nil ?_ | refine L.p rfl rfl ?_ | refine L.skip rfl ?_)
    refine ⟨.inr rfl, _, rfl, some ⟨ro, 0, none⟩, (m.length + 7) / 8, ?_, hc, ?_⟩
    · unfold fromE fromL; rw [hF, if_pos hsm, if_pos hsm, ← hfin]; rfl
    · unfold fromL; rw [hF, if_pos hsm, ← hfin]; exact hW.form
  have hzl : z < b.length := by have := of_decide_eq_true hb; omega
  clear hb
  obtain ⟨x, hx⟩ : ∃ x, b[z]? = some x := ⟨_, List.getElem?_eq_getElem hzl⟩
  repeat (first | refine W.seq ?_ | refine W.block ?_ | refine W.reg ?_ | refine W.skip ?_ | refine W.exit ?_ | refine W.ret ?_ | refine L.nil ?_ | refine L.p rfl rfl ?_ | refine L.skip rfl ?_)
  refine L.el hI.1 rfl (bv_get hx) rfl rfl rfl rfl (fun _ => rfl) rfl (fun p => ?_)
  repeat (first | refine W.seq ?_ | refine W.block ?_ | refine W.reg ?_ | refine W.skip ?_ | refine W.exit ?_ | refine W.ret ?_ | refine L.nil ?_ | refine L.p rfl rfl ?_ | refine L.skip rfl ?_)
  cases hx0 : (x == 0#8)
  · rw [show ((x.toNat : Int) == 0) = false by rw [v8_eq0]; exact hx0]
    have hF : strip0 b = b.drop z := strip0_drop h0 hz (.inr (by rw [hx]; simpa using hx0))
    repeat (first | refine W.seq ?_ | refine W.block ?_ | refine W.reg ?_ | refine W.skip ?_ | refine W.exit ?_ | refine W.ret ?_ | refine L.nil ?_ | refine L.p rfl rfl ?_ | refine L.skip rfl ?_)
    refine W.ite rfl (fun h => ?_) (fun h => ?_)
    · cases h
    clear h h0 hx0
    have hdl : (b.drop z).length = b.length - z := List.length_drop
    obtain ⟨m, hm⟩ : ∃ m, m = b.drop z := ⟨_, rfl⟩
    rw [← hm] at hF hdl
    repeat (first | refine W.seq ?_ | refine W.block ?_ | refine W.reg ?_ | refine W.skip ?_ | refine W.exit ?_ | refine W.ret ?_ | refine L.nil ?_ | refine L.p rfl rfl ?_ | refine L.skip rfl ?_)
    have e25 : IntKind.i64.wrap ((b.length : Int) - (z : Int)) = (m.length : Int) := by rw [wrap64 (by omega) (by omega)]; omega
    rw [e25]
    refine W.ite rfl (fun h => ?_) (fun h => ?_)
    · have hbig : ¬ m.length ≤ 1024 := by have := of_decide_eq_true h; omega
      repeat (first | refine W.seq ?_ | refine W.block ?_ | refine W.reg ?_ | refine W.skip ?_ | refine W.exit ?_ | refine W.ret ?_ | refine L.nil ?_ | refine L.p rfl rfl ?_ | refine L.skip rfl ?_)
      refine ⟨.inr rfl, _, rfl, none, 0, ?_, Cons.refl _, ?_⟩
      · unfold fromE fromL; rw [hF, if_neg hbig, if_neg hbig]; rfl
      · unfold fromL; rw [hF, if_neg hbig]; exact ⟨Slv.nil _ _ _ _, Nat.zero_le _, fun _ => rfl, by decide⟩
    have hsm : m.length ≤ 1024 := by have := of_decide_eq_false h; omega
    clear h
    repeat (first | refine W.seq ?_ | refine W.block ?_ | refine W.reg ?_ | refine W.skip ?_ | refine W.exit ?_ | refine W.ret ?_ | refine L.nil ?_ | refine L.p rfl rfl ?_ | refine L.skip rfl ?_)
    rw [e25]
    have hq := up8 (n := m.length) (by omega)
    refine L.mk (n := (m.length + 7) / 8) (m := (m.length + 7) / 8) (bytes := 8) (zv := v64 0#64) rfl rfl hq rfl hq (Nat.le_refl _) (by omega) rfl rfl ?_
    have hr : Mem.row? (S' ++ [newR (List.replicate ((m.length + 7) / 8) (v64 0#64)) 56]) S'.length = some (newR (List.replicate ((m.length + 7) / 8) (v64 0#64)) 56) := row_push_new rfl
    have hc : Cons S' (S' ++ [newR (List.replicate ((m.length + 7) / 8) (v64 0#64)) 56]) := Cons.push _ _
    generalize S' ++ [newR (List.replicate ((m.length + 7) / 8) (v64 0#64)) 56] = S1 at *
    obtain ⟨ro, hro⟩ : ∃ ro, ro = S'.length := ⟨_, rfl⟩
    rw [← hro] at hr ⊢
    repeat (first | refine W.seq ?_ | refine W.block ?_ | refine W.reg ?_ | refine W.skip ?_ | refine W.exit ?_ | refine W.ret ?_ | refine L.nil ?_ | refine L.p rfl rfl ?_ | refine L.skip rfl ?_)
    refine W.loop (fun j e T => ∃ (i : Nat) (o : WL), j = m.length - i ∧ i ≤ m.length ∧ e 0 = .slice a b.length c ∧ e 5 = .slice (some ⟨ro, 0, none⟩) ((m.length + 7) / 8) ((m.length + 7) / 8) ∧ e 6 = vi (z + i) ∧
        Cons S' T ∧ T.row? ro = some (newR (wv o) 56) ∧ Laid m i o) m.length
      ⟨0, _, by omega, by omega, rfl, rfl, rfl, hc, by rw [hr]; simp [wv], laid_zero m⟩ ?_
    clear hr hc e0 e4
    rintro j e T ⟨i, o, rfl, hi, e0, e5, e6, hc, hr, hL⟩
    refine W.env3 e0 e5 e6 ?_
    repeat (first | refine W.seq ?_ | refine W.block ?_ | refine W.reg ?_ | refine W.skip ?_ | refine W.exit ?_ | refine W.ret ?_ | refine L.nil ?_ | refine L.p rfl rfl ?_ | refine L.skip rfl ?_)
    refine W.ite rfl (fun h => ?_) (fun h => ?_)
    · have hin : i < m.length := by have := of_decide_eq_true h; omega
      clear h
      obtain ⟨cc, hcc⟩ : ∃ cc, m[i]? = some cc := ⟨_, List.getElem?_eq_getElem hin⟩
      have hbc : b[z + i]? = some cc := by rw [hm, List.getElem?_drop] at hcc; exact hcc
      obtain ⟨x, hx, hL2⟩ := laid_step hL hcc
      obtain ⟨k, hk⟩ : ∃ k, k = m.length - 1 - i := ⟨_, rfl⟩
      rw [← hk] at hx hL2
      have e1 : IntKind.i64.wrap (IntKind.i64.wrap ((b.length : Int) - 1) - ((z + i : Nat) : Int)) = (k : Int) := by
        rw [wrap64 (x := (b.length : Int) - 1) (by omega) (by omega), wrap64 (by omega) (by omega)]; omega
      have e2 : IntKind.i64.wrap (Int.tdiv (k : Int) 8) = ((k / 8 : Nat) : Int) := by
        rw [show Int.tdiv (k : Int) 8 = ((k / 8 : Nat) : Int) from (Int.ofNat_tdiv k 8).symm, wrap64 (by omega) (by omega)]
      have e3 : IntKind.i64.wrap (8 * Int.tmod (k : Int) 8) = ((8 * (k % 8) : Nat) : Int) := by
        rw [show Int.tmod (k : Int) 8 = ((k % 8 : Nat) : Int) from (Int.ofNat_tmod k 8).symm, wrap64 (by omega) (by omega)]; omega
      have hsl : Slv T 1 (.slice (some ⟨ro, 0, none⟩) ((m.length + 7) / 8) ((m.length + 7) / 8)) ((m.length + 7) / 8) (wv o) := Slv.all hr rfl (by rw [wv_len, hL.1, Nat.mul_one])
      have hkl : k / 8 < (m.length + 7) / 8 := by rw [← hL.1]; exact (List.getElem?_eq_some_iff.1 hx).1
      repeat (first | refine W.seq ?_ | refine W.block ?_ | refine W.reg ?_ | refine W.skip ?_ | refine W.exit ?_ | refine W.ret ?_ | refine L.nil ?_ | refine L.p rfl rfl ?_ | refine L.skip rfl ?_)
      rw [e1]
      refine L.el hsl e2 (wv_get hx) rfl rfl rfl rfl (fun _ => rfl) rfl (fun p => ?_)
      repeat (first | refine W.seq ?_ | refine W.block ?_ | refine W.reg ?_ | refine W.skip ?_ | refine W.exit ?_ | refine W.ret ?_ | refine L.nil ?_ | refine L.p rfl rfl ?_ | refine L.skip rfl ?_)
      refine L.el (hI.cons hc).1 rfl (bv_get hbc) rfl rfl rfl rfl (fun _ => rfl) rfl (fun p => ?_)
      repeat (first | refine W.seq ?_ | refine W.block ?_ | refine W.reg ?_ | refine W.skip ?_ | refine W.exit ?_ | refine W.ret ?_ | refine L.nil ?_ | refine L.p rfl rfl ?_ | refine L.skip rfl ?_)
      refine L.shl (8 * (k % 8)) rfl rfl e3 (by rw [bits_u64]; omega) rfl ?_
      repeat (first | refine W.seq ?_ | refine W.block ?_ | refine W.reg ?_ | refine W.skip ?_ | refine W.exit ?_ | refine W.ret ?_ | refine L.nil ?_ | refine L.p rfl rfl ?_ | refine L.skip rfl ?_)
      refine L.elst hr rfl (by show 0 + _ ≤ (wv o).length; rw [wv_len, hL.1]; omega) e2 hkl rfl rfl rfl rfl (fun _ => rfl) (fun _ => rfl) rfl rfl rfl (fun p => ?_)
      repeat (first | refine W.seq ?_ | refine W.block ?_ | refine W.reg ?_ | refine W.skip ?_ | refine W.exit ?_ | refine W.ret ?_ | refine L.nil ?_ | refine L.p rfl rfl ?_ | refine L.skip rfl ?_)
      refine ⟨m.length - (i + 1), by omega, i + 1, _, rfl, by omega, rfl, rfl, ?_, hc.set _ _ (by omega), ?_, hL2⟩
      · refine (force_eq rfl).trans ?_
        rw [wrap64 (by omega) (by omega)]; rfl
      · rw [row_set_same hr rfl, Nat.zero_add]
        rw [or_shl]
        simp only [newR, wv, List.map_set]
    have hin : i = m.length := by have := of_decide_eq_false h; omega
    subst hin
    clear h
    have hfin : fm o = toW (bnum b) := by rw [← bnum_strip0 b, hF]; exact laid_any hL
    have hW : WIn T (some ⟨ro, 0, none⟩) ((m.length + 7) / 8) o := by
      refine ⟨?_, ?_, nofun, by rw [hL.1]; omega⟩
      · rw [hL.1]; exact Slv.all hr rfl (by rw [wv_len, hL.1, Nat.mul_one])
      · rw [hL.1]; unfold knownCap; rw [if_pos (by unfold UNK; omega)]; exact Nat.le_refl _
    repeat (first | refine W.seq ?_ | refine W.block ?_ | refine W.reg ?_ | refine W.skip ?_ | refine W.exit ?_ | refine W.ret ?_ | refine L.nil ?_ | refine L.p rfl rfl ?_ | refine L.skip rfl ?_)
    refine L.cl (strip_C _ _ o T hW) rfl (by rw [hL.1]; rfl) ?_
    rintro _ _ ⟨rfl, rfl⟩
    refine ⟨nofun, ?_⟩
    repeat (first | refine W.seq ?_ | refine W.block ?_ | refine W.reg ?_ | refine W.skip ?_ | refine W.exit ?_ | refine W.ret ?_ | refine L.nil ?_ | refine L.p rfl rfl ?_ | refine L.skip rfl ?_)
    refine ⟨.inr rfl, _, rfl, some ⟨ro, 0, none⟩, (m.length + 7) / 8, ?_, hc, ?_⟩
    · unfold fromE fromL; rw [hF, if_pos hsm, if_pos hsm, ← hfin]; rfl
    · unfold fromL; rw [hF, if_pos hsm, ← hfin]; exact hW.form
  · rw [show ((x.toNat : Int) == 0) = true by rw [v8_eq0]; exact hx0]
    have hxe : x = 0#8 := by simpa using hx0
    repeat (first | refine W.seq ?_ | refine W.block ?_ | refine W.reg ?_ | refine W.skip ?_ | refine W.exit ?_ | refine W.ret ?_ | refine L.nil ?_ | refine L.p rfl rfl ?_ | refine L.skip rfl ?_)
    refine W.ite rfl (fun h => ?_) (fun h => ?_)
    rotate_left
    · cases h
    repeat (first | refine W.seq ?_ | refine W.block ?_ | refine W.reg ?_ | refine W.skip ?_ | refine W.exit ?_ | refine W.ret ?_ | refine L.nil ?_ | refine L.p rfl rfl ?_ | refine L.skip rfl ?_)
    refine ⟨b.length - (z + 1), by omega, z + 1, rfl, by omega, rfl, rfl, ?_, fun i hi => ?_⟩
    · refine (force_eq rfl).trans ?_
      rw [wrap64 (by omega) (by omega)]; rfl
    · rcases Nat.lt_or_eq_of_le (Nat.le_of_lt_succ hi) with h1 | rfl
      · exact h0 i h1
      · rw [hx, hxe]
end Go.Proofs.Ytccdlijohkljcaa

/- Layer 1's reference: bytes out of numbers. Conditions: none. -/
set_option linter.unusedSimpArgs false
set_option linter.unusedVariables false
set_option maxRecDepth 100000
namespace Go.Proofs.Ytccdlijohkljcaa
open Go
variable {G : Nat} {Ext : FuncId → List Value → Mem → Outc → Mem → Prop}

theorem v8_ne0 (x : BitVec 8) : ((x.toNat : Int) != 0) = !(x == 0#8) := by rw [bne, v8_eq0]
/-- a list of bytes that a reference hands out -/
def RefB (S S' : Mem) (v : Value) (l : BL) : Prop := Cons S S' ∧ ∃ a c, v = .slice a l.length c ∧ BIn S' a c l
theorem grow_bin {N : Nat} {S : Mem} {el : TypeId} {a : Option Addr} {c n : Nat} {l : BL} (h : Grow N S el 1 (.slice a n c) n (bv l)) (hn : l.length = n) (hl : l.length < 1099511627776) : BIn S a c l := by
  subst hn
  refine ⟨h.slv, .of ?_, hl⟩
  obtain ⟨h1, ⟨hv, h0⟩ | ⟨b, hb, hv, hr⟩⟩ := h
  · rw [h0]; exact Nat.zero_le _
  · cases hv; rw [knownCap_unk]; exact Nat.le_refl _
theorem refBytes_C (a : Option Addr) (c : Nat) (l : WL) (S : Mem) (hI : WIn S a c l) (hlen : l.length < 400000) : C Try.prog G Ext 63 [.slice a l.length c] S fun v S' => ∃ a' c', v = .tuple #[.slice a' (bytesL l).length c', .int .i64 (toldE l)] ∧ Cons S S' ∧ BIn S' a' c' (bytesL l) := by
  refine C.fn Try.func63 rfl (by kernel_rfl) rfl ?_
  repeat (first | refine W.seq ?_ | refine W.block ?_ | refine W.reg ?_ | refine W.skip ?_ | refine W.exit ?_ | refine W.ret ?_ | refine L.nil ?_ | refine L.p rfl rfl ?_ | refine L.skip rfl ?_)
  refine L.cl (fits_C a c l S hI hlen) rfl rfl ?_
  rintro _ S1 ⟨rfl, hc1⟩
  refine ⟨nofun, ?_⟩
  repeat (first | refine W.seq ?_ | refine W.block ?_ | refine W.reg ?_ | refine W.skip ?_ | refine W.exit ?_ | refine W.ret ?_ | refine L.nil ?_ | refine L.p rfl rfl ?_ | refine L.skip rfl ?_)
  refine W.ite rfl (fun h => ?_) (fun h => ?_)
  · have hs : small l = false := by simpa using h
    repeat (first | refine W.seq ?_ | refine W.block ?_ | refine W.reg ?_ | refine W.skip ?_ | refine W.exit ?_ | refine W.ret ?_ | refine L.nil ?_ | refine L.p rfl rfl ?_ | refine L.skip rfl ?_)
    refine ⟨.inr rfl, _, rfl, none, 0, ?_, hc1, ?_⟩
    · unfold bytesL toldE; rw [hs]; rfl
    · unfold bytesL; rw [if_neg (by rw [hs]; decide)]; exact ⟨Slv.nil _ _ _ _, .of (Nat.zero_le _), by decide⟩
  have hsm : small l = true := by simpa using h
  clear h
  repeat (first | refine W.seq ?_ | refine W.block ?_ | refine W.reg ?_ | refine W.skip ?_ | refine W.exit ?_ | refine W.ret ?_ | refine L.nil ?_ | refine L.p rfl rfl ?_ | refine L.skip rfl ?_)
  refine L.cl (form_C a c l S1 (hI.cons hc1) hlen) rfl rfl ?_
  rintro _ S2 ⟨hc2, a1, c1, rfl, hW⟩
  refine ⟨nofun, ?_⟩
  have hn : wnum (fm l) = wnum l := wnum_toW _
  have hcan : Canon (fm l) := canon_toW _
  have h128 : (fm l).length ≤ 128 := of_decide_eq_true hsm
  obtain ⟨f, hf⟩ : ∃ f, f = fm l := ⟨_, rfl⟩
  rw [← hf] at hW hn hcan h128 ⊢
  have hbz : bsz (wnum l) ≤ 8 * f.length := by
    have := wnum_lt f
    rw [hn] at this
    have h8 := blen_le.2 this
    unfold bsz; omega
  clear hf
  obtain ⟨N, hN⟩ : ∃ N, N = wnum l := ⟨_, rfl⟩
  have hbL : bytesL l = toB N := by unfold bytesL; rw [if_pos hsm, hN]
  have htE : toldE l = 0 := by unfold toldE; rw [if_pos hsm]
  rw [← hN] at hbz hn
  have hc12 := hc1.trans hc2
  have hll : ∀ t, (strip0 (lead N (8 * f.length) t)).length ≤ t := fun t => by
    unfold strip0
    have := (List.dropWhile_suffix (l := lead N (8 * f.length) t) (fun x => x == 0#8)).length_le
    simpa [lead] using this
  repeat (first | refine W.seq ?_ | refine W.block ?_ | refine W.reg ?_ | refine W.skip ?_ | refine W.exit ?_ | refine W.ret ?_ | refine L.nil ?_ | refine L.p rfl rfl ?_ | refine L.skip rfl ?_)
  refine W.loop (fun j e T => ∃ (q : Nat) (a5 : Option Addr) (n5 c5 : Nat), j = f.length - q ∧ q ≤ f.length ∧ Cons S2 T ∧ e 4 = .slice a1 f.length c1 ∧ e 5 = .slice a5 n5 c5 ∧ e 6 = .int .i64 ((f.length : Int) - 1 - (q : Int)) ∧
      Grow S2.length T 5 1 (.slice a5 n5 c5) n5 (bv (strip0 (lead N (8 * f.length) (8 * q))))) f.length
    ⟨0, none, 0, 0, by omega, by omega, Cons.refl _, rfl, rfl, ?_, Grow.nil _ _ _ _⟩ ?_
  · refine (force_eq rfl).trans ?_
    rw [wrap64 (by omega) (by omega)]
    congr 1; omega
  rintro j e T ⟨q, a5, n5, c5, rfl, hq, hcT, e4, e5, e6, hg⟩
  refine W.env3 e4 e5 e6 ?_
  repeat (first | refine W.seq ?_ | refine W.block ?_ | refine W.reg ?_ | refine W.skip ?_ | refine W.exit ?_ | refine W.ret ?_ | refine L.nil ?_ | refine L.p rfl rfl ?_ | refine L.skip rfl ?_)
  refine W.ite rfl (fun h => ?_) (fun h => ?_)
  · have hin : q < f.length := by have := of_decide_eq_true h; omega
    clear h
    obtain ⟨x, hx⟩ : ∃ x, f[f.length - 1 - q]? = some x := ⟨_, List.getElem?_eq_getElem (by omega)⟩
    repeat (first | refine W.seq ?_ | refine W.block ?_ | refine W.reg ?_ | refine W.skip ?_ | refine W.exit ?_ | refine W.ret ?_ | refine L.nil ?_ | refine L.p rfl rfl ?_ | refine L.skip rfl ?_)
    refine W.loop (fun j e T' => ∃ (p : Nat) (a5 : Option Addr) (n5 c5 : Nat), j = 8 - p ∧ p ≤ 8 ∧ Cons S2 T' ∧ e 4 = .slice a1 f.length c1 ∧ e 5 = .slice a5 n5 c5 ∧ e 6 = .int .i64 ((f.length : Int) - 1 - (q : Int)) ∧ e 7 = .int .i64 (56 - 8 * (p : Int)) ∧
        Grow S2.length T' 5 1 (.slice a5 n5 c5) n5 (bv (strip0 (lead N (8 * f.length) (8 * q + p))))) 8
      ⟨0, a5, n5, c5, by omega, by omega, hcT, rfl, rfl, rfl, rfl, hg⟩ ?_
    clear e4 e5 e6 hg hcT a5 n5 c5
    rintro j e T' ⟨p, a5, n5, c5, rfl, hp, hcT, e4, e5, e6, e7, hg⟩
    refine W.env4 e4 e5 e6 e7 ?_
    have hn5 : n5 ≤ 1024 := by
      have h1 := hg.1
      rw [bv_len] at h1
      have h2 := hll (8 * q + p)
      omega
    have hn5' : (strip0 (lead N (8 * f.length) (8 * q + p))).length = n5 := by have h1 := hg.1; rw [bv_len] at h1; omega
    repeat (first | refine W.seq ?_ | refine W.block ?_ | refine W.reg ?_ | refine W.skip ?_ | refine W.exit ?_ | refine W.ret ?_ | refine L.nil ?_ | refine L.p rfl rfl ?_ | refine L.skip rfl ?_)
    refine W.ite rfl (fun h => ?_) (fun h => ?_)
    · have hp8 : p < 8 := by have := of_decide_eq_true h; omega
      clear h
      have hby := byte_limb (l := f) (k := 8 * f.length - 1 - (8 * q + p)) (x := x) (by rw [show (8 * f.length - 1 - (8 * q + p)) / 8 = f.length - 1 - q by omega]; exact hx)
      rw [show 8 * ((8 * f.length - 1 - (8 * q + p)) % 8) = 56 - 8 * p by omega, hn] at hby
      have hls := lead_succ N (8 * f.length) (8 * q + p)
      obtain ⟨cc, hcc⟩ : ∃ cc, cc = byteAt N (8 * f.length - 1 - (8 * q + p)) := ⟨_, rfl⟩
      rw [← hcc] at hby hls
      have hsn := strip0_snoc (lead N (8 * f.length) (8 * q + p)) cc
      rw [← hls, show 8 * q + p + 1 = 8 * q + (p + 1) by omega, hn5'] at hsn
      have hcT2 := hc12.trans hcT
      repeat (first | refine W.seq ?_ | refine W.block ?_ | refine W.reg ?_ | refine W.skip ?_ | refine W.exit ?_ | refine W.ret ?_ | refine L.nil ?_ | refine L.p rfl rfl ?_ | refine L.skip rfl ?_)
      refine L.el (hW.cons hcT).1 (k := f.length - 1 - q) (by omega) (wv_get hx) rfl rfl rfl rfl (fun _ => rfl) rfl (fun p7 => ?_)
      repeat (first | refine W.seq ?_ | refine W.block ?_ | refine W.reg ?_ | refine W.skip ?_ | refine W.exit ?_ | refine W.ret ?_ | refine L.nil ?_ | refine L.p rfl rfl ?_ | refine L.skip rfl ?_)
      refine L.shr (56 - 8 * p) rfl rfl (by omega) (by rw [bits_u64]; omega) rfl ?_
      repeat (first | refine W.seq ?_ | refine W.block ?_ | refine W.reg ?_ | refine W.skip ?_ | refine W.exit ?_ | refine W.ret ?_ | refine L.nil ?_ | refine L.p rfl rfl ?_ | refine L.skip rfl ?_)
      rw [fdiv_shr, u8_of_v64, hby]
      cases hz : (cc == 0#8)
      · rw [show ((cc.toNat : Int) != 0) = true by rw [v8_ne0, hz]; rfl]
        rw [if_pos (.inl (by simpa using hz))] at hsn
        repeat (first | refine W.seq ?_ | refine W.block ?_ | refine W.reg ?_ | refine W.skip ?_ | refine W.exit ?_ | refine W.ret ?_ | refine L.nil ?_ | refine L.p rfl rfl ?_ | refine L.skip rfl ?_)
        refine W.ite rfl (fun h => ?_) (fun h => ?_)
        rotate_left
        · cases h
        repeat (first | refine W.seq ?_ | refine W.block ?_ | refine W.reg ?_ | refine W.skip ?_ | refine W.exit ?_ | refine W.ret ?_ | refine L.nil ?_ | refine L.p rfl rfl ?_ | refine L.skip rfl ?_)
        refine L.push1 rfl hcT.len (.inl hg) rfl rfl rfl rfl rfl (by omega) rfl (fun _ => rfl) (fun p9 a6 c6 T2 k2 k3 k4 => ?_)
        repeat (first | refine W.seq ?_ | refine W.block ?_ | refine W.reg ?_ | refine W.skip ?_ | refine W.exit ?_ | refine W.ret ?_ | refine L.nil ?_ | refine L.p rfl rfl ?_ | refine L.skip rfl ?_)
        refine ⟨8 - (p + 1), by omega, p + 1, a6, (n5 + 1), c6, rfl, by omega, (hcT.trans' k4), rfl, rfl, rfl, ?_, (by rw [hsn, bv_app]; exact k2)⟩
        refine (force_eq rfl).trans ?_
        rw [wrap64 (by omega) (by omega)]
        congr 1; omega
      · rw [show ((cc.toNat : Int) != 0) = false by rw [v8_ne0, hz]; rfl]
        repeat (first | refine W.seq ?_ | refine W.block ?_ | refine W.reg ?_ | refine W.skip ?_ | refine W.exit ?_ | refine W.ret ?_ | refine L.nil ?_ | refine L.p rfl rfl ?_ | refine L.skip rfl ?_)
        cases hz2 : decide ((n5 : Int) > 0)
        · have h0 : n5 = 0 := by have := of_decide_eq_false hz2; omega
          rw [if_neg (by rw [h0]; simpa using hz)] at hsn
          subst h0
          repeat (first | refine W.seq ?_ | refine W.block ?_ | refine W.reg ?_ | refine W.skip ?_ | refine W.exit ?_ | refine W.ret ?_ | refine L.nil ?_ | refine L.p rfl rfl ?_ | refine L.skip rfl ?_)
          refine W.ite rfl (fun h => ?_) (fun h => ?_)
          · cases h
          repeat (first | refine W.seq ?_ | refine W.block ?_ | refine W.reg ?_ | refine W.skip ?_ | refine W.exit ?_ | refine W.ret ?_ | refine L.nil ?_ | refine L.p rfl rfl ?_ | refine L.skip rfl ?_)
          refine ⟨8 - (p + 1), by omega, p + 1, a5, 0, c5, rfl, by omega, hcT, rfl, rfl, rfl, ?_, (by rw [hsn]; rw [List.length_eq_zero_iff.1 hn5'] at hg; exact hg)⟩
          refine (force_eq rfl).trans ?_
          rw [wrap64 (by omega) (by omega)]
          congr 1; omega
        · have h0 : 0 < n5 := by have := of_decide_eq_true hz2; omega
          rw [if_pos (.inr h0)] at hsn
          repeat (first | refine W.seq ?_ | refine W.block ?_ | refine W.reg ?_ | refine W.skip ?_ | refine W.exit ?_ | refine W.ret ?_ | refine L.nil ?_ | refine L.p rfl rfl ?_ | refine L.skip rfl ?_)
          refine W.ite rfl (fun h => ?_) (fun h => ?_)
          rotate_left
          · cases h
          repeat (first | refine W.seq ?_ | refine W.block ?_ | refine W.reg ?_ | refine W.skip ?_ | refine W.exit ?_ | refine W.ret ?_ | refine L.nil ?_ | refine L.p rfl rfl ?_ | refine L.skip rfl ?_)
          refine L.push1 rfl hcT.len (.inl hg) rfl rfl rfl rfl rfl (by omega) rfl (fun _ => rfl) (fun p9 a6 c6 T2 k2 k3 k4 => ?_)
          repeat (first | refine W.seq ?_ | refine W.block ?_ | refine W.reg ?_ | refine W.skip ?_ | refine W.exit ?_ | refine W.ret ?_ | refine L.nil ?_ | refine L.p rfl rfl ?_ | refine L.skip rfl ?_)
          refine ⟨8 - (p + 1), by omega, p + 1, a6, (n5 + 1), c6, rfl, by omega, (hcT.trans' k4), rfl, rfl, rfl, ?_, (by rw [hsn, bv_app]; exact k2)⟩
          refine (force_eq rfl).trans ?_
          rw [wrap64 (by omega) (by omega)]
          congr 1; omega
    · have hp8 : p = 8 := by have := of_decide_eq_false h; omega
      subst hp8
      repeat (first | refine W.seq ?_ | refine W.block ?_ | refine W.reg ?_ | refine W.skip ?_ | refine W.exit ?_ | refine W.ret ?_ | refine L.nil ?_ | refine L.p rfl rfl ?_ | refine L.skip rfl ?_)
      refine ⟨f.length - (q + 1), by omega, q + 1, a5, n5, c5, rfl, by omega, hcT, rfl, rfl, ?_, by rw [show 8 * (q + 1) = 8 * q + 8 by omega]; exact hg⟩
      refine (force_eq rfl).trans ?_
      rw [wrap64 (by omega) (by omega)]
      congr 1; omega
  · have hin : q = f.length := by have := of_decide_eq_false h; omega
    subst hin
    rw [lead_all hbz] at hg
    have hnn : (toB N).length = n5 := by have h1 := hg.1; rw [bv_len] at h1; omega
    have hB := grow_bin hg hnn (by rw [toB_len]; omega)
    repeat (first | refine W.seq ?_ | refine W.block ?_ | refine W.reg ?_ | refine W.skip ?_ | refine W.exit ?_ | refine W.ret ?_ | refine L.nil ?_ | refine L.p rfl rfl ?_ | refine L.skip rfl ?_)
    refine ⟨.inr rfl, _, rfl, a5, c5, ?_, hc12.trans hcT, by rw [hbL]; exact hB⟩
    rw [hbL, htE, hnn]; rfl
end Go.Proofs.Ytccdlijohkljcaa

/- The reference of layer 7: a length's bytes; an item's bytes. Conditions: none. -/
set_option linter.unusedSimpArgs false
set_option linter.unusedVariables false
set_option maxRecDepth 100000
namespace Go.Proofs.Ytccdlijohkljcaa
open Go
variable {G : Nat} {Ext : FuncId → List Value → Mem → Outc → Mem → Prop}

/-- the lowest bytes of a number -/
def low (n i : Nat) : BL := (List.range i).map fun j => byteAt n (i - 1 - j)
theorem low_succ (n i : Nat) : low n (i + 1) = byteAt n i :: low n i := by
  unfold low
  rw [List.range_succ_eq_map, List.map_cons, List.map_map]
  congr 1
  refine List.map_congr_left fun j _ => ?_
  show byteAt n (i + 1 - 1 - (j + 1)) = _
  congr 1; omega
theorem low_len (n i : Nat) : (low n i).length = i := by simp [low]
/-- a length's bytes -/
def lenB (n : Nat) : BL := if n < 128 then [BitVec.ofNat 8 n] else BitVec.ofNat 8 (128 + (toB n).length) :: toB n
theorem laidS_eq (tag : BitVec 8) (l : BL) : laidS tag l = tag :: (lenB l.length ++ l) := by
  unfold laidS lenB; split <;> simp
theorem low_all {n i : Nat} (h1 : n / 256 ^ i = 0) (h2 : n / 256 ^ (i - 1) ≠ 0) (hi : i ≠ 0) : low n i = toB n := by
  have h3 : n < 2 ^ (8 * i) := by
    rw [← p256]
    exact (Nat.div_eq_zero_iff.1 h1).resolve_left (Nat.ne_of_gt (Nat.pow_pos (by decide)))
  have h4 : ¬ n < 2 ^ (8 * (i - 1)) := fun h => h2 (by rw [p256]; exact Nat.div_eq_of_lt h)
  have h5 : blen n ≤ 8 * i := blen_le.2 h3
  have h6 : ¬ blen n ≤ 8 * (i - 1) := fun h => h4 (blen_le.1 h)
  have h7 : bsz n = i := by unfold bsz; omega
  unfold low toB
  rw [h7]
theorem refLength_C (n : Nat) (hn : n < 549755813888) (S : Mem) : C Try.prog G Ext 62 [.int .i64 (n : Int)] S fun v S' => RefB S S' v (lenB n) := by
  refine C.fn Try.func62 rfl (by kernel_rfl) rfl ?_
  repeat (first | refine W.seq ?_ | refine W.block ?_ | refine W.reg ?_ | refine W.skip ?_ | refine W.exit ?_ | refine W.ret ?_ | refine L.nil ?_ | refine L.p rfl rfl ?_ | refine L.skip rfl ?_)
  refine W.ite rfl (fun h => ?_) (fun h => ?_)
  · have hlt : n < 128 := by have := of_decide_eq_true h; omega
    clear h
    repeat (first | refine W.seq ?_ | refine W.block ?_ | refine W.reg ?_ | refine W.skip ?_ | refine W.exit ?_ | refine W.ret ?_ | refine L.nil ?_ | refine L.p rfl rfl ?_ | refine L.skip rfl ?_)
    rw [wrap_of8]
    refine L.bs [v8 (BitVec.ofNat 8 n)] rfl rfl rfl rfl rfl rfl ?_
    repeat (first | refine W.seq ?_ | refine W.block ?_ | refine W.reg ?_ | refine W.skip ?_ | refine W.exit ?_ | refine W.ret ?_ | refine L.nil ?_ | refine L.p rfl rfl ?_ | refine L.skip rfl ?_)
    have h1 : lenB n = [BitVec.ofNat 8 n] := by unfold lenB; rw [if_pos hlt]
    have hs : Slv (S ++ [newR [v8 (BitVec.ofNat 8 n)] 5]) 1 (.slice (some ⟨S.length, 0, none⟩) 1 1) 1 (bv [BitVec.ofNat 8 n]) := one_slv (row_push_new rfl)
    refine ⟨.inr rfl, _, rfl, ?_⟩
    rw [h1]
    exact ⟨Cons.push _ _, some ⟨S.length, 0, none⟩, 1, rfl, hs, .inl ⟨by decide, Nat.le_refl 1⟩, by simp⟩
  have hge : ¬ n < 128 := by have := of_decide_eq_false h; omega
  clear h
  repeat (first | refine W.seq ?_ | refine W.block ?_ | refine W.reg ?_ | refine W.skip ?_ | refine W.exit ?_ | refine W.ret ?_ | refine L.nil ?_ | refine L.p rfl rfl ?_ | refine L.skip rfl ?_)
  refine W.loop (fun j e T => ∃ i a c, j = n / 256 ^ i ∧ Cons S T ∧ e 0 = vi (n / 256 ^ i) ∧ e 3 = .slice a (low n i).length c ∧ Slv T 1 (.slice a (low n i).length c) (low n i).length (bv (low n i)) ∧ (i = 0 ∨ n / 256 ^ (i - 1) ≠ 0)) n
    ⟨0, none, 0, by simp, Cons.refl _, by rw [Nat.pow_zero, Nat.div_one]; rfl, rfl, Slv.nil _ _ _ _, .inl rfl⟩ ?_
  rintro j e T ⟨i, a, c, rfl, hc, e0, e3, hs, hi⟩
  refine W.env2 e0 e3 ?_
  have hbi : n / 256 ^ i ≤ n := Nat.div_le_self _ _
  repeat (first | refine W.seq ?_ | refine W.block ?_ | refine W.reg ?_ | refine W.skip ?_ | refine W.exit ?_ | refine W.ret ?_ | refine L.nil ?_ | refine L.p rfl rfl ?_ | refine L.skip rfl ?_)
  refine W.ite rfl (fun h => ?_) (fun h => ?_)
  · have hpos : 0 < n / 256 ^ i := by have := of_decide_eq_true h; omega
    clear h
    repeat (first | refine W.seq ?_ | refine W.block ?_ | refine W.reg ?_ | refine W.skip ?_ | refine W.exit ?_ | refine W.ret ?_ | refine L.nil ?_ | refine L.p rfl rfl ?_ | refine L.skip rfl ?_)
    rw [wrap_of8, show BitVec.ofNat 8 (n / 256 ^ i) = byteAt n i from rfl]
    refine L.bs [v8 (byteAt n i)] rfl rfl rfl rfl rfl rfl ?_
    have hsP : Slv (T ++ [newR [v8 (byteAt n i)] 5]) 1 (.slice (some ⟨T.length, 0, none⟩) 1 1) 1 (bv [byteAt n i]) := one_slv (row_push_new rfl)
    have hcP : Cons T (T ++ [newR [v8 (byteAt n i)] 5]) := Cons.push _ _
    generalize T ++ [newR [v8 (byteAt n i)] 5] = P1 at *
    repeat (first | refine W.seq ?_ | refine W.block ?_ | refine W.reg ?_ | refine W.skip ?_ | refine W.exit ?_ | refine W.ret ?_ | refine L.nil ?_ | refine L.p rfl rfl ?_ | refine L.skip rfl ?_)
    refine L.app (bytes := 1) (n := 0) (m := 1) rfl (Nat.le_refl _) (Grow.nil P1.length P1 5 1) rfl rfl hsP (bv_one _) (by omega) rfl rfl ?_
    intro a1 c1 P2 g1 _ hA1
    have hc1 : Cons P1 P2 := hA1
    repeat (first | refine W.seq ?_ | refine W.block ?_ | refine W.reg ?_ | refine W.skip ?_ | refine W.exit ?_ | refine W.ret ?_ | refine L.nil ?_ | refine L.p rfl rfl ?_ | refine L.skip rfl ?_)
    have hbl : (low n i).length = i := low_len n i
    have hi5 : i ≤ 5 := by
      rcases hi with hi | hi
      · omega
      · rcases Nat.lt_or_ge 5 i with h9 | h9
        · exfalso
          refine hi (Nat.div_eq_of_lt (Nat.lt_of_lt_of_le hn ?_))
          exact Nat.le_trans (by decide : 549755813888 ≤ 256 ^ 5) (Nat.pow_le_pow_right (by decide) (by omega))
        · exact h9
    refine L.app (bytes := 1) (n := 0 + 1) (m := (low n i).length) rfl hc1.len g1 rfl rfl ((hs.cons hcP).cons hc1) (bv_one _) (by omega) rfl rfl ?_
    intro a2 c2 P3 g2 _ hA2
    have hc2 : Cons P1 P3 := hc1.trans' hA2
    repeat (first | refine W.seq ?_ | refine W.block ?_ | refine W.reg ?_ | refine W.skip ?_ | refine W.exit ?_ | refine W.ret ?_ | refine L.nil ?_ | refine L.p rfl rfl ?_ | refine L.skip rfl ?_)
    have hlen : 0 + 1 + (low n i).length = (low n (i + 1)).length := by rw [low_len, low_len]; omega
    have hgs := g2.slv
    rw [show ([] : List Value) ++ bv [byteAt n i] ++ bv (low n i) = bv (low n (i + 1)) by rw [low_succ]; simp [bv], hlen] at hgs
    refine ⟨n / 256 ^ (i + 1), ?_, i + 1, a2, c2, rfl, (hc.trans hcP).trans hc2, ?_, ?_, hgs, .inr (by show n / 256 ^ i ≠ 0; omega)⟩
    · rw [Nat.pow_succ, ← Nat.div_div_eq_div_mul]
      exact Nat.div_lt_self hpos (by decide)
    · refine (force_eq rfl).trans ?_
      rw [Nat.pow_succ, ← Nat.div_div_eq_div_mul]
      exact congrArg (Value.int .i64) (fdiv_nat (n / 256 ^ i) 256)
    · refine (force_eq rfl).trans ?_
      rw [hlen]
  have hz : n / 256 ^ i = 0 := Nat.eq_zero_of_not_pos fun hp => of_decide_eq_false h (Int.natCast_pos.2 hp)
  clear h hbi
  have hi0 : i ≠ 0 := by rintro rfl; rw [Nat.pow_zero, Nat.div_one] at hz; omega
  have hlow := low_all hz (hi.resolve_left hi0) hi0
  rw [hlow] at hs ⊢
  have htl := toB_lt (n := n) (by omega)
  repeat (first | refine W.seq ?_ | refine W.block ?_ | refine W.reg ?_ | refine W.skip ?_ | refine W.exit ?_ | refine W.ret ?_ | refine L.nil ?_ | refine L.p rfl rfl ?_ | refine L.skip rfl ?_)
  rw [show IntKind.u8.wrap (IntKind.i64.wrap (128 + ((toB n).length : Int))) = ((BitVec.ofNat 8 (128 + (toB n).length)).toNat : Int) by
    rw [wrap64 (x := 128 + ((toB n).length : Int)) (by omega) (by omega), show (128 + ((toB n).length : Int)) = ((128 + (toB n).length : Nat) : Int) by omega, wrap_of8]]
  refine L.bs [v8 (BitVec.ofNat 8 (128 + (toB n).length))] rfl rfl rfl rfl rfl rfl ?_
  have hsP : Slv (T ++ [newR [v8 (BitVec.ofNat 8 (128 + (toB n).length))] 5]) 1 (.slice (some ⟨T.length, 0, none⟩) 1 1) 1 (bv [BitVec.ofNat 8 (128 + (toB n).length)]) := one_slv (row_push_new rfl)
  have hcP : Cons T (T ++ [newR [v8 (BitVec.ofNat 8 (128 + (toB n).length))] 5]) := Cons.push _ _
  generalize T ++ [newR [v8 (BitVec.ofNat 8 (128 + (toB n).length))] 5] = P1 at *
  repeat (first | refine W.seq ?_ | refine W.block ?_ | refine W.reg ?_ | refine W.skip ?_ | refine W.exit ?_ | refine W.ret ?_ | refine L.nil ?_ | refine L.p rfl rfl ?_ | refine L.skip rfl ?_)
  refine L.app (bytes := 1) (n := 0) (m := 1) rfl (Nat.le_refl _) (Grow.nil P1.length P1 5 1) rfl rfl hsP (bv_one _) (by omega) rfl rfl ?_
  intro a1 c1 P2 g1 _ hA1
  have hc1 : Cons P1 P2 := hA1
  repeat (first | refine W.seq ?_ | refine W.block ?_ | refine W.reg ?_ | refine W.skip ?_ | refine W.exit ?_ | refine W.ret ?_ | refine L.nil ?_ | refine L.p rfl rfl ?_ | refine L.skip rfl ?_)
  refine L.app (bytes := 1) (n := 0 + 1) (m := (toB n).length) rfl hc1.len g1 rfl rfl ((hs.cons hcP).cons hc1) (bv_one _) (by omega) rfl rfl ?_
  intro a2 c2 P3 g2 _ hA2
  have hc2 : Cons P1 P3 := hc1.trans' hA2
  repeat (first | refine W.seq ?_ | refine W.block ?_ | refine W.reg ?_ | refine W.skip ?_ | refine W.exit ?_ | refine W.ret ?_ | refine L.nil ?_ | refine L.p rfl rfl ?_ | refine L.skip rfl ?_)
  have hl : lenB n = BitVec.ofNat 8 (128 + (toB n).length) :: toB n := by unfold lenB; rw [if_neg hge]
  have hlen : 0 + 1 + (toB n).length = (lenB n).length := by rw [hl, List.length_cons]; omega
  rw [show ([] : List Value) ++ bv [BitVec.ofNat 8 (128 + (toB n).length)] ++ bv (toB n) = bv (lenB n) by rw [hl]; simp [bv]] at g2
  have hB := grow_bin g2 hlen.symm (by omega)
  refine ⟨.inr rfl, _, rfl, (hc.trans hcP).trans hc2, a2, c2, ?_, hB⟩
  refine (force_eq rfl).trans ?_
  rw [hlen]
end Go.Proofs.Ytccdlijohkljcaa

/- Layer 7: Decode. Conditions: none. -/
set_option linter.unusedSimpArgs false
set_option linter.unusedVariables false
set_option maxRecDepth 100000
namespace Go.Proofs.Ytccdlijohkljcaa
open Go
variable {G : Nat}

def nilV : Value := .slice none 0 0
/-- a key's memory and its error's -/
def keyMem (S : Mem) (u v : Value) (n : Int) : Mem := S ++ [newR [u, v] 26] ++ [newR [.int .i64 n] 27]
theorem keyMem_cons (S : Mem) (u v : Value) (n : Int) : Cons S (keyMem S u v n) := (Cons.push _ _).trans (Cons.push _ _)
theorem keyMem_len (S : Mem) (u v : Value) (n : Int) : (keyMem S u v n).length = S.length + 2 := by simp [keyMem]
theorem keyMem_key (S : Mem) (u v : Value) (n : Int) : (keyMem S u v n).row? S.length = some (newR [u, v] 26) := Cons.row (h := Cons.push _ _) (row_push_new rfl)
theorem keyMem_err (S : Mem) (u v : Value) (n : Int) : (keyMem S u v n).row? (S.length + 1) = some (newR [.int .i64 n] 27) := by
  have := row_push_new (S := S ++ [newR [u, v] 26]) (x := newR [.int .i64 n] 27) rfl
  simpa [keyMem] using this
/-- two lists that share nothing -/
def Apart2 (d1 d2 : Hd) : Prop := ∀ b, d1.a = some b → d2.a ≠ some b
/-- what Decode hands out -/
def KeyR (S : Mem) (b : BL) (v : Value) (S' : Mem) : Prop := match keyS b with
  | .error e => v = .tuple #[.agg #[nilV, nilV], .int .i64 e] ∧ Cons S S'
  | .ok (l1, l2) => ∃ d1 d2, v = .tuple #[.agg #[d1.v, d2.v], .int .i64 0] ∧ RetW S S' d1 l1 ∧ RetW S S' d2 l2 ∧ Apart2 d1 d2
theorem dec_pan {S T : Mem} {e : Env} {b : BL} {n : Int} (he2 : e 2 = .pointer (some ⟨S.length, 0, none⟩)) (he3 : e 3 = .pointer (some ⟨S.length + 1, 0, none⟩)) (hc : Cons (keyMem S nilV nilV 0) T) (hk : keyS b = .error n) :
    ∃ m v S', modeOf (.pan (faultV n)) = some m ∧ ALv Try.prog G Try.f11 e [⟨37, [.pointer (some ⟨S.length + 1, 0, none⟩)]⟩] m T (.ret v) S' ∧ KeyR S b v S' := by
  have hlen : (S ++ [newR [nilV, nilV] 26]).length = S.length + 1 := by simp
  obtain ⟨S', q1, q2, q3⟩ := caught_new (G := G) (n := n) (S := S ++ [newR [nilV, nilV] 26]) (x := 0) hc
  rw [hlen] at q1 q3
  have hk2 : S'.row? S.length = some (newR [nilV, nilV] 26) := Cons.row (h := q2) (row_push_new rfl)
  refine ⟨_, _, S', rfl, .cons q1 (.ret (v := .tuple #[.agg #[nilV, nilV], .int .i64 n]) ?_), ?_⟩
  · have h1 : aloadAt Try.prog 26 (e 2) S' = some (.agg #[nilV, nilV]) := aload_agg he2 rfl (cellsAt_of (o := 0) (n := 2) hk2 (by simp [newR]))
    have h2 : aloadAt Try.prog 27 (e 3) S' = some (.int .i64 n) := by rw [he3]; exact aload_one rfl (cell_of (o := 0) (v := .int .i64 n) q3 rfl (.inl rfl))
    show (aloadAt Try.prog 26 (e 2) S').bind (fun u => (aloadAt Try.prog 27 (e 3) S').map fun v => Value.tuple #[u, v]) = _
    rw [h1, h2]; rfl
  · unfold KeyR; rw [hk]; exact ⟨rfl, (Cons.push _ _).trans q2⟩
theorem iter_mem {M1 T T1 : Mem} {d : Hd} {l : WL} {u v : Value} (k : Nat) (hk2 : k < 2) (hc : Cons M1 T) (hr : T.row? M1.length = some (newR [u, v] 63)) (hR : RetW T T1 d l) :
    Cons M1 (T1.set M1.length { newR [u, v] 63 with cells := putFrom (newR [u, v] 63).cells k [d.v] }) ∧
    Mem.row? (T1.set M1.length { newR [u, v] 63 with cells := putFrom (newR [u, v] 63).cells k [d.v] }) M1.length = some (newR ([u, v].set k d.v) 63) ∧
    KeepL [M1.length] T (T1.set M1.length { newR [u, v] 63 with cells := putFrom (newR [u, v] 63).cells k [d.v] }) ∧
    HdOk (T1.set M1.length { newR [u, v] 63 with cells := putFrom (newR [u, v] 63).cells k [d.v] }) 56 d (wv l) ∧ (∀ b, d.a = some b → T.length ≤ b) ∧ M1.length < T.length ∧ l.length < 1099511627776 := by
  have hlt := row_lt hr
  have hr1 : T1.row? M1.length = some (newR [u, v] 63) := Cons.row (h := hR.1) hr
  have hk1 : ∀ x : Row, KeepL [M1.length] T1 (T1.set M1.length x) := fun x => ⟨by simp, fun r h1 h2 => by rw [List.getElem?_set, if_neg (fun h => h2 (by simp [h]))]⟩
  refine ⟨(hc.trans hR.1).set _ _ (Nat.le_refl _), ?_, (hR.1.keepL _).trans (hk1 _), hR.2.2.1.keep (hk1 _) (fun b hb hm => ?_), hR.2.2.2, hlt, hR.2.1⟩
  · rw [row_set_same hr1 rfl]
    refine congrArg some ?_
    rw [putFrom_one _ _ _ (show k < (newR [u, v] 63).cells.length from hk2)]
    rfl
  · have := hR.2.2.2 b hb
    simp at hm; omega
theorem decode_C (a : Option Addr) (c : Nat) (b : BL) (S : Mem) (hI : BIn S a c b) : C Try.prog G (Known Try.prog G) 11 [.slice a b.length c] S (KeyR S b) := by
  refine C.known (known_def (Checked.mixed Try.checked) (fun _ _ _ _ _ h => h) Try.func11 rfl (by kernel_rfl) rfl ?_)
  refine DW.seq (DW.code ?_)
  repeat (first | refine W.seq ?_ | refine W.block ?_ | refine W.reg ?_ | refine W.skip ?_ | refine W.exit ?_ | refine W.ret ?_ | refine L.nil ?_ | refine L.p rfl rfl ?_ | refine L.skip rfl ?_)
  refine L.eff (v := .pointer (some ⟨S.length, 0, none⟩)) (S1 := S ++ [newR [nilV, nilV] 26]) rfl rfl ?_
  repeat (first | refine W.seq ?_ | refine W.block ?_ | refine W.reg ?_ | refine W.skip ?_ | refine W.exit ?_ | refine W.ret ?_ | refine L.nil ?_ | refine L.p rfl rfl ?_ | refine L.skip rfl ?_)
  refine L.eff (v := .pointer (some ⟨S.length + 1, 0, none⟩)) (S1 := keyMem S nilV nilV 0) rfl ?_ ?_
  · refine congrArg (fun n => some (Value.pointer (some ⟨n, 0, none⟩), keyMem S nilV nilV 0)) (show (S ++ [newR [nilV, nilV] 26]).length = S.length + 1 by simp)
  repeat (first | refine W.seq ?_ | refine W.block ?_ | refine W.reg ?_ | refine W.skip ?_ | refine W.exit ?_ | refine W.ret ?_ | refine L.nil ?_ | refine L.p rfl rfl ?_ | refine L.skip rfl ?_)
  refine DW.seq (DW.defer rfl rfl ?_)
  refine DW.code ?_
  have hC := keyMem_cons S nilV nilV 0
  have hI1 := hI.cons hC
  obtain ⟨M1, hM1⟩ : ∃ M, M = keyMem S nilV nilV 0 := ⟨_, rfl⟩
  rw [← hM1] at hI1 hC ⊢
  have hL1 : M1.length = S.length + 2 := by rw [hM1, keyMem_len]
  have hpan : ∀ {e : Env} {T : Mem} {n : Int}, e 2 = .pointer (some ⟨S.length, 0, none⟩) → e 3 = .pointer (some ⟨S.length + 1, 0, none⟩) → Cons M1 T → keyS b = .error n →
      ∃ m v S', modeOf (.pan (faultV n)) = some m ∧ ALv Try.prog G Try.f11 e [⟨37, [.pointer (some ⟨S.length + 1, 0, none⟩)]⟩] m T (.ret v) S' ∧ KeyR S b v S' := fun h2 h3 hc hk => dec_pan h2 h3 (hM1 ▸ hc) hk
  repeat (first | refine W.seq ?_ | refine W.block ?_ | refine W.reg ?_ | refine W.skip ?_ | refine W.exit ?_ | refine W.ret ?_ | refine L.nil ?_ | refine L.p rfl rfl ?_ | refine L.skip rfl ?_)
  refine L.co (item_C a c b M1 hI1) rfl rfl ?_
  rintro o T ⟨rfl, hR⟩
  cases hi : itemS b with
  | error n =>
    rw [hi] at hR
    subst hR
    exact ⟨rfl, hpan rfl rfl (Cons.refl _) (by unfold keyS; rw [hi])⟩
  | ok p =>
    obtain ⟨hh, n⟩ := p
    rw [hi] at hR
    obtain ⟨t, a1, c1, a2, c2, ht, rfl, hB1, hB2⟩ := hR
    have hhn := (itemS_ok hi).2.2
    have hbt := bat_of ht
    refine ⟨fun _ => Cons.refl _, ?_⟩
    repeat (first | refine W.seq ?_ | refine W.block ?_ | refine W.reg ?_ | refine W.skip ?_ | refine W.exit ?_ | refine W.ret ?_ | refine L.nil ?_ | refine L.p rfl rfl ?_ | refine L.skip rfl ?_)
    refine L.fail (so := ((t.toNat : Int) != 48)) rfl rfl (fun h => ?_) (fun h => ?_)
    · exact ⟨rfl, hpan rfl rfl (Cons.refl _) (by unfold keyS; rw [hi]; dsimp only; rw [if_pos]; have : ¬ (t.toNat : Int) = 48 := (by simpa using h); omega)⟩
    have htag : ¬ bat b 0 ≠ 48 := by have : (t.toNat : Int) = 48 := (by simpa using h)
                                     omega
    clear h
    repeat (first | refine W.seq ?_ | refine W.block ?_ | refine W.reg ?_ | refine W.skip ?_ | refine W.exit ?_ | refine W.ret ?_ | refine L.nil ?_ | refine L.p rfl rfl ?_ | refine L.skip rfl ?_)
    refine L.fail (so := decide (((b.length - (hh + n) : Nat) : Int) > 0)) rfl rfl (fun h => ?_) (fun h => ?_)
    · exact ⟨rfl, hpan rfl rfl (Cons.refl _) (by unfold keyS; rw [hi]; dsimp only; rw [if_neg htag, if_pos]; have := of_decide_eq_true h; omega)⟩
    have hmore : ¬ hh + n < b.length := by have := of_decide_eq_false h; omega
    clear h
    have hkey : keyS b = keyT ((b.drop hh).take n) := by unfold keyS; rw [hi]; dsimp only; rw [if_neg htag, if_neg hmore]
    have hlen : ((b.drop hh).take n).length = n := by rw [List.length_take, List.length_drop]; omega
    repeat (first | refine W.seq ?_ | refine W.block ?_ | refine W.reg ?_ | refine W.skip ?_ | refine W.exit ?_ | refine W.ret ?_ | refine L.nil ?_ | refine L.p rfl rfl ?_ | refine L.skip rfl ?_)
    refine L.eff (v := .pointer (some ⟨T.length, 0, none⟩)) (S1 := T ++ [newR [nilV, nilV] 63]) rfl rfl ?_
    have hM2 : Cons T (T ++ [newR [nilV, nilV] 63]) := Cons.push _ _
    have hr2 : Mem.row? (T ++ [newR [nilV, nilV] 63]) T.length = some (newR [nilV, nilV] 63) := row_push_new rfl
    generalize T ++ [newR [nilV, nilV] 63] = M2 at *
    obtain ⟨m, hm⟩ : ∃ m, m = (b.drop hh).take n := ⟨_, rfl⟩
    rw [← hm] at hkey hB1 hlen
    subst hlen
    repeat (first | refine W.seq ?_ | refine W.block ?_ | refine W.reg ?_ | refine W.skip ?_ | refine W.exit ?_ | refine W.ret ?_ | refine L.nil ?_ | refine L.p rfl rfl ?_ | refine L.skip rfl ?_)
    have her0 : ∀ n, partS (m) = .error n → keyS b = .error n := (fun n h => by rw [hkey]; unfold keyT; rw [h])
    refine W.loopStep ?_
    repeat (first | refine W.seq ?_ | refine W.block ?_ | refine W.reg ?_ | refine W.skip ?_ | refine W.exit ?_ | refine W.ret ?_ | refine L.nil ?_ | refine L.p rfl rfl ?_ | refine L.skip rfl ?_)
    refine W.ite rfl (fun h => ?_) (fun h => ?_)
    rotate_left
    · cases h
    clear h
    repeat (first | refine W.seq ?_ | refine W.block ?_ | refine W.reg ?_ | refine W.skip ?_ | refine W.exit ?_ | refine W.ret ?_ | refine L.nil ?_ | refine L.p rfl rfl ?_ | refine L.skip rfl ?_)
    refine L.co (item_C a1 c1 m M2 (hB1 _ (hI1.cons hM2))) rfl (acall_eq (list1 (congrArg (fun n => Value.slice a1 n c1) rfl))) ?_
    rintro o T ⟨hT, hR⟩
    have hT' := hT.symm
    subst hT'
    clear hT
    rcases hi0 : itemS m with n | ⟨h0, n0⟩
    · rw [hi0] at hR
      subst hR
      exact ⟨rfl, hpan rfl rfl hM2 (her0 _ (by unfold partS; rw [hi0]))⟩
    rw [hi0] at hR
    obtain ⟨t0, a3, c3, a0, c0, ht0, rfl, hb3, hb0⟩ := hR
    have hhn0 := (itemS_ok hi0).2.2
    have hbt0 := bat_of ht0
    refine ⟨fun _ => Cons.refl _, ?_⟩
    repeat (first | refine W.seq ?_ | refine W.block ?_ | refine W.reg ?_ | refine W.skip ?_ | refine W.exit ?_ | refine W.ret ?_ | refine L.nil ?_ | refine L.p rfl rfl ?_ | refine L.skip rfl ?_)
    refine L.fail (so := ((t0.toNat : Int) != 2)) rfl rfl (fun h => ?_) (fun h => ?_)
    · exact ⟨rfl, hpan rfl rfl hM2 (her0 _ (by unfold partS; rw [hi0]; dsimp only; rw [if_pos]; have : ¬ (t0.toNat : Int) = 2 := (by simpa using h); omega))⟩
    have htag0 : ¬ bat (m) 0 ≠ 2 := by have : (t0.toNat : Int) = 2 := (by simpa using h); omega
    clear h
    repeat (first | refine W.seq ?_ | refine W.block ?_ | refine W.reg ?_ | refine W.skip ?_ | refine W.exit ?_ | refine W.ret ?_ | refine L.nil ?_ | refine L.p rfl rfl ?_ | refine L.skip rfl ?_)
    have hlen0 : (((m).drop h0).take n0).length = n0 := by rw [List.length_take, List.length_drop]; omega
    have hcon0 := hb3 _ (hB1 _ (hI1.cons hM2))
    refine L.co (number_C a3 c3 (((m).drop h0).take n0) M2 hcon0) rfl (by rw [hlen0]; rfl) ?_
    rintro o T0 hR
    unfold NumR at hR
    rcases hn0 : numS (((m).drop h0).take n0) with n | l0
    · rw [hn0] at hR
      obtain ⟨rfl, hc⟩ := hR
      exact ⟨rfl, hpan rfl rfl (Cons.trans hM2 hc) (her0 _ (by unfold partS; rw [hi0]; dsimp only; rw [if_neg htag0, hn0]))⟩
    rw [hn0] at hR
    obtain ⟨d0, rfl, hR⟩ := hR
    refine ⟨fun _ => hR.1, ?_⟩
    have hp0 : partS (m) = .ok (l0, (m).drop (h0 + n0)) := by unfold partS; rw [hi0]; dsimp only; rw [if_neg htag0, hn0]
    obtain ⟨i10, i20, i30, i40, i50, i60, i70⟩ := iter_mem 0 (by decide) hM2 hr2 hR
    have hr0 := Cons.row (h := hR.1) hr2
    clear hR
    repeat (first | refine W.seq ?_ | refine W.block ?_ | refine W.reg ?_ | refine W.skip ?_ | refine W.exit ?_ | refine W.ret ?_ | refine L.nil ?_ | refine L.p rfl rfl ?_ | refine L.skip rfl ?_)
    refine L.st (ad := ⟨T.length, 0, none⟩) (vs := [d0.v]) (write_of (o := 0) hr0 rfl (show 0 + 1 ≤ 2 by decide) rfl) rfl rfl rfl rfl ?_
    generalize T0.set _ _ = N0 at *
    repeat (first | refine W.seq ?_ | refine W.block ?_ | refine W.reg ?_ | refine W.skip ?_ | refine W.exit ?_ | refine W.ret ?_ | refine L.nil ?_ | refine L.p rfl rfl ?_ | refine L.skip rfl ?_)
    have her1 : ∀ n, partS ((m.drop (h0 + n0))) = .error n → keyS b = .error n := (fun n h => by rw [hkey]; unfold keyT; rw [hp0]; dsimp only; rw [h])
    refine W.loopStep ?_
    repeat (first | refine W.seq ?_ | refine W.block ?_ | refine W.reg ?_ | refine W.skip ?_ | refine W.exit ?_ | refine W.ret ?_ | refine L.nil ?_ | refine L.p rfl rfl ?_ | refine L.skip rfl ?_)
    refine W.ite rfl (fun h => ?_) (fun h => ?_)
    rotate_left
    · cases h
    clear h
    repeat (first | refine W.seq ?_ | refine W.block ?_ | refine W.reg ?_ | refine W.skip ?_ | refine W.exit ?_ | refine W.ret ?_ | refine L.nil ?_ | refine L.p rfl rfl ?_ | refine L.skip rfl ?_)
    refine L.co (item_C a0 c0 (m.drop (h0 + n0)) N0 ((fun T h => hb0 T (hB1 T h)) _ (hI1.cons i10))) rfl (acall_eq (list1 (congrArg (fun n => Value.slice a0 n c0) List.length_drop.symm))) ?_
    rintro o T ⟨hT, hR⟩
    have hT' := hT.symm
    subst hT'
    clear hT
    rcases hi1 : itemS (m.drop (h0 + n0)) with n | ⟨h1, n1⟩
    · rw [hi1] at hR
      subst hR
      exact ⟨rfl, hpan rfl rfl i10 (her1 _ (by unfold partS; rw [hi1]))⟩
    rw [hi1] at hR
    obtain ⟨t1, a3, c3, a1, c1, ht1, rfl, hb3, hb1⟩ := hR
    have hhn1 := (itemS_ok hi1).2.2
    have hbt1 := bat_of ht1
    refine ⟨fun _ => Cons.refl _, ?_⟩
    repeat (first | refine W.seq ?_ | refine W.block ?_ | refine W.reg ?_ | refine W.skip ?_ | refine W.exit ?_ | refine W.ret ?_ | refine L.nil ?_ | refine L.p rfl rfl ?_ | refine L.skip rfl ?_)
    refine L.fail (so := ((t1.toNat : Int) != 2)) rfl rfl (fun h => ?_) (fun h => ?_)
    · exact ⟨rfl, hpan rfl rfl i10 (her1 _ (by unfold partS; rw [hi1]; dsimp only; rw [if_pos]; have : ¬ (t1.toNat : Int) = 2 := (by simpa using h); omega))⟩
    have htag1 : ¬ bat ((m.drop (h0 + n0))) 0 ≠ 2 := by have : (t1.toNat : Int) = 2 := (by simpa using h); omega
    clear h
    repeat (first | refine W.seq ?_ | refine W.block ?_ | refine W.reg ?_ | refine W.skip ?_ | refine W.exit ?_ | refine W.ret ?_ | refine L.nil ?_ | refine L.p rfl rfl ?_ | refine L.skip rfl ?_)
    have hlen1 : ((((m.drop (h0 + n0))).drop h1).take n1).length = n1 := by rw [List.length_take, List.length_drop]; omega
    have hcon1 := hb3 _ ((fun T h => hb0 T (hB1 T h)) _ (hI1.cons i10))
    refine L.co (number_C a3 c3 ((((m.drop (h0 + n0))).drop h1).take n1) N0 hcon1) rfl (by rw [hlen1]; rfl) ?_
    rintro o T1 hR
    unfold NumR at hR
    rcases hn1 : numS ((((m.drop (h0 + n0))).drop h1).take n1) with n | l1
    · rw [hn1] at hR
      obtain ⟨rfl, hc⟩ := hR
      exact ⟨rfl, hpan rfl rfl (Cons.trans i10 hc) (her1 _ (by unfold partS; rw [hi1]; dsimp only; rw [if_neg htag1, hn1]))⟩
    rw [hn1] at hR
    obtain ⟨d1, rfl, hR⟩ := hR
    refine ⟨fun _ => hR.1, ?_⟩
    have hp1 : partS ((m.drop (h0 + n0))) = .ok (l1, ((m.drop (h0 + n0))).drop (h1 + n1)) := by unfold partS; rw [hi1]; dsimp only; rw [if_neg htag1, hn1]
    obtain ⟨i11, i21, i31, i41, i51, i61, i71⟩ := iter_mem 1 (by decide) i10 (show Mem.row? N0 T.length = some (newR [d0.v, nilV] 63) from i20) hR
    have hr1 := Cons.row (h := hR.1) (show Mem.row? N0 T.length = some (newR [d0.v, nilV] 63) from i20)
    clear hR
    repeat (first | refine W.seq ?_ | refine W.block ?_ | refine W.reg ?_ | refine W.skip ?_ | refine W.exit ?_ | refine W.ret ?_ | refine L.nil ?_ | refine L.p rfl rfl ?_ | refine L.skip rfl ?_)
    refine L.st (ad := ⟨T.length, 1, none⟩) (vs := [d1.v]) (write_of (o := 1) hr1 rfl (show 1 + 1 ≤ 2 by decide) rfl) rfl rfl rfl rfl ?_
    generalize T1.set _ _ = N1 at *
    repeat (first | refine W.seq ?_ | refine W.block ?_ | refine W.reg ?_ | refine W.skip ?_ | refine W.exit ?_ | refine W.ret ?_ | refine L.nil ?_ | refine L.p rfl rfl ?_ | refine L.skip rfl ?_)
    refine W.loopStep ?_
    repeat (first | refine W.seq ?_ | refine W.block ?_ | refine W.reg ?_ | refine W.skip ?_ | refine W.exit ?_ | refine W.ret ?_ | refine L.nil ?_ | refine L.p rfl rfl ?_ | refine L.skip rfl ?_)
    refine W.ite rfl (fun h => ?_) (fun h => ?_)
    · cases h
    clear h
    repeat (first | refine W.seq ?_ | refine W.block ?_ | refine W.reg ?_ | refine W.skip ?_ | refine W.exit ?_ | refine W.ret ?_ | refine L.nil ?_ | refine L.p rfl rfl ?_ | refine L.skip rfl ?_)
    have hl2 : ((m.drop (h0 + n0)).drop (h1 + n1)).length = (m.drop (h0 + n0)).length - (h1 + n1) := List.length_drop
    refine L.fail (so := decide ((((m.drop (h0 + n0)).length - (h1 + n1) : Nat) : Int) > 0)) rfl rfl (fun h => ?_) (fun h => ?_)
    · exact ⟨rfl, hpan rfl rfl i11 (by rw [hkey]; unfold keyT; rw [hp0]; dsimp only; rw [hp1]; dsimp only; rw [if_pos]; have := of_decide_eq_true h; omega)⟩
    have hend : keyS b = .ok (l0, l1) := by rw [hkey]; unfold keyT; rw [hp0]; dsimp only; rw [hp1]; dsimp only; rw [if_neg]; have := of_decide_eq_false h; omega
    clear h
    have hr7 : Mem.row? N1 T.length = some (newR [d0.v, d1.v] 63) := i21
    have hTS : ∀ x y n, T.length = (keyMem S x y n).length := fun x y n => by rw [hL1, keyMem_len]
    have hk0 : Mem.row? N1 S.length = some (newR [nilV, nilV] 26) := Cons.row (h := i11) (by rw [hM1]; exact keyMem_key _ _ _ _)
    have he0 : Mem.row? N1 (S.length + 1) = some (newR [.int .i64 0] 27) := Cons.row (h := i11) (by rw [hM1]; exact keyMem_err _ _ _ _)
    repeat (first | refine W.seq ?_ | refine W.block ?_ | refine W.reg ?_ | refine W.skip ?_ | refine W.exit ?_ | refine W.ret ?_ | refine L.nil ?_ | refine L.p rfl rfl ?_ | refine L.skip rfl ?_)
    refine L.ld (a := ⟨T.length, 0, none⟩) (v := d0.v) (cell_of hr7 rfl (.inl rfl)) rfl rfl rfl ?_
    repeat (first | refine W.seq ?_ | refine W.block ?_ | refine W.reg ?_ | refine W.skip ?_ | refine W.exit ?_ | refine W.ret ?_ | refine L.nil ?_ | refine L.p rfl rfl ?_ | refine L.skip rfl ?_)
    refine L.ld (a := ⟨T.length, 1, none⟩) (v := d1.v) (cell_of hr7 rfl (.inl rfl)) rfl rfl rfl ?_
    repeat (first | refine W.seq ?_ | refine W.block ?_ | refine W.reg ?_ | refine W.skip ?_ | refine W.exit ?_ | refine W.ret ?_ | refine L.nil ?_ | refine L.p rfl rfl ?_ | refine L.skip rfl ?_)
    refine L.bd #[d0.v, d1.v] rfl rfl rfl rfl rfl ?_
    refine L.st (ad := ⟨S.length, 0, none⟩) (vs := [d0.v, d1.v]) (write_of (o := 0) hk0 rfl (Nat.le_refl 2) rfl) rfl rfl rfl rfl ?_
    have he1 : Mem.row? (N1.set S.length { newR [nilV, nilV] 26 with cells := putFrom (newR [nilV, nilV] 26).cells 0 [d0.v, d1.v] }) (S.length + 1) = some (newR [.int .i64 0] 27) := by
      rw [row_set_other _ (by omega)]; exact he0
    refine L.st (ad := ⟨S.length + 1, 0, none⟩) (vs := [.int .i64 0]) (write_of (o := 0) he1 rfl (Nat.le_refl 1) rfl) rfl rfl rfl rfl ?_
    obtain ⟨N2, hN2⟩ : ∃ N, N = List.set (List.set N1 S.length { newR [nilV, nilV] 26 with cells := putFrom (newR [nilV, nilV] 26).cells 0 [d0.v, d1.v] }) (S.length + 1) { newR [.int .i64 0] 27 with cells := putFrom (newR [.int .i64 0] 27).cells 0 [.int .i64 0] } := ⟨_, rfl⟩
    rw [← hN2]
    have hkl : KeepL [S.length, S.length + 1] N1 N2 := by
      rw [hN2]
      refine ⟨by simp, fun r h1 h2 => ?_⟩
      simp only [List.mem_cons, List.not_mem_nil, or_false, not_or] at h2
      rw [List.getElem?_set, if_neg (by omega), List.getElem?_set, if_neg (by omega)]
    have hk2 : Mem.row? N2 S.length = some (newR [d0.v, d1.v] 26) := by
      rw [hN2, row_set_other _ (by omega), row_set_same hk0 rfl]; rfl
    have he2 : Mem.row? N2 (S.length + 1) = some (newR [.int .i64 0] 27) := by
      rw [hN2, row_set_same he1 rfl]; rfl
    have hS2 : Cons S N2 := fun r hr => by rw [hkl.2 r (by have := i11.len; omega) (by simp; omega), i11 r (by omega), hC r hr]
    have hd1 : HdOk N2 56 d1 (wv l1) := i41.keep hkl (fun b hb hm => by have := i51 b hb; have := i30.1; simp at hm; omega)
    have hd0 : HdOk N2 56 d0 (wv l0) := (i40.keep i31 (fun b hb hm => by have := i50 b hb; simp at hm; omega)).keep hkl (fun b hb hm => by have := i50 b hb; simp at hm; omega)
    have hb0l : ∀ b, d0.a = some b → S.length ≤ b := fun b hb => by have := i50 b hb; omega
    have hb1l : ∀ b, d1.a = some b → S.length ≤ b := fun b hb => by have := i51 b hb; have := i30.1; omega
    repeat (first | refine W.seq ?_ | refine W.block ?_ | refine W.reg ?_ | refine W.skip ?_ | refine W.exit ?_ | refine W.ret ?_ | refine L.nil ?_ | refine L.p rfl rfl ?_ | refine L.skip rfl ?_)
    refine ⟨.ret, .tuple #[.agg #[d0.v, d1.v], .int .i64 0], N2, rfl, .cons (caught_ret _ _) (.ret ?_), ?_⟩
    · have h1 : aloadAt Try.prog 26 (.pointer (some ⟨S.length, 0, none⟩)) N2 = some (.agg #[d0.v, d1.v]) := aload_agg rfl rfl (cellsAt_of (o := 0) (n := 2) hk2 (Nat.le_refl 2))
      have h2 : aloadAt Try.prog 27 (.pointer (some ⟨S.length + 1, 0, none⟩)) N2 = some (.int .i64 0) := aload_one rfl (cell_of (o := 0) (v := .int .i64 0) he2 rfl (.inl rfl))
      have h3 : ((aloadAt Try.prog 26 (.pointer (some ⟨S.length, 0, none⟩)) N2).bind fun u => (aloadAt Try.prog 27 (.pointer (some ⟨S.length + 1, 0, none⟩)) N2).map fun v => Value.tuple #[u, v]) = some (.tuple #[.agg #[d0.v, d1.v], .int .i64 0]) := by rw [h1, h2]; rfl
      exact h3
    · unfold KeyR
      rw [hend]
      exact ⟨d0, d1, rfl, ⟨hS2, i70, hd0, hb0l⟩, ⟨hS2, i71, hd1, hb1l⟩, fun b hb hb' => by have := (i40.lt hb); have := i51 b hb'; omega⟩
end Go.Proofs.Ytccdlijohkljcaa

/- Layer 7: Encode. Conditions: none. -/
set_option linter.unusedSimpArgs false
set_option linter.unusedVariables false
set_option maxRecDepth 100000
namespace Go.Proofs.Ytccdlijohkljcaa
open Go
variable {G : Nat}

/-- an integer's content -/
def contS (l : WL) : BL := if (toB (wnum l)).length = 0 ∨ 128 ≤ bat (toB (wnum l)) 0 then 0#8 :: toB (wnum l) else toB (wnum l)
/-- a key's bytes -/
def encL (l1 l2 : WL) : BL := laidS 48#8 (laidS 2#8 (contS l1) ++ laidS 2#8 (contS l2))
def encBad (l1 l2 : WL) : Prop := 4096 < blen (wnum l1) ∨ 4096 < blen (wnum l2)
instance (l1 l2 : WL) : Decidable (encBad l1 l2) := by unfold encBad; infer_instance
theorem fm_len_of {l : WL} {k : Nat} (h : blen (wnum l) ≤ 64 * k) : (fm l).length ≤ k :=
  (toW_len (wnum l) k).2 (Nat.lt_of_lt_of_le (blen_le.1 (Nat.le_refl _)) (Nat.pow_le_pow_right (by decide) h))
theorem small_of {l : WL} (h : ¬ 4096 < blen (wnum l)) : small l = true := by
  unfold small
  have h2 : (fm l).length ≤ 128 := fm_len_of (by omega)
  simp [h2]
theorem cont_len {l : WL} (h : ¬ 4096 < blen (wnum l)) : (toB (wnum l)).length ≤ 512 ∧ (contS l).length ≤ 513 := by
  have : (toB (wnum l)).length ≤ 512 := by rw [toB_len]; unfold bsz; omega
  refine ⟨this, ?_⟩
  unfold contS; split
  · rw [List.length_cons]; omega
  · omega
/-- what Encode hands out -/
def EncR (S : Mem) (l1 l2 : WL) (v : Value) (S' : Mem) : Prop := if encBad l1 l2 then v = .tuple #[nilV, .int .i64 3] ∧ Cons S S' else ∃ d : Hd, v = .tuple #[d.v, .int .i64 0] ∧ RetB S S' d (encL l1 l2)
theorem enc_pan {S T : Mem} {e : Env} {l1 l2 : WL} {u v : Value} (he2 : e 2 = nilV) (he3 : e 3 = .pointer (some ⟨S.length + 1, 0, none⟩)) (hc : Cons (keyMem S u v 0) T) (hk : encBad l1 l2) :
    ∃ m v S', modeOf (.pan (faultV 3)) = some m ∧ ALv Try.prog G Try.f19 e [⟨37, [.pointer (some ⟨S.length + 1, 0, none⟩)]⟩] m T (.ret v) S' ∧ EncR S l1 l2 v S' := by
  have hlen : (S ++ [newR [u, v] 26]).length = S.length + 1 := by simp
  obtain ⟨S', q1, q2, q3⟩ := caught_new (G := G) (n := 3) (S := S ++ [newR [u, v] 26]) (x := 0) hc
  rw [hlen] at q1 q3
  refine ⟨_, _, S', rfl, .cons q1 (.ret (v := .tuple #[nilV, .int .i64 3]) ?_), ?_⟩
  · have h2 : aloadAt Try.prog 27 (e 3) S' = some (.int .i64 3) := by rw [he3]; exact aload_one rfl (cell_of (o := 0) (v := .int .i64 3) q3 rfl (.inl rfl))
    show (some (e 2)).bind (fun u => (aloadAt Try.prog 27 (e 3) S').map fun v => Value.tuple #[u, v]) = _
    rw [h2, he2]; rfl
  · unfold EncR; rw [if_pos hk]; exact ⟨rfl, (Cons.push _ _).trans q2⟩
theorem set_self {S : Mem} {b : Nat} {r : Row} (hr : S.row? b = some r) : S.set b r = S := by
  refine List.ext_getElem? fun i => ?_
  rw [List.getElem?_set]
  split
  · rename_i h; subst h; rw [if_pos (row_lt hr)]; exact (Mem.row?_some hr).1.symm
  · rfl
theorem encode_C (a1 a2 : Option Addr) (c1 c2 : Nat) (l1 l2 : WL) (S : Mem) (h1 : WIn S a1 c1 l1) (h2 : WIn S a2 c2 l2) : C Try.prog G (Known Try.prog G) 19 [.agg #[.slice a1 l1.length c1, .slice a2 l2.length c2]] S (EncR S l1 l2) := by
  refine C.known (known_def (Checked.mixed Try.checked) (fun _ _ _ _ _ h => h) Try.func19 rfl (by kernel_rfl) rfl ?_)
  refine DW.seq (DW.code ?_)
  repeat (first | refine W.seq ?_ | refine W.block ?_ | refine W.reg ?_ | refine W.skip ?_ | refine W.exit ?_ | refine W.ret ?_ | refine L.nil ?_ | refine L.p rfl rfl ?_ | refine L.skip rfl ?_)
  refine L.eff (v := .pointer (some ⟨S.length, 0, none⟩)) (S1 := S ++ [newR [.slice a1 l1.length c1, .slice a2 l2.length c2] 26]) rfl rfl ?_
  repeat (first | refine W.seq ?_ | refine W.block ?_ | refine W.reg ?_ | refine W.skip ?_ | refine W.exit ?_ | refine W.ret ?_ | refine L.nil ?_ | refine L.p rfl rfl ?_ | refine L.skip rfl ?_)
  refine L.eff (v := .pointer (some ⟨S.length + 1, 0, none⟩)) (S1 := keyMem S (.slice a1 l1.length c1) (.slice a2 l2.length c2) 0) rfl ?_ ?_
  · refine congrArg (fun n => some (Value.pointer (some ⟨n, 0, none⟩), keyMem S (.slice a1 l1.length c1) (.slice a2 l2.length c2) 0)) (show (S ++ [newR [.slice a1 l1.length c1, .slice a2 l2.length c2] 26]).length = S.length + 1 by simp)
  repeat (first | refine W.seq ?_ | refine W.block ?_ | refine W.reg ?_ | refine W.skip ?_ | refine W.exit ?_ | refine W.ret ?_ | refine L.nil ?_ | refine L.p rfl rfl ?_ | refine L.skip rfl ?_)
  refine DW.seq (DW.defer rfl rfl ?_)
  refine DW.code ?_
  have hC := keyMem_cons S (.slice a1 l1.length c1) (.slice a2 l2.length c2) 0
  have hkr := keyMem_key S (.slice a1 l1.length c1) (.slice a2 l2.length c2) 0
  have her := keyMem_err S (.slice a1 l1.length c1) (.slice a2 l2.length c2) 0
  have hpan : ∀ {e : Env} {T : Mem}, e 2 = nilV → e 3 = .pointer (some ⟨S.length + 1, 0, none⟩) → Cons (keyMem S (.slice a1 l1.length c1) (.slice a2 l2.length c2) 0) T → encBad l1 l2 →
      ∃ m v S', modeOf (.pan (faultV 3)) = some m ∧ ALv Try.prog G Try.f19 e [⟨37, [.pointer (some ⟨S.length + 1, 0, none⟩)]⟩] m T (.ret v) S' ∧ EncR S l1 l2 v S' := fun h2 h3 hc hk => enc_pan h2 h3 hc hk
  generalize keyMem S (.slice a1 l1.length c1) (.slice a2 l2.length c2) 0 = M1 at *
  have hW1 := h1.cons hC
  have hW2 := h2.cons hC
  repeat (first | refine W.seq ?_ | refine W.block ?_ | refine W.reg ?_ | refine W.skip ?_ | refine W.exit ?_ | refine W.ret ?_ | refine L.nil ?_ | refine L.p rfl rfl ?_ | refine L.skip rfl ?_)
  refine L.ld (a := ⟨S.length, 0, none⟩) (v := .slice a1 l1.length c1) (cell_of hkr rfl (.inl rfl)) rfl rfl rfl ?_
  repeat (first | refine W.seq ?_ | refine W.block ?_ | refine W.reg ?_ | refine W.skip ?_ | refine W.exit ?_ | refine W.ret ?_ | refine L.nil ?_ | refine L.p rfl rfl ?_ | refine L.skip rfl ?_)
  refine L.ld (a := ⟨S.length, 1, none⟩) (v := .slice a2 l2.length c2) (cell_of hkr rfl (.inl rfl)) rfl rfl rfl ?_
  repeat (first | refine W.seq ?_ | refine W.block ?_ | refine W.reg ?_ | refine W.skip ?_ | refine W.exit ?_ | refine W.ret ?_ | refine L.nil ?_ | refine L.p rfl rfl ?_ | refine L.skip rfl ?_)
  refine L.bd #[.slice a1 l1.length c1, .slice a2 l2.length c2] rfl rfl rfl rfl rfl ?_
  repeat (first | refine W.seq ?_ | refine W.block ?_ | refine W.reg ?_ | refine W.skip ?_ | refine W.exit ?_ | refine W.ret ?_ | refine L.nil ?_ | refine L.p rfl rfl ?_ | refine L.skip rfl ?_)
  have hg0 := Grow.nil M1.length M1 5 1
  refine W.loopStep ?_
  repeat (first | refine W.seq ?_ | refine W.block ?_ | refine W.reg ?_ | refine W.skip ?_ | refine W.exit ?_ | refine W.ret ?_ | refine L.nil ?_ | refine L.p rfl rfl ?_ | refine L.skip rfl ?_)
  refine W.ite rfl (fun h => ?_) (fun h => ?_)
  rotate_left
  · cases h
  clear h
  repeat (first | refine W.seq ?_ | refine W.block ?_ | refine W.reg ?_ | refine W.skip ?_ | refine W.exit ?_ | refine W.ret ?_ | refine L.nil ?_ | refine L.p rfl rfl ?_ | refine L.skip rfl ?_)
  refine L.cl (bits_C a1 c1 l1 M1 (hW1.cons (Cons.refl M1))) rfl rfl ?_
  rintro _ _ ⟨rfl, hS'⟩
  have hS2 := hS'.symm
  subst hS2
  clear hS'
  refine ⟨nofun, ?_⟩
  repeat (first | refine W.seq ?_ | refine W.block ?_ | refine W.reg ?_ | refine W.skip ?_ | refine W.exit ?_ | refine W.ret ?_ | refine L.nil ?_ | refine L.p rfl rfl ?_ | refine L.skip rfl ?_)
  refine L.fail (so := decide ((blen (wnum l1) : Int) > 4096)) rfl rfl (fun h => ?_) (fun h => ?_)
  · exact ⟨rfl, hpan rfl rfl (Cons.refl M1) (by have := of_decide_eq_true h; unfold encBad; omega)⟩
  have hb0 : ¬ 4096 < blen (wnum l1) := by have := of_decide_eq_false h; omega
  clear h
  have hsm := small_of hb0
  obtain ⟨hl0, hl20⟩ := cont_len hb0
  repeat (first | refine W.seq ?_ | refine W.block ?_ | refine W.reg ?_ | refine W.skip ?_ | refine W.exit ?_ | refine W.ret ?_ | refine L.nil ?_ | refine L.p rfl rfl ?_ | refine L.skip rfl ?_)
  refine L.cl (natBytes_C a1 c1 l1 M1 (hW1.cons (Cons.refl M1))) rfl rfl ?_
  rintro _ T1 ⟨d1, rfl, hR1⟩
  refine ⟨nofun, ?_⟩
  have hB1 : bytesL l1 = toB (wnum l1) := by unfold bytesL; rw [if_pos hsm]
  have hE1 : toldE l1 = 0 := by unfold toldE; rw [if_pos hsm]
  rw [hB1] at hR1
  rw [hE1]
  clear hB1 hE1
  repeat (first | refine W.seq ?_ | refine W.block ?_ | refine W.reg ?_ | refine W.skip ?_ | refine W.exit ?_ | refine W.ret ?_ | refine L.nil ?_ | refine L.p rfl rfl ?_ | refine L.skip rfl ?_)
  refine L.fail (so := false) rfl rfl (fun h => ?_) (fun h => ?_)
  · cases h
  clear h
  have hdn : d1.n = (toB (wnum l1)).length := by have := hR1.2.2.1.len; rw [bv_len] at this; exact this.symm
  refine L.nil ?_
  refine W.seq (W.mono (R := fun x e' S' => x = .nrm ∧ ∃ d : Hd, e' 7 = d.v ∧ RetB M1 S' d (contS l1) ∧ e' 2 = nilV ∧ e' 3 = .pointer (some ⟨S.length + 1, 0, none⟩) ∧ e' 4 = nilV ∧ e' 13 = .agg #[.slice a1 l1.length c1, .slice a2 l2.length c2] ∧ e' 14 = vi 0) ?_ ?_)
  · repeat (first | refine W.seq ?_ | refine W.block ?_ | refine W.reg ?_ | refine W.skip ?_ | refine W.exit ?_ | refine W.ret ?_ | refine L.nil ?_ | refine L.p rfl rfl ?_ | refine L.skip rfl ?_)
    cases hq : ((d1.n : Int) == 0)
    rotate_left
    · have hz : (toB (wnum l1)).length = 0 := by have : (d1.n : Int) = 0 := (by simpa using hq); omega
      repeat (first | refine W.seq ?_ | refine W.block ?_ | refine W.reg ?_ | refine W.skip ?_ | refine W.exit ?_ | refine W.ret ?_ | refine L.nil ?_ | refine L.p rfl rfl ?_ | refine L.skip rfl ?_)
      refine W.ite rfl (fun h => ?_) (fun h => ?_)
      rotate_left
      · cases h
      clear h
      repeat (first | refine W.seq ?_ | refine W.block ?_ | refine W.reg ?_ | refine W.skip ?_ | refine W.exit ?_ | refine W.ret ?_ | refine L.nil ?_ | refine L.p rfl rfl ?_ | refine L.skip rfl ?_)
      refine L.bs [v8 0#8] rfl rfl rfl rfl rfl rfl ?_
      have hcP : Cons T1 (T1 ++ [newR [v8 0#8] 5]) := Cons.push _ _
      have hrP : Mem.row? (T1 ++ [newR [v8 0#8] 5]) T1.length = some (newR [v8 0#8] 5) := row_push_new rfl
      generalize T1 ++ [newR [v8 0#8] 5] = P1 at *
      have hsP := one_slv hrP
      repeat (first | refine W.seq ?_ | refine W.block ?_ | refine W.reg ?_ | refine W.skip ?_ | refine W.exit ?_ | refine W.ret ?_ | refine L.nil ?_ | refine L.p rfl rfl ?_ | refine L.skip rfl ?_)
      refine L.bs [.slice (some ⟨T1.length, 0, none⟩) 1 1, d1.v] rfl rfl rfl rfl rfl rfl ?_
      have hcQ : Cons P1 (P1 ++ [newR [.slice (some ⟨T1.length, 0, none⟩) 1 1, d1.v] 22]) := Cons.push _ _
      have hrQ : Mem.row? (P1 ++ [newR [.slice (some ⟨T1.length, 0, none⟩) 1 1, d1.v] 22]) P1.length = some (newR [.slice (some ⟨T1.length, 0, none⟩) 1 1, d1.v] 22) := row_push_new rfl
      generalize P1 ++ [newR [.slice (some ⟨T1.length, 0, none⟩) 1 1, d1.v] 22] = P2 at *
      refine L.cl (concat_C (some ⟨P1.length, 0, none⟩) 2 _ [[0#8], (toB (wnum l1))] P2 (Slv.all hrQ rfl rfl) (.add (hsP.cons hcQ) rfl (.add ((hR1.2.2.1.slv.cons hcP).cons hcQ) hdn (.nil _))) (by simp) (by simp; omega) (by simp)) rfl rfl ?_
      rintro _ P3 ⟨d2, rfl, hR2⟩
      refine ⟨nofun, ?_⟩
      repeat (first | refine W.seq ?_ | refine W.block ?_ | refine W.reg ?_ | refine W.skip ?_ | refine W.exit ?_ | refine W.ret ?_ | refine L.nil ?_ | refine L.p rfl rfl ?_ | refine L.skip rfl ?_)
      refine ⟨rfl, d2, rfl, ?_, rfl, rfl, rfl, rfl, rfl⟩
      have hR3 := ((hR2.pre hcQ).pre hcP).pre hR1.1
      rwa [show [[0#8], (toB (wnum l1))].flatten = contS l1 by unfold contS; rw [if_pos (by omega)]; simp] at hR3
    have hz : (toB (wnum l1)).length ≠ 0 := by
      have : ¬ (d1.n : Int) = 0 := by simpa using hq
      omega
    obtain ⟨x, hx, hx'⟩ := bat_some (b := toB (wnum l1)) (i := 0) (by omega)
    repeat (first | refine W.seq ?_ | refine W.block ?_ | refine W.reg ?_ | refine W.skip ?_ | refine W.exit ?_ | refine W.ret ?_ | refine L.nil ?_ | refine L.p rfl rfl ?_ | refine L.skip rfl ?_)
    have hsl := hR1.2.2.1.slv
    refine L.el hsl (k := 0) rfl (bv_get hx) rfl rfl rfl rfl (fun _ => rfl) rfl (fun p => ?_)
    repeat (first | refine W.seq ?_ | refine W.block ?_ | refine W.reg ?_ | refine W.skip ?_ | refine W.exit ?_ | refine W.ret ?_ | refine L.nil ?_ | refine L.p rfl rfl ?_ | refine L.skip rfl ?_)
    refine W.ite rfl (fun h => ?_) (fun h => ?_)
    · have h8 : 128 ≤ x.toNat := by have := of_decide_eq_true h; omega
      clear h
      repeat (first | refine W.seq ?_ | refine W.block ?_ | refine W.reg ?_ | refine W.skip ?_ | refine W.exit ?_ | refine W.ret ?_ | refine L.nil ?_ | refine L.p rfl rfl ?_ | refine L.skip rfl ?_)
      refine L.bs [v8 0#8] rfl rfl rfl rfl rfl rfl ?_
      have hcP : Cons T1 (T1 ++ [newR [v8 0#8] 5]) := Cons.push _ _
      have hrP : Mem.row? (T1 ++ [newR [v8 0#8] 5]) T1.length = some (newR [v8 0#8] 5) := row_push_new rfl
      generalize T1 ++ [newR [v8 0#8] 5] = P1 at *
      have hsP := one_slv hrP
      repeat (first | refine W.seq ?_ | refine W.block ?_ | refine W.reg ?_ | refine W.skip ?_ | refine W.exit ?_ | refine W.ret ?_ | refine L.nil ?_ | refine L.p rfl rfl ?_ | refine L.skip rfl ?_)
      refine L.bs [.slice (some ⟨T1.length, 0, none⟩) 1 1, d1.v] rfl rfl rfl rfl rfl rfl ?_
      have hcQ : Cons P1 (P1 ++ [newR [.slice (some ⟨T1.length, 0, none⟩) 1 1, d1.v] 22]) := Cons.push _ _
      have hrQ : Mem.row? (P1 ++ [newR [.slice (some ⟨T1.length, 0, none⟩) 1 1, d1.v] 22]) P1.length = some (newR [.slice (some ⟨T1.length, 0, none⟩) 1 1, d1.v] 22) := row_push_new rfl
      generalize P1 ++ [newR [.slice (some ⟨T1.length, 0, none⟩) 1 1, d1.v] 22] = P2 at *
      refine L.cl (concat_C (some ⟨P1.length, 0, none⟩) 2 _ [[0#8], (toB (wnum l1))] P2 (Slv.all hrQ rfl rfl) (.add (hsP.cons hcQ) rfl (.add ((hR1.2.2.1.slv.cons hcP).cons hcQ) hdn (.nil _))) (by simp) (by simp; omega) (by simp)) rfl rfl ?_
      rintro _ P3 ⟨d2, rfl, hR2⟩
      refine ⟨nofun, ?_⟩
      repeat (first | refine W.seq ?_ | refine W.block ?_ | refine W.reg ?_ | refine W.skip ?_ | refine W.exit ?_ | refine W.ret ?_ | refine L.nil ?_ | refine L.p rfl rfl ?_ | refine L.skip rfl ?_)
      refine ⟨rfl, d2, rfl, ?_, rfl, rfl, rfl, rfl, rfl⟩
      have hR3 := ((hR2.pre hcQ).pre hcP).pre hR1.1
      rwa [show [[0#8], (toB (wnum l1))].flatten = contS l1 by unfold contS; rw [if_pos (by omega)]; simp] at hR3
    have h8 : x.toNat < 128 := by have := of_decide_eq_false h; omega
    clear h
    repeat (first | refine W.seq ?_ | refine W.block ?_ | refine W.reg ?_ | refine W.skip ?_ | refine W.exit ?_ | refine W.ret ?_ | refine L.nil ?_ | refine L.p rfl rfl ?_ | refine L.skip rfl ?_)
    refine ⟨rfl, d1, rfl, ?_, rfl, rfl, rfl, rfl, rfl⟩
    rw [show contS l1 = toB (wnum l1) by unfold contS; rw [if_neg (by omega)]]
    exact hR1
  clear hR1 hdn
  rintro x e T2 ⟨rfl, d2, e7, hR2, e2, e3, e4, e13, e14⟩
  refine W.env6 e2 e3 e4 e7 e13 e14 ?_
  obtain ⟨hI2, hv2⟩ := hR2.2.2.1.bin hR2.2.1
  repeat (first | refine W.seq ?_ | refine W.block ?_ | refine W.reg ?_ | refine W.skip ?_ | refine W.exit ?_ | refine W.ret ?_ | refine L.nil ?_ | refine L.p rfl rfl ?_ | refine L.skip rfl ?_)
  refine L.cl (laid_C 2#8 _ d2.c (contS l1) T2 hI2.1 (by omega)) rfl (acall_eq (list2 rfl hv2)) ?_
  rintro _ T3 ⟨u0, rfl, hR3⟩
  refine ⟨nofun, ?_⟩
  have hm0 : u0.n = (laidS 2#8 (contS l1)).length := by have := hR3.2.2.1.len; rw [bv_len] at this; exact this.symm
  have hll0 : (laidS 2#8 (contS l1)).length ≤ 520 := by
    have h8 := laidS_len 2#8 (contS l1)
    have h9 := toB_lt (n := (contS l1).length) (by omega)
    omega
  have hcT := ((Cons.refl M1)).trans (hR2.1.trans hR3.1)
  repeat (first | refine W.seq ?_ | refine W.block ?_ | refine W.reg ?_ | refine W.skip ?_ | refine W.exit ?_ | refine W.ret ?_ | refine L.nil ?_ | refine L.p rfl rfl ?_ | refine L.skip rfl ?_)
  refine L.app (bytes := 1) (n := 0) (m := u0.n) rfl hcT.len ((hg0).cons (hR2.1.trans hR3.1)) rfl rfl hR3.2.2.1.slv (bv_one _) (by omega) rfl rfl ?_
  intro a0 c0 N0 g0 _ hA
  have k0 : Cons M1 N0 := hcT.trans' hA
  clear hA hcT hR3 hR2 hI2
  repeat (first | refine W.seq ?_ | refine W.block ?_ | refine W.reg ?_ | refine W.skip ?_ | refine W.exit ?_ | refine W.ret ?_ | refine L.nil ?_ | refine L.p rfl rfl ?_ | refine L.skip rfl ?_)
  refine W.loopStep ?_
  repeat (first | refine W.seq ?_ | refine W.block ?_ | refine W.reg ?_ | refine W.skip ?_ | refine W.exit ?_ | refine W.ret ?_ | refine L.nil ?_ | refine L.p rfl rfl ?_ | refine L.skip rfl ?_)
  refine W.ite rfl (fun h => ?_) (fun h => ?_)
  rotate_left
  · cases h
  clear h
  repeat (first | refine W.seq ?_ | refine W.block ?_ | refine W.reg ?_ | refine W.skip ?_ | refine W.exit ?_ | refine W.ret ?_ | refine L.nil ?_ | refine L.p rfl rfl ?_ | refine L.skip rfl ?_)
  refine L.cl (bits_C a2 c2 l2 N0 (hW2.cons k0)) rfl rfl ?_
  rintro _ _ ⟨rfl, hS'⟩
  have hS2 := hS'.symm
  subst hS2
  clear hS'
  refine ⟨nofun, ?_⟩
  repeat (first | refine W.seq ?_ | refine W.block ?_ | refine W.reg ?_ | refine W.skip ?_ | refine W.exit ?_ | refine W.ret ?_ | refine L.nil ?_ | refine L.p rfl rfl ?_ | refine L.skip rfl ?_)
  refine L.fail (so := decide ((blen (wnum l2) : Int) > 4096)) rfl rfl (fun h => ?_) (fun h => ?_)
  · exact ⟨rfl, hpan rfl rfl k0 (by have := of_decide_eq_true h; unfold encBad; omega)⟩
  have hb1 : ¬ 4096 < blen (wnum l2) := by have := of_decide_eq_false h; omega
  clear h
  have hsm := small_of hb1
  obtain ⟨hl1, hl21⟩ := cont_len hb1
  repeat (first | refine W.seq ?_ | refine W.block ?_ | refine W.reg ?_ | refine W.skip ?_ | refine W.exit ?_ | refine W.ret ?_ | refine L.nil ?_ | refine L.p rfl rfl ?_ | refine L.skip rfl ?_)
  refine L.cl (natBytes_C a2 c2 l2 N0 (hW2.cons k0)) rfl rfl ?_
  rintro _ T1 ⟨d1, rfl, hR1⟩
  refine ⟨nofun, ?_⟩
  have hB1 : bytesL l2 = toB (wnum l2) := by unfold bytesL; rw [if_pos hsm]
  have hE1 : toldE l2 = 0 := by unfold toldE; rw [if_pos hsm]
  rw [hB1] at hR1
  rw [hE1]
  clear hB1 hE1
  repeat (first | refine W.seq ?_ | refine W.block ?_ | refine W.reg ?_ | refine W.skip ?_ | refine W.exit ?_ | refine W.ret ?_ | refine L.nil ?_ | refine L.p rfl rfl ?_ | refine L.skip rfl ?_)
  refine L.fail (so := false) rfl rfl (fun h => ?_) (fun h => ?_)
  · cases h
  clear h
  have hdn : d1.n = (toB (wnum l2)).length := by have := hR1.2.2.1.len; rw [bv_len] at this; exact this.symm
  refine L.nil ?_
  refine W.seq (W.mono (R := fun x e' S' => x = .nrm ∧ ∃ d : Hd, e' 7 = d.v ∧ RetB N0 S' d (contS l2) ∧ e' 2 = nilV ∧ e' 3 = .pointer (some ⟨S.length + 1, 0, none⟩) ∧ e' 4 = (.slice a0 (0 + u0.n) c0) ∧ e' 13 = .agg #[.slice a1 l1.length c1, .slice a2 l2.length c2] ∧ e' 14 = vi 1) ?_ ?_)
  · repeat (first | refine W.seq ?_ | refine W.block ?_ | refine W.reg ?_ | refine W.skip ?_ | refine W.exit ?_ | refine W.ret ?_ | refine L.nil ?_ | refine L.p rfl rfl ?_ | refine L.skip rfl ?_)
    cases hq : ((d1.n : Int) == 0)
    rotate_left
    · have hz : (toB (wnum l2)).length = 0 := by have : (d1.n : Int) = 0 := (by simpa using hq); omega
      repeat (first | refine W.seq ?_ | refine W.block ?_ | refine W.reg ?_ | refine W.skip ?_ | refine W.exit ?_ | refine W.ret ?_ | refine L.nil ?_ | refine L.p rfl rfl ?_ | refine L.skip rfl ?_)
      refine W.ite rfl (fun h => ?_) (fun h => ?_)
      rotate_left
      · cases h
      clear h
      repeat (first | refine W.seq ?_ | refine W.block ?_ | refine W.reg ?_ | refine W.skip ?_ | refine W.exit ?_ | refine W.ret ?_ | refine L.nil ?_ | refine L.p rfl rfl ?_ | refine L.skip rfl ?_)
      refine L.bs [v8 0#8] rfl rfl rfl rfl rfl rfl ?_
      have hcP : Cons T1 (T1 ++ [newR [v8 0#8] 5]) := Cons.push _ _
      have hrP : Mem.row? (T1 ++ [newR [v8 0#8] 5]) T1.length = some (newR [v8 0#8] 5) := row_push_new rfl
      generalize T1 ++ [newR [v8 0#8] 5] = P1 at *
      have hsP := one_slv hrP
      repeat (first | refine W.seq ?_ | refine W.block ?_ | refine W.reg ?_ | refine W.skip ?_ | refine W.exit ?_ | refine W.ret ?_ | refine L.nil ?_ | refine L.p rfl rfl ?_ | refine L.skip rfl ?_)
      refine L.bs [.slice (some ⟨T1.length, 0, none⟩) 1 1, d1.v] rfl rfl rfl rfl rfl rfl ?_
      have hcQ : Cons P1 (P1 ++ [newR [.slice (some ⟨T1.length, 0, none⟩) 1 1, d1.v] 22]) := Cons.push _ _
      have hrQ : Mem.row? (P1 ++ [newR [.slice (some ⟨T1.length, 0, none⟩) 1 1, d1.v] 22]) P1.length = some (newR [.slice (some ⟨T1.length, 0, none⟩) 1 1, d1.v] 22) := row_push_new rfl
      generalize P1 ++ [newR [.slice (some ⟨T1.length, 0, none⟩) 1 1, d1.v] 22] = P2 at *
      refine L.cl (concat_C (some ⟨P1.length, 0, none⟩) 2 _ [[0#8], (toB (wnum l2))] P2 (Slv.all hrQ rfl rfl) (.add (hsP.cons hcQ) rfl (.add ((hR1.2.2.1.slv.cons hcP).cons hcQ) hdn (.nil _))) (by simp) (by simp; omega) (by simp)) rfl rfl ?_
      rintro _ P3 ⟨d2, rfl, hR2⟩
      refine ⟨nofun, ?_⟩
      repeat (first | refine W.seq ?_ | refine W.block ?_ | refine W.reg ?_ | refine W.skip ?_ | refine W.exit ?_ | refine W.ret ?_ | refine L.nil ?_ | refine L.p rfl rfl ?_ | refine L.skip rfl ?_)
      refine ⟨rfl, d2, rfl, ?_, rfl, rfl, rfl, rfl, rfl⟩
      have hR3 := ((hR2.pre hcQ).pre hcP).pre hR1.1
      rwa [show [[0#8], (toB (wnum l2))].flatten = contS l2 by unfold contS; rw [if_pos (by omega)]; simp] at hR3
    have hz : (toB (wnum l2)).length ≠ 0 := by
      have : ¬ (d1.n : Int) = 0 := by simpa using hq
      omega
    obtain ⟨x, hx, hx'⟩ := bat_some (b := toB (wnum l2)) (i := 0) (by omega)
    repeat (first | refine W.seq ?_ | refine W.block ?_ | refine W.reg ?_ | refine W.skip ?_ | refine W.exit ?_ | refine W.ret ?_ | refine L.nil ?_ | refine L.p rfl rfl ?_ | refine L.skip rfl ?_)
    have hsl := hR1.2.2.1.slv
    refine L.el hsl (k := 0) rfl (bv_get hx) rfl rfl rfl rfl (fun _ => rfl) rfl (fun p => ?_)
    repeat (first | refine W.seq ?_ | refine W.block ?_ | refine W.reg ?_ | refine W.skip ?_ | refine W.exit ?_ | refine W.ret ?_ | refine L.nil ?_ | refine L.p rfl rfl ?_ | refine L.skip rfl ?_)
    refine W.ite rfl (fun h => ?_) (fun h => ?_)
    · have h8 : 128 ≤ x.toNat := by have := of_decide_eq_true h; omega
      clear h
      repeat (first | refine W.seq ?_ | refine W.block ?_ | refine W.reg ?_ | refine W.skip ?_ | refine W.exit ?_ | refine W.ret ?_ | refine L.nil ?_ | refine L.p rfl rfl ?_ | refine L.skip rfl ?_)
      refine L.bs [v8 0#8] rfl rfl rfl rfl rfl rfl ?_
      have hcP : Cons T1 (T1 ++ [newR [v8 0#8] 5]) := Cons.push _ _
      have hrP : Mem.row? (T1 ++ [newR [v8 0#8] 5]) T1.length = some (newR [v8 0#8] 5) := row_push_new rfl
      generalize T1 ++ [newR [v8 0#8] 5] = P1 at *
      have hsP := one_slv hrP
      repeat (first | refine W.seq ?_ | refine W.block ?_ | refine W.reg ?_ | refine W.skip ?_ | refine W.exit ?_ | refine W.ret ?_ | refine L.nil ?_ | refine L.p rfl rfl ?_ | refine L.skip rfl ?_)
      refine L.bs [.slice (some ⟨T1.length, 0, none⟩) 1 1, d1.v] rfl rfl rfl rfl rfl rfl ?_
      have hcQ : Cons P1 (P1 ++ [newR [.slice (some ⟨T1.length, 0, none⟩) 1 1, d1.v] 22]) := Cons.push _ _
      have hrQ : Mem.row? (P1 ++ [newR [.slice (some ⟨T1.length, 0, none⟩) 1 1, d1.v] 22]) P1.length = some (newR [.slice (some ⟨T1.length, 0, none⟩) 1 1, d1.v] 22) := row_push_new rfl
      generalize P1 ++ [newR [.slice (some ⟨T1.length, 0, none⟩) 1 1, d1.v] 22] = P2 at *
      refine L.cl (concat_C (some ⟨P1.length, 0, none⟩) 2 _ [[0#8], (toB (wnum l2))] P2 (Slv.all hrQ rfl rfl) (.add (hsP.cons hcQ) rfl (.add ((hR1.2.2.1.slv.cons hcP).cons hcQ) hdn (.nil _))) (by simp) (by simp; omega) (by simp)) rfl rfl ?_
      rintro _ P3 ⟨d2, rfl, hR2⟩
      refine ⟨nofun, ?_⟩
      repeat (first | refine W.seq ?_ | refine W.block ?_ | refine W.reg ?_ | refine W.skip ?_ | refine W.exit ?_ | refine W.ret ?_ | refine L.nil ?_ | refine L.p rfl rfl ?_ | refine L.skip rfl ?_)
      refine ⟨rfl, d2, rfl, ?_, rfl, rfl, rfl, rfl, rfl⟩
      have hR3 := ((hR2.pre hcQ).pre hcP).pre hR1.1
      rwa [show [[0#8], (toB (wnum l2))].flatten = contS l2 by unfold contS; rw [if_pos (by omega)]; simp] at hR3
    have h8 : x.toNat < 128 := by have := of_decide_eq_false h; omega
    clear h
    repeat (first | refine W.seq ?_ | refine W.block ?_ | refine W.reg ?_ | refine W.skip ?_ | refine W.exit ?_ | refine W.ret ?_ | refine L.nil ?_ | refine L.p rfl rfl ?_ | refine L.skip rfl ?_)
    refine ⟨rfl, d1, rfl, ?_, rfl, rfl, rfl, rfl, rfl⟩
    rw [show contS l2 = toB (wnum l2) by unfold contS; rw [if_neg (by omega)]]
    exact hR1
  clear hR1 hdn
  rintro x e T2 ⟨rfl, d2, e7, hR2, e2, e3, e4, e13, e14⟩
  refine W.env6 e2 e3 e4 e7 e13 e14 ?_
  obtain ⟨hI2, hv2⟩ := hR2.2.2.1.bin hR2.2.1
  repeat (first | refine W.seq ?_ | refine W.block ?_ | refine W.reg ?_ | refine W.skip ?_ | refine W.exit ?_ | refine W.ret ?_ | refine L.nil ?_ | refine L.p rfl rfl ?_ | refine L.skip rfl ?_)
  refine L.cl (laid_C 2#8 _ d2.c (contS l2) T2 hI2.1 (by omega)) rfl (acall_eq (list2 rfl hv2)) ?_
  rintro _ T3 ⟨u1, rfl, hR3⟩
  refine ⟨nofun, ?_⟩
  have hm1 : u1.n = (laidS 2#8 (contS l2)).length := by have := hR3.2.2.1.len; rw [bv_len] at this; exact this.symm
  have hll1 : (laidS 2#8 (contS l2)).length ≤ 520 := by
    have h8 := laidS_len 2#8 (contS l2)
    have h9 := toB_lt (n := (contS l2).length) (by omega)
    omega
  have hcT := (k0).trans (hR2.1.trans hR3.1)
  repeat (first | refine W.seq ?_ | refine W.block ?_ | refine W.reg ?_ | refine W.skip ?_ | refine W.exit ?_ | refine W.ret ?_ | refine L.nil ?_ | refine L.p rfl rfl ?_ | refine L.skip rfl ?_)
  refine L.app (bytes := 1) (n := (0 + u0.n)) (m := u1.n) rfl hcT.len ((g0).cons (hR2.1.trans hR3.1)) rfl rfl hR3.2.2.1.slv (bv_one _) (by omega) rfl rfl ?_
  intro a1 c1 N1 g1 _ hA
  have k1 : Cons M1 N1 := hcT.trans' hA
  clear hA hcT hR3 hR2 hI2
  repeat (first | refine W.seq ?_ | refine W.block ?_ | refine W.reg ?_ | refine W.skip ?_ | refine W.exit ?_ | refine W.ret ?_ | refine L.nil ?_ | refine L.p rfl rfl ?_ | refine L.skip rfl ?_)
  refine W.loopStep ?_
  repeat (first | refine W.seq ?_ | refine W.block ?_ | refine W.reg ?_ | refine W.skip ?_ | refine W.exit ?_ | refine W.ret ?_ | refine L.nil ?_ | refine L.p rfl rfl ?_ | refine L.skip rfl ?_)
  refine W.ite rfl (fun h => ?_) (fun h => ?_)
  · cases h
  clear h
  have hgs := g1.slv
  have hle : bv [] ++ bv (laidS 2#8 (contS l1)) ++ bv (laidS 2#8 (contS l2)) = bv (laidS 2#8 (contS l1) ++ laidS 2#8 (contS l2)) := by simp [bv]
  have hnn : 0 + u0.n + u1.n = (laidS 2#8 (contS l1) ++ laidS 2#8 (contS l2)).length := by rw [List.length_append]; omega
  rw [show ([] : List Value) ++ bv (laidS 2#8 (contS l1)) ++ bv (laidS 2#8 (contS l2)) = bv (laidS 2#8 (contS l1) ++ laidS 2#8 (contS l2)) by simp [bv], hnn] at hgs
  repeat (first | refine W.seq ?_ | refine W.block ?_ | refine W.reg ?_ | refine W.skip ?_ | refine W.exit ?_ | refine W.ret ?_ | refine L.nil ?_ | refine L.p rfl rfl ?_ | refine L.skip rfl ?_)
  refine L.cl (laid_C 48#8 _ c1 (laidS 2#8 (contS l1) ++ laidS 2#8 (contS l2)) N1 hgs (by omega)) rfl (acall_eq (congrArg (fun n => [v8 48#8, Value.slice a1 n c1]) hnn)) ?_
  rintro _ E1 ⟨d, rfl, hR⟩
  refine ⟨nofun, ?_⟩
  have hkE : Cons M1 E1 := k1.trans hR.1
  have heE : E1.row? (S.length + 1) = some (newR [.int .i64 0] 27) := Cons.row (h := hkE) her
  repeat (first | refine W.seq ?_ | refine W.block ?_ | refine W.reg ?_ | refine W.skip ?_ | refine W.exit ?_ | refine W.ret ?_ | refine L.nil ?_ | refine L.p rfl rfl ?_ | refine L.skip rfl ?_)
  refine L.st (ad := ⟨S.length + 1, 0, none⟩) (vs := [.int .i64 0]) (write_of (o := 0) heE rfl (Nat.le_refl 1) rfl) rfl rfl rfl rfl ?_
  rw [show E1.set (S.length + 1) { newR [.int .i64 0] 27 with cells := putFrom (newR [.int .i64 0] 27).cells 0 [.int .i64 0] } = E1 from set_self heE]
  repeat (first | refine W.seq ?_ | refine W.block ?_ | refine W.reg ?_ | refine W.skip ?_ | refine W.exit ?_ | refine W.ret ?_ | refine L.nil ?_ | refine L.p rfl rfl ?_ | refine L.skip rfl ?_)
  refine ⟨.ret, .tuple #[d.v, .int .i64 0], E1, rfl, .cons (caught_ret _ _) (.ret ?_), ?_⟩
  · have ha : aloadAt Try.prog 27 (.pointer (some ⟨S.length + 1, 0, none⟩)) E1 = some (.int .i64 0) := aload_one rfl (cell_of (o := 0) (v := .int .i64 0) heE rfl (.inl rfl))
    exact congrArg (fun o => Option.map (fun v => Value.tuple #[d.v, v]) o) ha
  · unfold EncR
    rw [if_neg (show ¬ encBad l1 l2 by unfold encBad; omega)]
    exact ⟨d, rfl, (hR.pre k1).pre hC⟩
end Go.Proofs.Ytccdlijohkljcaa

/- The reference of layer 7: an item's bytes; an integer's content. Conditions: none. -/
set_option linter.unusedSimpArgs false
set_option linter.unusedVariables false
set_option maxRecDepth 100000
namespace Go.Proofs.Ytccdlijohkljcaa
open Go
variable {G : Nat} {Ext : FuncId → List Value → Mem → Outc → Mem → Prop}

theorem lenB_len {n : Nat} (h : n < 1099511627776) : (lenB n).length ≤ 6 := by
  have := toB_lt h
  unfold lenB; split
  · simp
  · rw [List.length_cons]; omega
theorem refLaid_C (tag : BitVec 8) (a : Option Addr) (c : Nat) (l : BL) (S : Mem) (hs : Slv S 1 (.slice a l.length c) l.length (bv l)) (hl : l.length < 549755813888) : C Try.prog G Ext 48 [v8 tag, .slice a l.length c] S fun v S' => RefB S S' v (laidS tag l) := by
  refine C.fn Try.func48 rfl (by kernel_rfl) rfl ?_
  repeat (first | refine W.seq ?_ | refine W.block ?_ | refine W.reg ?_ | refine W.skip ?_ | refine W.exit ?_ | refine W.ret ?_ | refine L.nil ?_ | refine L.p rfl rfl ?_ | refine L.skip rfl ?_)
  refine L.bs [v8 tag] rfl rfl rfl rfl rfl rfl ?_
  have hsP : Slv (S ++ [newR [v8 tag] 5]) 1 (.slice (some ⟨S.length, 0, none⟩) 1 1) 1 (bv [tag]) := one_slv (row_push_new rfl)
  have hcP : Cons S (S ++ [newR [v8 tag] 5]) := Cons.push _ _
  generalize S ++ [newR [v8 tag] 5] = P1 at *
  repeat (first | refine W.seq ?_ | refine W.block ?_ | refine W.reg ?_ | refine W.skip ?_ | refine W.exit ?_ | refine W.ret ?_ | refine L.nil ?_ | refine L.p rfl rfl ?_ | refine L.skip rfl ?_)
  refine L.app (bytes := 1) (n := 0) (m := 1) rfl (Nat.le_refl _) (Grow.nil P1.length P1 5 1) rfl rfl hsP (bv_one _) (by omega) rfl rfl ?_
  intro a1 c1 P2 g1 _ hA1
  have hc1 : Cons P1 P2 := hA1
  repeat (first | refine W.seq ?_ | refine W.block ?_ | refine W.reg ?_ | refine W.skip ?_ | refine W.exit ?_ | refine W.ret ?_ | refine L.nil ?_ | refine L.p rfl rfl ?_ | refine L.skip rfl ?_)
  refine L.cl (refLength_C l.length hl P2) rfl rfl ?_
  rintro _ P3 ⟨hc3, a3, c3, rfl, hB3⟩
  refine ⟨nofun, ?_⟩
  have hll := lenB_len (n := l.length) (by omega)
  have hc13 := hc1.trans hc3
  refine L.app (bytes := 1) (n := 0 + 1) (m := (lenB l.length).length) rfl hc13.len (g1.cons hc3) rfl rfl hB3.1 (bv_one _) (by omega) rfl rfl ?_
  intro a4 c4 P4 g4 _ hA4
  have hc4 : Cons P1 P4 := hc13.trans' hA4
  repeat (first | refine W.seq ?_ | refine W.block ?_ | refine W.reg ?_ | refine W.skip ?_ | refine W.exit ?_ | refine W.ret ?_ | refine L.nil ?_ | refine L.p rfl rfl ?_ | refine L.skip rfl ?_)
  refine L.app (bytes := 1) (n := 0 + 1 + (lenB l.length).length) (m := l.length) rfl hc4.len g4 rfl rfl ((hs.cons hcP).cons hc4) (bv_one _) (by omega) rfl rfl ?_
  intro a5 c5 P5 g5 _ hA5
  have hc5 : Cons P1 P5 := hc4.trans' hA5
  repeat (first | refine W.seq ?_ | refine W.block ?_ | refine W.reg ?_ | refine W.skip ?_ | refine W.exit ?_ | refine W.ret ?_ | refine L.nil ?_ | refine L.p rfl rfl ?_ | refine L.skip rfl ?_)
  have hlen : 0 + 1 + (lenB l.length).length + l.length = (laidS tag l).length := by rw [laidS_eq, List.length_cons, List.length_append]; omega
  rw [show ([] : List Value) ++ bv [tag] ++ bv (lenB l.length) ++ bv l = bv (laidS tag l) by rw [laidS_eq]; simp [bv]] at g5
  have hB := grow_bin g5 hlen.symm (by omega)
  refine ⟨.inr rfl, _, rfl, hcP.trans hc5, a5, c5, ?_, hB⟩
  refine (force_eq rfl).trans ?_
  rw [hlen]
theorem refContent_C (a : Option Addr) (c : Nat) (l : WL) (S : Mem) (hI : WIn S a c l) (hb : ¬ 4096 < blen (wnum l)) (hlen : l.length < 400000) : C Try.prog G Ext 49 [.slice a l.length c] S fun v S' => RefB S S' v (contS l) := by
  refine C.fn Try.func49 rfl (by kernel_rfl) rfl ?_
  repeat (first | refine W.seq ?_ | refine W.block ?_ | refine W.reg ?_ | refine W.skip ?_ | refine W.exit ?_ | refine W.ret ?_ | refine L.nil ?_ | refine L.p rfl rfl ?_ | refine L.skip rfl ?_)
  refine L.cl (refBytes_C a c l S hI hlen) rfl rfl ?_
  rintro _ S1 ⟨a1, c1, rfl, hc, hB⟩
  refine ⟨nofun, ?_⟩
  have hB1 : bytesL l = toB (wnum l) := by unfold bytesL; rw [if_pos (small_of hb)]
  rw [hB1] at hB ⊢
  have hcl := (cont_len hb).1
  obtain ⟨t, ht⟩ : ∃ t, t = toB (wnum l) := ⟨_, rfl⟩
  rw [← ht] at hB hcl ⊢
  repeat (first | refine W.seq ?_ | refine W.block ?_ | refine W.reg ?_ | refine W.skip ?_ | refine W.exit ?_ | refine W.ret ?_ | refine L.nil ?_ | refine L.p rfl rfl ?_ | refine L.skip rfl ?_)
  cases hq : decide ((t.length : Int) > 0)
  · have h0 : t.length = 0 := by have := of_decide_eq_false hq; omega
    clear hq
    repeat (first | refine W.seq ?_ | refine W.block ?_ | refine W.reg ?_ | refine W.skip ?_ | refine W.exit ?_ | refine W.ret ?_ | refine L.nil ?_ | refine L.p rfl rfl ?_ | refine L.skip rfl ?_)
    refine W.ite rfl (fun h => ?_) (fun h => ?_)
    · cases h
    clear h
    repeat (first | refine W.seq ?_ | refine W.block ?_ | refine W.reg ?_ | refine W.skip ?_ | refine W.exit ?_ | refine W.ret ?_ | refine L.nil ?_ | refine L.p rfl rfl ?_ | refine L.skip rfl ?_)
    refine L.bs [v8 0#8] rfl rfl rfl rfl rfl rfl ?_
    have hsP : Slv (S1 ++ [newR [v8 0#8] 5]) 1 (.slice (some ⟨S1.length, 0, none⟩) 1 1) 1 (bv [0#8]) := one_slv (row_push_new rfl)
    have hcP : Cons S1 (S1 ++ [newR [v8 0#8] 5]) := Cons.push _ _
    generalize S1 ++ [newR [v8 0#8] 5] = P1 at *
    repeat (first | refine W.seq ?_ | refine W.block ?_ | refine W.reg ?_ | refine W.skip ?_ | refine W.exit ?_ | refine W.ret ?_ | refine L.nil ?_ | refine L.p rfl rfl ?_ | refine L.skip rfl ?_)
    refine L.app (bytes := 1) (n := 0) (m := 1) rfl (Nat.le_refl _) (Grow.nil P1.length P1 5 1) rfl rfl hsP (bv_one _) (by omega) rfl rfl ?_
    intro a2 c2 P2 g1 _ hA1
    have hc1 : Cons P1 P2 := hA1
    repeat (first | refine W.seq ?_ | refine W.block ?_ | refine W.reg ?_ | refine W.skip ?_ | refine W.exit ?_ | refine W.ret ?_ | refine L.nil ?_ | refine L.p rfl rfl ?_ | refine L.skip rfl ?_)
    refine L.app (bytes := 1) (n := 0 + 1) (m := t.length) rfl hc1.len g1 rfl rfl ((hB.1.cons hcP).cons hc1) (bv_one _) (by omega) rfl rfl ?_
    intro a3 c3 P3 g3 _ hA3
    have hc3 : Cons P1 P3 := hc1.trans' hA3
    repeat (first | refine W.seq ?_ | refine W.block ?_ | refine W.reg ?_ | refine W.skip ?_ | refine W.exit ?_ | refine W.ret ?_ | refine L.nil ?_ | refine L.p rfl rfl ?_ | refine L.skip rfl ?_)
    have hcs : contS l = 0#8 :: t := by unfold contS; rw [← ht, if_pos (by omega)]
    have hlen3 : 0 + 1 + t.length = (contS l).length := by rw [hcs, List.length_cons]; omega
    rw [show ([] : List Value) ++ bv [0#8] ++ bv t = bv (contS l) by rw [hcs]; simp [bv]] at g3
    have hB3 := grow_bin g3 hlen3.symm (by omega)
    refine ⟨.inr rfl, _, rfl, (hc.trans hcP).trans hc3, a3, c3, ?_, hB3⟩
    refine (force_eq rfl).trans ?_
    rw [hlen3]
  have h0 : 0 < t.length := by have := of_decide_eq_true hq; omega
  clear hq
  obtain ⟨x, hx, hx'⟩ := bat_some (b := t) (i := 0) (by omega)
  have hxl := x.isLt
  repeat (first | refine W.seq ?_ | refine W.block ?_ | refine W.reg ?_ | refine W.skip ?_ | refine W.exit ?_ | refine W.ret ?_ | refine L.nil ?_ | refine L.p rfl rfl ?_ | refine L.skip rfl ?_)
  refine L.el hB.1 (k := 0) rfl (bv_get hx) rfl rfl rfl rfl (fun _ => rfl) rfl (fun p => ?_)
  repeat (first | refine W.seq ?_ | refine W.block ?_ | refine W.reg ?_ | refine W.skip ?_ | refine W.exit ?_ | refine W.ret ?_ | refine L.nil ?_ | refine L.p rfl rfl ?_ | refine L.skip rfl ?_)
  refine W.ite rfl (fun h => ?_) (fun h => ?_)
  · have h8 : x.toNat < 128 := by have := of_decide_eq_true h; omega
    clear h
    repeat (first | refine W.seq ?_ | refine W.block ?_ | refine W.reg ?_ | refine W.skip ?_ | refine W.exit ?_ | refine W.ret ?_ | refine L.nil ?_ | refine L.p rfl rfl ?_ | refine L.skip rfl ?_)
    refine ⟨.inr rfl, _, rfl, hc, ?_⟩
    have hcs : contS l = t := by unfold contS; rw [← ht, if_neg (by omega)]
    rw [hcs]
    exact ⟨a1, c1, rfl, hB⟩
  have h8 : 128 ≤ x.toNat := by have := of_decide_eq_false h; omega
  clear h
  repeat (first | refine W.seq ?_ | refine W.block ?_ | refine W.reg ?_ | refine W.skip ?_ | refine W.exit ?_ | refine W.ret ?_ | refine L.nil ?_ | refine L.p rfl rfl ?_ | refine L.skip rfl ?_)
  refine L.bs [v8 0#8] rfl rfl rfl rfl rfl rfl ?_
  have hsP : Slv (S1 ++ [newR [v8 0#8] 5]) 1 (.slice (some ⟨S1.length, 0, none⟩) 1 1) 1 (bv [0#8]) := one_slv (row_push_new rfl)
  have hcP : Cons S1 (S1 ++ [newR [v8 0#8] 5]) := Cons.push _ _
  generalize S1 ++ [newR [v8 0#8] 5] = P1 at *
  repeat (first | refine W.seq ?_ | refine W.block ?_ | refine W.reg ?_ | refine W.skip ?_ | refine W.exit ?_ | refine W.ret ?_ | refine L.nil ?_ | refine L.p rfl rfl ?_ | refine L.skip rfl ?_)
  refine L.app (bytes := 1) (n := 0) (m := 1) rfl (Nat.le_refl _) (Grow.nil P1.length P1 5 1) rfl rfl hsP (bv_one _) (by omega) rfl rfl ?_
  intro a2 c2 P2 g1 _ hA1
  have hc1 : Cons P1 P2 := hA1
  repeat (first | refine W.seq ?_ | refine W.block ?_ | refine W.reg ?_ | refine W.skip ?_ | refine W.exit ?_ | refine W.ret ?_ | refine L.nil ?_ | refine L.p rfl rfl ?_ | refine L.skip rfl ?_)
  refine L.app (bytes := 1) (n := 0 + 1) (m := t.length) rfl hc1.len g1 rfl rfl ((hB.1.cons hcP).cons hc1) (bv_one _) (by omega) rfl rfl ?_
  intro a3 c3 P3 g3 _ hA3
  have hc3 : Cons P1 P3 := hc1.trans' hA3
  repeat (first | refine W.seq ?_ | refine W.block ?_ | refine W.reg ?_ | refine W.skip ?_ | refine W.exit ?_ | refine W.ret ?_ | refine L.nil ?_ | refine L.p rfl rfl ?_ | refine L.skip rfl ?_)
  have hcs : contS l = 0#8 :: t := by unfold contS; rw [← ht, if_pos (by omega)]
  have hlen3 : 0 + 1 + t.length = (contS l).length := by rw [hcs, List.length_cons]; omega
  rw [show ([] : List Value) ++ bv [0#8] ++ bv t = bv (contS l) by rw [hcs]; simp [bv]] at g3
  have hB3 := grow_bin g3 hlen3.symm (by omega)
  refine ⟨.inr rfl, _, rfl, (hc.trans hcP).trans hc3, a3, c3, ?_, hB3⟩
  refine (force_eq rfl).trans ?_
  rw [hlen3]
end Go.Proofs.Ytccdlijohkljcaa

/- The reference of layer 7: Encode. Conditions: none. -/
set_option linter.unusedSimpArgs false
set_option linter.unusedVariables false
set_option maxRecDepth 100000
namespace Go.Proofs.Ytccdlijohkljcaa
open Go
variable {G : Nat} {Ext : FuncId → List Value → Mem → Outc → Mem → Prop}

/-- what the reference of Encode hands out -/
def RefEnc (S : Mem) (l1 l2 : WL) (v : Value) (S' : Mem) : Prop := if encBad l1 l2 then v = .tuple #[nilV, .int .i64 3] ∧ Cons S S' else ∃ a c, v = .tuple #[.slice a (encL l1 l2).length c, .int .i64 0] ∧ Cons S S' ∧ BIn S' a c (encL l1 l2)
theorem refEncode_C (a1 a2 : Option Addr) (c1 c2 : Nat) (l1 l2 : WL) (S : Mem) (h1 : WIn S a1 c1 l1) (h2 : WIn S a2 c2 l2) (n1 : l1.length < 400000) (n2 : l2.length < 400000) :
    C Try.prog G Ext 20 [.agg #[.slice a1 l1.length c1, .slice a2 l2.length c2]] S (RefEnc S l1 l2) := by
  refine C.fn Try.func20 rfl (by kernel_rfl) rfl ?_
  repeat (first | refine W.seq ?_ | refine W.block ?_ | refine W.reg ?_ | refine W.skip ?_ | refine W.exit ?_ | refine W.ret ?_ | refine L.nil ?_ | refine L.p rfl rfl ?_ | refine L.skip rfl ?_)
  refine L.eff (v := .pointer (some ⟨S.length, 0, none⟩)) (S1 := S ++ [newR [.slice a1 l1.length c1, .slice a2 l2.length c2] 26]) rfl rfl ?_
  have hC : Cons S (S ++ [newR [.slice a1 l1.length c1, .slice a2 l2.length c2] 26]) := Cons.push _ _
  have hr : Mem.row? (S ++ [newR [.slice a1 l1.length c1, .slice a2 l2.length c2] 26]) S.length = some (newR [.slice a1 l1.length c1, .slice a2 l2.length c2] 26) := row_push_new rfl
  generalize S ++ [newR [.slice a1 l1.length c1, .slice a2 l2.length c2] 26] = K at *
  repeat (first | refine W.seq ?_ | refine W.block ?_ | refine W.reg ?_ | refine W.skip ?_ | refine W.exit ?_ | refine W.ret ?_ | refine L.nil ?_ | refine L.p rfl rfl ?_ | refine L.skip rfl ?_)
  refine L.ld (a := ⟨S.length, 0, none⟩) (v := .slice a1 (l1).length c1) (cell_of hr rfl (.inl rfl)) rfl rfl rfl ?_
  repeat (first | refine W.seq ?_ | refine W.block ?_ | refine W.reg ?_ | refine W.skip ?_ | refine W.exit ?_ | refine W.ret ?_ | refine L.nil ?_ | refine L.p rfl rfl ?_ | refine L.skip rfl ?_)
  refine L.cl (length_C a1 c1 l1 K (h1.cons hC) n1) rfl rfl ?_
  rintro _ K1 ⟨rfl, k1⟩
  refine ⟨nofun, ?_⟩
  have hr1 := Cons.row (h := k1) hr
  have hC1 := hC.trans k1
  repeat (first | refine W.seq ?_ | refine W.block ?_ | refine W.reg ?_ | refine W.skip ?_ | refine W.exit ?_ | refine W.ret ?_ | refine L.nil ?_ | refine L.p rfl rfl ?_ | refine L.skip rfl ?_)
  cases hq : decide ((blen (wnum l1) : Int) > 4096)
  rotate_left
  · have hgt := of_decide_eq_true hq
    repeat (first | refine W.seq ?_ | refine W.block ?_ | refine W.reg ?_ | refine W.skip ?_ | refine W.exit ?_ | refine W.ret ?_ | refine L.nil ?_ | refine L.p rfl rfl ?_ | refine L.skip rfl ?_)
    refine W.ite rfl (fun h => ?_) (fun h => ?_)
    rotate_left
    · cases h
    repeat (first | refine W.seq ?_ | refine W.block ?_ | refine W.reg ?_ | refine W.skip ?_ | refine W.exit ?_ | refine W.ret ?_ | refine L.nil ?_ | refine L.p rfl rfl ?_ | refine L.skip rfl ?_)
    refine ⟨.inr rfl, _, rfl, ?_⟩
    unfold RefEnc
    rw [if_pos (by unfold encBad; omega)]
    exact ⟨rfl, hC1⟩
  have hb1 : ¬ 4096 < blen (wnum l1) := by have := of_decide_eq_false hq; omega
  clear hq
  repeat (first | refine W.seq ?_ | refine W.block ?_ | refine W.reg ?_ | refine W.skip ?_ | refine W.exit ?_ | refine W.ret ?_ | refine L.nil ?_ | refine L.p rfl rfl ?_ | refine L.skip rfl ?_)
  refine L.ld (a := ⟨S.length, 1, none⟩) (v := .slice a2 (l2).length c2) (cell_of hr1 rfl (.inl rfl)) rfl rfl rfl ?_
  repeat (first | refine W.seq ?_ | refine W.block ?_ | refine W.reg ?_ | refine W.skip ?_ | refine W.exit ?_ | refine W.ret ?_ | refine L.nil ?_ | refine L.p rfl rfl ?_ | refine L.skip rfl ?_)
  refine L.cl (length_C a2 c2 l2 K1 (h2.cons hC1) n2) rfl rfl ?_
  rintro _ K2 ⟨rfl, k2⟩
  refine ⟨nofun, ?_⟩
  have hr2 := Cons.row (h := k2) hr1
  have hC2 := hC1.trans k2
  repeat (first | refine W.seq ?_ | refine W.block ?_ | refine W.reg ?_ | refine W.skip ?_ | refine W.exit ?_ | refine W.ret ?_ | refine L.nil ?_ | refine L.p rfl rfl ?_ | refine L.skip rfl ?_)
  cases hq : decide ((blen (wnum l2) : Int) > 4096)
  rotate_left
  · have hgt := of_decide_eq_true hq
    repeat (first | refine W.seq ?_ | refine W.block ?_ | refine W.reg ?_ | refine W.skip ?_ | refine W.exit ?_ | refine W.ret ?_ | refine L.nil ?_ | refine L.p rfl rfl ?_ | refine L.skip rfl ?_)
    refine W.ite rfl (fun h => ?_) (fun h => ?_)
    rotate_left
    · cases h
    repeat (first | refine W.seq ?_ | refine W.block ?_ | refine W.reg ?_ | refine W.skip ?_ | refine W.exit ?_ | refine W.ret ?_ | refine L.nil ?_ | refine L.p rfl rfl ?_ | refine L.skip rfl ?_)
    refine ⟨.inr rfl, _, rfl, ?_⟩
    unfold RefEnc
    rw [if_pos (by unfold encBad; omega)]
    exact ⟨rfl, hC2⟩
  have hb2 : ¬ 4096 < blen (wnum l2) := by have := of_decide_eq_false hq; omega
  clear hq
  repeat (first | refine W.seq ?_ | refine W.block ?_ | refine W.reg ?_ | refine W.skip ?_ | refine W.exit ?_ | refine W.ret ?_ | refine L.nil ?_ | refine L.p rfl rfl ?_ | refine L.skip rfl ?_)
  refine W.ite rfl (fun h => ?_) (fun h => ?_)
  · cases h
  clear h
  repeat (first | refine W.seq ?_ | refine W.block ?_ | refine W.reg ?_ | refine W.skip ?_ | refine W.exit ?_ | refine W.ret ?_ | refine L.nil ?_ | refine L.p rfl rfl ?_ | refine L.skip rfl ?_)
  refine L.ld (a := ⟨S.length, 0, none⟩) (v := .slice a1 (l1).length c1) (cell_of hr2 rfl (.inl rfl)) rfl rfl rfl ?_
  repeat (first | refine W.seq ?_ | refine W.block ?_ | refine W.reg ?_ | refine W.skip ?_ | refine W.exit ?_ | refine W.ret ?_ | refine L.nil ?_ | refine L.p rfl rfl ?_ | refine L.skip rfl ?_)
  have q1 := cont_len hb1
  have q2 := cont_len hb2
  refine L.cl (refContent_C a1 c1 l1 K2 (h1.cons hC2) hb1 n1) rfl rfl ?_
  rintro _ K3 ⟨k3, b3, d3, rfl, hB3⟩
  refine ⟨nofun, ?_⟩
  repeat (first | refine W.seq ?_ | refine W.block ?_ | refine W.reg ?_ | refine W.skip ?_ | refine W.exit ?_ | refine W.ret ?_ | refine L.nil ?_ | refine L.p rfl rfl ?_ | refine L.skip rfl ?_)
  refine L.cl (refLaid_C 2#8 b3 d3 (contS l1) K3 hB3.1 (by omega)) rfl rfl ?_
  rintro _ K4 ⟨k4, b4, d4, rfl, hB4⟩
  refine ⟨nofun, ?_⟩
  have hz1 : (laidS 2#8 (contS l1)).length ≤ 520 := by
    have h8 := laidS_len 2#8 (contS l1)
    have h9 := toB_lt (n := (contS l1).length) (by omega)
    omega
  have hz2 : (laidS 2#8 (contS l2)).length ≤ 520 := by
    have h8 := laidS_len 2#8 (contS l2)
    have h9 := toB_lt (n := (contS l2).length) (by omega)
    omega
  repeat (first | refine W.seq ?_ | refine W.block ?_ | refine W.reg ?_ | refine W.skip ?_ | refine W.exit ?_ | refine W.ret ?_ | refine L.nil ?_ | refine L.p rfl rfl ?_ | refine L.skip rfl ?_)
  refine L.app (bytes := 1) (n := 0) (m := (laidS 2#8 (contS l1)).length) rfl (Nat.le_refl _) (Grow.nil K4.length K4 5 1) rfl rfl hB4.1 (bv_one _) (by omega) rfl rfl ?_
  intro a5 c5 K5 g5 _ hA5
  have k5 : Cons K4 K5 := hA5
  have k25 := (k3.trans k4).trans k5
  have hr5 := Cons.row (h := k25) hr2
  have hC5 := hC2.trans k25
  repeat (first | refine W.seq ?_ | refine W.block ?_ | refine W.reg ?_ | refine W.skip ?_ | refine W.exit ?_ | refine W.ret ?_ | refine L.nil ?_ | refine L.p rfl rfl ?_ | refine L.skip rfl ?_)
  refine L.ld (a := ⟨S.length, 1, none⟩) (v := .slice a2 (l2).length c2) (cell_of hr5 rfl (.inl rfl)) rfl rfl rfl ?_
  repeat (first | refine W.seq ?_ | refine W.block ?_ | refine W.reg ?_ | refine W.skip ?_ | refine W.exit ?_ | refine W.ret ?_ | refine L.nil ?_ | refine L.p rfl rfl ?_ | refine L.skip rfl ?_)
  refine L.cl (refContent_C a2 c2 l2 K5 (h2.cons hC5) hb2 n2) rfl rfl ?_
  rintro _ K6 ⟨k6, b6, d6, rfl, hB6⟩
  refine ⟨nofun, ?_⟩
  repeat (first | refine W.seq ?_ | refine W.block ?_ | refine W.reg ?_ | refine W.skip ?_ | refine W.exit ?_ | refine W.ret ?_ | refine L.nil ?_ | refine L.p rfl rfl ?_ | refine L.skip rfl ?_)
  refine L.cl (refLaid_C 2#8 b6 d6 (contS l2) K6 hB6.1 (by omega)) rfl rfl ?_
  rintro _ K7 ⟨k7, b7, d7, rfl, hB7⟩
  refine ⟨nofun, ?_⟩
  have k57 := k6.trans k7
  repeat (first | refine W.seq ?_ | refine W.block ?_ | refine W.reg ?_ | refine W.skip ?_ | refine W.exit ?_ | refine W.ret ?_ | refine L.nil ?_ | refine L.p rfl rfl ?_ | refine L.skip rfl ?_)
  refine L.app (bytes := 1) (n := 0 + (laidS 2#8 (contS l1)).length) (m := (laidS 2#8 (contS l2)).length) rfl (k5.trans k57).len (g5.cons k57) rfl rfl hB7.1 (bv_one _) (by omega) rfl rfl ?_
  intro a8 c8 K8 g8 _ hA8
  have k8 : Cons K4 K8 := (k5.trans k57).trans' hA8
  repeat (first | refine W.seq ?_ | refine W.block ?_ | refine W.reg ?_ | refine W.skip ?_ | refine W.exit ?_ | refine W.ret ?_ | refine L.nil ?_ | refine L.p rfl rfl ?_ | refine L.skip rfl ?_)
  have hgs := g8.slv
  have hnn : 0 + (laidS 2#8 (contS l1)).length + (laidS 2#8 (contS l2)).length = (laidS 2#8 (contS l1) ++ laidS 2#8 (contS l2)).length := by rw [List.length_append]; omega
  rw [show ([] : List Value) ++ bv (laidS 2#8 (contS l1)) ++ bv (laidS 2#8 (contS l2)) = bv (laidS 2#8 (contS l1) ++ laidS 2#8 (contS l2)) by simp [bv], hnn] at hgs
  refine L.cl (refLaid_C 48#8 a8 c8 (laidS 2#8 (contS l1) ++ laidS 2#8 (contS l2)) K8 hgs (by omega)) rfl (acall_eq (congrArg (fun n => [v8 48#8, Value.slice a8 n c8]) hnn)) ?_
  rintro _ K9 ⟨k9, b9, d9, rfl, hB9⟩
  refine ⟨nofun, ?_⟩
  repeat (first | refine W.seq ?_ | refine W.block ?_ | refine W.reg ?_ | refine W.skip ?_ | refine W.exit ?_ | refine W.ret ?_ | refine L.nil ?_ | refine L.p rfl rfl ?_ | refine L.skip rfl ?_)
  refine ⟨.inr rfl, _, rfl, ?_⟩
  unfold RefEnc
  rw [if_neg (by unfold encBad; omega)]
  exact ⟨b9, d9, rfl, ((hC2.trans (k3.trans k4)).trans k8).trans k9, hB9⟩
end Go.Proofs.Ytccdlijohkljcaa

/- The book of lists that were handed out: a list more. Conditions: none. -/
set_option linter.unusedSimpArgs false
set_option linter.unusedVariables false
set_option maxRecDepth 100000
namespace Go.Proofs.Ytccdlijohkljcaa
open Go
variable {G : Nat} {Ext : FuncId → List Value → Mem → Outc → Mem → Prop}

/-- the book at row rb holds the lists ws and bs; the rows ps are its own -/
def Book (S : Mem) (rb : Nat) (ws bs : List Hd) (ps : List Nat) : Prop :=
  ∃ hw hb : Hd, S.row? rb = some (newR [hw.v, hb.v] 34) ∧ HdOk S 24 hw (ws.map Hd.v) ∧ HdOk S 22 hb (bs.map Hd.v) ∧ rb ∈ ps ∧
    (∀ b, hw.a = some b → b ∈ ps ∧ b ≠ rb) ∧ (∀ b, hb.a = some b → b ∈ ps ∧ b ≠ rb ∧ hw.a ≠ some b)
theorem Book.keep {S S1 : Mem} {rb : Nat} {ws bs : List Hd} {ps cs : List Nat} (h : Book S rb ws bs ps) (k : KeepL cs S S1) (hd : ∀ b ∈ cs, b ∉ ps) : Book S1 rb ws bs ps := by
  obtain ⟨hw, hb, h1, h2, h3, h4, h5, h6⟩ := h
  exact ⟨hw, hb, k.row h1 (fun hm => hd _ hm h4), h2.keep k (fun b e hm => hd _ hm (h5 b e).1), h3.keep k (fun b e hm => hd _ hm (h6 b e).1), h4, h5, h6⟩
theorem Book.cons {S S1 : Mem} {rb : Nat} {ws bs : List Hd} {ps : List Nat} (h : Book S rb ws bs ps) (k : Cons S S1) : Book S1 rb ws bs ps := h.keep (k.keepL []) (by simp)
/-- an empty book -/
theorem Book.new (S : Mem) : Book (S ++ [newR [.slice none 0 0, .slice none 0 0] 34]) S.length [] [] [S.length] :=
  ⟨⟨none, 0, 0⟩, ⟨none, 0, 0⟩, row_push_new rfl, HdOk.nil _ _, HdOk.nil _ _, by simp, nofun, nofun⟩
/-- from one book to the next: its own rows are old ones of its own, or new -/
def Sub2 (S : Mem) (ps ps' : List Nat) : Prop := ∀ r ∈ ps', r ∈ ps ∨ S.length ≤ r
theorem words_C (S : Mem) (h : Hd) (rb : Nat) (ws bs : List Hd) (ps : List Nat) (hB : Book S rb ws bs ps) (hn : ws.length < 1000000) :
    C Try.prog G Ext 30 [.pointer (some ⟨rb, 0, none⟩), h.v] S fun v S' => ∃ ps', Book S' rb (ws ++ [h]) bs ps' ∧ Sub2 S ps ps' ∧ KeepL ps S S' := by
  obtain ⟨hw, hb, hr, h2, h3, h4, h5, h6⟩ := hB
  refine C.fn Try.func30 rfl (by kernel_rfl) rfl ?_
  repeat (first | refine W.seq ?_ | refine W.block ?_ | refine W.reg ?_ | refine W.skip ?_ | refine W.exit ?_ | refine W.ret ?_ | refine L.nil ?_ | refine L.p rfl rfl ?_ | refine L.skip rfl ?_)
  refine L.ld (cell_of hr rfl) rfl rfl rfl ?_
  repeat (first | refine W.seq ?_ | refine W.block ?_ | refine W.reg ?_ | refine W.skip ?_ | refine W.exit ?_ | refine W.ret ?_ | refine L.nil ?_ | refine L.p rfl rfl ?_ | refine L.skip rfl ?_)
  refine L.pushH (h := hw) rfl h2 rfl rfl rfl rfl rfl (by have := h2.len; rw [List.length_map] at this; omega) rfl (fun _ => rfl) (fun p h' S1 k1 k2 k3 k4 => ?_)
  obtain ⟨b', k5, k6⟩ := k3
  have hne : rb ∉ hw.a.toList := fun hm => by
    have := (h5 rb (by simpa using hm)).2
    exact this rfl
  have hr1 := k4.row hr hne
  repeat (first | refine W.seq ?_ | refine W.block ?_ | refine W.reg ?_ | refine W.skip ?_ | refine W.exit ?_ | refine W.ret ?_ | refine L.nil ?_ | refine L.p rfl rfl ?_ | refine L.skip rfl ?_)
  refine L.st (ad := ⟨rb, 0, none⟩) (vs := [h'.v]) (write_of hr1 rfl (by simp [newR]) rfl) rfl rfl rfl rfl ?_
  rw [putFrom_one _ _ _ (by simp [newR])]
  repeat (first | refine W.seq ?_ | refine W.block ?_ | refine W.reg ?_ | refine W.skip ?_ | refine W.exit ?_ | refine W.ret ?_ | refine L.nil ?_ | refine L.p rfl rfl ?_ | refine L.skip rfl ?_)
  have hlt := row_lt hr
  have hk := Keep.set rb S1 { newR [hw.v, hb.v] 34 with cells := List.set (newR [hw.v, hb.v] 34).cells 0 h'.v }
  have hkl := Keep.keepL (bs := [rb]) hk (by simp)
  refine ⟨.inl rfl, _, rfl, b' :: ps, ⟨h', hb, row_set_same hr1 rfl, ?_, ?_, by simp [h4], ?_, ?_⟩, ?_, ?_⟩
  · rw [List.map_append]; exact k1.keep hkl (fun b e hm => by rw [k5] at e; cases e; simp at hm; omega)
  · exact (h3.keep k4 (fun b e hm => (h6 b e).2.2 (by simpa using hm))).keep hkl (fun b e hm => (h6 b e).2.1 (by simpa using hm))
  · intro b e; rw [k5] at e; cases e; exact ⟨by simp, by omega⟩
  · intro b e
    have := h3.lt e
    exact ⟨by simp [(h6 b e).1], (h6 b e).2.1, fun e2 => by rw [k5] at e2; cases e2; omega⟩
  · intro r hm
    rcases List.mem_cons.1 hm with rfl | hm
    · exact .inr k6
    · exact .inl hm
  · refine (k4.mono ?_).then hkl (by simp [h4])
    intro r hm
    exact (h5 r (by simpa using hm)).1
theorem bytes_C (S : Mem) (h : Hd) (rb : Nat) (ws bs : List Hd) (ps : List Nat) (hB : Book S rb ws bs ps) (hn : bs.length < 1000000) :
    C Try.prog G Ext 22 [.pointer (some ⟨rb, 0, none⟩), h.v] S fun v S' => ∃ ps', Book S' rb ws (bs ++ [h]) ps' ∧ Sub2 S ps ps' ∧ KeepL ps S S' := by
  obtain ⟨hw, hb, hr, h2, h3, h4, h5, h6⟩ := hB
  refine C.fn Try.func22 rfl (by kernel_rfl) rfl ?_
  repeat (first | refine W.seq ?_ | refine W.block ?_ | refine W.reg ?_ | refine W.skip ?_ | refine W.exit ?_ | refine W.ret ?_ | refine L.nil ?_ | refine L.p rfl rfl ?_ | refine L.skip rfl ?_)
  refine L.ld (cell_of hr rfl) rfl rfl rfl ?_
  repeat (first | refine W.seq ?_ | refine W.block ?_ | refine W.reg ?_ | refine W.skip ?_ | refine W.exit ?_ | refine W.ret ?_ | refine L.nil ?_ | refine L.p rfl rfl ?_ | refine L.skip rfl ?_)
  refine L.pushH (h := hb) rfl h3 rfl rfl rfl rfl rfl (by have := h3.len; rw [List.length_map] at this; omega) rfl (fun _ => rfl) (fun p h' S1 k1 k2 k3 k4 => ?_)
  obtain ⟨b', k5, k6⟩ := k3
  have hne : rb ∉ hb.a.toList := fun hm => by
    have := (h6 rb (by simpa using hm)).2.1
    exact this rfl
  have hr1 := k4.row hr hne
  repeat (first | refine W.seq ?_ | refine W.block ?_ | refine W.reg ?_ | refine W.skip ?_ | refine W.exit ?_ | refine W.ret ?_ | refine L.nil ?_ | refine L.p rfl rfl ?_ | refine L.skip rfl ?_)
  refine L.st (ad := ⟨rb, 1, none⟩) (vs := [h'.v]) (write_of hr1 rfl (by simp [newR]) rfl) rfl rfl rfl rfl ?_
  rw [putFrom_one _ _ _ (by simp [newR])]
  repeat (first | refine W.seq ?_ | refine W.block ?_ | refine W.reg ?_ | refine W.skip ?_ | refine W.exit ?_ | refine W.ret ?_ | refine L.nil ?_ | refine L.p rfl rfl ?_ | refine L.skip rfl ?_)
  have hlt := row_lt hr
  have hk := Keep.set rb S1 { newR [hw.v, hb.v] 34 with cells := List.set (newR [hw.v, hb.v] 34).cells 1 h'.v }
  have hkl := Keep.keepL (bs := [rb]) hk (by simp)
  refine ⟨.inl rfl, _, rfl, b' :: ps, ⟨hw, h', row_set_same hr1 rfl, ?_, ?_, by simp [h4], ?_, ?_⟩, ?_, ?_⟩
  · exact (h2.keep k4 (fun b e hm => (h6 b (by simpa using hm)).2.2 e)).keep hkl (fun b e hm => (h5 b e).2 (by simpa using hm))
  · rw [List.map_append]; exact k1.keep hkl (fun b e hm => by rw [k5] at e; cases e; simp at hm; omega)
  · intro b e
    exact ⟨by simp [(h5 b e).1], (h5 b e).2⟩
  · intro b e; rw [k5] at e; cases e
    refine ⟨by simp, by omega, fun e2 => ?_⟩
    have := h2.lt e2
    omega
  · intro r hm
    rcases List.mem_cons.1 hm with rfl | hm
    · exact .inr k6
    · exact .inl hm
  · refine (k4.mono ?_).then hkl (by simp [h4])
    intro r hm
    exact (h6 r (by simpa using hm)).1
end Go.Proofs.Ytccdlijohkljcaa

/- The book: each list has memory of its own. Conditions: none. -/
set_option linter.unusedSimpArgs false
set_option linter.unusedVariables false
set_option maxRecDepth 100000
namespace Go.Proofs.Ytccdlijohkljcaa
open Go
variable {G : Nat} {Ext : FuncId → List Value → Mem → Outc → Mem → Prop}

def mkW (k n : Nat) : List Value := (List.range n).map fun (i : Nat) => v64 (mk k i)
def mkB (k n : Nat) : List Value := (List.range n).map fun (i : Nat) => v8 ((mk k i).setWidth 8)
theorem mkW_len (k n : Nat) : (mkW k n).length = n := by simp [mkW]
theorem mkB_len (k n : Nat) : (mkB k n).length = n := by simp [mkB]
theorem mkW_succ (k n : Nat) : mkW k (n + 1) = mkW k n ++ [v64 (mk k n)] := by simp [mkW, List.range_succ]
theorem mkB_succ (k n : Nat) : mkB k (n + 1) = mkB k n ++ [v8 ((mk k n).setWidth 8)] := by simp [mkB, List.range_succ]
theorem mkW_get {k n i : Nat} (h : i < n) : (mkW k n)[i]? = some (v64 (mk k i)) := by simp [mkW, h]
theorem mkB_get {k n i : Nat} (h : i < n) : (mkB k n)[i]? = some (v8 ((mk k i).setWidth 8)) := by simp [mkB, h]
theorem take_set_succ {l m : List Value} {w : Value} {i : Nat} (h : l.take i = m) (hi : i < l.length) : (l.set i w).take (i + 1) = m ++ [w] := by
  rw [List.take_add_one, List.getElem?_set_self hi, List.take_set_of_le (Nat.le_refl i), h]; rfl
def blks (hs : List Hd) : List Nat := hs.filterMap Hd.a
theorem blks_mem {hs : List Hd} {h : Hd} {b : Nat} {k : Nat} (hk : hs[k]? = some h) (hb : h.a = some b) : b ∈ blks hs := List.mem_filterMap.2 ⟨h, List.mem_of_getElem? hk, hb⟩
theorem blks_at {hs : List Hd} {b : Nat} (h : b ∈ blks hs) : ∃ (k : Nat) (d : Hd), hs[k]? = some d ∧ d.a = some b := by
  obtain ⟨d, h1, h2⟩ := List.mem_filterMap.1 h
  obtain ⟨k, h3⟩ := List.getElem?_of_mem h1
  exact ⟨k, d, h3, h2⟩
/-- each list's block is its own -/
def Own (hs : List Hd) : Prop := ∀ (i j : Nat) (h d : Hd) (b : Nat), hs[i]? = some h → hs[j]? = some d → h.a = some b → d.a = some b → i = j
def Alive (S : Mem) (el : TypeId) (hs : List Hd) : Prop := ∀ (i : Nat) (h : Hd), hs[i]? = some h → h.n ≤ 1000000000000 ∧ ∃ l, HdOk S el h l
def Marked (S : Mem) (el : TypeId) (f : Nat → Nat → List Value) (x : Nat) (hs : List Hd) : Prop := ∀ (i : Nat) (h : Hd), hs[i]? = some h → HdOk S el h (f i (h.n + x))
theorem Alive.keep {S S1 : Mem} {el : TypeId} {hs : List Hd} {bs : List Nat} (h : Alive S el hs) (k : KeepL bs S S1) (hd : ∀ b ∈ bs, b ∉ blks hs) : Alive S1 el hs := fun i d hi =>
  ⟨(h i d hi).1, (h i d hi).2.imp fun l h2 => h2.keep k fun b e hm => hd b hm (blks_mem hi e)⟩

set_option maxHeartbeats 1000000 in
theorem apart_C (S : Mem) (rb : Nat) (ws bs : List Hd) (ps : List Nat) (hB : Book S rb ws bs ps) (hn : ws.length < 1000000 ∧ bs.length < 1000000) (hAws : Alive S 56 ws) (hAbs : Alive S 5 bs)
    (hOws : Own ws) (hObs : Own bs) (hdws : ∀ b ∈ blks ws, b ∉ ps) (hdbs : ∀ b ∈ blks bs, b ∉ ps) (hdd : ∀ b ∈ blks ws, b ∉ blks bs) :
    C Try.prog G Ext 15 [.pointer (some ⟨rb, 0, none⟩)] S fun v S' => v = .bool true ∧ KeepL (blks ws ++ blks bs) S S' := by
  refine C.fn Try.func15 rfl (by kernel_rfl) rfl ?_
  have hBws := hB
  repeat (first | refine W.seq ?_ | refine W.block ?_ | refine W.reg ?_ | refine W.skip ?_ | refine W.exit ?_ | refine W.ret ?_ | refine L.nil ?_ | refine L.p rfl rfl ?_ | refine L.skip rfl ?_)
  refine W.loop (fun j e S' => ∃ k : Nat, j = ws.length - k ∧ k ≤ ws.length ∧ e 0 = .pointer (some ⟨rb, 0, none⟩) ∧ e 3 = vi k ∧ KeepL (blks ws) S S' ∧ (∀ (i : Nat) (h : Hd), ws[i]? = some h → if i < k then HdOk S' 56 h (mkW i h.n) else ∃ l, HdOk S' 56 h l)) ws.length
    ⟨0, by omega, by omega, rfl, rfl, KeepL.refl _ _, fun i h hi => by rw [if_neg (by omega)]; exact (hAws i h hi).2⟩ ?_
  rintro j e S' ⟨k, rfl, hk, e0, ek, hkeep, hst⟩
  refine W.env2 e0 ek ?_
  obtain ⟨hw, hb, hr, h2, h3, h4, h5, h6⟩ := hBws.keep hkeep hdws
  have hlen := h2.len
  rw [List.length_map] at hlen
  repeat (first | refine W.seq ?_ | refine W.block ?_ | refine W.reg ?_ | refine W.skip ?_ | refine W.exit ?_ | refine W.ret ?_ | refine L.nil ?_ | refine L.p rfl rfl ?_ | refine L.skip rfl ?_)
  refine L.ld (cell_of hr rfl) rfl rfl rfl ?_
  repeat (first | refine W.seq ?_ | refine W.block ?_ | refine W.reg ?_ | refine W.skip ?_ | refine W.exit ?_ | refine W.ret ?_ | refine L.nil ?_ | refine L.p rfl rfl ?_ | refine L.skip rfl ?_)
  refine W.ite rfl (fun h => ?_) (fun h => ?_)
  · have hkl : k < ws.length := by simp at h; omega
    obtain ⟨hh, hkh⟩ : ∃ hh, ws[k]? = some hh := ⟨_, List.getElem?_eq_getElem hkl⟩
    have hel : (ws.map Hd.v)[k]? = some hh.v := by rw [List.getElem?_map, hkh]; rfl
    obtain ⟨l0, hl0⟩ : ∃ l, HdOk S' 56 hh l := by have := hst k hh hkh; rwa [if_neg (by omega)] at this
    have hnb : ∀ b, hh.a = some b → b ≠ rb := fun b e hm => hdws b (blks_mem hkh e) (hm ▸ h4)
    have hnw : ∀ b, hh.a = some b → hw.a ≠ some b := fun b e hm => hdws b (blks_mem hkh e) (h5 b hm).1
    have hsm := (hAws k hh hkh).1
    clear h
    repeat (first | refine W.seq ?_ | refine W.block ?_ | refine W.reg ?_ | refine W.skip ?_ | refine W.exit ?_ | refine W.ret ?_ | refine L.nil ?_ | refine L.p rfl rfl ?_ | refine L.skip rfl ?_)
    refine W.loop (fun j e S'' => ∃ (i : Nat) (l : List Value), j = hh.n - i ∧ i ≤ hh.n ∧ e 0 = .pointer (some ⟨rb, 0, none⟩) ∧ e 3 = vi k ∧ e 4 = vi i ∧ KeepL hh.a.toList S' S'' ∧ HdOk S'' 56 hh l ∧ l.take i = mkW k i) hh.n
      ⟨0, l0, by omega, by omega, rfl, rfl, rfl, KeepL.refl _ _, hl0, rfl⟩ ?_
    rintro j e S'' ⟨i, l, rfl, hi, e0, ek, ei, hkp, hl, htk⟩
    refine W.env3 e0 ek ei ?_
    have hr2 := hkp.row hr (fun hm => hnb rb (by simpa using hm) rfl)
    have hx2 := h2.keep hkp (fun b e hm => hnw b (by simpa using hm) e)
    repeat (first | refine W.seq ?_ | refine W.block ?_ | refine W.reg ?_ | refine W.skip ?_ | refine W.exit ?_ | refine W.ret ?_ | refine L.nil ?_ | refine L.p rfl rfl ?_ | refine L.skip rfl ?_)
    refine L.ld (cell_of hr2 rfl) rfl rfl rfl ?_
    repeat (first | refine W.seq ?_ | refine W.block ?_ | refine W.reg ?_ | refine W.skip ?_ | refine W.exit ?_ | refine W.ret ?_ | refine L.nil ?_ | refine L.p rfl rfl ?_ | refine L.skip rfl ?_)
    refine L.el hx2.slv rfl hel rfl rfl rfl rfl (fun _ => rfl) rfl (fun p => ?_)
    repeat (first | refine W.seq ?_ | refine W.block ?_ | refine W.reg ?_ | refine W.skip ?_ | refine W.exit ?_ | refine W.ret ?_ | refine L.nil ?_ | refine L.p rfl rfl ?_ | refine L.skip rfl ?_)
    refine W.ite rfl (fun h => ?_) (fun h => ?_)
    · have hin : i < hh.n := by simp at h; omega
      obtain ⟨a, n, c⟩ := hh
      obtain ⟨b, rfl⟩ : ∃ b, a = some b := by
        obtain ⟨_, ⟨_, h0, _⟩ | ⟨b, _, h0, _⟩⟩ := hl
        · dsimp only at h0 hin; omega
        · exact ⟨b, h0⟩
      obtain ⟨r, hrr, hro, hrl, hrt⟩ := hl.row
      have hll := hl.len
      dsimp only at hin hll hi
      repeat (first | refine W.seq ?_ | refine W.block ?_ | refine W.reg ?_ | refine W.skip ?_ | refine W.exit ?_ | refine W.ret ?_ | refine L.nil ?_ | refine L.p rfl rfl ?_ | refine L.skip rfl ?_)
      refine L.ld (cell_of hr2 rfl) rfl rfl rfl ?_
      repeat (first | refine W.seq ?_ | refine W.block ?_ | refine W.reg ?_ | refine W.skip ?_ | refine W.exit ?_ | refine W.ret ?_ | refine L.nil ?_ | refine L.p rfl rfl ?_ | refine L.skip rfl ?_)
      refine L.el hx2.slv rfl hel rfl rfl rfl rfl (fun _ => rfl) rfl (fun p => ?_)
      repeat (first | refine W.seq ?_ | refine W.block ?_ | refine W.reg ?_ | refine W.skip ?_ | refine W.exit ?_ | refine W.ret ?_ | refine L.nil ?_ | refine L.p rfl rfl ?_ | refine L.skip rfl ?_)
      refine L.cl (mark_C _ _ _) rfl rfl ?_
      rintro _ _ ⟨rfl, rfl⟩
      refine ⟨fun _ => Cons.refl _, ?_⟩
      repeat (first | refine W.seq ?_ | refine W.block ?_ | refine W.reg ?_ | refine W.skip ?_ | refine W.exit ?_ | refine W.ret ?_ | refine L.nil ?_ | refine L.p rfl rfl ?_ | refine L.skip rfl ?_)
      refine L.elst hrr hro (by omega) rfl hin rfl rfl rfl rfl (fun _ => rfl) (fun _ => rfl) rfl rfl rfl (fun p => ?_)
      repeat (first | refine W.seq ?_ | refine W.block ?_ | refine W.reg ?_ | refine W.skip ?_ | refine W.exit ?_ | refine W.ret ?_ | refine L.nil ?_ | refine L.p rfl rfl ?_ | refine L.skip rfl ?_)
      rw [Nat.zero_add]
      refine ⟨n - (i + 1), by show n - (i + 1) < n - i; omega, i + 1, _, rfl, by show i + 1 ≤ n; omega, rfl, rfl, ?_, ?_, hl.set _ hrr, ?_⟩
      · refine (force_eq rfl).trans ?_
        rw [wrap64 (by omega) (by dsimp only at hsm; omega)]; rfl
      · exact hkp.trans ((Keep.set b _ _).keepL (by simp))
      · rw [mkW_succ]; exact take_set_succ htk (by omega)
    · have hin : i = hh.n := by simp at h; omega
      subst hin
      repeat (first | refine W.seq ?_ | refine W.block ?_ | refine W.reg ?_ | refine W.skip ?_ | refine W.exit ?_ | refine W.ret ?_ | refine L.nil ?_ | refine L.p rfl rfl ?_ | refine L.skip rfl ?_)
      refine ⟨ws.length - (k + 1), by omega, k + 1, rfl, by omega, rfl, ?_, ?_, ?_⟩
      · refine (force_eq rfl).trans ?_
        rw [wrap64 (by omega) (by omega)]; rfl
      · exact hkeep.trans (hkp.mono fun b hm => blks_mem hkh (by simpa using hm))
      · intro i h hi'
        by_cases hik : i = k
        · subst hik
          rw [hkh] at hi'; cases hi'
          rw [if_pos (by omega)]
          rw [List.take_of_length_le (Nat.le_of_eq hl.len)] at htk
          rw [← htk]; exact hl
        · have hne : ∀ b, h.a = some b → b ∉ hh.a.toList := fun b e hm => hik (hOws i k h hh b hi' hkh e (by simpa using hm))
          have := hst i h hi'
          split at this
          · rw [if_pos (by omega)]; exact this.keep hkp hne
          · rw [if_neg (by omega)]
            obtain ⟨l', hl'⟩ := this
            exact ⟨l', hl'.keep hkp hne⟩
  have hkl : k = ws.length := by simp at h; omega
  subst hkl
  have hMws : Marked S' 56 mkW 0 ws := fun i h hi => by
    have := hst i h hi
    have hlt := (List.getElem?_eq_some_iff.1 hi).1
    rw [if_pos hlt] at this
    exact this
  clear hst h hr h2 h3 h5 h6 hlen ek
  rename Mem => S1
  have hBbs := hBws.keep hkeep hdws
  have hAbs := hAbs.keep hkeep hdd
  have hkeep1 := hkeep
  clear hBws hkeep e0 hk
  repeat (first | refine W.seq ?_ | refine W.block ?_ | refine W.reg ?_ | refine W.skip ?_ | refine W.exit ?_ | refine W.ret ?_ | refine L.nil ?_ | refine L.p rfl rfl ?_ | refine L.skip rfl ?_)
  refine W.loop (fun j e S' => ∃ k : Nat, j = bs.length - k ∧ k ≤ bs.length ∧ e 0 = .pointer (some ⟨rb, 0, none⟩) ∧ e 5 = vi k ∧ KeepL (blks bs) S1 S' ∧ (∀ (i : Nat) (h : Hd), bs[i]? = some h → if i < k then HdOk S' 5 h (mkB i h.n) else ∃ l, HdOk S' 5 h l)) bs.length
    ⟨0, by omega, by omega, rfl, rfl, KeepL.refl _ _, fun i h hi => by rw [if_neg (by omega)]; exact (hAbs i h hi).2⟩ ?_
  rintro j e S' ⟨k, rfl, hk, e0, ek, hkeep, hst⟩
  refine W.env2 e0 ek ?_
  obtain ⟨hw, hb, hr, h2, h3, h4, h5, h6⟩ := hBbs.keep hkeep hdbs
  have hlen := h3.len
  rw [List.length_map] at hlen
  repeat (first | refine W.seq ?_ | refine W.block ?_ | refine W.reg ?_ | refine W.skip ?_ | refine W.exit ?_ | refine W.ret ?_ | refine L.nil ?_ | refine L.p rfl rfl ?_ | refine L.skip rfl ?_)
  refine L.ld (cell_of hr rfl) rfl rfl rfl ?_
  repeat (first | refine W.seq ?_ | refine W.block ?_ | refine W.reg ?_ | refine W.skip ?_ | refine W.exit ?_ | refine W.ret ?_ | refine L.nil ?_ | refine L.p rfl rfl ?_ | refine L.skip rfl ?_)
  refine W.ite rfl (fun h => ?_) (fun h => ?_)
  · have hkl : k < bs.length := by simp at h; omega
    obtain ⟨hh, hkh⟩ : ∃ hh, bs[k]? = some hh := ⟨_, List.getElem?_eq_getElem hkl⟩
    have hel : (bs.map Hd.v)[k]? = some hh.v := by rw [List.getElem?_map, hkh]; rfl
    obtain ⟨l0, hl0⟩ : ∃ l, HdOk S' 5 hh l := by have := hst k hh hkh; rwa [if_neg (by omega)] at this
    have hnb : ∀ b, hh.a = some b → b ≠ rb := fun b e hm => hdbs b (blks_mem hkh e) (hm ▸ h4)
    have hnw : ∀ b, hh.a = some b → hb.a ≠ some b := fun b e hm => hdbs b (blks_mem hkh e) (h6 b hm).1
    have hsm := (hAbs k hh hkh).1
    clear h
    repeat (first | refine W.seq ?_ | refine W.block ?_ | refine W.reg ?_ | refine W.skip ?_ | refine W.exit ?_ | refine W.ret ?_ | refine L.nil ?_ | refine L.p rfl rfl ?_ | refine L.skip rfl ?_)
    refine W.loop (fun j e S'' => ∃ (i : Nat) (l : List Value), j = hh.n - i ∧ i ≤ hh.n ∧ e 0 = .pointer (some ⟨rb, 0, none⟩) ∧ e 5 = vi k ∧ e 6 = vi i ∧ KeepL hh.a.toList S' S'' ∧ HdOk S'' 5 hh l ∧ l.take i = mkB k i) hh.n
      ⟨0, l0, by omega, by omega, rfl, rfl, rfl, KeepL.refl _ _, hl0, rfl⟩ ?_
    rintro j e S'' ⟨i, l, rfl, hi, e0, ek, ei, hkp, hl, htk⟩
    refine W.env3 e0 ek ei ?_
    have hr2 := hkp.row hr (fun hm => hnb rb (by simpa using hm) rfl)
    have hx2 := h3.keep hkp (fun b e hm => hnw b (by simpa using hm) e)
    repeat (first | refine W.seq ?_ | refine W.block ?_ | refine W.reg ?_ | refine W.skip ?_ | refine W.exit ?_ | refine W.ret ?_ | refine L.nil ?_ | refine L.p rfl rfl ?_ | refine L.skip rfl ?_)
    refine L.ld (cell_of hr2 rfl) rfl rfl rfl ?_
    repeat (first | refine W.seq ?_ | refine W.block ?_ | refine W.reg ?_ | refine W.skip ?_ | refine W.exit ?_ | refine W.ret ?_ | refine L.nil ?_ | refine L.p rfl rfl ?_ | refine L.skip rfl ?_)
    refine L.el hx2.slv rfl hel rfl rfl rfl rfl (fun _ => rfl) rfl (fun p => ?_)
    repeat (first | refine W.seq ?_ | refine W.block ?_ | refine W.reg ?_ | refine W.skip ?_ | refine W.exit ?_ | refine W.ret ?_ | refine L.nil ?_ | refine L.p rfl rfl ?_ | refine L.skip rfl ?_)
    refine W.ite rfl (fun h => ?_) (fun h => ?_)
    · have hin : i < hh.n := by simp at h; omega
      obtain ⟨a, n, c⟩ := hh
      obtain ⟨b, rfl⟩ : ∃ b, a = some b := by
        obtain ⟨_, ⟨_, h0, _⟩ | ⟨b, _, h0, _⟩⟩ := hl
        · dsimp only at h0 hin; omega
        · exact ⟨b, h0⟩
      obtain ⟨r, hrr, hro, hrl, hrt⟩ := hl.row
      have hll := hl.len
      dsimp only at hin hll hi
      repeat (first | refine W.seq ?_ | refine W.block ?_ | refine W.reg ?_ | refine W.skip ?_ | refine W.exit ?_ | refine W.ret ?_ | refine L.nil ?_ | refine L.p rfl rfl ?_ | refine L.skip rfl ?_)
      refine L.ld (cell_of hr2 rfl) rfl rfl rfl ?_
      repeat (first | refine W.seq ?_ | refine W.block ?_ | refine W.reg ?_ | refine W.skip ?_ | refine W.exit ?_ | refine W.ret ?_ | refine L.nil ?_ | refine L.p rfl rfl ?_ | refine L.skip rfl ?_)
      refine L.el hx2.slv rfl hel rfl rfl rfl rfl (fun _ => rfl) rfl (fun p => ?_)
      repeat (first | refine W.seq ?_ | refine W.block ?_ | refine W.reg ?_ | refine W.skip ?_ | refine W.exit ?_ | refine W.ret ?_ | refine L.nil ?_ | refine L.p rfl rfl ?_ | refine L.skip rfl ?_)
      refine L.cl (mark_C _ _ _) rfl rfl ?_
      rintro _ _ ⟨rfl, rfl⟩
      refine ⟨fun _ => Cons.refl _, ?_⟩
      repeat (first | refine W.seq ?_ | refine W.block ?_ | refine W.reg ?_ | refine W.skip ?_ | refine W.exit ?_ | refine W.ret ?_ | refine L.nil ?_ | refine L.p rfl rfl ?_ | refine L.skip rfl ?_)
      refine L.elst hrr hro (by omega) rfl hin rfl rfl rfl rfl (fun _ => rfl) (fun _ => rfl) rfl rfl rfl (fun p => ?_)
      repeat (first | refine W.seq ?_ | refine W.block ?_ | refine W.reg ?_ | refine W.skip ?_ | refine W.exit ?_ | refine W.ret ?_ | refine L.nil ?_ | refine L.p rfl rfl ?_ | refine L.skip rfl ?_)
      rw [Nat.zero_add]
      refine ⟨n - (i + 1), by show n - (i + 1) < n - i; omega, i + 1, _, rfl, by show i + 1 ≤ n; omega, rfl, rfl, ?_, ?_, hl.set _ hrr, ?_⟩
      · refine (force_eq rfl).trans ?_
        rw [wrap64 (by omega) (by dsimp only at hsm; omega)]; rfl
      · exact hkp.trans ((Keep.set b _ _).keepL (by simp))
      · rw [mkB_succ, show v8 ((mk k i).setWidth 8) = .int .u8 (IntKind.u8.wrap ((mk k i).toNat : Int)) by rw [u8_of_v64]]; exact take_set_succ htk (by omega)
    · have hin : i = hh.n := by simp at h; omega
      subst hin
      repeat (first | refine W.seq ?_ | refine W.block ?_ | refine W.reg ?_ | refine W.skip ?_ | refine W.exit ?_ | refine W.ret ?_ | refine L.nil ?_ | refine L.p rfl rfl ?_ | refine L.skip rfl ?_)
      refine ⟨bs.length - (k + 1), by omega, k + 1, rfl, by omega, rfl, ?_, ?_, ?_⟩
      · refine (force_eq rfl).trans ?_
        rw [wrap64 (by omega) (by omega)]; rfl
      · exact hkeep.trans (hkp.mono fun b hm => blks_mem hkh (by simpa using hm))
      · intro i h hi'
        by_cases hik : i = k
        · subst hik
          rw [hkh] at hi'; cases hi'
          rw [if_pos (by omega)]
          rw [List.take_of_length_le (Nat.le_of_eq hl.len)] at htk
          rw [← htk]; exact hl
        · have hne : ∀ b, h.a = some b → b ∉ hh.a.toList := fun b e hm => hik (hObs i k h hh b hi' hkh e (by simpa using hm))
          have := hst i h hi'
          split at this
          · rw [if_pos (by omega)]; exact this.keep hkp hne
          · rw [if_neg (by omega)]
            obtain ⟨l', hl'⟩ := this
            exact ⟨l', hl'.keep hkp hne⟩
  have hkl : k = bs.length := by simp at h; omega
  subst hkl
  have hMbs : Marked S' 5 mkB 0 bs := fun i h hi => by
    have := hst i h hi
    have hlt := (List.getElem?_eq_some_iff.1 hi).1
    rw [if_pos hlt] at this
    exact this
  clear hst h hr h2 h3 h5 h6 hlen ek
  rename Mem => S2
  have hBws := hBbs.keep hkeep hdbs
  have hMbs2 : Marked S2 5 mkB 0 bs := hMbs
  have hMws : Marked S2 56 mkW 0 ws := fun i h hi => (hMws i h hi).keep hkeep (fun b e hm => hdd b (blks_mem hi e) hm)
  have hkeep2 : KeepL (blks ws ++ blks bs) S S2 := (hkeep1.mono (by simp +contextual)).trans (hkeep.mono (by simp +contextual))
  clear hBbs hkeep hkeep1 e0 hk
  repeat (first | refine W.seq ?_ | refine W.block ?_ | refine W.reg ?_ | refine W.skip ?_ | refine W.exit ?_ | refine W.ret ?_ | refine L.nil ?_ | refine L.p rfl rfl ?_ | refine L.skip rfl ?_)
  refine W.loop (fun j e S' => ∃ (k : Nat) (dw : List Hd) (hxw : Hd), j = ws.length - k ∧ k ≤ ws.length ∧ e 0 = .pointer (some ⟨rb, 0, none⟩) ∧ e 8 = vi k ∧ e 7 = hxw.v ∧ e 0 = .pointer (some ⟨rb, 0, none⟩) ∧ dw.length = k ∧ KeepL (blks ws) S2 S' ∧ HdOk S' 24 hxw (dw.map Hd.v) ∧
      (∀ b, hxw.a = some b → List.length S2 ≤ b) ∧ (∀ (i : Nat) (d : Hd), dw[i]? = some d → (∃ h, ws[i]? = some h ∧ HdOk S' 56 d (mkW i (h.n + 64)) ∧ d.n = h.n + 64) ∧ ∃ b, d.a = some b ∧ List.length S2 ≤ b ∧ hxw.a ≠ some b) ∧
      (∀ (i : Nat) (h : Hd), ws[i]? = some h → k ≤ i → HdOk S' 56 h (mkW i h.n))) ws.length
    ⟨0, [], ⟨none, 0, 0⟩, by omega, by omega, rfl, rfl, rfl, rfl, rfl, KeepL.refl _ _, HdOk.nil _ _, nofun, fun i d hi => by simp at hi, fun i h hi _ => hMws i h hi⟩ ?_
  rintro j e S' ⟨k, dw, hxw, rfl, hk, e0, ek, ex, eo, hdl, hkeep, hhx, hxb, hds, hst⟩
  refine W.env4 e0 ek ex eo ?_
  obtain ⟨hw, hb, hr, h2, h3, h4, h5, h6⟩ := hBws.keep hkeep hdws
  have hlen := h2.len
  rw [List.length_map] at hlen
  repeat (first | refine W.seq ?_ | refine W.block ?_ | refine W.reg ?_ | refine W.skip ?_ | refine W.exit ?_ | refine W.ret ?_ | refine L.nil ?_ | refine L.p rfl rfl ?_ | refine L.skip rfl ?_)
  refine L.ld (cell_of hr rfl) rfl rfl rfl ?_
  repeat (first | refine W.seq ?_ | refine W.block ?_ | refine W.reg ?_ | refine W.skip ?_ | refine W.exit ?_ | refine W.ret ?_ | refine L.nil ?_ | refine L.p rfl rfl ?_ | refine L.skip rfl ?_)
  refine W.ite rfl (fun h => ?_) (fun h => ?_)
  · have hkl : k < ws.length := by simp at h; omega
    obtain ⟨hh, hkh⟩ : ∃ hh, ws[k]? = some hh := ⟨_, List.getElem?_eq_getElem hkl⟩
    have hel : (ws.map Hd.v)[k]? = some hh.v := by rw [List.getElem?_map, hkh]; rfl
    have hl0 := hst k hh hkh (Nat.le_refl _)
    have hnb : ∀ b, hh.a = some b → b ≠ rb := fun b e hm => hdws b (blks_mem hkh e) (hm ▸ h4)
    have hnw : ∀ b, hh.a = some b → hw.a ≠ some b := fun b e hm => hdws b (blks_mem hkh e) (h5 b hm).1
    have hlt : ∀ b, hh.a = some b → b < List.length S2 := fun b e => by
      have := hMws k hh hkh
      exact this.lt e
    have hsm := (hAws k hh hkh).1
    have hSl := hkeep.1
    clear h
    repeat (first | refine W.seq ?_ | refine W.block ?_ | refine W.reg ?_ | refine W.skip ?_ | refine W.exit ?_ | refine W.ret ?_ | refine L.nil ?_ | refine L.p rfl rfl ?_ | refine L.skip rfl ?_)
    refine L.ld (cell_of hr rfl) rfl rfl rfl ?_
    repeat (first | refine W.seq ?_ | refine W.block ?_ | refine W.reg ?_ | refine W.skip ?_ | refine W.exit ?_ | refine W.ret ?_ | refine L.nil ?_ | refine L.p rfl rfl ?_ | refine L.skip rfl ?_)
    refine L.el h2.slv rfl hel rfl rfl rfl rfl (fun _ => rfl) rfl (fun p => ?_)
    repeat (first | refine W.seq ?_ | refine W.block ?_ | refine W.reg ?_ | refine W.skip ?_ | refine W.exit ?_ | refine W.ret ?_ | refine L.nil ?_ | refine L.p rfl rfl ?_ | refine L.skip rfl ?_)
    refine W.loop (fun j e S'' => ∃ (i : Nat) (hl : Hd), j = 64 - i ∧ i ≤ 64 ∧ e 0 = .pointer (some ⟨rb, 0, none⟩) ∧ e 8 = vi k ∧ e 7 = hxw.v ∧ e 0 = .pointer (some ⟨rb, 0, none⟩) ∧ e 9 = hl.v ∧ e 10 = vi i ∧ KeepL hh.a.toList S' S'' ∧ HdOk S'' 56 hl (mkW k (hh.n + i)) ∧ hl.n = hh.n + i ∧ ((i = 0 ∧ hl.a = hh.a) ∨ ∃ b, hl.a = some b ∧ List.length S' ≤ b)) 64
      ⟨0, hh, by omega, by omega, rfl, rfl, rfl, rfl, rfl, rfl, KeepL.refl _ _, hl0, rfl, .inl ⟨rfl, rfl⟩⟩ ?_
    rintro j e S'' ⟨i, hl, rfl, hi, e0, ek, ex, eo, el, ei, hkp, hhl, hln, hla⟩
    refine W.env6 e0 ek ex eo el ei ?_
    have hr2 := hkp.row hr (fun hm => hnb rb (by simpa using hm) rfl)
    have hx2 := h2.keep hkp (fun b e hm => hnw b (by simpa using hm) e)
    repeat (first | refine W.seq ?_ | refine W.block ?_ | refine W.reg ?_ | refine W.skip ?_ | refine W.exit ?_ | refine W.ret ?_ | refine L.nil ?_ | refine L.p rfl rfl ?_ | refine L.skip rfl ?_)
    refine W.ite rfl (fun h => ?_) (fun h => ?_)
    · have hin : i < 64 := by simp at h; omega
      repeat (first | refine W.seq ?_ | refine W.block ?_ | refine W.reg ?_ | refine W.skip ?_ | refine W.exit ?_ | refine W.ret ?_ | refine L.nil ?_ | refine L.p rfl rfl ?_ | refine L.skip rfl ?_)
      refine L.ld (cell_of hr2 rfl) rfl rfl rfl ?_
      repeat (first | refine W.seq ?_ | refine W.block ?_ | refine W.reg ?_ | refine W.skip ?_ | refine W.exit ?_ | refine W.ret ?_ | refine L.nil ?_ | refine L.p rfl rfl ?_ | refine L.skip rfl ?_)
      refine L.el hx2.slv rfl hel rfl rfl rfl rfl (fun _ => rfl) rfl (fun p => ?_)
      repeat (first | refine W.seq ?_ | refine W.block ?_ | refine W.reg ?_ | refine W.skip ?_ | refine W.exit ?_ | refine W.ret ?_ | refine L.nil ?_ | refine L.p rfl rfl ?_ | refine L.skip rfl ?_)
      refine L.cl (mark_C _ _ _) rfl rfl ?_
      rintro _ _ ⟨rfl, rfl⟩
      refine ⟨fun _ => Cons.refl _, ?_⟩
      repeat (first | refine W.seq ?_ | refine W.block ?_ | refine W.reg ?_ | refine W.skip ?_ | refine W.exit ?_ | refine W.ret ?_ | refine L.nil ?_ | refine L.p rfl rfl ?_ | refine L.skip rfl ?_)
      refine L.pushH (h := hl) rfl hhl rfl rfl rfl rfl rfl (by omega) rfl (fun _ => rfl) (fun p h' S9 k1 k2 k3 k4 => ?_)
      rw [wrap64 (by omega) (by omega)] at k1
      repeat (first | refine W.seq ?_ | refine W.block ?_ | refine W.reg ?_ | refine W.skip ?_ | refine W.exit ?_ | refine W.ret ?_ | refine L.nil ?_ | refine L.p rfl rfl ?_ | refine L.skip rfl ?_)
      obtain ⟨b', k5, k6⟩ := k3
      have hSl2 := hkp.1
      refine ⟨64 - (i + 1), by omega, i + 1, h', rfl, by omega, rfl, rfl, rfl, rfl, rfl, ?_, ?_, ?_, by omega, .inr ⟨b', k5, by omega⟩⟩
      · refine (force_eq rfl).trans ?_
        rw [wrap64 (by omega) (by omega)]; rfl
      · refine hkp.then k4 ?_
        intro r hm
        rcases hla with ⟨_, hla⟩ | ⟨b, hla, hlb⟩
        · rw [hla] at hm; exact .inl hm
        · rw [hla] at hm; simp at hm; exact .inr (by omega)
      · rw [show hh.n + (i + 1) = (hh.n + i) + 1 by omega, mkW_succ]
        exact k1
    · have hin : i = 64 := by simp at h; omega
      subst hin
      obtain ⟨bl, hla, hlb⟩ : ∃ b, hl.a = some b ∧ List.length S' ≤ b := by
        rcases hla with ⟨h0, _⟩ | h0
        · omega
        · exact h0
      have hbl := hhl.lt hla
      have hxk : HdOk S'' 24 hxw (dw.map Hd.v) := hhx.keep hkp (fun b e hm => by have := hxb b e; have := hlt b (by simpa using hm); omega)
      have hxn := hxk.len
      rw [List.length_map] at hxn
      repeat (first | refine W.seq ?_ | refine W.block ?_ | refine W.reg ?_ | refine W.skip ?_ | refine W.exit ?_ | refine W.ret ?_ | refine L.nil ?_ | refine L.p rfl rfl ?_ | refine L.skip rfl ?_)
      refine L.pushH (h := hxw) rfl hxk rfl rfl rfl rfl rfl (by omega) rfl (fun _ => rfl) (fun p h' S9 k1 k2 k3 k4 => ?_)
      obtain ⟨b', k5, k6⟩ := k3
      repeat (first | refine W.seq ?_ | refine W.block ?_ | refine W.reg ?_ | refine W.skip ?_ | refine W.exit ?_ | refine W.ret ?_ | refine L.nil ?_ | refine L.p rfl rfl ?_ | refine L.skip rfl ?_)
      have hSl2 := hkp.1
      have hkS : KeepL (blks ws) S' S'' := hkp.mono fun b hm => blks_mem hkh (by simpa using hm)
      have hk4 : ∀ r ∈ hxw.a.toList, r ∈ blks ws ∨ List.length S2 ≤ r := fun r hm => .inr (hxb r (by simpa using hm))
      refine ⟨ws.length - (k + 1), by omega, k + 1, dw ++ [hl], h', rfl, by omega, rfl, ?_, rfl, rfl, by simp [hdl], (hkeep.trans hkS).then k4 hk4, by rw [List.map_append]; exact k1, ?_, ?_, ?_⟩
      · refine (force_eq rfl).trans ?_
        rw [wrap64 (by omega) (by omega)]; rfl
      · intro b e; rw [k5] at e; cases e; omega
      · intro i d hi'
        rw [List.getElem?_append] at hi'
        split at hi'
        · obtain ⟨⟨h9, q1, q2, q3⟩, b9, q4, q5, q6⟩ := hds i d hi'
          have q7 := q2.lt q4
          refine ⟨⟨h9, q1, (q2.keep hkp (fun b e hm => ?_)).keep k4 (fun b e hm => ?_), q3⟩, b9, q4, q5, fun e => ?_⟩
          · rw [q4] at e; cases e
            have := hlt _ (by simpa using hm : hh.a = some b9); omega
          · rw [q4] at e; cases e
            exact q6 (by simpa using hm)
          · rw [k5] at e; cases e; omega
        · rename_i hge
          rw [List.getElem?_singleton] at hi'
          split at hi'
          · rename_i h0
            cases hi'
            have hik : i = k := by omega
            subst hik
            refine ⟨⟨hh, hkh, hhl.keep k4 (fun b e hm => ?_), hln⟩, bl, hla, by omega, fun e => ?_⟩
            · rw [hla] at e; cases e
              have := hhx.lt (by simpa using hm : hxw.a = some bl)
              omega
            · rw [k5] at e; cases e; omega
          · cases hi'
      · intro i h hi' hge
        have hq := hst i h hi' (by omega)
        refine (hq.keep hkp (fun b e hm => ?_)).keep k4 (fun b e hm => ?_)
        · have := hOws i k h hh b hi' hkh e (by simpa using hm); omega
        · have := hxb b (by simpa using hm)
          have := (hMws i h hi').lt e
          omega
  have hkl : k = ws.length := by simp at h; omega
  clear h hr h2 h3 h5 h6 hlen ek e0 hst
  subst hkl
  rename Mem => S3
  have hBbs := hBws.keep hkeep hdws
  have hMbs : Marked S3 5 mkB 0 bs := fun i h hi => (hMbs i h hi).keep hkeep (fun b e hm => hdd b hm (blks_mem hi e))
  have hhxdw := hhx
  have hdsdw := hds
  have hxbw := hxb
  have hkeep3 : KeepL (blks ws ++ blks bs) S S3 := hkeep2.trans (hkeep.mono (by simp +contextual))
  have hS23 := hkeep.1
  clear hkeep hkeep2 hhx hds hxb hBws hk
  repeat (first | refine W.seq ?_ | refine W.block ?_ | refine W.reg ?_ | refine W.skip ?_ | refine W.exit ?_ | refine W.ret ?_ | refine L.nil ?_ | refine L.p rfl rfl ?_ | refine L.skip rfl ?_)
  refine W.loop (fun j e S' => ∃ (k : Nat) (ds : List Hd) (hx : Hd), j = bs.length - k ∧ k ≤ bs.length ∧ e 0 = .pointer (some ⟨rb, 0, none⟩) ∧ e 12 = vi k ∧ e 11 = hx.v ∧ e 7 = hxw.v ∧ ds.length = k ∧ KeepL (blks bs) S3 S' ∧ HdOk S' 22 hx (ds.map Hd.v) ∧
      (∀ b, hx.a = some b → List.length S3 ≤ b) ∧ (∀ (i : Nat) (d : Hd), ds[i]? = some d → (∃ h, bs[i]? = some h ∧ HdOk S' 5 d (mkB i (h.n + 64)) ∧ d.n = h.n + 64) ∧ ∃ b, d.a = some b ∧ List.length S3 ≤ b ∧ hx.a ≠ some b) ∧
      (∀ (i : Nat) (h : Hd), bs[i]? = some h → k ≤ i → HdOk S' 5 h (mkB i h.n))) bs.length
    ⟨0, [], ⟨none, 0, 0⟩, by omega, by omega, rfl, rfl, rfl, rfl, rfl, KeepL.refl _ _, HdOk.nil _ _, nofun, fun i d hi => by simp at hi, fun i h hi _ => hMbs i h hi⟩ ?_
  rintro j e S' ⟨k, ds, hx, rfl, hk, e0, ek, ex, eo, hdl, hkeep, hhx, hxb, hds, hst⟩
  refine W.env4 e0 ek ex eo ?_
  obtain ⟨hw, hb, hr, h2, h3, h4, h5, h6⟩ := hBbs.keep hkeep hdbs
  have hlen := h3.len
  rw [List.length_map] at hlen
  repeat (first | refine W.seq ?_ | refine W.block ?_ | refine W.reg ?_ | refine W.skip ?_ | refine W.exit ?_ | refine W.ret ?_ | refine L.nil ?_ | refine L.p rfl rfl ?_ | refine L.skip rfl ?_)
  refine L.ld (cell_of hr rfl) rfl rfl rfl ?_
  repeat (first | refine W.seq ?_ | refine W.block ?_ | refine W.reg ?_ | refine W.skip ?_ | refine W.exit ?_ | refine W.ret ?_ | refine L.nil ?_ | refine L.p rfl rfl ?_ | refine L.skip rfl ?_)
  refine W.ite rfl (fun h => ?_) (fun h => ?_)
  · have hkl : k < bs.length := by simp at h; omega
    obtain ⟨hh, hkh⟩ : ∃ hh, bs[k]? = some hh := ⟨_, List.getElem?_eq_getElem hkl⟩
    have hel : (bs.map Hd.v)[k]? = some hh.v := by rw [List.getElem?_map, hkh]; rfl
    have hl0 := hst k hh hkh (Nat.le_refl _)
    have hnb : ∀ b, hh.a = some b → b ≠ rb := fun b e hm => hdbs b (blks_mem hkh e) (hm ▸ h4)
    have hnw : ∀ b, hh.a = some b → hb.a ≠ some b := fun b e hm => hdbs b (blks_mem hkh e) (h6 b hm).1
    have hlt : ∀ b, hh.a = some b → b < List.length S3 := fun b e => by
      have := hMbs k hh hkh
      exact this.lt e
    have hsm := (hAbs k hh hkh).1
    have hSl := hkeep.1
    clear h
    repeat (first | refine W.seq ?_ | refine W.block ?_ | refine W.reg ?_ | refine W.skip ?_ | refine W.exit ?_ | refine W.ret ?_ | refine L.nil ?_ | refine L.p rfl rfl ?_ | refine L.skip rfl ?_)
    refine L.ld (cell_of hr rfl) rfl rfl rfl ?_
    repeat (first | refine W.seq ?_ | refine W.block ?_ | refine W.reg ?_ | refine W.skip ?_ | refine W.exit ?_ | refine W.ret ?_ | refine L.nil ?_ | refine L.p rfl rfl ?_ | refine L.skip rfl ?_)
    refine L.el h3.slv rfl hel rfl rfl rfl rfl (fun _ => rfl) rfl (fun p => ?_)
    repeat (first | refine W.seq ?_ | refine W.block ?_ | refine W.reg ?_ | refine W.skip ?_ | refine W.exit ?_ | refine W.ret ?_ | refine L.nil ?_ | refine L.p rfl rfl ?_ | refine L.skip rfl ?_)
    refine W.loop (fun j e S'' => ∃ (i : Nat) (hl : Hd), j = 64 - i ∧ i ≤ 64 ∧ e 0 = .pointer (some ⟨rb, 0, none⟩) ∧ e 12 = vi k ∧ e 11 = hx.v ∧ e 7 = hxw.v ∧ e 13 = hl.v ∧ e 14 = vi i ∧ KeepL hh.a.toList S' S'' ∧ HdOk S'' 5 hl (mkB k (hh.n + i)) ∧ hl.n = hh.n + i ∧ ((i = 0 ∧ hl.a = hh.a) ∨ ∃ b, hl.a = some b ∧ List.length S' ≤ b)) 64
      ⟨0, hh, by omega, by omega, rfl, rfl, rfl, rfl, rfl, rfl, KeepL.refl _ _, hl0, rfl, .inl ⟨rfl, rfl⟩⟩ ?_
    rintro j e S'' ⟨i, hl, rfl, hi, e0, ek, ex, eo, el, ei, hkp, hhl, hln, hla⟩
    refine W.env6 e0 ek ex eo el ei ?_
    have hr2 := hkp.row hr (fun hm => hnb rb (by simpa using hm) rfl)
    have hx2 := h3.keep hkp (fun b e hm => hnw b (by simpa using hm) e)
    repeat (first | refine W.seq ?_ | refine W.block ?_ | refine W.reg ?_ | refine W.skip ?_ | refine W.exit ?_ | refine W.ret ?_ | refine L.nil ?_ | refine L.p rfl rfl ?_ | refine L.skip rfl ?_)
    refine W.ite rfl (fun h => ?_) (fun h => ?_)
    · have hin : i < 64 := by simp at h; omega
      repeat (first | refine W.seq ?_ | refine W.block ?_ | refine W.reg ?_ | refine W.skip ?_ | refine W.exit ?_ | refine W.ret ?_ | refine L.nil ?_ | refine L.p rfl rfl ?_ | refine L.skip rfl ?_)
      refine L.ld (cell_of hr2 rfl) rfl rfl rfl ?_
      repeat (first | refine W.seq ?_ | refine W.block ?_ | refine W.reg ?_ | refine W.skip ?_ | refine W.exit ?_ | refine W.ret ?_ | refine L.nil ?_ | refine L.p rfl rfl ?_ | refine L.skip rfl ?_)
      refine L.el hx2.slv rfl hel rfl rfl rfl rfl (fun _ => rfl) rfl (fun p => ?_)
      repeat (first | refine W.seq ?_ | refine W.block ?_ | refine W.reg ?_ | refine W.skip ?_ | refine W.exit ?_ | refine W.ret ?_ | refine L.nil ?_ | refine L.p rfl rfl ?_ | refine L.skip rfl ?_)
      refine L.cl (mark_C _ _ _) rfl rfl ?_
      rintro _ _ ⟨rfl, rfl⟩
      refine ⟨fun _ => Cons.refl _, ?_⟩
      repeat (first | refine W.seq ?_ | refine W.block ?_ | refine W.reg ?_ | refine W.skip ?_ | refine W.exit ?_ | refine W.ret ?_ | refine L.nil ?_ | refine L.p rfl rfl ?_ | refine L.skip rfl ?_)
      refine L.pushH (h := hl) rfl hhl rfl rfl rfl rfl rfl (by omega) rfl (fun _ => rfl) (fun p h' S9 k1 k2 k3 k4 => ?_)
      rw [wrap64 (by omega) (by omega)] at k1
      repeat (first | refine W.seq ?_ | refine W.block ?_ | refine W.reg ?_ | refine W.skip ?_ | refine W.exit ?_ | refine W.ret ?_ | refine L.nil ?_ | refine L.p rfl rfl ?_ | refine L.skip rfl ?_)
      obtain ⟨b', k5, k6⟩ := k3
      have hSl2 := hkp.1
      refine ⟨64 - (i + 1), by omega, i + 1, h', rfl, by omega, rfl, rfl, rfl, rfl, rfl, ?_, ?_, ?_, by omega, .inr ⟨b', k5, by omega⟩⟩
      · refine (force_eq rfl).trans ?_
        rw [wrap64 (by omega) (by omega)]; rfl
      · refine hkp.then k4 ?_
        intro r hm
        rcases hla with ⟨_, hla⟩ | ⟨b, hla, hlb⟩
        · rw [hla] at hm; exact .inl hm
        · rw [hla] at hm; simp at hm; exact .inr (by omega)
      · rw [show hh.n + (i + 1) = (hh.n + i) + 1 by omega, mkB_succ]
        (rw [u8_of_v64] at k1; exact k1)
    · have hin : i = 64 := by simp at h; omega
      subst hin
      obtain ⟨bl, hla, hlb⟩ : ∃ b, hl.a = some b ∧ List.length S' ≤ b := by
        rcases hla with ⟨h0, _⟩ | h0
        · omega
        · exact h0
      have hbl := hhl.lt hla
      have hxk : HdOk S'' 22 hx (ds.map Hd.v) := hhx.keep hkp (fun b e hm => by have := hxb b e; have := hlt b (by simpa using hm); omega)
      have hxn := hxk.len
      rw [List.length_map] at hxn
      repeat (first | refine W.seq ?_ | refine W.block ?_ | refine W.reg ?_ | refine W.skip ?_ | refine W.exit ?_ | refine W.ret ?_ | refine L.nil ?_ | refine L.p rfl rfl ?_ | refine L.skip rfl ?_)
      refine L.pushH (h := hx) rfl hxk rfl rfl rfl rfl rfl (by omega) rfl (fun _ => rfl) (fun p h' S9 k1 k2 k3 k4 => ?_)
      obtain ⟨b', k5, k6⟩ := k3
      repeat (first | refine W.seq ?_ | refine W.block ?_ | refine W.reg ?_ | refine W.skip ?_ | refine W.exit ?_ | refine W.ret ?_ | refine L.nil ?_ | refine L.p rfl rfl ?_ | refine L.skip rfl ?_)
      have hSl2 := hkp.1
      have hkS : KeepL (blks bs) S' S'' := hkp.mono fun b hm => blks_mem hkh (by simpa using hm)
      have hk4 : ∀ r ∈ hx.a.toList, r ∈ blks bs ∨ List.length S3 ≤ r := fun r hm => .inr (hxb r (by simpa using hm))
      refine ⟨bs.length - (k + 1), by omega, k + 1, ds ++ [hl], h', rfl, by omega, rfl, ?_, rfl, rfl, by simp [hdl], (hkeep.trans hkS).then k4 hk4, by rw [List.map_append]; exact k1, ?_, ?_, ?_⟩
      · refine (force_eq rfl).trans ?_
        rw [wrap64 (by omega) (by omega)]; rfl
      · intro b e; rw [k5] at e; cases e; omega
      · intro i d hi'
        rw [List.getElem?_append] at hi'
        split at hi'
        · obtain ⟨⟨h9, q1, q2, q3⟩, b9, q4, q5, q6⟩ := hds i d hi'
          have q7 := q2.lt q4
          refine ⟨⟨h9, q1, (q2.keep hkp (fun b e hm => ?_)).keep k4 (fun b e hm => ?_), q3⟩, b9, q4, q5, fun e => ?_⟩
          · rw [q4] at e; cases e
            have := hlt _ (by simpa using hm : hh.a = some b9); omega
          · rw [q4] at e; cases e
            exact q6 (by simpa using hm)
          · rw [k5] at e; cases e; omega
        · rename_i hge
          rw [List.getElem?_singleton] at hi'
          split at hi'
          · rename_i h0
            cases hi'
            have hik : i = k := by omega
            subst hik
            refine ⟨⟨hh, hkh, hhl.keep k4 (fun b e hm => ?_), hln⟩, bl, hla, by omega, fun e => ?_⟩
            · rw [hla] at e; cases e
              have := hhx.lt (by simpa using hm : hx.a = some bl)
              omega
            · rw [k5] at e; cases e; omega
          · cases hi'
      · intro i h hi' hge
        have hq := hst i h hi' (by omega)
        refine (hq.keep hkp (fun b e hm => ?_)).keep k4 (fun b e hm => ?_)
        · have := hObs i k h hh b hi' hkh e (by simpa using hm); omega
        · have := hxb b (by simpa using hm)
          have := (hMbs i h hi').lt e
          omega
  have hkl : k = bs.length := by simp at h; omega
  clear h hr h2 h3 h5 h6 hlen ek e0 hst
  subst hkl
  rename Mem => S4
  have hkeep4 : KeepL (blks ws ++ blks bs) S S4 := hkeep3.trans (hkeep.mono (by simp +contextual))
  have hblt : ∀ b ∈ blks bs, b < List.length S2 := fun b hm => by
    obtain ⟨k, d, h1, h2⟩ := blks_at hm
    exact (hMbs2 k d h1).lt h2
  have hhxdw := hhxdw.keep hkeep (fun b e hm => by have := hxbw b e; have := hblt b hm; omega)
  have hdsdw : ∀ (i : Nat) (d : Hd), dw[i]? = some d → (∃ h, ws[i]? = some h ∧ HdOk S4 56 d (mkW i (h.n + 64)) ∧ d.n = h.n + 64) ∧ True := fun i d hi => by
    obtain ⟨⟨h9, q1, q2, q3⟩, b9, q4, q5, q6⟩ := hdsdw i d hi
    exact ⟨⟨h9, q1, q2.keep hkeep (fun b e hm => by rw [q4] at e; cases e; have := hblt _ hm; omega), q3⟩, trivial⟩
  have hhxds := hhx
  have hdsds := hds
  clear hkeep hkeep3 hhx hds hxb hBbs hk hxbw
  repeat (first | refine W.seq ?_ | refine W.block ?_ | refine W.reg ?_ | refine W.skip ?_ | refine W.exit ?_ | refine W.ret ?_ | refine L.nil ?_ | refine L.p rfl rfl ?_ | refine L.skip rfl ?_)
  refine W.loop (fun j e S' => ∃ k : Nat, j = dw.length - k ∧ k ≤ dw.length ∧ S4 = S' ∧ e 7 = hxw.v ∧ e 15 = vi k ∧ e 11 = hx.v) dw.length ⟨0, by omega, by omega, rfl, rfl, rfl, rfl⟩ ?_
  rintro j e S' ⟨k, rfl, hk, rfl, ex, ek, eo⟩
  refine W.env3 ex ek eo ?_
  have hlen := hhxdw.len
  rw [List.length_map] at hlen
  repeat (first | refine W.seq ?_ | refine W.block ?_ | refine W.reg ?_ | refine W.skip ?_ | refine W.exit ?_ | refine W.ret ?_ | refine L.nil ?_ | refine L.p rfl rfl ?_ | refine L.skip rfl ?_)
  refine W.ite rfl (fun h => ?_) (fun h => ?_)
  · have hkl : k < dw.length := by simp at h; omega
    obtain ⟨dd, hkd⟩ : ∃ dd, dw[k]? = some dd := ⟨_, List.getElem?_eq_getElem hkl⟩
    have hel : (dw.map Hd.v)[k]? = some dd.v := by rw [List.getElem?_map, hkd]; rfl
    obtain ⟨⟨hh, hkh, hdok, hdn⟩, _⟩ := hdsdw k dd hkd
    rw [← hdn] at hdok
    have hsm := (hAws k hh hkh).1
    clear h
    repeat (first | refine W.seq ?_ | refine W.block ?_ | refine W.reg ?_ | refine W.skip ?_ | refine W.exit ?_ | refine W.ret ?_ | refine L.nil ?_ | refine L.p rfl rfl ?_ | refine L.skip rfl ?_)
    refine W.loop (fun j e S'' => ∃ i : Nat, j = dd.n - i ∧ i ≤ dd.n ∧ S4 = S'' ∧ e 7 = hxw.v ∧ e 15 = vi k ∧ e 11 = hx.v ∧ e 16 = vi i) dd.n ⟨0, by omega, by omega, rfl, rfl, rfl, rfl, rfl⟩ ?_
    rintro j e S'' ⟨i, rfl, hi, rfl, ex, ek, eo, ei⟩
    refine W.env4 ex ek eo ei ?_
    repeat (first | refine W.seq ?_ | refine W.block ?_ | refine W.reg ?_ | refine W.skip ?_ | refine W.exit ?_ | refine W.ret ?_ | refine L.nil ?_ | refine L.p rfl rfl ?_ | refine L.skip rfl ?_)
    refine L.el hhxdw.slv rfl hel rfl rfl rfl rfl (fun _ => rfl) rfl (fun p => ?_)
    repeat (first | refine W.seq ?_ | refine W.block ?_ | refine W.reg ?_ | refine W.skip ?_ | refine W.exit ?_ | refine W.ret ?_ | refine L.nil ?_ | refine L.p rfl rfl ?_ | refine L.skip rfl ?_)
    refine W.ite rfl (fun h => ?_) (fun h => ?_)
    · have hin : i < dd.n := by simp at h; omega
      repeat (first | refine W.seq ?_ | refine W.block ?_ | refine W.reg ?_ | refine W.skip ?_ | refine W.exit ?_ | refine W.ret ?_ | refine L.nil ?_ | refine L.p rfl rfl ?_ | refine L.skip rfl ?_)
      refine L.el hhxdw.slv rfl hel rfl rfl rfl rfl (fun _ => rfl) rfl (fun p => ?_)
      repeat (first | refine W.seq ?_ | refine W.block ?_ | refine W.reg ?_ | refine W.skip ?_ | refine W.exit ?_ | refine W.ret ?_ | refine L.nil ?_ | refine L.p rfl rfl ?_ | refine L.skip rfl ?_)
      refine L.el hdok.slv rfl (mkW_get hin) rfl rfl rfl rfl (fun _ => rfl) rfl (fun p => ?_)
      repeat (first | refine W.seq ?_ | refine W.block ?_ | refine W.reg ?_ | refine W.skip ?_ | refine W.exit ?_ | refine W.ret ?_ | refine L.nil ?_ | refine L.p rfl rfl ?_ | refine L.skip rfl ?_)
      refine L.cl (mark_C _ _ _) rfl rfl ?_
      rintro _ _ ⟨rfl, rfl⟩
      refine ⟨fun _ => Cons.refl _, ?_⟩
      repeat (first | refine W.seq ?_ | refine W.block ?_ | refine W.reg ?_ | refine W.skip ?_ | refine W.exit ?_ | refine W.ret ?_ | refine L.nil ?_ | refine L.p rfl rfl ?_ | refine L.skip rfl ?_)
      refine W.ite rfl (fun h => ?_) (fun h => ?_)
      · exfalso; (simp at h)
      · repeat (first | refine W.seq ?_ | refine W.block ?_ | refine W.reg ?_ | refine W.skip ?_ | refine W.exit ?_ | refine W.ret ?_ | refine L.nil ?_ | refine L.p rfl rfl ?_ | refine L.skip rfl ?_)
        refine ⟨dd.n - (i + 1), by omega, i + 1, rfl, by omega, rfl, rfl, rfl, rfl, ?_⟩
        refine (force_eq rfl).trans ?_
        rw [wrap64 (by omega) (by omega)]; rfl
    · repeat (first | refine W.seq ?_ | refine W.block ?_ | refine W.reg ?_ | refine W.skip ?_ | refine W.exit ?_ | refine W.ret ?_ | refine L.nil ?_ | refine L.p rfl rfl ?_ | refine L.skip rfl ?_)
      refine ⟨dw.length - (k + 1), by omega, k + 1, rfl, by omega, rfl, rfl, ?_, rfl⟩
      refine (force_eq rfl).trans ?_
      rw [wrap64 (by omega) (by omega)]; rfl
  clear h ek hlen
  repeat (first | refine W.seq ?_ | refine W.block ?_ | refine W.reg ?_ | refine W.skip ?_ | refine W.exit ?_ | refine W.ret ?_ | refine L.nil ?_ | refine L.p rfl rfl ?_ | refine L.skip rfl ?_)
  refine W.loop (fun j e S' => ∃ k : Nat, j = ds.length - k ∧ k ≤ ds.length ∧ S4 = S' ∧ e 11 = hx.v ∧ e 17 = vi k ∧ e 11 = hx.v) ds.length ⟨0, by omega, by omega, rfl, rfl, rfl, rfl⟩ ?_
  rintro j e S' ⟨k, rfl, hk, rfl, ex, ek, eo⟩
  refine W.env3 ex ek eo ?_
  have hlen := hhxds.len
  rw [List.length_map] at hlen
  repeat (first | refine W.seq ?_ | refine W.block ?_ | refine W.reg ?_ | refine W.skip ?_ | refine W.exit ?_ | refine W.ret ?_ | refine L.nil ?_ | refine L.p rfl rfl ?_ | refine L.skip rfl ?_)
  refine W.ite rfl (fun h => ?_) (fun h => ?_)
  · have hkl : k < ds.length := by simp at h; omega
    obtain ⟨dd, hkd⟩ : ∃ dd, ds[k]? = some dd := ⟨_, List.getElem?_eq_getElem hkl⟩
    have hel : (ds.map Hd.v)[k]? = some dd.v := by rw [List.getElem?_map, hkd]; rfl
    obtain ⟨⟨hh, hkh, hdok, hdn⟩, _⟩ := hdsds k dd hkd
    rw [← hdn] at hdok
    have hsm := (hAbs k hh hkh).1
    clear h
    repeat (first | refine W.seq ?_ | refine W.block ?_ | refine W.reg ?_ | refine W.skip ?_ | refine W.exit ?_ | refine W.ret ?_ | refine L.nil ?_ | refine L.p rfl rfl ?_ | refine L.skip rfl ?_)
    refine W.loop (fun j e S'' => ∃ i : Nat, j = dd.n - i ∧ i ≤ dd.n ∧ S4 = S'' ∧ e 11 = hx.v ∧ e 17 = vi k ∧ e 11 = hx.v ∧ e 18 = vi i) dd.n ⟨0, by omega, by omega, rfl, rfl, rfl, rfl, rfl⟩ ?_
    rintro j e S'' ⟨i, rfl, hi, rfl, ex, ek, eo, ei⟩
    refine W.env4 ex ek eo ei ?_
    repeat (first | refine W.seq ?_ | refine W.block ?_ | refine W.reg ?_ | refine W.skip ?_ | refine W.exit ?_ | refine W.ret ?_ | refine L.nil ?_ | refine L.p rfl rfl ?_ | refine L.skip rfl ?_)
    refine L.el hhxds.slv rfl hel rfl rfl rfl rfl (fun _ => rfl) rfl (fun p => ?_)
    repeat (first | refine W.seq ?_ | refine W.block ?_ | refine W.reg ?_ | refine W.skip ?_ | refine W.exit ?_ | refine W.ret ?_ | refine L.nil ?_ | refine L.p rfl rfl ?_ | refine L.skip rfl ?_)
    refine W.ite rfl (fun h => ?_) (fun h => ?_)
    · have hin : i < dd.n := by simp at h; omega
      repeat (first | refine W.seq ?_ | refine W.block ?_ | refine W.reg ?_ | refine W.skip ?_ | refine W.exit ?_ | refine W.ret ?_ | refine L.nil ?_ | refine L.p rfl rfl ?_ | refine L.skip rfl ?_)
      refine L.el hhxds.slv rfl hel rfl rfl rfl rfl (fun _ => rfl) rfl (fun p => ?_)
      repeat (first | refine W.seq ?_ | refine W.block ?_ | refine W.reg ?_ | refine W.skip ?_ | refine W.exit ?_ | refine W.ret ?_ | refine L.nil ?_ | refine L.p rfl rfl ?_ | refine L.skip rfl ?_)
      refine L.el hdok.slv rfl (mkB_get hin) rfl rfl rfl rfl (fun _ => rfl) rfl (fun p => ?_)
      repeat (first | refine W.seq ?_ | refine W.block ?_ | refine W.reg ?_ | refine W.skip ?_ | refine W.exit ?_ | refine W.ret ?_ | refine L.nil ?_ | refine L.p rfl rfl ?_ | refine L.skip rfl ?_)
      refine L.cl (mark_C _ _ _) rfl rfl ?_
      rintro _ _ ⟨rfl, rfl⟩
      refine ⟨fun _ => Cons.refl _, ?_⟩
      repeat (first | refine W.seq ?_ | refine W.block ?_ | refine W.reg ?_ | refine W.skip ?_ | refine W.exit ?_ | refine W.ret ?_ | refine L.nil ?_ | refine L.p rfl rfl ?_ | refine L.skip rfl ?_)
      refine W.ite rfl (fun h => ?_) (fun h => ?_)
      · exfalso; (rw [u8_of_v64] at h; simp at h)
      · repeat (first | refine W.seq ?_ | refine W.block ?_ | refine W.reg ?_ | refine W.skip ?_ | refine W.exit ?_ | refine W.ret ?_ | refine L.nil ?_ | refine L.p rfl rfl ?_ | refine L.skip rfl ?_)
        refine ⟨dd.n - (i + 1), by omega, i + 1, rfl, by omega, rfl, rfl, rfl, rfl, ?_⟩
        refine (force_eq rfl).trans ?_
        rw [wrap64 (by omega) (by omega)]; rfl
    · repeat (first | refine W.seq ?_ | refine W.block ?_ | refine W.reg ?_ | refine W.skip ?_ | refine W.exit ?_ | refine W.ret ?_ | refine L.nil ?_ | refine L.p rfl rfl ?_ | refine L.skip rfl ?_)
      refine ⟨ds.length - (k + 1), by omega, k + 1, rfl, by omega, rfl, rfl, ?_, rfl⟩
      refine (force_eq rfl).trans ?_
      rw [wrap64 (by omega) (by omega)]; rfl
  clear h ek hlen
  repeat (first | refine W.seq ?_ | refine W.block ?_ | refine W.reg ?_ | refine W.skip ?_ | refine W.exit ?_ | refine W.ret ?_ | refine L.nil ?_ | refine L.p rfl rfl ?_ | refine L.skip rfl ?_)
  exact ⟨.inr rfl, _, rfl, rfl, hkeep4⟩
end Go.Proofs.Ytccdlijohkljcaa
