/- What several proofs share, part 6: a model of memory, contracts of functions. Conditions: none. -/
import Derived.Test.YtbdnkneedengcaaGreatDoorLibE
import Derived.Recover

/- The document's digits compared, taken off, multiplied by little ones: walked. Conditions: none. -/
set_option linter.unusedSimpArgs false
set_option linter.unusedVariables false
set_option maxRecDepth 100000
set_option maxHeartbeats 4000000
namespace Go.Proofs.YtbdnkneedengcaaGreatDoor
open Go
variable {G : Nat} {Ext : FuncId → List Value → Mem → Outc → Mem → Prop}
/-- digits that a reference hands out -/
def HalfR (S S' : Mem) (v : Value) (N : Nat) : Prop := ∃ (l : WL) (a : Option Addr) (c : Nat), Cons S S' ∧ v = .slice a l.length c ∧ WIn S' a c l ∧ (∀ x, a = some x → S.length ≤ x.block) ∧ HalfOk l ∧ hnum l = N
theorem grow_new {N : Nat} {S : Mem} {el : TypeId} {a : Option Addr} {n c : Nat} {l : List Value} (h : Grow N S el 1 (.slice a n c) n l) : ∀ x, a = some x → N ≤ x.block := fun x hx => by
  obtain ⟨_, ⟨hv, _⟩ | ⟨b, hb, hv, _⟩⟩ := h
  · injection hv with e1; rw [e1] at hx; cases hx
  · injection hv with e1; rw [e1] at hx; cases hx; exact hb
theorem compare_C (a1 a2 : Option Addr) (c1 c2 : Nat) (f g : WL) (S : Mem) (h1 : WIn S a1 c1 f) (h2 : WIn S a2 c2 g) (k1 : HalfOk f) (k2 : HalfOk g) :
    C Tryz.prog G Ext 72 [.slice a1 f.length c1, .slice a2 g.length c2] S fun v S' => v = .int .i64 (cmpI (hnum f) (hnum g)) ∧ S' = S := by
  have hl1 := h1.2.2.2
  have hl2 := h2.2.2.2
  refine C.fn Tryz.func72 rfl (by kernel_rfl) rfl ?_
  repeat first|refine W.g ?_|refine L.p rfl rfl ?_|refine L.nil ?_|refine L.skip rfl ?_
  refine W.ite rfl (fun h => ?_) (fun h => ?_)
  · have hne : f.length ≠ g.length := fun he => by rw [he] at h; simp at h
    clear h
    repeat first|refine W.g ?_|refine L.p rfl rfl ?_|refine L.nil ?_|refine L.skip rfl ?_
    refine W.ite rfl (fun h => ?_) (fun h => ?_)
    · have hlt : f.length < g.length := by have := of_decide_eq_true h; omega
      clear h
      repeat first|refine W.g ?_|refine L.p rfl rfl ?_|refine L.nil ?_|refine L.skip rfl ?_
      refine ⟨.inr rfl, _, rfl, ?_, rfl⟩
      have : hnum f < hnum g := by
        refine Classical.byContradiction fun hc => ?_
        have := half_len k2 k1 (by omega)
        omega
      unfold cmpI
      rw [if_pos (by omega)]; rfl
    · have hlt : g.length < f.length := by have := of_decide_eq_false h; omega
      clear h
      repeat first|refine W.g ?_|refine L.p rfl rfl ?_|refine L.nil ?_|refine L.skip rfl ?_
      refine ⟨.inr rfl, _, rfl, ?_, rfl⟩
      have : hnum g < hnum f := by
        refine Classical.byContradiction fun hc => ?_
        have := half_len k1 k2 (by omega)
        omega
      unfold cmpI
      rw [if_neg (by omega), if_pos (by omega)]; rfl
  have heq : f.length = g.length := by
    refine Classical.byContradiction fun hc => ?_
    have : ((f.length : Int) != (g.length : Int)) = true := by rw [bne_iff_ne]; omega
    rw [this] at h; cases h
  clear h
  repeat first|refine W.g ?_|refine L.p rfl rfl ?_|refine L.nil ?_|refine L.skip rfl ?_
  refine W.loop (fun j e T => ∃ k : Nat, j = k ∧ k ≤ f.length ∧ T = S ∧ e 0 = .slice a1 f.length c1 ∧ e 1 = .slice a2 g.length c2 ∧ e 5 = .int .i64 ((k : Int) - 1) ∧ ∀ p, k ≤ p → f[p]? = g[p]?) f.length
    ⟨f.length, rfl, Nat.le_refl _, rfl, rfl, rfl, ?_, fun p hp => ?_⟩ ?_
  · exact congrArg (Value.int .i64) (wrap64 (by omega) (by omega))
  · rw [List.getElem?_eq_none (by omega), List.getElem?_eq_none (by omega)]
  rintro j e T ⟨k, rfl, hk, rfl, e0, e1', e5, hp⟩
  refine W.env3 e0 e1' e5 ?_
  repeat first|refine W.g ?_|refine L.p rfl rfl ?_|refine L.nil ?_|refine L.skip rfl ?_
  refine W.ite rfl (fun h => ?_) (fun h => ?_)
  · have hk1 : 1 ≤ j := by have := of_decide_eq_true h; omega
    clear h
    obtain ⟨m, rfl⟩ : ∃ m, j = m + 1 := ⟨j - 1, by omega⟩
    have hm : (((m + 1 : Nat) : Int) - 1) = (m : Int) := by omega
    rw [hm]
    obtain ⟨x, hx⟩ : ∃ x, f[m]? = some x := ⟨_, List.getElem?_eq_getElem (by omega)⟩
    obtain ⟨y, hy⟩ : ∃ y, g[m]? = some y := ⟨_, List.getElem?_eq_getElem (by omega)⟩
    have hd := drop_same (k := m + 1) (fun p h => hp p h)
    repeat first|refine W.g ?_|refine L.p rfl rfl ?_|refine L.nil ?_|refine L.skip rfl ?_
    refine L.el h1.1 (k := m) rfl (wv_get hx) rfl rfl rfl rfl (fun _ => rfl) rfl (fun p => ?_)
    repeat first|refine W.g ?_|refine L.p rfl rfl ?_|refine L.nil ?_|refine L.skip rfl ?_
    refine L.el h2.1 (k := m) rfl (wv_get hy) rfl rfl rfl rfl (fun _ => rfl) rfl (fun p => ?_)
    repeat first|refine W.g ?_|refine L.p rfl rfl ?_|refine L.nil ?_|refine L.skip rfl ?_
    refine W.ite rfl (fun h => ?_) (fun h => ?_)
    · have hlt : x.toNat < y.toNat := by have := of_decide_eq_true h; omega
      clear h
      have := hcmp_at k1.1 hx hy hd hlt
      repeat first|refine W.g ?_|refine L.p rfl rfl ?_|refine L.nil ?_|refine L.skip rfl ?_
      refine ⟨.inr rfl, _, rfl, ?_, rfl⟩
      unfold cmpI
      rw [if_pos (by omega)]; rfl
    have hge : y.toNat ≤ x.toNat := by have := of_decide_eq_false h; omega
    clear h
    repeat first|refine W.g ?_|refine L.p rfl rfl ?_|refine L.nil ?_|refine L.skip rfl ?_
    refine L.el h1.1 (k := m) rfl (wv_get hx) rfl rfl rfl rfl (fun _ => rfl) rfl (fun p => ?_)
    repeat first|refine W.g ?_|refine L.p rfl rfl ?_|refine L.nil ?_|refine L.skip rfl ?_
    refine L.el h2.1 (k := m) rfl (wv_get hy) rfl rfl rfl rfl (fun _ => rfl) rfl (fun p => ?_)
    repeat first|refine W.g ?_|refine L.p rfl rfl ?_|refine L.nil ?_|refine L.skip rfl ?_
    refine W.ite rfl (fun h => ?_) (fun h => ?_)
    · have hlt : y.toNat < x.toNat := by have := of_decide_eq_true h; omega
      clear h
      have := hcmp_at k2.1 hy hx hd.symm hlt
      repeat first|refine W.g ?_|refine L.p rfl rfl ?_|refine L.nil ?_|refine L.skip rfl ?_
      refine ⟨.inr rfl, _, rfl, ?_, rfl⟩
      unfold cmpI
      rw [if_neg (by omega), if_pos (by omega)]; rfl
    · have hxy : x = y := by
        have := of_decide_eq_false h
        exact BitVec.eq_of_toNat_eq (by omega)
      clear h
      repeat first|refine W.g ?_|refine L.p rfl rfl ?_|refine L.nil ?_|refine L.skip rfl ?_
      refine ⟨m, by omega, m, rfl, by omega, rfl, rfl, rfl, congrArg (Value.int .i64) (wrap64 (by omega) (by omega)), fun p h => ?_⟩
      rcases Nat.eq_or_lt_of_le h with h | h
      · rw [← h, hx, hy, hxy]
      · exact hp p h
  · have hk0 : j = 0 := by have := of_decide_eq_false h; omega
    subst hk0
    clear h
    have hfg : f = g := List.ext_getElem? fun p => hp p (Nat.zero_le _)
    repeat first|refine W.g ?_|refine L.p rfl rfl ?_|refine L.nil ?_|refine L.skip rfl ?_
    refine ⟨.inr rfl, _, rfl, ?_, rfl⟩
    rw [hfg]
    unfold cmpI
    rw [if_neg (by omega), if_neg (by omega)]; rfl
theorem word32 (s : Nat) : ∃ r : BitVec 64, r.toNat = s % 4294967296 := word_of (by omega)
theorem minus_C (a1 a2 : Option Addr) (c1 c2 : Nat) (f g : WL) (S : Mem) (h1 : WIn S a1 c1 f) (h2 : WIn S a2 c2 g) (k1 : HalfOk f) (k2 : HalfOk g) (hge : hnum g ≤ hnum f) (hlen : f.length < 1000000) :
    C Tryz.prog G Ext 100 [.slice a1 f.length c1, .slice a2 g.length c2] S fun v S' => HalfR S S' v (hnum f - hnum g) := by
  have hll := half_len k2 k1 hge
  refine C.fn Tryz.func100 rfl (by kernel_rfl) rfl ?_
  repeat first|refine W.g ?_|refine L.p rfl rfl ?_|refine L.nil ?_|refine L.skip rfl ?_
  refine W.loop (fun j e T => ∃ (i : Nat) (o : WL) (a3 : Option Addr) (c3 l : Nat), j = f.length - i ∧ i ≤ f.length ∧ Cons S T ∧ e 0 = .slice a1 f.length c1 ∧ e 1 = .slice a2 g.length c2 ∧ e 5 = .slice a3 i c3 ∧ e 6 = .int .u64 (l : Int) ∧ e 7 = vi i ∧ Grow S.length T 55 1 (.slice a3 i c3) i (wv o) ∧ o.length = i ∧ Small32 o ∧ l ≤ 1 ∧ hnum o + hnum (g.take i) = hnum (f.take i) + l * 2 ^ (32 * i)) f.length
    ⟨0, [], none, 0, 0, by omega, by omega, Cons.refl _, rfl, rfl, rfl, rfl, rfl, Grow.nil _ _ _ _, rfl, (fun x hx => by simp at hx), by decide, by simp [hnum]⟩ ?_
  rintro j e T ⟨i, o, a3, c3, l, rfl, hi, hc, e0, e1, e5, e6, e7, hg, hol, hso, hl, hsum⟩
  refine W.env5 e0 e1 e5 e6 e7 ?_
  repeat first|refine W.g ?_|refine L.p rfl rfl ?_|refine L.nil ?_|refine L.skip rfl ?_
  refine W.ite rfl (fun h => ?_) (fun h => ?_)
  · have hin : i < f.length := by have := of_decide_eq_true h; omega
    clear h
    obtain ⟨x, hx⟩ : ∃ x, f[i]? = some x := ⟨_, List.getElem?_eq_getElem hin⟩
    have hxl := small32_get k1.1 hx
    have hw1 : IntKind.u64.wrap (IntKind.u64.wrap ((x.toNat : Int) + 4294967296) - (l : Int)) = ((x.toNat + 4294967296 - l : Nat) : Int) := by
      rw [show IntKind.u64.wrap ((x.toNat : Int) + 4294967296) = ((x.toNat + 4294967296 : Nat) : Int) from wrapU64 (by omega) (by omega), wrapU64 (by omega) (by omega)]; omega
    repeat first|refine W.g ?_|refine L.p rfl rfl ?_|refine L.nil ?_|refine L.skip rfl ?_
    refine L.el (h1.cons hc).1 (k := i) rfl (wv_get hx) rfl rfl rfl rfl (fun _ => rfl) rfl (fun p => ?_)
    repeat first|refine W.g ?_|refine L.p rfl rfl ?_|refine L.nil ?_|refine L.skip rfl ?_
    rw [hw1]
    refine W.ite rfl (fun h => ?_) (fun h => ?_)
    · have hi2 : i < g.length := by have := of_decide_eq_true h; omega
      clear h
      obtain ⟨y, hy⟩ : ∃ y, g[i]? = some y := ⟨_, List.getElem?_eq_getElem hi2⟩
      have hyl := small32_get k2.1 hy
      have hty := hnum_take_succ hy
      have hw2 : IntKind.u64.wrap (((x.toNat + 4294967296 - l : Nat) : Int) - (y.toNat : Int)) = ((x.toNat + 4294967296 - l - y.toNat : Nat) : Int) := by
        rw [wrapU64 (by omega) (by omega)]; omega
      repeat first|refine W.g ?_|refine L.p rfl rfl ?_|refine L.nil ?_|refine L.skip rfl ?_
      refine L.el (h2.cons hc).1 (k := i) rfl (wv_get hy) rfl rfl rfl rfl (fun _ => rfl) rfl (fun p => ?_)
      repeat first|refine W.g ?_|refine L.p rfl rfl ?_|refine L.nil ?_|refine L.skip rfl ?_
      rw [hw2]
      obtain ⟨s, hs⟩ : ∃ s, s = x.toNat + 4294967296 - l - y.toNat := ⟨_, rfl⟩
      obtain ⟨hst, hs1⟩ := sub_step32 (P := 2 ^ (32 * i)) hsum hl hxl hyl hs
      obtain ⟨r, hr⟩ := word32 s
      rw [← hr] at hst
      rw [← hs]
      have hw3 : IntKind.u64.wrap (1 - Int.fdiv (s : Int) (2 ^ min (Int.toNat 32) IntKind.u64.bits)) = ((1 - s / 4294967296 : Nat) : Int) := by
        rw [shrHi, wrapU64 (by omega) (by omega)]; omega
      repeat first|refine W.g ?_|refine L.p rfl rfl ?_|refine L.nil ?_|refine L.skip rfl ?_
      rw [andLo (by omega), ← hr]
      refine L.push1 (w := v64 r) rfl hc.len (.inl hg) rfl rfl rfl rfl rfl (by omega) rfl (fun _ => rfl) (fun p a4 c4 S2 h2 h3 h4 => ?_)
      repeat first|refine W.g ?_|refine L.p rfl rfl ?_|refine L.nil ?_|refine L.skip rfl ?_
      refine ⟨f.length - (i + 1), by omega, i + 1, o ++ [r], a4, c4, 1 - s / 4294967296, rfl, by omega, hc.trans' h4, rfl, rfl, rfl, (force_eq rfl).trans (congrArg (Value.int .u64) hw3), congrArg (Value.int .i64) (wrap64 (by omega) (by omega)), by rw [wv, List.map_append]; exact h2, by simp [hol], small32_snoc hso (by omega), by omega, ?_⟩
      rw [hnum_snoc, hol, pow32_succ, hnum_take_succ hx, hty]
      exact hst
    · have hi2 : g.length ≤ i := by have := of_decide_eq_false h; omega
      clear h
      have hyl : 0 < 4294967296 := by decide
      have hty : hnum (g.take (i + 1)) = hnum (g.take i) + 2 ^ (32 * i) * 0 := by rw [htake_more hi2]; omega
      rw [show x.toNat + 4294967296 - l = x.toNat + 4294967296 - l - 0 from rfl]
      obtain ⟨s, hs⟩ : ∃ s, s = x.toNat + 4294967296 - l - 0 := ⟨_, rfl⟩
      obtain ⟨hst, hs1⟩ := sub_step32 (P := 2 ^ (32 * i)) hsum hl hxl hyl hs
      obtain ⟨r, hr⟩ := word32 s
      rw [← hr] at hst
      rw [← hs]
      have hw3 : IntKind.u64.wrap (1 - Int.fdiv (s : Int) (2 ^ min (Int.toNat 32) IntKind.u64.bits)) = ((1 - s / 4294967296 : Nat) : Int) := by
        rw [shrHi, wrapU64 (by omega) (by omega)]; omega
      repeat first|refine W.g ?_|refine L.p rfl rfl ?_|refine L.nil ?_|refine L.skip rfl ?_
      rw [andLo (by omega), ← hr]
      refine L.push1 (w := v64 r) rfl hc.len (.inl hg) rfl rfl rfl rfl rfl (by omega) rfl (fun _ => rfl) (fun p a4 c4 S2 h2 h3 h4 => ?_)
      repeat first|refine W.g ?_|refine L.p rfl rfl ?_|refine L.nil ?_|refine L.skip rfl ?_
      refine ⟨f.length - (i + 1), by omega, i + 1, o ++ [r], a4, c4, 1 - s / 4294967296, rfl, by omega, hc.trans' h4, rfl, rfl, rfl, (force_eq rfl).trans (congrArg (Value.int .u64) hw3), congrArg (Value.int .i64) (wrap64 (by omega) (by omega)), by rw [wv, List.map_append]; exact h2, by simp [hol], small32_snoc hso (by omega), by omega, ?_⟩
      rw [hnum_snoc, hol, pow32_succ, hnum_take_succ hx, hty]
      exact hst
  · have hin : i = f.length := by have := of_decide_eq_false h; omega
    subst hin
    clear h
    rw [List.take_length, List.take_of_length_le hll] at hsum
    have hlt := hnum_lt hso
    rw [hol] at hlt
    have hl0 : l = 0 := by
      rcases Nat.lt_or_ge 0 l with h | h
      · have : l = 1 := by omega
        subst this
        rw [Nat.one_mul] at hsum
        omega
      · omega
    subst hl0
    rw [Nat.zero_mul, Nat.add_zero] at hsum
    have hW : WIn T a3 c3 o := grow_win (by rw [hol]; exact hg) (by omega)
    repeat first|refine W.g ?_|refine L.p rfl rfl ?_|refine L.nil ?_|refine L.skip rfl ?_
    refine L.cl (strip_C a3 c3 o T hW) rfl (by rw [hol]; rfl) ?_
    rintro _ _ ⟨rfl, rfl⟩
    refine ⟨nofun, ?_⟩
    repeat first|refine W.g ?_|refine L.p rfl rfl ?_|refine L.nil ?_|refine L.skip rfl ?_
    exact ⟨.inr rfl, _, rfl, fm o, a3, c3, hc, rfl, hW.form, grow_new hg, HalfOk.form hso, by rw [hnum_form]; omega⟩
theorem little_C (a : Option Addr) (c n : Nat) (f : WL) (S : Mem) (h1 : WIn S a c f) (k1 : Small32 f) (hn : n < 4294967296) (hlen : f.length < 1000000) :
    C Tryz.prog G Ext 102 [.slice a f.length c, .int .u64 (n : Int)] S fun v S' => HalfR S S' v (hnum f * n) := by
  refine C.fn Tryz.func102 rfl (by kernel_rfl) rfl ?_
  repeat first|refine W.g ?_|refine L.p rfl rfl ?_|refine L.nil ?_|refine L.skip rfl ?_
  refine W.loop (fun j e T => ∃ (i : Nat) (o : WL) (a3 : Option Addr) (c3 cr : Nat), j = f.length - i ∧ i ≤ f.length ∧ Cons S T ∧ e 0 = .slice a f.length c ∧ e 1 = .int .u64 (n : Int) ∧ e 5 = .slice a3 i c3 ∧ e 6 = .int .u64 (cr : Int) ∧ e 7 = vi i ∧ Grow S.length T 55 1 (.slice a3 i c3) i (wv o) ∧ o.length = i ∧ Small32 o ∧ cr < 4294967296 ∧ hnum o + cr * 2 ^ (32 * i) = hnum (f.take i) * n) f.length
    ⟨0, [], none, 0, 0, by omega, by omega, Cons.refl _, rfl, rfl, rfl, rfl, rfl, Grow.nil _ _ _ _, rfl, (fun x hx => by simp at hx), by decide, by simp [hnum]⟩ ?_
  rintro j e T ⟨i, o, a3, c3, cr, rfl, hi, hc, e0, e1, e5, e6, e7, hg, hol, hso, hcr, hsum⟩
  refine W.env5 e0 e1 e5 e6 e7 ?_
  repeat first|refine W.g ?_|refine L.p rfl rfl ?_|refine L.nil ?_|refine L.skip rfl ?_
  refine W.ite rfl (fun h => ?_) (fun h => ?_)
  · have hin : i < f.length := by have := of_decide_eq_true h; omega
    clear h
    obtain ⟨x, hx⟩ : ∃ x, f[i]? = some x := ⟨_, List.getElem?_eq_getElem hin⟩
    have hxl := small32_get k1 hx
    have hxn : x.toNat * n ≤ 4294967295 * 4294967295 := Nat.mul_le_mul (by omega) (by omega)
    obtain ⟨s, hs⟩ : ∃ s, s = x.toNat * n + cr := ⟨_, rfl⟩
    have hw1 : IntKind.u64.wrap (IntKind.u64.wrap ((x.toNat : Int) * (n : Int)) + (cr : Int)) = (s : Int) := by
      rw [umul (by omega), uadd (by omega), hs]
    have hsl : s < 18446744073709551616 := by omega
    obtain ⟨r, hr⟩ := word32 s
    have hst := mul_step32 (P := 2 ^ (32 * i)) hsum hs
    rw [← hr] at hst
    repeat first|refine W.g ?_|refine L.p rfl rfl ?_|refine L.nil ?_|refine L.skip rfl ?_
    refine L.el (h1.cons hc).1 (k := i) rfl (wv_get hx) rfl rfl rfl rfl (fun _ => rfl) rfl (fun p => ?_)
    repeat first|refine W.g ?_|refine L.p rfl rfl ?_|refine L.nil ?_|refine L.skip rfl ?_
    rw [hw1, andLo hsl, ← hr]
    refine L.push1 (w := v64 r) rfl hc.len (.inl hg) rfl rfl rfl rfl rfl (by omega) rfl (fun _ => rfl) (fun p a4 c4 S2 h2 h3 h4 => ?_)
    repeat first|refine W.g ?_|refine L.p rfl rfl ?_|refine L.nil ?_|refine L.skip rfl ?_
    refine ⟨f.length - (i + 1), by omega, i + 1, o ++ [r], a4, c4, s / 4294967296, rfl, by omega, hc.trans' h4, rfl, rfl, rfl, (force_eq rfl).trans (congrArg (Value.int .u64) (shrHi s)), congrArg (Value.int .i64) (wrap64 (by omega) (by omega)), by rw [wv, List.map_append]; exact h2, by simp [hol], small32_snoc hso (by omega), by omega, ?_⟩
    rw [hnum_snoc, hol, pow32_succ, hnum_take_succ hx]
    exact hst
  · have hin : i = f.length := by have := of_decide_eq_false h; omega
    subst hin
    clear h
    rw [List.take_length] at hsum
    obtain ⟨r, hr⟩ := word_of (n := cr) (by omega)
    rw [← hr]
    repeat first|refine W.g ?_|refine L.p rfl rfl ?_|refine L.nil ?_|refine L.skip rfl ?_
    refine L.push1 (w := v64 r) rfl hc.len (.inl hg) rfl rfl rfl rfl rfl (by omega) rfl (fun _ => rfl) (fun p a4 c4 S2 h2 h3 h4 => ?_)
    have hW : WIn S2 a4 c4 (o ++ [r]) := grow_win (by rw [List.length_append, hol, wv, List.map_append]; exact h2) (by simp; omega)
    have hlo : (o ++ [r]).length = f.length + 1 := by simp [hol]
    repeat first|refine W.g ?_|refine L.p rfl rfl ?_|refine L.nil ?_|refine L.skip rfl ?_
    refine L.cl (strip_C a4 c4 (o ++ [r]) S2 hW) rfl (by rw [hlo]; rfl) ?_
    rintro _ _ ⟨rfl, rfl⟩
    refine ⟨nofun, ?_⟩
    repeat first|refine W.g ?_|refine L.p rfl rfl ?_|refine L.nil ?_|refine L.skip rfl ?_
    refine ⟨.inr rfl, _, rfl, fm (o ++ [r]), a4, c4, hc.trans' h4, rfl, hW.form, grow_new h2, HalfOk.form (small32_snoc hso (by omega)), ?_⟩
    rw [hnum_form, hnum_snoc, hol, hr, Nat.mul_comm (2 ^ (32 * f.length))]
    exact hsum
end Go.Proofs.YtbdnkneedengcaaGreatDoor

/- The document's sums, differences, products: walked. Conditions: none. -/
set_option linter.unusedSimpArgs false
set_option linter.unusedVariables false
set_option maxRecDepth 100000
set_option maxHeartbeats 4000000
namespace Go.Proofs.YtbdnkneedengcaaGreatDoor
open Go
variable {G : Nat} {Ext : FuncId → List Value → Mem → Outc → Mem → Prop}
theorem limbs_num {h : WL} (hs : Small32 h) : fm (un h) = toW (hnum h) := by unfold fm; rw [wnum_un _ hs]
theorem hl_ok (l : WL) : HalfOk (fm (hl l)) := HalfOk.form (small_hl l)
theorem hl_num (l : WL) : hnum (fm (hl l)) = wnum l := by rw [hnum_form, hnum_hl]
theorem hlf_len (l : WL) : (fm (hl l)).length ≤ 2 * l.length := by
  have := toW_len_le (hl l)
  rw [hl_len] at this
  exact this
/-- digits made limbs -/
theorem limbsN_C (a : Option Addr) (c : Nat) (h : WL) (S : Mem) (hI : WIn S a c h) (hs : Small32 h) (hlen : h.length < 1000000) : C Tryz.prog G Ext 88 [.slice a h.length c] S fun v S' => RefW S S' v (toW (hnum h)) := by
  rw [← limbs_num hs]
  exact limbs_C a c h S hI hlen
/-- limbs made digits -/
theorem halvesN_C (a : Option Addr) (c : Nat) (l : WL) (S : Mem) (hI : WIn S a c l) (hlen : l.length < 1000000) : C Tryz.prog G Ext 73 [.slice a l.length c] S fun v S' => ∃ h, RefW S S' v h ∧ HalfOk h ∧ hnum h = wnum l ∧ h.length ≤ 2 * l.length :=
  (halves_C a c l S hI hlen).mono fun v S' h => ⟨_, h, hl_ok l, hl_num l, hlf_len l⟩
theorem timesR_C (a1 a2 : Option Addr) (c1 c2 : Nat) (l1 l2 : WL) (S : Mem) (h1 : WIn S a1 c1 l1) (h2 : WIn S a2 c2 l2) (n1 : l1.length < 100000) (n2 : l2.length < 100000) :
    C Tryz.prog G Ext 66 [.slice a1 l1.length c1, .slice a2 l2.length c2] S fun v S' => RefW S S' v (toW (wnum l1 * wnum l2)) := by
  refine C.fn Tryz.func66 rfl (by kernel_rfl) rfl ?_
  repeat first|refine W.g ?_|refine L.p rfl rfl ?_|refine L.nil ?_|refine L.skip rfl ?_
  refine L.cl (halvesN_C a1 c1 l1 S h1 (by omega)) rfl rfl ?_
  rintro _ S1 ⟨f, ⟨k1, b1, d1, rfl, i1⟩, o1, e1, q1⟩
  refine ⟨fun _ => k1, ?_⟩
  repeat first|refine W.g ?_|refine L.p rfl rfl ?_|refine L.nil ?_|refine L.skip rfl ?_
  refine L.cl (halvesN_C a2 c2 l2 S1 (h2.cons k1) (by omega)) rfl rfl ?_
  rintro _ S2 ⟨g, ⟨k2, b2, d2, rfl, i2⟩, o2, e2, q2⟩
  refine ⟨fun _ => k2, ?_⟩
  replace i1 := i1.cons k2
  obtain ⟨sz, hsz⟩ : ∃ sz, sz = f.length + g.length := ⟨_, rfl⟩
  have hw1 : IntKind.i64.wrap ((f.length : Int) + (g.length : Int)) = ((sz : Nat) : Int) := by rw [wrap64 (by omega) (by omega), hsz]; rfl
  repeat first|refine W.g ?_|refine L.p rfl rfl ?_|refine L.nil ?_|refine L.skip rfl ?_
  refine L.mk (n := sz) (m := sz) (bytes := 8) (zv := v64 0#64) rfl rfl hw1 rfl hw1 (Nat.le_refl _) (by omega) rfl rfl ?_
  have hro : Mem.row? (S2 ++ [newR (List.replicate sz (v64 0#64)) 55]) S2.length = some (newR (wv (List.replicate sz 0#64)) 55) := by
    rw [row_push_new rfl]; simp [wv]
  have hk5 := Cons.push S2 (newR (List.replicate sz (v64 0#64)) 55)
  generalize S2 ++ [newR (List.replicate sz (v64 0#64)) 55] = S3 at *
  obtain ⟨ro, hro0⟩ : ∃ ro, ro = S2.length := ⟨_, rfl⟩
  rw [← hro0] at hro ⊢
  have hs0 : Small32 (List.replicate sz 0#64) := fun x hx => by rw [List.eq_of_mem_replicate hx]; decide
  repeat first|refine W.g ?_|refine L.p rfl rfl ?_|refine L.nil ?_|refine L.skip rfl ?_
  refine W.loop (fun j e T => ∃ (i : Nat) (o : WL), j = f.length - i ∧ i ≤ f.length ∧ e 5 = .slice b1 f.length d1 ∧ e 6 = .slice b2 g.length d2 ∧ e 7 = .slice (some ⟨ro, 0, none⟩) sz sz ∧ e 8 = vi i ∧ Cons S2 T ∧ T.row? ro = some (newR (wv o) 55) ∧ o.length = sz ∧ Small32 o ∧ hnum o = hnum (f.take i) * hnum g ∧ ∀ p, i + g.length ≤ p → p < sz → o[p]? = some 0#64) f.length
    ⟨0, List.replicate sz 0#64, by omega, by omega, rfl, rfl, rfl, rfl, hk5, hro, by simp, hs0, by rw [hnum_zeros]; simp [hnum], fun p _ hp => by simp [hp]⟩ ?_
  clear hro hk5 hs0
  rintro j e T ⟨i, o, rfl, hi, e5, e6, e7, e8, hkT, hro, hol, hso, hwo, hz⟩
  refine W.env4 e5 e6 e7 e8 ?_
  repeat first|refine W.g ?_|refine L.p rfl rfl ?_|refine L.nil ?_|refine L.skip rfl ?_
  refine W.ite rfl (fun h => ?_) (fun h => ?_)
  · have hin : i < f.length := by have := of_decide_eq_true h; omega
    clear h
    obtain ⟨x, hx⟩ : ∃ x, f[i]? = some x := ⟨_, List.getElem?_eq_getElem hin⟩
    have hxl := small32_get o1.1 hx
    repeat first|refine W.g ?_|refine L.p rfl rfl ?_|refine L.nil ?_|refine L.skip rfl ?_
    refine W.loop (fun j e T => ∃ (k : Nat) (o : WL) (cr : Nat), j = g.length - k ∧ k ≤ g.length ∧ e 5 = .slice b1 f.length d1 ∧ e 6 = .slice b2 g.length d2 ∧ e 7 = .slice (some ⟨ro, 0, none⟩) sz sz ∧ e 8 = vi i ∧ e 9 = .int .u64 (cr : Int) ∧ e 10 = vi k ∧ Cons S2 T ∧ T.row? ro = some (newR (wv o) 55) ∧ o.length = sz ∧ Small32 o ∧ cr < 4294967296 ∧ hnum o + cr * 2 ^ (32 * (i + k)) = hnum (f.take i) * hnum g + x.toNat * hnum (g.take k) * 2 ^ (32 * i) ∧ ∀ p, i + g.length ≤ p → p < sz → o[p]? = some 0#64) g.length
      ⟨0, o, 0, by omega, by omega, rfl, rfl, rfl, rfl, rfl, rfl, hkT, hro, hol, hso, by decide, by rw [hwo]; simp [hnum], hz⟩ ?_
    clear hro hol hwo hz hkT e5 e6 e7 e8 hso
    clear o e T
    rintro j e T ⟨k, o, cr, rfl, hk, e5, e6, e7, e8, e9, e10, hkT, hro, hol, hso, hcr, hsum, hz⟩
    refine W.env6 e5 e6 e7 e8 e9 e10 ?_
    have hsl : Slv T 1 (.slice (some ⟨ro, 0, none⟩) sz sz) sz (wv o) := Slv.all hro rfl (by rw [wv_len, hol, Nat.mul_one])
    repeat first|refine W.g ?_|refine L.p rfl rfl ?_|refine L.nil ?_|refine L.skip rfl ?_
    refine W.ite rfl (fun h => ?_) (fun h => ?_)
    · have hk2 : k < g.length := by have := of_decide_eq_true h; omega
      clear h
      obtain ⟨y, hy⟩ : ∃ y, g[k]? = some y := ⟨_, List.getElem?_eq_getElem hk2⟩
      obtain ⟨z, hzz⟩ : ∃ z, o[i + k]? = some z := ⟨_, List.getElem?_eq_getElem (by omega)⟩
      have hyl := small32_get o2.1 hy
      have hzl := small32_get hso hzz
      have hw2 : IntKind.i64.wrap ((i : Int) + (k : Int)) = ((i + k : Nat) : Int) := by rw [wrap64 (by omega) (by omega)]; rfl
      have hxy : x.toNat * y.toNat ≤ 4294967295 * 4294967295 := Nat.mul_le_mul (by omega) (by omega)
      obtain ⟨s, hs⟩ : ∃ s, s = z.toNat + x.toNat * y.toNat + cr := ⟨_, rfl⟩
      have hw3 : IntKind.u64.wrap (IntKind.u64.wrap ((z.toNat : Int) + IntKind.u64.wrap ((x.toNat : Int) * (y.toNat : Int))) + (cr : Int)) = (s : Int) := by
        rw [umul (by omega), uadd (by omega), uadd (by omega), hs]
      obtain ⟨r, hr⟩ := word32 s
      repeat first|refine W.g ?_|refine L.p rfl rfl ?_|refine L.nil ?_|refine L.skip rfl ?_
      rw [hw2]
      refine L.el hsl (k := i + k) rfl (wv_get hzz) rfl rfl rfl rfl (fun _ => rfl) rfl (fun p => ?_)
      repeat first|refine W.g ?_|refine L.p rfl rfl ?_|refine L.nil ?_|refine L.skip rfl ?_
      refine L.el (i1.cons hkT).1 (k := i) rfl (wv_get hx) rfl rfl rfl rfl (fun _ => rfl) rfl (fun p => ?_)
      repeat first|refine W.g ?_|refine L.p rfl rfl ?_|refine L.nil ?_|refine L.skip rfl ?_
      refine L.el (i2.cons hkT).1 (k := k) rfl (wv_get hy) rfl rfl rfl rfl (fun _ => rfl) rfl (fun p => ?_)
      repeat first|refine W.g ?_|refine L.p rfl rfl ?_|refine L.nil ?_|refine L.skip rfl ?_
      rw [hw3, hw2, andLo (by omega), ← hr]
      refine L.elst hro rfl (by show 0 + sz ≤ (wv o).length; rw [wv_len, hol]; omega) (k := i + k) rfl (by omega) rfl rfl rfl rfl (fun _ => rfl) (fun _ => rfl) rfl rfl rfl (fun p => ?_)
      have hr2 := row_set_w (k := i + k) (r := r) hro
      have hk6 := hkT.set ro { newR (wv o) 55 with cells := (newR (wv o) 55).cells.set (0 + (i + k)) (v64 r) } (by omega)
      have hws := hnum_set (y := r) hzz
      generalize List.set T ro _ = T6 at *
      repeat first|refine W.g ?_|refine L.p rfl rfl ?_|refine L.nil ?_|refine L.skip rfl ?_
      refine ⟨g.length - (k + 1), by omega, k + 1, o.set (i + k) r, s / 4294967296, rfl, by omega, rfl, rfl, rfl, rfl, (force_eq rfl).trans (congrArg (Value.int .u64) (shrHi s)), congrArg (Value.int .i64) (wrap64 (by omega) (by omega)), hk6, hr2, by simpa using hol, small32_set hso (by omega), by omega, ?_, fun p hp1 hp2 => ?_⟩
      · rw [hnum_take_succ hy, show i + (k + 1) = i + k + 1 by omega, pow32_succ]
        have hP : 2 ^ (32 * i) * 2 ^ (32 * k) = 2 ^ (32 * (i + k)) := by rw [← Nat.pow_add]; congr 1; omega
        have e4 : x.toNat * (hnum (g.take k) + 2 ^ (32 * k) * y.toNat) * 2 ^ (32 * i) = x.toNat * hnum (g.take k) * 2 ^ (32 * i) + x.toNat * y.toNat * 2 ^ (32 * (i + k)) := by
          rw [← hP, Nat.mul_add, Nat.add_mul]; congr 1
          rw [Nat.mul_comm (2 ^ (32 * k)), Nat.mul_assoc, Nat.mul_assoc, Nat.mul_assoc, Nat.mul_comm (2 ^ (32 * k))]
        rw [e4]
        have e5 : r.toNat * 2 ^ (32 * (i + k)) + s / 4294967296 * (2 ^ (32 * (i + k)) * 4294967296) = s * 2 ^ (32 * (i + k)) := by
          rw [hr, Nat.mul_comm (2 ^ (32 * (i + k))) 4294967296, ← Nat.mul_assoc, ← Nat.add_mul]; congr 1; omega
        have e6 : s * 2 ^ (32 * (i + k)) = z.toNat * 2 ^ (32 * (i + k)) + x.toNat * y.toNat * 2 ^ (32 * (i + k)) + cr * 2 ^ (32 * (i + k)) := by rw [hs, Nat.add_mul, Nat.add_mul]
        omega
      · rw [List.getElem?_set, if_neg (by omega)]; exact hz p hp1 hp2
    · have hkk : k = g.length := by have := of_decide_eq_false h; omega
      subst hkk
      clear h
      rw [List.take_length] at hsum
      have hz0 := hz (i + g.length) (Nat.le_refl _) (by omega)
      have hw2 : IntKind.i64.wrap ((i : Int) + (g.length : Int)) = ((i + g.length : Nat) : Int) := by rw [wrap64 (by omega) (by omega)]; rfl
      obtain ⟨r, hr⟩ := word_of (n := cr) (by omega)
      rw [← hr] at hsum hcr ⊢
      repeat first|refine W.g ?_|refine L.p rfl rfl ?_|refine L.nil ?_|refine L.skip rfl ?_
      rw [hw2]
      refine L.elst hro rfl (by show 0 + sz ≤ (wv o).length; rw [wv_len, hol]; omega) (k := i + g.length) rfl (by omega) rfl rfl rfl rfl (fun _ => rfl) (fun _ => rfl) rfl rfl rfl (fun p => ?_)
      have hr2 := row_set_w (k := i + g.length) (r := r) hro
      have hk6 := hkT.set ro { newR (wv o) 55 with cells := (newR (wv o) 55).cells.set (0 + (i + g.length)) (v64 r) } (by omega)
      have hws := hnum_set (y := r) hz0
      generalize List.set T ro _ = T6 at *
      repeat first|refine W.g ?_|refine L.p rfl rfl ?_|refine L.nil ?_|refine L.skip rfl ?_
      refine ⟨f.length - (i + 1), by omega, i + 1, o.set (i + g.length) r, rfl, by omega, rfl, rfl, rfl, congrArg (Value.int .i64) (wrap64 (by omega) (by omega)), hk6, hr2, by simpa using hol, small32_set hso hcr, ?_, fun p hp1 hp2 => ?_⟩
      · rw [hnum_take_succ hx, Nat.add_mul]
        have hz1 : (0#64 : BitVec 64).toNat * 2 ^ (32 * (i + g.length)) = 0 := Nat.zero_mul _
        rw [hz1] at hws
        rw [Nat.mul_comm (2 ^ (32 * i)), Nat.mul_right_comm]
        omega
      · rw [List.getElem?_set, if_neg (by omega)]; exact hz p (by omega) hp2
  · have hin : i = f.length := by have := of_decide_eq_false h; omega
    subst hin
    clear h
    rw [List.take_length] at hwo
    have hW : WIn T (some ⟨ro, 0, none⟩) sz o := (WOwn.row (N := 0) hro hol (Nat.zero_le _) (by omega)).1
    have hfo : HalfOk (fm o) := HalfOk.form hso
    have hfl : (fm o).length ≤ o.length := toW_len_le o
    repeat first|refine W.g ?_|refine L.p rfl rfl ?_|refine L.nil ?_|refine L.skip rfl ?_
    refine L.cl (strip_C (some ⟨ro, 0, none⟩) sz o T hW) rfl (by rw [hol]; rfl) ?_
    rintro _ _ ⟨rfl, rfl⟩
    refine ⟨fun _ => Cons.refl _, ?_⟩
    rename Mem => T
    repeat first|refine W.g ?_|refine L.p rfl rfl ?_|refine L.nil ?_|refine L.skip rfl ?_
    refine L.cl (limbsN_C (some ⟨ro, 0, none⟩) sz (fm o) T hW.form hfo.1 (by omega)) rfl rfl ?_
    rintro _ S4 ⟨k4, b4, d4, rfl, i4⟩
    refine ⟨fun _ => k4, ?_⟩
    rw [hnum_form, hwo, e1, e2] at i4 ⊢
    repeat first|refine W.g ?_|refine L.p rfl rfl ?_|refine L.nil ?_|refine L.skip rfl ?_
    exact ⟨.inr rfl, _, rfl, (((k1.trans k2).trans hkT).trans k4), b4, d4, rfl, i4⟩
end Go.Proofs.YtbdnkneedengcaaGreatDoor

/- The reference's digits. Conditions: none. -/
set_option linter.unusedSimpArgs false
set_option linter.unusedVariables false
set_option maxRecDepth 100000
set_option maxHeartbeats 4000000
set_option exponentiation.threshold 20000
namespace Go.Proofs.YtbdnkneedengcaaGreatDoor
open Go Ie
variable {G : Nat} {Ext : FuncId → List Value → Mem → Outc → Mem → Prop}
theorem orHi {r x : Nat} (hr : r < 4294967296) (hx : x < 4294967296) : IntKind.u64.wrap ((BitVec.ofInt IntKind.u64.bits (IntKind.u64.wrap ((r : Int) * 2 ^ min (Int.toNat 32) IntKind.u64.bits)) ||| BitVec.ofInt IntKind.u64.bits (x : Int)).toNat : Int) = ((r * 4294967296 + x : Nat) : Int) := by
  rw [show min (Int.toNat 32) IntKind.u64.bits = 32 from rfl, shl_nat]
  rw [Nat.mod_eq_of_lt (by omega), or_nat (by omega) (by omega)]
  congr 1
  have := Nat.two_pow_add_eq_or_of_lt (i := 32) (b := x) (by omega) r
  rw [Nat.mul_comm r, show (2 : Nat) ^ 32 = 4294967296 from rfl] at *
  exact this.symm
/-- a half digit more of a division by 10^9 -/
theorem nine_step {h q : WL} {i r : Nat} {x y : BitVec 64} (hx : h[i]? = some x) (hy : y.toNat = (r * 4294967296 + x.toNat) / 1000000000) (e : hnum (h.drop (i + 1)) = 1000000000 * hnum q.reverse + r) :
    hnum (h.drop i) = 1000000000 * hnum (q ++ [y]).reverse + (r * 4294967296 + x.toNat) % 1000000000 := by
  have hlt := (List.getElem?_eq_some_iff.1 hx).1
  have hd : h.drop i = x :: h.drop (i + 1) := by
    rw [List.drop_eq_getElem_cons hlt, (List.getElem?_eq_some_iff.1 hx).2]
  rw [hd, List.reverse_append, List.reverse_singleton, List.singleton_append, hnum, hnum, e, hy]
  have := Nat.div_add_mod (r * 4294967296 + x.toNat) 1000000000
  omega
/-- digits from the end, nine at a time -/
def DigI (N M : Nat) (d : BL) : Prop := dec N = (if M = 0 then [] else dec M) ++ d
def partD (M : Nat) : BL := if M < 1000000000 then dec M else pad 9 M
theorem DigI.step {N M : Nat} {d : BL} (h : DigI N M d) (hM : 0 < M) : DigI N (M / 1000000000) (partD M ++ d) := by
  unfold DigI at h ⊢
  rw [if_neg (by omega)] at h
  rw [h, ← List.append_assoc]
  congr 1
  unfold partD
  by_cases hl : M < 1000000000
  · rw [if_pos hl, if_pos (by omega), List.nil_append]
  · rw [if_neg hl, if_neg (by omega)]
    exact dec_split (k := 9) (n := M) (by omega)
/-- the part's digits, counted -/
theorem part_end {M i : Nat} (hM : 0 < M) (hi : i ≤ 9) (hp : i = 0 ∨ 0 < M / 1000000000 ∨ 10 ^ (i - 1) ≤ M % 1000000000) (he : i = 9 ∨ (M / 1000000000 = 0 ∧ M % 1000000000 / 10 ^ i = 0)) : pad i (M % 1000000000) = partD M := by
  unfold partD
  by_cases hl : M < 1000000000
  · rw [if_pos hl]
    have hm : M % 1000000000 = M := Nat.mod_eq_of_lt hl
    have h0 : M / 1000000000 = 0 := Nat.div_eq_of_lt hl
    rw [hm] at hp he ⊢
    have hi0 : i ≠ 0 := by
      intro e
      rcases he with he | ⟨_, he⟩
      · omega
      · rw [e, Nat.pow_zero, Nat.div_one] at he; omega
    obtain ⟨k, rfl⟩ : ∃ k, i = k + 1 := ⟨i - 1, by omega⟩
    refine (dec_pad ?_ ?_).symm
    · rcases he with he | ⟨_, he⟩
      · rw [he]; exact hl
      · exact (Nat.div_eq_zero_iff_lt (Nat.pow_pos (by decide))).1 he
    · rcases hp with hp | hp | hp
      · omega
      · omega
      · exact .inr hp
  · rw [if_neg hl]
    have h0 : M / 1000000000 ≠ 0 := by omega
    have h9 : i = 9 := by
      rcases he with he | ⟨he, _⟩
      · exact he
      · exact absurd he h0
    subst h9
    exact pad_mod 9 M
theorem digW (n : Nat) : IntKind.u8.wrap (IntKind.u64.wrap (48 + ((n % 10 : Nat) : Int))) = ((48 + n % 10 : Nat) : Int) := by
  have h : ∀ n : Fin 10, IntKind.u8.wrap (IntKind.u64.wrap (48 + (n.val : Int))) = ((48 + n.val : Nat) : Int) := by decide +kernel
  exact h ⟨n % 10, Nat.mod_lt _ (by decide)⟩
theorem dec_size {n b : Nat} (h : n < 2 ^ b) : (dec n).length ≤ b + 1 := by
  obtain ⟨k, k1, k2, k3, k4⟩ := dec_of_len (n := n)
  rw [k1]
  rcases k3 with rfl | k3
  · omega
  · have h1 : 2 ^ k ≤ 10 ^ k := Nat.pow_le_pow_left (by decide) k
    have h2 : k < b := (Nat.pow_lt_pow_iff_right (by decide)).1 (Nat.lt_of_le_of_lt (Nat.le_trans h1 k3) h)
    omega
theorem refDigits_C (a : Option Addr) (c : Nat) (l : WL) (S : Mem) (hI : WIn S a c l) (hlen : l.length < 400000) :
    C Tryz.prog G Ext 84 [.slice a l.length c] S fun v S' => v = .string (strB (dec (wnum l))) ∧ Cons S S' := by
  refine C.fn Tryz.func84 rfl (by kernel_rfl) rfl ?_
  repeat first|refine W.g ?_|refine L.p rfl rfl ?_|refine L.nil ?_|refine L.skip rfl ?_
  refine L.cl (halvesN_C a c l S hI (by omega)) rfl rfl ?_
  rintro _ S1 ⟨f, ⟨k1, a1, c1, rfl, i1⟩, o1, e1, q1⟩
  refine ⟨fun _ => k1, ?_⟩
  repeat first|refine W.g ?_|refine L.p rfl rfl ?_|refine L.nil ?_|refine L.skip rfl ?_
  repeat first|refine W.g ?_|refine L.p rfl rfl ?_|refine L.nil ?_|refine L.skip rfl ?_
  refine W.ite rfl (fun h => ?_) (fun h => ?_)
  · have h0 : f = [] := List.length_eq_zero_iff.1 (by have := of_decide_eq_true h; omega)
    subst h0
    clear h
    have hN : wnum l = 0 := e1.symm
    have hz : (⟨#[48]⟩ : ByteArray) = strB (dec 0) := by rw [dec_small (by decide)]; rfl
    rw [hN, ← hz]
    repeat first|refine W.g ?_|refine L.p rfl rfl ?_|refine L.nil ?_|refine L.skip rfl ?_
    exact ⟨.inr rfl, _, rfl, rfl, k1⟩
  have hf0 : f ≠ [] := by
    rintro rfl
    cases h
  clear h
  have hfp : 0 < hnum f := half_pos o1 (List.length_pos_iff.2 hf0)
  have hI0 : DigI (wnum l) (hnum f) [] := by
    unfold DigI
    rw [if_neg (by omega), e1, List.append_nil]
  repeat first|refine W.g ?_|refine L.p rfl rfl ?_|refine L.nil ?_|refine L.skip rfl ?_
  refine W.loop (fun j e T => ∃ (g : WL) (ag : Option Addr) (cg : Nat) (d : BL), j = hnum g ∧ g.length < 1000000 ∧ Cons S T ∧ e 3 = .slice ag g.length cg ∧ e 4 = .string (strB d) ∧ WIn T ag cg g ∧ HalfOk g ∧ DigI (wnum l) (hnum g) d) (hnum f)
    ⟨f, a1, c1, [], rfl, by omega, k1, rfl, rfl, i1, o1, hI0⟩ ?_
  rintro j e T ⟨g, ag, cg, d, rfl, hgl, hc, e3, e4, hg, og, hd⟩
  refine W.env2 e3 e4 ?_
  repeat first|refine W.g ?_|refine L.p rfl rfl ?_|refine L.nil ?_|refine L.skip rfl ?_
  refine W.ite rfl (fun h => ?_) (fun h => ?_)
  · have hlp : 0 < g.length := by have := of_decide_eq_true h; omega
    clear h
    have hgp := half_pos og hlp
    repeat first|refine W.g ?_|refine L.p rfl rfl ?_|refine L.nil ?_|refine L.skip rfl ?_
    refine W.loop (fun i e T' => ∃ (q : WL) (a6 : Option Addr) (c6 r : Nat), i ≤ g.length ∧ Cons T T' ∧ e 3 = .slice ag g.length cg ∧ e 4 = .string (strB d) ∧ e 5 = .int .u64 (r : Int) ∧ e 6 = .slice a6 q.length c6 ∧ e 7 = .int .i64 ((i : Int) - 1) ∧ Grow T.length T' 55 1 (.slice a6 q.length c6) q.length (wv q) ∧ q.length = g.length - i ∧ Small32 q ∧ r < 1000000000 ∧ hnum (g.drop i) = 1000000000 * hnum q.reverse + r) g.length
      ⟨[], none, 0, 0, Nat.le_refl _, Cons.refl _, rfl, rfl, rfl, rfl, congrArg (Value.int .i64) (wrap64 (by omega) (by omega)), Grow.nil _ _ _ _, by simp, (fun x hx => by simp at hx), by decide, by rw [List.drop_length]; rfl⟩ ?_
    rintro i e T' ⟨q, a6, c6, r, hi, hk, e3, e4, e5, e6, e7, hq, hql, hqs, hr, hv⟩
    refine W.env5 e3 e4 e5 e6 e7 ?_
    repeat first|refine W.g ?_|refine L.p rfl rfl ?_|refine L.nil ?_|refine L.skip rfl ?_
    refine W.ite rfl (fun h => ?_) (fun h => ?_)
    · have hi1 : 1 ≤ i := by have := of_decide_eq_true h; omega
      clear h
      obtain ⟨j, rfl⟩ : ∃ j, i = j + 1 := ⟨i - 1, by omega⟩
      have hm : (((j + 1 : Nat) : Int) - 1) = (j : Int) := by omega
      rw [hm]
      obtain ⟨x, hx⟩ : ∃ x, g[j]? = some x := ⟨_, List.getElem?_eq_getElem (by omega)⟩
      have hxl := small32_get og.1 hx
      obtain ⟨y, hy⟩ := word_of (n := (r * 4294967296 + x.toNat) / 1000000000) (by omega)
      have hst := nine_step hx hy hv
      repeat first|refine W.g ?_|refine L.p rfl rfl ?_|refine L.nil ?_|refine L.skip rfl ?_
      refine L.el (hg.cons hk).1 (k := j) rfl (wv_get hx) rfl rfl rfl rfl (fun _ => rfl) rfl (fun p => ?_)
      repeat first|refine W.g ?_|refine L.p rfl rfl ?_|refine L.nil ?_|refine L.skip rfl ?_
      rw [orHi (by omega) hxl]
      repeat first|refine W.g ?_|refine L.p rfl rfl ?_|refine L.nil ?_|refine L.skip rfl ?_
      have hwq : IntKind.u64.wrap (Int.tdiv ((r * 4294967296 + x.toNat : Nat) : Int) 1000000000) = ((y.toNat : Nat) : Int) := by
        rw [show Int.tdiv ((r * 4294967296 + x.toNat : Nat) : Int) 1000000000 = (((r * 4294967296 + x.toNat) / 1000000000 : Nat) : Int) from (Int.ofNat_tdiv _ 1000000000).symm, ← hy, wrapU64 (by omega) (by have := y.isLt; omega)]
      have hyl : y.toNat < 4294967296 := by rw [hy]; omega
      rw [hwq]
      refine L.push1 (w := v64 y) rfl hk.len (.inl hq) rfl rfl rfl rfl rfl (by omega) rfl (fun _ => rfl) (fun p a7 c7 T2 h2 h3 h4 => ?_)
      repeat first|refine W.g ?_|refine L.p rfl rfl ?_|refine L.nil ?_|refine L.skip rfl ?_
      refine ⟨j, by omega, q ++ [y], a7, c7, (r * 4294967296 + x.toNat) % 1000000000, by omega, hk.trans' h4, rfl, rfl, ?_, by rw [List.length_append]; rfl, congrArg (Value.int .i64) (wrap64 (by omega) (by omega)), by rw [List.length_append, wv, List.map_append]; exact h2, by rw [List.length_append, hql]; show _ + 1 = _; omega, small32_snoc hqs hyl, Nat.mod_lt _ (by decide), hst⟩
      refine (force_eq rfl).trans (congrArg (Value.int .u64) ?_)
      exact (Int.ofNat_tmod _ 1000000000).symm
    · have hi0 : i = 0 := by have := of_decide_eq_false h; omega
      subst hi0
      clear h
      rw [List.drop_zero] at hv
      have hwq : WIn T' a6 c6 q := grow_win hq (by omega)
      have hM1 : hnum g / 1000000000 = hnum q.reverse := by omega
      have hM2 : hnum g % 1000000000 = r := by omega
      repeat first|refine W.g ?_|refine L.p rfl rfl ?_|refine L.nil ?_|refine L.skip rfl ?_
      refine W.loop (fun i e T2 => ∃ (a9 : Option Addr) (c9 : Nat), i ≤ q.length ∧ Cons T' T2 ∧ e 4 = .string (strB d) ∧ e 5 = .int .u64 (r : Int) ∧ e 6 = .slice a6 q.length c6 ∧ e 9 = .slice a9 (q.length - i) c9 ∧ e 10 = .int .i64 ((i : Int) - 1) ∧ Grow T'.length T2 55 1 (.slice a9 (q.length - i) c9) (q.length - i) (wv (q.reverse.take (q.length - i)))) q.length
        ⟨none, 0, Nat.le_refl _, Cons.refl _, rfl, rfl, rfl, by rw [Nat.sub_self]; rfl, congrArg (Value.int .i64) (wrap64 (by omega) (by omega)), by rw [Nat.sub_self]; exact Grow.nil _ _ _ _⟩ ?_
      rintro i e T2 ⟨a9, c9, hi, hk2, e4, e5, e6, e9, e10, hg9⟩
      refine W.env5 e4 e5 e6 e9 e10 ?_
      repeat first|refine W.g ?_|refine L.p rfl rfl ?_|refine L.nil ?_|refine L.skip rfl ?_
      refine W.ite rfl (fun h => ?_) (fun h => ?_)
      · have hi1 : 1 ≤ i := by have := of_decide_eq_true h; omega
        clear h
        obtain ⟨j, rfl⟩ : ∃ j, i = j + 1 := ⟨i - 1, by omega⟩
        have hm : (((j + 1 : Nat) : Int) - 1) = (j : Int) := by omega
        rw [hm]
        obtain ⟨x, hx⟩ : ∃ x, q[j]? = some x := ⟨_, List.getElem?_eq_getElem (by omega)⟩
        have hxr : q.reverse[q.length - (j + 1)]? = some x := by
          rw [List.getElem?_reverse (by omega), ← hx]
          congr 1
          omega
        repeat first|refine W.g ?_|refine L.p rfl rfl ?_|refine L.nil ?_|refine L.skip rfl ?_
        refine L.el (hwq.cons hk2).1 (k := j) rfl (wv_get hx) rfl rfl rfl rfl (fun _ => rfl) rfl (fun p => ?_)
        repeat first|refine W.g ?_|refine L.p rfl rfl ?_|refine L.nil ?_|refine L.skip rfl ?_
        refine L.push1 (w := v64 x) rfl hk2.len (.inl hg9) rfl rfl rfl rfl rfl (by omega) rfl (fun _ => rfl) (fun p a7 c7 T3 h2 h3 h4 => ?_)
        repeat first|refine W.g ?_|refine L.p rfl rfl ?_|refine L.nil ?_|refine L.skip rfl ?_
        have hs : q.length - j = q.length - (j + 1) + 1 := by omega
        refine ⟨j, by omega, a7, c7, by omega, hk2.trans' h4, rfl, rfl, rfl, by rw [hs]; rfl, congrArg (Value.int .i64) (wrap64 (by omega) (by omega)), ?_⟩
        rw [hs, List.take_add_one, hxr, wv, List.map_append]
        exact h2
      · have hi0 : i = 0 := by have := of_decide_eq_false h; omega
        subst hi0
        clear h
        rw [Nat.sub_zero, List.take_of_length_le (by rw [List.length_reverse]; exact Nat.le_refl _)] at hg9
        rw [Nat.sub_zero]
        have hW : WIn T2 a9 c9 q.reverse := grow_win (by rw [List.length_reverse]; exact hg9) (by rw [List.length_reverse]; omega)
        repeat first|refine W.g ?_|refine L.p rfl rfl ?_|refine L.nil ?_|refine L.skip rfl ?_
        refine L.cl (strip_C a9 c9 q.reverse T2 hW) rfl (by rw [List.length_reverse]; rfl) ?_
        rintro _ _ ⟨rfl, rfl⟩
        refine ⟨nofun, ?_⟩
        repeat first|refine W.g ?_|refine L.p rfl rfl ?_|refine L.nil ?_|refine L.skip rfl ?_
        rename Mem => T2
        have hF : WIn T2 a9 c9 (fm q.reverse) := hW.form
        have hFok : HalfOk (fm q.reverse) := HalfOk.form (fun x hx => hqs x (List.mem_reverse.1 hx))
        have hFn : hnum (fm q.reverse) = hnum g / 1000000000 := by rw [hnum_form]; exact hM1.symm
        have hFl : (fm q.reverse).length ≤ g.length := by
          have := toW_len_le q.reverse
          rw [List.length_reverse] at this
          exact Nat.le_trans this (by omega)
        have hF0 : (fm q.reverse).length = 0 ↔ hnum g / 1000000000 = 0 := by
          rw [← hFn]
          constructor
          · intro e; rw [List.length_eq_zero_iff.1 e]; rfl
          · intro e; rw [half_zero hFok e]; rfl
        generalize fm q.reverse = F at *
        clear hW hg9 hv hq hwq hqs hql e9 e10 hi e6
        refine W.loop (fun j e T3 => ∃ i : Nat, j = 9 - i ∧ i ≤ 9 ∧ Cons T2 T3 ∧ e 3 = .slice a9 F.length c9 ∧ e 4 = .string (strB d) ∧ e 5 = .int .u64 ((r / 10 ^ i : Nat) : Int) ∧ e 11 = .string (strB (pad i r)) ∧ e 12 = vi i ∧ (i = 0 ∨ 0 < hnum g / 1000000000 ∨ 10 ^ (i - 1) ≤ r)) 9
          ⟨0, rfl, by decide, Cons.refl _, rfl, rfl, by rw [Nat.pow_zero, Nat.div_one]; rfl, rfl, rfl, .inl rfl⟩ ?_
        rintro j e T3 ⟨i, rfl, hi, hk3, e3, e4, e5, e11, e12, hp⟩
        refine W.env5 e3 e4 e5 e11 e12 ?_
        refine W.seq ?_
        refine W.seq ?_
        refine W.mono (R := fun x' e' T' => x' = .nrm ∧ T' = T3 ∧ e' 3 = .slice a9 F.length c9 ∧ e' 4 = .string (strB d) ∧ e' 5 = .int .u64 ((r / 10 ^ i : Nat) : Int) ∧ e' 11 = .string (strB (pad i r)) ∧ e' 12 = vi i ∧ e' 68 = .bool (decide (i < 9 ∧ (0 < F.length ∨ 0 < r / 10 ^ i)))) ?_ ?_
        · have hc9 : decide ((i : Int) < 9) = decide (i < 9) := decide_eq_decide.2 (by omega)
          have hcF : decide ((F.length : Int) > 0) = decide (0 < F.length) := decide_eq_decide.2 (by omega)
          have hcr : decide (((r / 10 ^ i : Nat) : Int) > 0) = decide (0 < r / 10 ^ i) := decide_eq_decide.2 (by omega)
          repeat first|refine W.g ?_|refine L.p rfl rfl ?_|refine L.nil ?_|refine L.skip rfl ?_
          rw [hc9]
          by_cases q1 : i < 9
          · rw [decide_eq_true q1]
            repeat first|refine W.g ?_|refine L.p rfl rfl ?_|refine L.nil ?_|refine L.skip rfl ?_
            rw [hcF]
            by_cases q2 : 0 < F.length
            · rw [decide_eq_true q2]
              repeat first|refine W.g ?_|refine L.p rfl rfl ?_|refine L.nil ?_|refine L.skip rfl ?_
              exact ⟨rfl, rfl, rfl, rfl, rfl, rfl, rfl, congrArg Value.bool (decide_eq_true ⟨q1, .inl q2⟩).symm⟩
            · rw [decide_eq_false q2]
              repeat first|refine W.g ?_|refine L.p rfl rfl ?_|refine L.nil ?_|refine L.skip rfl ?_
              rw [hcr]
              by_cases q3 : 0 < r / 10 ^ i
              · rw [decide_eq_true q3]
                repeat first|refine W.g ?_|refine L.p rfl rfl ?_|refine L.nil ?_|refine L.skip rfl ?_
                exact ⟨rfl, rfl, rfl, rfl, rfl, rfl, rfl, congrArg Value.bool (decide_eq_true ⟨q1, .inr q3⟩).symm⟩
              · rw [decide_eq_false q3]
                repeat first|refine W.g ?_|refine L.p rfl rfl ?_|refine L.nil ?_|refine L.skip rfl ?_
                exact ⟨rfl, rfl, rfl, rfl, rfl, rfl, rfl, congrArg Value.bool (decide_eq_false (fun h => h.2.elim q2 q3)).symm⟩
          · rw [decide_eq_false q1]
            repeat first|refine W.g ?_|refine L.p rfl rfl ?_|refine L.nil ?_|refine L.skip rfl ?_
            exact ⟨rfl, rfl, rfl, rfl, rfl, rfl, rfl, congrArg Value.bool (decide_eq_false (fun h => q1 h.1)).symm⟩
        · rintro _ e' T' ⟨rfl, rfl, e3, e4, e5, e11, e12, e68⟩
          refine W.env6 e3 e4 e5 e11 e12 e68 ?_
          repeat first|refine W.g ?_|refine L.p rfl rfl ?_|refine L.nil ?_|refine L.skip rfl ?_
          refine W.ite rfl (fun h => ?_) (fun h => ?_)
          · have hc1 := of_decide_eq_true h
            clear h
            repeat first|refine W.g ?_|refine L.p rfl rfl ?_|refine L.nil ?_|refine L.skip rfl ?_
            have hdg : Value.int IntKind.u8 (IntKind.u8.wrap (IntKind.u64.wrap (48 + Int.tmod ((r / 10 ^ i : Nat) : Int) 10))) = v8 (digB (r / 10 ^ i)) := by
              rw [show Int.tmod ((r / 10 ^ i : Nat) : Int) 10 = ((r / 10 ^ i % 10 : Nat) : Int) from (Int.ofNat_tmod _ 10).symm]
              unfold v8
              rw [digB_val, digW]
            rw [hdg]
            refine L.bs [v8 (digB (r / 10 ^ i))] rfl rfl rfl rfl rfl rfl ?_
            have hkp : Cons T' (T' ++ [newR [v8 (digB (r / 10 ^ i))] 5]) := Cons.push _ _
            have hrp : Mem.row? (T' ++ [newR [v8 (digB (r / 10 ^ i))] 5]) T'.length = some (newR [v8 (digB (r / 10 ^ i))] 5) := row_push_new rfl
            generalize T' ++ [newR [v8 (digB (r / 10 ^ i))] 5] = T5 at *
            repeat first|refine W.g ?_|refine L.p rfl rfl ?_|refine L.nil ?_|refine L.skip rfl ?_
            refine L.text (h := ⟨some T'.length, 1, 1⟩) (l := [digB (r / 10 ^ i)]) (el2 := 5) rfl (HdOk.full hrp rfl rfl rfl (by decide)) rfl rfl rfl rfl ?_
            repeat first|refine W.g ?_|refine L.p rfl rfl ?_|refine L.nil ?_|refine L.skip rfl ?_
            refine L.tadd rfl rfl (by rw [pad_len]; simp; omega) rfl ?_
            repeat first|refine W.g ?_|refine L.p rfl rfl ?_|refine L.nil ?_|refine L.skip rfl ?_
            refine ⟨9 - (i + 1), by omega, i + 1, rfl, by omega, hk3.trans hkp, rfl, rfl, ?_, ?_, congrArg (Value.int .i64) (wrap64 (by omega) (by omega)), ?_⟩
            · refine (force_eq rfl).trans (congrArg (Value.int .u64) ?_)
              rw [Nat.pow_succ, ← Nat.div_div_eq_div_mul]
              have hle : r / 10 ^ i / 10 ≤ r := Nat.le_trans (Nat.div_le_self _ _) (Nat.div_le_self _ _)
              show IntKind.u64.wrap (Int.tdiv ((r / 10 ^ i : Nat) : Int) 10) = _
              rw [show Int.tdiv ((r / 10 ^ i : Nat) : Int) 10 = ((r / 10 ^ i / 10 : Nat) : Int) from (Int.ofNat_tdiv (r / 10 ^ i) 10).symm]
              generalize r / 10 ^ i / 10 = z at *
              rw [wrapU64 (by omega) (by omega)]
            · rw [Nat.add_comm i 1, pad_add 1 i r]; rfl
            · refine .inr ?_
              rcases hc1.2 with h1 | h1
              · exact .inl (Nat.pos_of_ne_zero fun e => by have := hF0.2 e; omega)
              · refine .inr ?_
                rw [Nat.add_sub_cancel]
                exact (Nat.div_pos_iff.1 h1).2
          · have hc1 := of_decide_eq_false h
            clear h
            have hfin : pad i r = partD (hnum g) := by
              have := part_end (M := hnum g) (i := i) hgp hi (by rw [hM2]; exact hp) (by
                rw [hM2]
                rcases Nat.lt_or_ge i 9 with h1 | h1
                · refine .inr ⟨hF0.1 (Nat.eq_zero_of_not_pos fun h2 => hc1 ⟨h1, .inl h2⟩), Nat.eq_zero_of_not_pos fun h2 => hc1 ⟨h1, .inr h2⟩⟩
                · exact .inl (by omega))
              rwa [hM2] at this
            have hlen2 : (pad i r).length + d.length < 1000000000 := by
              have h1 := dec_size (wnum_lt l)
              have h2 := congrArg List.length hd
              rw [List.length_append] at h2
              rw [pad_len]
              omega
            repeat first|refine W.g ?_|refine L.p rfl rfl ?_|refine L.nil ?_|refine L.skip rfl ?_
            refine L.tadd rfl rfl hlen2 rfl ?_
            repeat first|refine W.g ?_|refine L.p rfl rfl ?_|refine L.nil ?_|refine L.skip rfl ?_
            have hMlt : hnum g / 1000000000 < hnum g := Nat.div_lt_self hgp (by decide)
            refine ⟨hnum F, by rw [hFn]; exact hMlt, F, a9, c9, pad i r ++ d, rfl, by omega, ?_, rfl, rfl, hF.cons hk3, hFok, ?_⟩
            · exact ((hc.trans hk).trans hk2).trans hk3
            · rw [hFn, hfin]
              exact hd.step hgp
  · have hl0 : g = [] := List.length_eq_zero_iff.1 (by have := of_decide_eq_false h; omega)
    subst hl0
    clear h
    have hdd : dec (wnum l) = d := by
      unfold DigI at hd
      rw [if_pos (show hnum [] = 0 from rfl), List.nil_append] at hd
      exact hd
    rw [hdd]
    repeat first|refine W.g ?_|refine L.p rfl rfl ?_|refine L.nil ?_|refine L.skip rfl ?_
    exact ⟨.inr rfl, _, rfl, rfl, hc⟩
end Go.Proofs.YtbdnkneedengcaaGreatDoor

/- The document's quotient: walked. Conditions: none. -/
set_option linter.unusedSimpArgs false
set_option linter.unusedVariables false
set_option maxRecDepth 100000
set_option maxHeartbeats 4000000
namespace Go.Proofs.YtbdnkneedengcaaGreatDoor
open Go
variable {G : Nat} {Ext : FuncId → List Value → Mem → Outc → Mem → Prop}
theorem surely_C (a1 a2 : Option Addr) (c1 c2 : Nat) (f g : WL) (S : Mem) (h1 : WIn S a1 c1 f) (h2 : WIn S a2 c2 g) (k1 : HalfOk f) (k2 : HalfOk g) (hg0 : 0 < hnum g) (hge : hnum g ≤ hnum f) (hlt : hnum f < hnum g * 4294967296) (n1 : f.length < 1000000) :
    C Tryz.prog G Ext 101 [.slice a1 f.length c1, .slice a2 g.length c2] S fun v S' => ∃ n : Nat, v = .int .u64 (n : Int) ∧ S' = S ∧ 1 ≤ n ∧ n < 4294967296 ∧ n * hnum g ≤ hnum f := by
  obtain ⟨m, hm⟩ : ∃ m, g.length = m + 1 := by
    cases hg : g with
    | nil => rw [hg] at hg0; exact absurd hg0 (by decide)
    | cons x t => exact ⟨t.length, rfl⟩
  have hlf := half_len k2 k1 hge
  have hlf2 : f.length ≤ m + 2 := by
    refine Classical.byContradiction fun hc => ?_
    have q1 := half_ge k1 (by omega)
    have q2 := hnum_lt k2.1
    have q3 : 2 ^ (32 * (m + 2)) ≤ 2 ^ (32 * (f.length - 1)) := Nat.pow_le_pow_right (by decide) (by omega)
    rw [hm] at q2
    rw [pow32_succ (m + 1)] at q3
    have := Nat.mul_lt_mul_of_pos_right q2 (show 0 < 4294967296 by decide)
    omega
  obtain ⟨x, hx⟩ : ∃ x, f[m]? = some x := ⟨_, List.getElem?_eq_getElem (by omega)⟩
  obtain ⟨t, ht⟩ : ∃ t, g[m]? = some t := ⟨_, List.getElem?_eq_getElem (by omega)⟩
  have hxl := small32_get k1.1 hx
  have htl := small32_get k2.1 ht
  have hgv := hnum_take_succ ht
  rw [List.take_of_length_le (by omega)] at hgv
  have hgl := hnum_lt (small32_take k2.1 m)
  rw [List.length_take, Nat.min_eq_left (by omega)] at hgl
  have hn1 : IntKind.i64.wrap (((m + 1 : Nat) : Int) - 1) = (m : Int) := by rw [wrap64 (by omega) (by omega)]; omega
  have hw1 : IntKind.u64.wrap ((t.toNat : Int) + 1) = ((t.toNat + 1 : Nat) : Int) := wrapU64 (by omega) (by omega)
  have fin : ∀ top : Nat, hnum f = hnum (f.take m) + 2 ^ (32 * m) * top → 1 ≤ max 1 (top / (t.toNat + 1)) ∧ max 1 (top / (t.toNat + 1)) < 4294967296 ∧ max 1 (top / (t.toNat + 1)) * hnum g ≤ hnum f := fun top h => by
    have q1 := sure_le h hgv hgl
    have q2 : max 1 (top / (t.toNat + 1)) * hnum g ≤ hnum f := by
      rcases Nat.le_total (top / (t.toNat + 1)) 1 with q | q
      · rw [Nat.max_eq_left q, Nat.one_mul]; exact hge
      · rw [Nat.max_eq_right q]; exact q1
    refine ⟨Nat.le_max_left _ _, ?_, q2⟩
    refine Nat.lt_of_mul_lt_mul_right (a := hnum g) (Nat.lt_of_le_of_lt q2 ?_)
    rw [Nat.mul_comm 4294967296]; exact hlt
  have hgle : Value.slice a2 g.length c2 = .slice a2 (m + 1) c2 := by rw [hm]
  refine C.fn Tryz.func101 rfl (by kernel_rfl) rfl ?_
  rw [hgle]
  have h2' : Slv S 1 (.slice a2 (m + 1) c2) (m + 1) (wv g) := by have := h2.1; rwa [hm] at this
  repeat first|refine W.g ?_|refine L.p rfl rfl ?_|refine L.nil ?_|refine L.skip rfl ?_
  refine L.el h1.1 (k := m) hn1 (wv_get hx) rfl rfl rfl rfl (fun _ => rfl) rfl (fun p => ?_)
  repeat first|refine W.g ?_|refine L.p rfl rfl ?_|refine L.nil ?_|refine L.skip rfl ?_
  refine W.ite rfl (fun h => ?_) (fun h => ?_)
  · have hlf3 : f.length = m + 2 := by have := of_decide_eq_true h; omega
    clear h
    obtain ⟨z, hz⟩ : ∃ z, f[m + 1]? = some z := ⟨_, List.getElem?_eq_getElem (by omega)⟩
    have hzl := small32_get k1.1 hz
    have hfv := hnum_take_succ hz
    rw [List.take_of_length_le (by omega), hnum_take_succ hx, pow32_succ] at hfv
    have hw2 : IntKind.u64.wrap ((BitVec.ofInt IntKind.u64.bits (x.toNat : Int) ||| BitVec.ofInt IntKind.u64.bits (IntKind.u64.wrap ((z.toNat : Int) * 2 ^ min (Int.toNat 32) IntKind.u64.bits))).toNat : Int) = ((z.toNat * 4294967296 + x.toNat : Nat) : Int) := by
      rw [show IntKind.u64.wrap ((z.toNat : Int) * 2 ^ min (Int.toNat 32) IntKind.u64.bits) = ((z.toNat * 2 ^ 32 % 18446744073709551616 : Nat) : Int) from shl_nat z.toNat 32, or_nat x.isLt (Nat.mod_lt _ (by decide))]
      have e : (2 : Nat) ^ 32 = 4294967296 := by decide
      rw [Nat.mod_eq_of_lt (by rw [e]; omega), Nat.or_comm, Nat.mul_comm z.toNat, ← Nat.two_pow_add_eq_or_of_lt (by rw [e]; exact hxl), e]
    repeat first|refine W.g ?_|refine L.p rfl rfl ?_|refine L.nil ?_|refine L.skip rfl ?_
    refine L.el h1.1 (k := m + 1) rfl (wv_get hz) rfl rfl rfl rfl (fun _ => rfl) rfl (fun p => ?_)
    repeat first|refine W.g ?_|refine L.p rfl rfl ?_|refine L.nil ?_|refine L.skip rfl ?_
    rw [hw2]
    refine L.el h2' (k := m) hn1 (wv_get ht) rfl rfl rfl rfl (fun _ => rfl) rfl (fun p => ?_)
    repeat first|refine W.g ?_|refine L.p rfl rfl ?_|refine L.nil ?_|refine L.skip rfl ?_
    rw [hw1]
    refine L.quo rfl rfl (by omega) rfl ?_
    rw [nquo (by omega)]
    repeat first|refine W.g ?_|refine L.p rfl rfl ?_|refine L.nil ?_|refine L.skip rfl ?_
    refine L.max (c := ((max 1 ((z.toNat * 4294967296 + x.toNat) / (t.toNat + 1)) : Nat) : Int)) rfl rfl rfl ?_ ?_
    · generalize ((z.toNat * 4294967296 + x.toNat)) / (t.toNat + 1) = Q
      split <;> omega
    repeat first|refine W.g ?_|refine L.p rfl rfl ?_|refine L.nil ?_|refine L.skip rfl ?_
    refine ⟨.inr rfl, _, rfl, max 1 ((z.toNat * 4294967296 + x.toNat) / (t.toNat + 1)), rfl, rfl, fin (z.toNat * 4294967296 + x.toNat) ?_⟩
    · rw [hfv, Nat.mul_add, Nat.mul_comm z.toNat, ← Nat.mul_assoc]; omega
  · have hlf3 : f.length = m + 1 := by have := of_decide_eq_false h; omega
    clear h
    have hfv := hnum_take_succ hx
    rw [List.take_of_length_le (by omega)] at hfv
    repeat first|refine W.g ?_|refine L.p rfl rfl ?_|refine L.nil ?_|refine L.skip rfl ?_
    refine L.el h2' (k := m) hn1 (wv_get ht) rfl rfl rfl rfl (fun _ => rfl) rfl (fun p => ?_)
    repeat first|refine W.g ?_|refine L.p rfl rfl ?_|refine L.nil ?_|refine L.skip rfl ?_
    rw [hw1]
    refine L.quo rfl rfl (by omega) rfl ?_
    rw [nquo (by omega)]
    repeat first|refine W.g ?_|refine L.p rfl rfl ?_|refine L.nil ?_|refine L.skip rfl ?_
    refine L.max (c := ((max 1 (x.toNat / (t.toNat + 1)) : Nat) : Int)) rfl rfl rfl ?_ ?_
    · generalize (x.toNat) / (t.toNat + 1) = Q
      split <;> omega
    repeat first|refine W.g ?_|refine L.p rfl rfl ?_|refine L.nil ?_|refine L.skip rfl ?_
    refine ⟨.inr rfl, _, rfl, max 1 (x.toNat / (t.toNat + 1)), rfl, rfl, fin x.toNat ?_⟩
    · exact hfv
/-- what 'Over' hands out -/
def OverR (S S' : Mem) (v : Value) (A B : Nat) : Prop := ∃ (a1 a2 : Option Addr) (c1 c2 : Nat), v = .tuple #[.slice a1 (toW (A / B)).length c1, .slice a2 (toW (A % B)).length c2] ∧ Cons S S' ∧ WIn S' a1 c1 (toW (A / B)) ∧ WIn S' a2 c2 (toW (A % B))
theorem over_C (a1 a2 : Option Addr) (c1 c2 : Nat) (l1 l2 : WL) (S : Mem) (h1 : WIn S a1 c1 l1) (h2 : WIn S a2 c2 l2) (n1 : l1.length < 100000) (n2 : l2.length < 100000) (hpos : 0 < wnum l2) :
    C Tryz.prog G Ext 68 [.slice a1 l1.length c1, .slice a2 l2.length c2] S fun v S' => OverR S S' v (wnum l1) (wnum l2) := by
  refine C.fn Tryz.func68 rfl (by kernel_rfl) rfl ?_
  repeat first|refine W.g ?_|refine L.p rfl rfl ?_|refine L.nil ?_|refine L.skip rfl ?_
  refine L.cl (halvesN_C a1 c1 l1 S h1 (by omega)) rfl rfl ?_
  rintro _ S1 ⟨f, ⟨k1, b1, d1, rfl, i1⟩, o1, e1, q1⟩
  refine ⟨fun _ => k1, ?_⟩
  repeat first|refine W.g ?_|refine L.p rfl rfl ?_|refine L.nil ?_|refine L.skip rfl ?_
  refine L.cl (halvesN_C a2 c2 l2 S1 (h2.cons k1) (by omega)) rfl rfl ?_
  rintro _ S2 ⟨g, ⟨k2, b2, d2, rfl, i2⟩, o2, e2, q2⟩
  refine ⟨fun _ => k2, ?_⟩
  replace i1 := i1.cons k2
  have kA := k1.trans k2
  rw [← e2] at hpos
  rw [← e1, ← e2]
  clear e1 e2 h1 h2 k1 k2
  have hgl : 0 < g.length := by
    cases hg : g with
    | nil => rw [hg] at hpos; exact absurd hpos (by decide)
    | cons x t => exact Nat.succ_pos _
  obtain ⟨tp, htp⟩ : ∃ tp, tp = f.length + 1 - g.length := ⟨_, rfl⟩
  have htl : tp ≤ f.length := by omega
  repeat first|refine W.g ?_|refine L.p rfl rfl ?_|refine L.nil ?_|refine L.skip rfl ?_
  refine L.mk (n := f.length) (m := f.length) (bytes := 8) (zv := v64 0#64) rfl rfl rfl rfl rfl (Nat.le_refl _) (by omega) rfl rfl ?_
  have hrq : Mem.row? (S2 ++ [newR (List.replicate f.length (v64 0#64)) 55]) S2.length = some (newR (wv (List.replicate f.length 0#64)) 55) := by
    rw [row_push_new rfl]; simp [wv]
  have hk5 := Cons.push S2 (newR (List.replicate f.length (v64 0#64)) 55)
  generalize S2 ++ [newR (List.replicate f.length (v64 0#64)) 55] = S3 at *
  obtain ⟨rq, hrq0⟩ : ∃ rq, rq = S2.length := ⟨_, rfl⟩
  rw [← hrq0] at hrq ⊢
  have hrqS := row_lt hrq
  have hs0 : Small32 (List.replicate f.length 0#64) := fun x hx => by rw [List.eq_of_mem_replicate hx]; decide
  repeat first|refine W.g ?_|refine L.p rfl rfl ?_|refine L.nil ?_|refine L.skip rfl ?_
  refine L.max (c := (tp : Int)) rfl rfl rfl ?_ ?_
  · rw [wrap64 (x := (f.length : Int) - (g.length : Int)) (by omega) (by omega), wrap64 (by omega) (by omega)]
    split <;> omega
  repeat first|refine W.g ?_|refine L.p rfl rfl ?_|refine L.nil ?_|refine L.skip rfl ?_
  obtain ⟨a3, c3, p1, p2, p3, _⟩ := slv_part (lo := some (vi tp)) (hi := none) (k := tp) (h := f.length) (i1.cons hk5).1 (.inr ⟨.i64, rfl⟩) (.inl ⟨rfl, rfl⟩) htl (Nat.le_refl _) (Cut.of i1.2.1)
  rw [List.take_of_length_le (by rw [List.length_drop, wv_len]; omega)] at p2
  refine L.is (.slice a3 (f.length - tp) c3) ((slice_at0 rfl rfl rfl).trans p1) rfl ?_
  repeat first|refine W.g ?_|refine L.p rfl rfl ?_|refine L.nil ?_|refine L.skip rfl ?_
  refine L.app (N := S3.length) (n := 0) (bytes := 8) (l := []) rfl (Nat.le_refl _) (Grow.nil _ _ _ _) rfl rfl p2 (by rw [show (wv f).drop tp = wv (f.drop tp) by rw [wv, ← List.map_drop]; rfl]; exact wv_one _) (by omega) rfl rfl (fun a4 c4 S4 g1 g2 g3 => ?_)
  rw [Nat.zero_add, List.nil_append, show (wv f).drop tp = wv (f.drop tp) by rw [wv, ← List.map_drop]; rfl] at g1
  have hdl : (f.drop tp).length = f.length - tp := by rw [List.length_drop]
  have hW4 : WIn S4 a4 c4 (f.drop tp) := grow_win (by rw [hdl]; exact g1) (by omega)
  have hk6 : Cons S3 S4 := g3.cons
  have hnw := grow_new g1
  repeat first|refine W.g ?_|refine L.p rfl rfl ?_|refine L.nil ?_|refine L.skip rfl ?_
  refine L.cl (strip_C a4 c4 (f.drop tp) S4 hW4) rfl (by rw [hdl, Nat.zero_add]; rfl) ?_
  rintro _ _ ⟨rfl, rfl⟩
  refine ⟨fun _ => Cons.refl _, ?_⟩
  rename Mem => S4
  have hsd : Small32 (f.drop tp) := fun x hx => o1.1 x (List.mem_of_mem_drop hx)
  have hR0 : HalfOk (fm (f.drop tp)) := HalfOk.form hsd
  have hRn : hnum (fm (f.drop tp)) = hnum (f.drop tp) := hnum_form _
  have hRl : hnum (f.drop tp) < hnum g := by
    have q3 := hnum_lt hsd
    have q4 := half_ge o2 hgl
    have q5 : 2 ^ (32 * (f.drop tp).length) ≤ 2 ^ (32 * (g.length - 1)) := Nat.pow_le_pow_right (by decide) (by omega)
    omega
  have hsplit : hnum f = hnum (f.take tp) + 2 ^ (32 * tp) * hnum (f.drop tp) := by
    have := hnum_append (f.take tp) (f.drop tp)
    rw [List.take_append_drop, List.length_take, Nat.min_eq_left htl] at this
    exact this
  repeat first|refine W.g ?_|refine L.p rfl rfl ?_|refine L.nil ?_|refine L.skip rfl ?_
  refine W.loop (fun k e T => ∃ (q rest : WL) (ar : Option Addr) (cr : Nat), k ≤ tp ∧ Cons S2 T ∧ S3.length ≤ T.length ∧ e 6 = .slice b1 f.length d1 ∧ e 7 = .slice b2 g.length d2 ∧ e 8 = .slice (some ⟨rq, 0, none⟩) f.length f.length ∧ e 10 = .slice ar rest.length cr ∧ e 11 = .int .i64 ((k : Int) - 1) ∧ T.row? rq = some (newR (wv q) 55) ∧ q.length = f.length ∧ Small32 q ∧ WIn T ar cr rest ∧ (∀ x, ar = some x → S3.length ≤ x.block) ∧ HalfOk rest ∧ hnum rest < hnum g ∧
      hnum f = hnum q * hnum g + hnum rest * 2 ^ (32 * k) + hnum (f.take k) ∧ ∀ p, p < k → q[p]? = some 0#64) tp
    ⟨List.replicate f.length 0#64, fm (f.drop tp), a4, c4, Nat.le_refl _, hk5.trans hk6, hk6.len, rfl, rfl, rfl, rfl, congrArg (Value.int .i64) (wrap64 (by omega) (by omega)), hk6.row' hrq, by simp, hs0, hW4.form, hnw, hR0, by omega, by rw [hnum_zeros, hRn, Nat.mul_comm (hnum (f.drop tp))]; omega, fun p hp => by rw [List.getElem?_replicate, if_pos (by omega)]⟩ ?_
  clear hsplit hRl hRn hR0 hsd hnw hk6 hW4 g1 g2 g3 p1 p2 p3 hs0 hrq hk5 hdl
  rintro k e T ⟨q, rest, ar, cr, hk, kT, hTl, e6, e7, e8, e10, e11, hrq, hql, hsq, hrW, hnw, hrok, hrlt, hsum, hz⟩
  refine W.env5 e6 e7 e8 e10 e11 ?_
  repeat first|refine W.g ?_|refine L.p rfl rfl ?_|refine L.nil ?_|refine L.skip rfl ?_
  refine W.ite rfl (fun h => ?_) (fun h => ?_)
  · have hk1 : 1 ≤ k := by have := of_decide_eq_true h; omega
    clear h
    obtain ⟨j, rfl⟩ : ∃ j, k = j + 1 := ⟨k - 1, by omega⟩
    have hm : (((j + 1 : Nat) : Int) - 1) = (j : Int) := by omega
    rw [hm]
    obtain ⟨x, hx⟩ : ∃ x, f[j]? = some x := ⟨_, List.getElem?_eq_getElem (by omega)⟩
    have hxl := small32_get o1.1 hx
    have hrll := half_len hrok o2 (by omega)
    repeat first|refine W.g ?_|refine L.p rfl rfl ?_|refine L.nil ?_|refine L.skip rfl ?_
    refine L.el (i1.cons kT).1 (k := j) rfl (wv_get hx) rfl rfl rfl rfl (fun _ => rfl) rfl (fun p => ?_)
    repeat first|refine W.g ?_|refine L.p rfl rfl ?_|refine L.nil ?_|refine L.skip rfl ?_
    refine L.push1 (w := v64 x) (N := T.length) (n := 0) (l := []) rfl (Nat.le_refl _) (.inl (Grow.nil _ _ _ _)) rfl rfl rfl rfl rfl (by omega) rfl (fun _ => rfl) (fun p a5 c5 T1 g1 g2 g3 => ?_)
    have hkT1 : Cons T T1 := g3.cons
    repeat first|refine W.g ?_|refine L.p rfl rfl ?_|refine L.nil ?_|refine L.skip rfl ?_
    refine L.app (N := T.length) (n := 1) (bytes := 8) (l := [v64 x]) rfl g2 g1 rfl rfl (hrW.cons hkT1).1 (wv_one _) (by omega) rfl rfl (fun a6 c6 T2 g4 g5 g6 => ?_)
    have hkT2 : Cons T T2 := hkT1.trans' g6
    have hnl : (x :: rest).length = 1 + rest.length := by rw [List.length_cons]; omega
    have hW6 : WIn T2 a6 c6 (x :: rest) := grow_win (by rw [hnl]; exact g4) (by omega)
    have hnw6 := grow_new g4
    have hs6 : Small32 (x :: rest) := fun y hy => by
      rcases List.mem_cons.1 hy with rfl | hy
      · exact hxl
      · exact hrok.1 y hy
    repeat first|refine W.g ?_|refine L.p rfl rfl ?_|refine L.nil ?_|refine L.skip rfl ?_
    refine L.cl (strip_C a6 c6 (x :: rest) T2 hW6) rfl (by rw [hnl]; rfl) ?_
    rintro _ _ ⟨rfl, rfl⟩
    refine ⟨fun _ => Cons.refl _, ?_⟩
    rename Mem => T2
    have hcur : hnum (fm (x :: rest)) = x.toNat + 4294967296 * hnum rest := by rw [hnum_form]; rfl
    have hz0 := hz j (by omega)
    rw [hnum_take_succ hx, pow32_succ] at hsum
    repeat first|refine W.g ?_|refine L.p rfl rfl ?_|refine L.nil ?_|refine L.skip rfl ?_
    refine W.mono (R := fun x' e' T' => x' = .exit 2 ∧ ∃ (q rest : WL) (ar : Option Addr) (cr : Nat), Cons S2 T' ∧ S3.length ≤ T'.length ∧ e' 6 = .slice b1 f.length d1 ∧ e' 7 = .slice b2 g.length d2 ∧ e' 8 = .slice (some ⟨rq, 0, none⟩) f.length f.length ∧ e' 10 = .slice ar rest.length cr ∧ e' 11 = vi j ∧ T'.row? rq = some (newR (wv q) 55) ∧ q.length = f.length ∧ Small32 q ∧ WIn T' ar cr rest ∧ (∀ x, ar = some x → S3.length ≤ x.block) ∧ HalfOk rest ∧ hnum rest < hnum g ∧
        hnum f = hnum q * hnum g + hnum rest * 2 ^ (32 * j) + hnum (f.take j) ∧ ∀ p, p < j → q[p]? = some 0#64) ?_ ?_
    · refine W.loop (fun n e' T' => ∃ (q rest : WL) (w : BitVec 64) (ar : Option Addr) (cr : Nat), n = hnum rest ∧ Cons S2 T' ∧ S3.length ≤ T'.length ∧ e' 6 = .slice b1 f.length d1 ∧ e' 7 = .slice b2 g.length d2 ∧ e' 8 = .slice (some ⟨rq, 0, none⟩) f.length f.length ∧ e' 10 = .slice ar rest.length cr ∧ e' 11 = vi j ∧ T'.row? rq = some (newR (wv q) 55) ∧ q.length = f.length ∧ Small32 q ∧ q[j]? = some w ∧ w.toNat * hnum g + hnum rest < hnum g * 4294967296 ∧ WIn T' ar cr rest ∧ (∀ x, ar = some x → S3.length ≤ x.block) ∧ HalfOk rest ∧
          hnum f = hnum q * hnum g + hnum rest * 2 ^ (32 * j) + hnum (f.take j) ∧ ∀ p, p < j → q[p]? = some 0#64) (hnum (fm (x :: rest)))
        ⟨q, fm (x :: rest), 0#64, a6, c6, rfl, kT.trans hkT2, Nat.le_trans hTl hkT2.len, rfl, rfl, rfl, rfl, rfl, hkT2.row' hrq, hql, hsq, hz0, ?_, hW6.form, fun y hy => Nat.le_trans hTl (hnw6 y hy), HalfOk.form hs6, ?_, fun p hp => hz p (by omega)⟩ ?_
      · rw [hcur, show (0#64 : BitVec 64).toNat * hnum g = 0 from Nat.zero_mul _]
        omega
      · rw [hcur, hsum, Nat.add_mul, Nat.mul_comm 4294967296 (hnum rest), Nat.mul_assoc (hnum rest), Nat.mul_comm 4294967296 (2 ^ (32 * j)), Nat.mul_comm x.toNat]; omega
      clear hcur hsum hz0 hs6 hnw6 hW6 g1 g2 g3 g4 g5 g6 hkT1 hkT2 hz hrW hnw hrok hrlt hrll hsq hql hrq
      rintro n e' T' ⟨q, rest, w, ar, cr, rfl, kT, hTl, e6, e7, e8, e10, e11, hrq, hql, hsq, hw, hwb, hrW, hnw, hrok, hsum, hz⟩
      refine W.env5 e6 e7 e8 e10 e11 ?_
      have hwl := small32_get hsq hw
      repeat first|refine W.g ?_|refine L.p rfl rfl ?_|refine L.nil ?_|refine L.skip rfl ?_
      refine L.cl (compare_C ar b2 cr d2 rest g T' hrW (i2.cons kT) hrok o2) rfl rfl ?_
      rintro _ M ⟨rfl, hM⟩
      have hM := hM.symm
      subst hM
      refine ⟨fun _ => Cons.refl _, ?_⟩
      repeat first|refine W.g ?_|refine L.p rfl rfl ?_|refine L.nil ?_|refine L.skip rfl ?_
      refine W.ite rfl (fun h => ?_) (fun h => ?_)
      · have hge : hnum g ≤ hnum rest := by
          have h0 := of_decide_eq_true h
          unfold cmpI at h0
          split at h0 <;> omega
        clear h
        have hrl : hnum rest < hnum g * 4294967296 := by omega
        have hrlen : rest.length ≤ g.length + 1 := by
          refine Classical.byContradiction fun hc => ?_
          have q1 := half_ge hrok (by omega)
          have q2 := hnum_lt o2.1
          have q3 : 2 ^ (32 * (g.length + 1)) ≤ 2 ^ (32 * (rest.length - 1)) := Nat.pow_le_pow_right (by decide) (by omega)
          rw [pow32_succ] at q3
          have := Nat.mul_lt_mul_of_pos_right q2 (show 0 < 4294967296 by decide)
          omega
        repeat first|refine W.g ?_|refine L.p rfl rfl ?_|refine L.nil ?_|refine L.skip rfl ?_
        refine L.cl (surely_C ar b2 cr d2 rest g T' hrW (i2.cons kT) hrok o2 hpos hge hrl (by omega)) rfl rfl ?_
        rintro _ M2 ⟨n, rfl, hM2, hn1, hn2, hn3⟩
        have hM2 := hM2.symm
        subst hM2
        refine ⟨fun _ => Cons.refl _, ?_⟩
        repeat first|refine W.g ?_|refine L.p rfl rfl ?_|refine L.nil ?_|refine L.skip rfl ?_
        refine L.cl (little_C b2 d2 n g T' (i2.cons kT) o2.1 hn2 (by omega)) rfl rfl ?_
        rintro _ T3 ⟨y, ay, cy, kT3, rfl, iy, _, oy, ey⟩
        refine ⟨fun _ => kT3, ?_⟩
        repeat first|refine W.g ?_|refine L.p rfl rfl ?_|refine L.nil ?_|refine L.skip rfl ?_
        refine L.cl (minus_C ar ay cr cy rest y T3 (hrW.cons kT3) iy hrok oy (by rw [ey, Nat.mul_comm]; exact hn3) (by omega)) rfl rfl ?_
        rintro _ T4 ⟨r2, a7, c7, kT4, rfl, i7, n7, o7, e7'⟩
        refine ⟨fun _ => kT4, ?_⟩
        have kT34 := kT3.trans kT4
        have hrq4 := kT34.row' hrq
        have hsl : Slv T4 1 (.slice (some ⟨rq, 0, none⟩) f.length f.length) f.length (wv q) := Slv.all hrq4 rfl (by rw [wv_len, hql, Nat.mul_one])
        have hwn : w.toNat + n < 4294967296 := by
          have q1 : (w.toNat + n) * hnum g < 4294967296 * hnum g := by rw [Nat.add_mul, Nat.mul_comm 4294967296]; omega
          exact Nat.lt_of_mul_lt_mul_right q1
        obtain ⟨w2, hw2⟩ := word_of (n := w.toNat + n) (by omega)
        repeat first|refine W.g ?_|refine L.p rfl rfl ?_|refine L.nil ?_|refine L.skip rfl ?_
        refine L.el hsl (k := j) rfl (wv_get hw) rfl rfl rfl rfl (fun _ => rfl) rfl (fun p => ?_)
        repeat first|refine W.g ?_|refine L.p rfl rfl ?_|refine L.nil ?_|refine L.skip rfl ?_
        rw [uadd (a := w.toNat) (b := n) (by omega), ← hw2]
        refine L.elst hrq4 rfl (by show 0 + f.length ≤ (wv q).length; rw [wv_len, hql]; omega) (k := j) rfl (by omega) rfl rfl rfl rfl (fun _ => rfl) (fun _ => rfl) rfl rfl rfl (fun p => ?_)
        have hrq5 := row_set_w (k := j) (r := w2) hrq4
        have hk8 : Cons S2 (List.set T4 rq { newR (wv q) 55 with cells := (newR (wv q) 55).cells.set (0 + j) (v64 w2) }) := (kT.trans kT34).set rq _ (by omega)
        have i8 := i7.keepb (Keep.set rq T4 { newR (wv q) 55 with cells := (newR (wv q) 55).cells.set (0 + j) (v64 w2) }) (fun x hx => by have := n7 x hx; have := kT3.len; omega)
        have hl8 : S3.length ≤ (List.set T4 rq { newR (wv q) 55 with cells := (newR (wv q) 55).cells.set (0 + j) (v64 w2) }).length := by rw [List.length_set]; have := kT34.len; omega
        have hws := hnum_set (y := w2) hw
        generalize List.set T4 rq _ = T5 at *
        repeat first|refine W.g ?_|refine L.p rfl rfl ?_|refine L.nil ?_|refine L.skip rfl ?_
        have hcl : hnum r2 = hnum rest - n * hnum g := by rw [e7', ey, Nat.mul_comm n]
        have hpn : 0 < n * hnum g := Nat.mul_pos (by omega) hpos
        refine ⟨hnum r2, by omega, q.set j w2, r2, w2, a7, c7, rfl, hk8, hl8, rfl, rfl, rfl, rfl, rfl, hrq5, by simpa using hql, small32_set hsq (by omega), by rw [List.getElem?_set, if_pos rfl, if_pos (by omega)], ?_, i8, fun x hx => by have := n7 x hx; have := kT3.len; omega, o7, ?_, fun p hp => ?_⟩
        · rw [hw2, hcl, Nat.add_mul]; omega
        · rw [hw2] at hws
          have q1 : hnum (q.set j w2) = hnum q + n * 2 ^ (32 * j) := by rw [Nat.add_mul] at hws; omega
          have q2 : hnum rest * 2 ^ (32 * j) = hnum r2 * 2 ^ (32 * j) + n * hnum g * 2 ^ (32 * j) := by rw [← Nat.add_mul]; congr 1; omega
          rw [q1, Nat.add_mul, hsum, q2, Nat.mul_right_comm n]; omega
        · rw [List.getElem?_set, if_neg (by omega)]; exact hz p hp
      · have hlt : hnum rest < hnum g := by
          have h0 := of_decide_eq_false h
          refine Classical.byContradiction fun hc => h0 ?_
          unfold cmpI
          rw [if_neg (by omega)]
          split <;> omega
        clear h
        repeat first|refine W.g ?_|refine L.p rfl rfl ?_|refine L.nil ?_|refine L.skip rfl ?_
        exact ⟨rfl, q, rest, ar, cr, kT, hTl, rfl, rfl, rfl, rfl, rfl, hrq, hql, hsq, hrW, hnw, hrok, hlt, hsum, hz⟩
    clear hcur hsum hz0 hs6 hnw6 hW6 g1 g2 g3 g4 g5 g6 hkT1 hkT2 hz hrW hnw hrok hrlt hrll hsq hql hrq e6 e7 e8 e10 e11 hTl kT
    rintro _ e' T' ⟨rfl, q, rest, ar, cr, kT, hTl, e6, e7, e8, e10, e11, hrq, hql, hsq, hrW, hnw, hrok, hlt, hsum, hz⟩
    refine W.env5 e6 e7 e8 e10 e11 ?_
    repeat first|refine W.g ?_|refine L.p rfl rfl ?_|refine L.nil ?_|refine L.skip rfl ?_
    exact ⟨j, by omega, q, rest, ar, cr, by omega, kT, hTl, rfl, rfl, rfl, rfl, (force_eq rfl).trans (congrArg (Value.int .i64) (wrap64 (by omega) (by omega))), hrq, hql, hsq, hrW, hnw, hrok, hlt, hsum, hz⟩
  · have hk0 : k = 0 := by have := of_decide_eq_false h; omega
    subst hk0
    clear h
    rw [Nat.mul_zero, Nat.pow_zero, Nat.mul_one, List.take_zero, show hnum [] = 0 from rfl, Nat.add_zero] at hsum
    have hdv : hnum q = hnum f / hnum g ∧ hnum rest = hnum f % hnum g := by
      rw [hsum, Nat.mul_comm]
      refine ⟨?_, ?_⟩
      · rw [Nat.mul_add_div hpos, Nat.div_eq_of_lt hrlt, Nat.add_zero]
      · rw [Nat.mul_add_mod, Nat.mod_eq_of_lt hrlt]
    have hWq : WIn T (some ⟨rq, 0, none⟩) f.length q := (WOwn.row (N := 0) hrq hql (Nat.zero_le _) (by omega)).1
    have hfq : (fm q).length ≤ q.length := toW_len_le q
    have hrll := half_len hrok o2 (by omega)
    repeat first|refine W.g ?_|refine L.p rfl rfl ?_|refine L.nil ?_|refine L.skip rfl ?_
    refine L.cl (strip_C (some ⟨rq, 0, none⟩) f.length q T hWq) rfl (by rw [hql]; rfl) ?_
    rintro _ _ ⟨rfl, rfl⟩
    refine ⟨fun _ => Cons.refl _, ?_⟩
    rename Mem => T
    repeat first|refine W.g ?_|refine L.p rfl rfl ?_|refine L.nil ?_|refine L.skip rfl ?_
    refine L.cl (limbsN_C (some ⟨rq, 0, none⟩) f.length (fm q) T hWq.form (small32_form hsq) (by omega)) rfl rfl ?_
    rintro _ T1 ⟨k4, b4, d4, rfl, i4⟩
    refine ⟨fun _ => k4, ?_⟩
    repeat first|refine W.g ?_|refine L.p rfl rfl ?_|refine L.nil ?_|refine L.skip rfl ?_
    refine L.cl (limbsN_C ar cr rest T1 (hrW.cons k4) hrok.1 (by omega)) rfl rfl ?_
    rintro _ T2 ⟨k5, b5, d5, rfl, i5⟩
    refine ⟨fun _ => k5, ?_⟩
    rw [hnum_form, hdv.1] at i4 ⊢
    rw [hdv.2] at i5 ⊢
    repeat first|refine W.g ?_|refine L.p rfl rfl ?_|refine L.nil ?_|refine L.skip rfl ?_
    exact ⟨.inr rfl, _, rfl, b4, b5, d4, d5, rfl, ((kA.trans kT).trans k4).trans k5, i4.cons k5, i5⟩
end Go.Proofs.YtbdnkneedengcaaGreatDoor

/- The document's greatest common divisor: walked. Conditions: none. -/
set_option linter.unusedSimpArgs false
set_option linter.unusedVariables false
set_option maxRecDepth 100000
set_option maxHeartbeats 4000000
namespace Go.Proofs.YtbdnkneedengcaaGreatDoor
open Go
variable {G : Nat} {Ext : FuncId → List Value → Mem → Outc → Mem → Prop}
theorem two_C (n : Nat) (hn : n < 10000000) (S : Mem) : C Tryz.prog G Ext 83 [vi n] S fun v S' => ∃ l, RefW S S' v l ∧ wnum l = 2 ^ n ∧ l.length = n / 64 + 1 := by
  refine C.fn Tryz.func83 rfl (by kernel_rfl) rfl ?_
  have e1 : IntKind.i64.wrap (Int.tdiv (n : Int) 64) = ((n / 64 : Nat) : Int) := by
    rw [show Int.tdiv (n : Int) 64 = ((n / 64 : Nat) : Int) from (Int.ofNat_tdiv n 64).symm, wrap64 (by omega) (by omega)]
  have e2 : IntKind.i64.wrap (IntKind.i64.wrap (Int.tdiv (n : Int) 64) + 1) = ((n / 64 + 1 : Nat) : Int) := by
    rw [e1, wrap64 (by omega) (by omega)]; rfl
  have e3 : Int.tmod (n : Int) 64 = ((n % 64 : Nat) : Int) := (Int.ofNat_tmod n 64).symm
  repeat first|refine W.g ?_|refine L.p rfl rfl ?_|refine L.nil ?_|refine L.skip rfl ?_
  refine L.mk (n := n / 64 + 1) (m := n / 64 + 1) (bytes := 8) (zv := v64 0#64) rfl rfl e2 rfl e2 (Nat.le_refl _) (by omega) rfl rfl ?_
  have hro : Mem.row? (S ++ [newR (List.replicate (n / 64 + 1) (v64 0#64)) 55]) S.length = some (newR (wv (List.replicate (n / 64 + 1) 0#64)) 55) := by
    rw [row_push_new rfl]; simp [wv]
  have hk := Cons.push S (newR (List.replicate (n / 64 + 1) (v64 0#64)) 55)
  generalize S ++ [newR (List.replicate (n / 64 + 1) (v64 0#64)) 55] = T at *
  obtain ⟨ro, hro0⟩ : ∃ ro, ro = S.length := ⟨_, rfl⟩
  rw [← hro0] at hro ⊢
  obtain ⟨r, hr⟩ := word_of (n := 2 ^ (n % 64)) (by rw [← show (2 : Nat) ^ 64 = 18446744073709551616 by decide]; exact Nat.pow_lt_pow_right (by decide) (Nat.mod_lt _ (by decide)))
  have hw : IntKind.u64.wrap (1 * 2 ^ (n % 64)) = (r.toNat : Int) := by
    rw [show (1 : Int) * 2 ^ (n % 64) = ((1 : Nat) : Int) * 2 ^ (n % 64) from rfl, shl_nat, Nat.one_mul, ← hr, Nat.mod_eq_of_lt r.isLt]
  repeat first|refine W.g ?_|refine L.p rfl rfl ?_|refine L.nil ?_|refine L.skip rfl ?_
  rw [e3, show min (Int.toNat ((n % 64 : Nat) : Int)) IntKind.u64.bits = n % 64 by rw [bits_u64, Int.toNat_natCast]; omega, hw]
  refine L.elst hro rfl (by show 0 + (n / 64 + 1) ≤ (wv (List.replicate (n / 64 + 1) 0#64)).length; rw [wv_len, List.length_replicate]; omega) (k := n / 64) e1 (by omega) rfl rfl rfl rfl (fun _ => rfl) (fun _ => rfl) rfl rfl rfl (fun p => ?_)
  have hr2 := row_set_w (k := n / 64) (r := r) hro
  have hk2 := hk.set ro { newR (wv (List.replicate (n / 64 + 1) 0#64)) 55 with cells := (newR (wv (List.replicate (n / 64 + 1) 0#64)) 55).cells.set (0 + n / 64) (v64 r) } (by omega)
  have hws := wnum_set (l := List.replicate (n / 64 + 1) 0#64) (q := n / 64) (x := 0#64) (y := r) (by rw [List.getElem?_replicate, if_pos (by omega)])
  rw [zero_word, wnum_zeros, Nat.zero_add, Nat.add_zero, hr, ← Nat.pow_add, show n % 64 + 64 * (n / 64) = n by omega] at hws
  generalize List.set T ro _ = T2 at *
  have hl : ((List.replicate (n / 64 + 1) 0#64).set (n / 64) r).length = n / 64 + 1 := by simp
  generalize (List.replicate (n / 64 + 1) 0#64).set (n / 64) r = o at *
  repeat first|refine W.g ?_|refine L.p rfl rfl ?_|refine L.nil ?_|refine L.skip rfl ?_
  exact ⟨.inr rfl, _, rfl, o, ⟨hk2, some ⟨ro, 0, none⟩, n / 64 + 1, by rw [hl]; rfl, (WOwn.row (N := 0) hr2 hl (Nat.zero_le _) (by omega)).1⟩, hws, hl⟩
end Go.Proofs.YtbdnkneedengcaaGreatDoor

/- Layer 1: what Shift answers. Conditions: none. -/
set_option linter.unusedSimpArgs false
set_option linter.unusedVariables false
set_option maxRecDepth 100000
set_option exponentiation.threshold 20000
namespace Go.Proofs.YtbdnkneedengcaaGreatDoor
open Go Ie
def shL (l : WL) (s : Int) : WL := if small l then (if wnum l = 0 ∨ s ≤ -(blen (wnum l) : Int) then [] else if s > 8192 - (blen (wnum l) : Int) then [] else if s < 0 then toW (wnum l / 2 ^ s.natAbs) else toW (wnum l * 2 ^ s.natAbs)) else []
def shE (l : WL) (s : Int) : Int := if small l then (if wnum l = 0 ∨ s ≤ -(blen (wnum l) : Int) then 0 else if s > 8192 - (blen (wnum l) : Int) then 3 else 0) else 3
theorem win_from {S : Mem} {a : Option Addr} {c k : Nat} {l : WL} {lv : Value} {kd : IntKind} (h : WIn S a c l) (hk : k < l.length) (hl : lv = .int kd (k : Int)) :
    ∃ a' c', aslice 1 a l.length c (some lv) none none = some (.slice a' (l.drop k).length c') ∧ WIn S a' c' (l.drop k) := by
  obtain ⟨a', c', h1, h2, h3, h4⟩ := slv_part (lo := some lv) (hi := none) h.1 (.inr ⟨kd, congrArg some hl⟩) (.inl ⟨rfl, rfl⟩) (Nat.le_of_lt hk) (Nat.le_refl _) (Cut.of h.2.1)
  have e : (l.drop k).length = l.length - k := List.length_drop
  have e2 : ((wv l).drop k).take (l.length - k) = wv (l.drop k) := by
    rw [List.take_of_length_le (by rw [List.length_drop, wv_len]; exact Nat.le_refl _)]
    unfold wv
    rw [List.map_drop]
  rw [e2] at h2
  refine ⟨a', c', by rw [e]; exact h1, by rw [e]; exact h2, by rw [e]; exact h3.known, ?_, by rw [e]; have := h.2.2.2; omega⟩
  intro ha
  obtain ⟨_, a2, c2, hv, h5⟩ := h2
  cases hv
  rcases h5 with h5 | ⟨b, o, r, q1, _⟩
  · omega
  · rw [ha] at q1; cases q1
theorem wnum_drop (l : WL) (k : Nat) (hk : k ≤ l.length) : wnum (l.drop k) = wnum l / 2 ^ (64 * k) := by
  have h1 := wnum_append (l.take k) (l.drop k)
  rw [List.take_append_drop, List.length_take, Nat.min_eq_left hk] at h1
  have h2 := wnum_lt (l.take k)
  rw [List.length_take, Nat.min_eq_left hk] at h2
  rw [h1, Nat.add_mul_div_left _ _ (Nat.two_pow_pos _), Nat.div_eq_of_lt h2, Nat.zero_add]
theorem blen_zero {n : Nat} : blen n = 0 ↔ n = 0 := by
  rw [← Nat.le_zero, blen_le, Nat.pow_zero]; omega
theorem blen_lt (n : Nat) : n < 2 ^ blen n := blen_le.1 (Nat.le_refl _)
end Go.Proofs.YtbdnkneedengcaaGreatDoor

/- The references Text and Shift. Conditions: none. -/
set_option linter.unusedSimpArgs false
set_option linter.unusedVariables false
set_option maxRecDepth 100000
set_option maxHeartbeats 4000000
set_option exponentiation.threshold 20000
namespace Go.Proofs.YtbdnkneedengcaaGreatDoor
open Go Ie
variable {Ext : FuncId → List Value → Mem → Outc → Mem → Prop}
theorem refText_C (a : Option Addr) (c : Nat) (l : WL) (S : Mem) (hI : WIn S a c l) (hlen : l.length < 100000) :
    C Tryz.prog gN Ext 34 [.slice a l.length c] S fun v S' => v = .tuple #[.string (strB (textL l)), .int .i64 (textE l)] ∧ Cons S S' := by
  refine C.fn Tryz.func34 rfl (by kernel_rfl) rfl ?_
  repeat first|refine W.g ?_|refine L.p rfl rfl ?_|refine L.nil ?_|refine L.skip rfl ?_
  refine L.cl (fits_C a c l S hI (by omega)) rfl rfl ?_
  rintro _ S1 ⟨rfl, k1⟩
  refine ⟨fun _ => k1, ?_⟩
  repeat first|refine W.g ?_|refine L.p rfl rfl ?_|refine L.nil ?_|refine L.skip rfl ?_
  refine W.ite rfl (fun h => ?_) (fun h => ?_)
  · have hsm : small l = false := by simpa using h
    repeat first|refine W.g ?_|refine L.p rfl rfl ?_|refine L.nil ?_|refine L.skip rfl ?_
    exact ⟨.inr rfl, _, rfl, by unfold textL textE; rw [hsm]; rfl, k1⟩
  have hsm : small l = true := by simpa using h
  clear h
  repeat first|refine W.g ?_|refine L.p rfl rfl ?_|refine L.nil ?_|refine L.skip rfl ?_
  refine L.cl (refDigits_C a c l S1 (hI.cons k1) (by omega)) rfl rfl ?_
  rintro _ S2 ⟨rfl, k2⟩
  refine ⟨fun _ => k2, ?_⟩
  repeat first|refine W.g ?_|refine L.p rfl rfl ?_|refine L.nil ?_|refine L.skip rfl ?_
  exact ⟨.inr rfl, _, rfl, by unfold textL textE; rw [hsm]; rfl, k1.trans k2⟩
theorem refShift_C (a : Option Addr) (c : Nat) (l : WL) (s : Int) (S : Mem) (hI : WIn S a c l) (hlen : l.length < 100000) (hs : -9223372036854775808 ≤ s ∧ s ≤ 9223372036854775807) :
    C Tryz.prog gN Ext 33 [.slice a l.length c, .int .i64 s] S fun v S' => ∃ (a' : Option Addr) (c' : Nat), v = .tuple #[.slice a' (shL l s).length c', .int .i64 (shE l s)] ∧ Cons S S' ∧ WIn S' a' c' (shL l s) := by
  refine C.fn Tryz.func33 rfl (by kernel_rfl) rfl ?_
  have wnil : ∀ T, WIn T none 0 [] := fun T => ⟨Slv.nil _ _ _ _, by decide, fun _ => rfl, by decide⟩
  repeat first|refine W.g ?_|refine L.p rfl rfl ?_|refine L.nil ?_|refine L.skip rfl ?_
  refine L.cl (fits_C a c l S hI (by omega)) rfl rfl ?_
  rintro _ S1 ⟨rfl, k1⟩
  refine ⟨fun _ => k1, ?_⟩
  repeat first|refine W.g ?_|refine L.p rfl rfl ?_|refine L.nil ?_|refine L.skip rfl ?_
  refine W.ite rfl (fun h => ?_) (fun h => ?_)
  · have hsm : small l = false := by simpa using h
    repeat first|refine W.g ?_|refine L.p rfl rfl ?_|refine L.nil ?_|refine L.skip rfl ?_
    exact ⟨.inr rfl, _, rfl, none, 0, by unfold shL shE; rw [hsm]; rfl, k1, by unfold shL; rw [hsm]; exact wnil _⟩
  have hsm : small l = true := by simpa using h
  clear h
  have hN := small_num l
  rw [hsm] at hN
  have hN := of_decide_eq_true hN.symm
  have hb := blen_le.2 hN
  have hI1 := hI.cons k1
  repeat first|refine W.g ?_|refine L.p rfl rfl ?_|refine L.nil ?_|refine L.skip rfl ?_
  refine L.cl (length_C a c l S1 hI1 (by omega)) rfl rfl ?_
  rintro _ S2 ⟨rfl, k2⟩
  refine ⟨fun _ => k2, ?_⟩
  have hI2 := hI1.cons k2
  have k12 := k1.trans k2
  obtain ⟨b, hbd⟩ : ∃ b, b = blen (wnum l) := ⟨_, rfl⟩
  rw [← hbd] at hb ⊢
  have hb0 : b = 0 ↔ wnum l = 0 := by rw [hbd]; exact blen_zero
  unfold shL shE
  rw [hsm, ← hbd]
  simp only [if_true]
  have hng : IntKind.i64.wrap (0 - (b : Int)) = -(b : Int) := by rw [Int.zero_sub, wrap64 (by omega) (by omega)]
  have hsb : IntKind.i64.wrap (8192 - (b : Int)) = 8192 - (b : Int) := wrap64 (by omega) (by omega)
  have hNIL : (wnum l = 0 ∨ s ≤ -(b : Int)) → ∃ (a' : Option Addr) (c' : Nat), Value.tuple #[.slice none 0 0, .int .i64 0] = .tuple #[.slice a' (if wnum l = 0 ∨ s ≤ -(b : Int) then [] else if s > 8192 - (b : Int) then [] else if s < 0 then toW (wnum l / 2 ^ s.natAbs) else toW (wnum l * 2 ^ s.natAbs)).length c', .int .i64 (if wnum l = 0 ∨ s ≤ -(b : Int) then 0 else if s > 8192 - (b : Int) then 3 else 0)] ∧ Cons S S2 ∧ WIn S2 a' c' (if wnum l = 0 ∨ s ≤ -(b : Int) then [] else if s > 8192 - (b : Int) then [] else if s < 0 then toW (wnum l / 2 ^ s.natAbs) else toW (wnum l * 2 ^ s.natAbs)) := fun h => by
    rw [if_pos h, if_pos h]
    exact ⟨none, 0, rfl, k12, wnil _⟩
  have hb0' : ((b : Int) == 0) = decide (b = 0) := by
    by_cases q : b = 0
    · rw [q]; rfl
    · rw [decide_eq_false q]; exact beq_eq_false_iff_ne.2 (by omega)
  repeat first|refine W.g ?_|refine L.p rfl rfl ?_|refine L.nil ?_|refine L.skip rfl ?_
  rw [hb0']
  by_cases q0 : b = 0
  · rw [decide_eq_true q0]
    repeat first|refine W.g ?_|refine L.p rfl rfl ?_|refine L.nil ?_|refine L.skip rfl ?_
    refine W.ite rfl (fun h => ?_) (fun h => ?_)
    · repeat first|refine W.g ?_|refine L.p rfl rfl ?_|refine L.nil ?_|refine L.skip rfl ?_
      exact ⟨.inr rfl, _, rfl, hNIL (.inl (hb0.1 q0))⟩
    · cases h
  rw [decide_eq_false q0]
  have hz : ¬ wnum l = 0 := fun e => q0 (hb0.2 e)
  repeat first|refine W.g ?_|refine L.p rfl rfl ?_|refine L.nil ?_|refine L.skip rfl ?_
  by_cases q1 : s < 0
  · rw [decide_eq_true q1]
    repeat first|refine W.g ?_|refine L.p rfl rfl ?_|refine L.nil ?_|refine L.skip rfl ?_
    rw [hng]
    by_cases q2 : s ≤ -(b : Int)
    · rw [decide_eq_true q2]
      repeat first|refine W.g ?_|refine L.p rfl rfl ?_|refine L.nil ?_|refine L.skip rfl ?_
      refine W.ite rfl (fun h => ?_) (fun h => ?_)
      · repeat first|refine W.g ?_|refine L.p rfl rfl ?_|refine L.nil ?_|refine L.skip rfl ?_
        exact ⟨.inr rfl, _, rfl, hNIL (.inr q2)⟩
      · cases h
    rw [decide_eq_false q2]
    repeat first|refine W.g ?_|refine L.p rfl rfl ?_|refine L.nil ?_|refine L.skip rfl ?_
    refine W.ite rfl (fun h => ?_) (fun h => ?_)
    · cases h
    clear h
    repeat first|refine W.g ?_|refine L.p rfl rfl ?_|refine L.nil ?_|refine L.skip rfl ?_
    rw [hsb]
    refine W.ite rfl (fun h => ?_) (fun h => ?_)
    · have := of_decide_eq_true h; omega
    clear h
    repeat first|refine W.g ?_|refine L.p rfl rfl ?_|refine L.nil ?_|refine L.skip rfl ?_
    refine W.ite rfl (fun h => ?_) (fun h => ?_)
    rotate_left
    · have := of_decide_eq_false h; omega
    clear h
    have h2 : ¬ (wnum l = 0 ∨ s ≤ -(b : Int)) := fun h => h.elim hz q2
    have h3 : ¬ s > 8192 - (b : Int) := by omega
    rw [if_neg h2, if_neg h2, if_neg h3, if_neg h3, if_pos q1]
    obtain ⟨m, hm⟩ : ∃ m : Nat, s = -(m : Int) := ⟨s.natAbs, by omega⟩
    subst hm
    have hmm : (-(m : Int)).natAbs = m := by omega
    rw [hmm]
    have hnm : IntKind.i64.wrap (0 - -(m : Int)) = (m : Int) := by rw [Int.zero_sub, Int.neg_neg, wrap64 (by omega) (by omega)]
    repeat first|refine W.g ?_|refine L.p rfl rfl ?_|refine L.nil ?_|refine L.skip rfl ?_
    rw [hnm]
    refine L.cl (two_C m (by omega) S2) rfl rfl ?_
    rintro _ S3 ⟨t, ⟨k3, a3, c3, rfl, i3⟩, ht, htl⟩
    refine ⟨fun _ => k3, ?_⟩
    repeat first|refine W.g ?_|refine L.p rfl rfl ?_|refine L.nil ?_|refine L.skip rfl ?_
    refine L.cl (over_C a a3 c c3 l t S3 (hI2.cons k3) i3 (by omega) (by omega) (by rw [ht]; exact Nat.two_pow_pos _)) rfl rfl ?_
    rintro _ S4 ⟨a4, a5, c4, c5, rfl, k4, i4, _⟩
    refine ⟨fun _ => k4, ?_⟩
    rw [ht] at i4 ⊢
    repeat first|refine W.g ?_|refine L.p rfl rfl ?_|refine L.nil ?_|refine L.skip rfl ?_
    exact ⟨.inr rfl, _, rfl, a4, c4, rfl, (k12.trans k3).trans k4, i4⟩
  rw [decide_eq_false q1]
  repeat first|refine W.g ?_|refine L.p rfl rfl ?_|refine L.nil ?_|refine L.skip rfl ?_
  refine W.ite rfl (fun h => ?_) (fun h => ?_)
  · cases h
  clear h
  repeat first|refine W.g ?_|refine L.p rfl rfl ?_|refine L.nil ?_|refine L.skip rfl ?_
  rw [hsb]
  refine W.ite rfl (fun h => ?_) (fun h => ?_)
  · have h1 := of_decide_eq_true h
    have h2 : ¬ (wnum l = 0 ∨ s ≤ -(b : Int)) := fun h => h.elim hz (by omega)
    rw [if_neg h2, if_neg h2, if_pos h1, if_pos h1]
    repeat first|refine W.g ?_|refine L.p rfl rfl ?_|refine L.nil ?_|refine L.skip rfl ?_
    exact ⟨.inr rfl, _, rfl, none, 0, rfl, k12, wnil _⟩
  have h1 := of_decide_eq_false h
  clear h
  repeat first|refine W.g ?_|refine L.p rfl rfl ?_|refine L.nil ?_|refine L.skip rfl ?_
  refine W.ite rfl (fun h => ?_) (fun h => ?_)
  · exact absurd (of_decide_eq_true h) q1
  clear h
  have h2 : ¬ (wnum l = 0 ∨ s ≤ -(b : Int)) := fun h => h.elim hz (by omega)
  rw [if_neg h2, if_neg h2, if_neg h1, if_neg h1, if_neg q1]
  obtain ⟨m, hm⟩ : ∃ m : Nat, s = (m : Int) := ⟨s.natAbs, by omega⟩
  subst hm
  have hmm : (m : Int).natAbs = m := rfl
  rw [hmm]
  repeat first|refine W.g ?_|refine L.p rfl rfl ?_|refine L.nil ?_|refine L.skip rfl ?_
  refine L.cl (two_C m (by omega) S2) rfl rfl ?_
  rintro _ S3 ⟨t, ⟨k3, a3, c3, rfl, i3⟩, ht, htl⟩
  refine ⟨fun _ => k3, ?_⟩
  repeat first|refine W.g ?_|refine L.p rfl rfl ?_|refine L.nil ?_|refine L.skip rfl ?_
  refine L.cl (timesR_C a a3 c c3 l t S3 (hI2.cons k3) i3 (by omega) (by omega)) rfl rfl ?_
  rintro _ S4 ⟨k4, a4, c4, rfl, i4⟩
  refine ⟨fun _ => k4, ?_⟩
  rw [ht] at i4 ⊢
  repeat first|refine W.g ?_|refine L.p rfl rfl ?_|refine L.nil ?_|refine L.skip rfl ?_
  exact ⟨.inr rfl, _, rfl, a4, c4, rfl, (k12.trans k3).trans k4, i4⟩
end Go.Proofs.YtbdnkneedengcaaGreatDoor

/- slices.Grow of nothing, slices.Concat, on words. Conditions: none. -/
set_option linter.unusedSimpArgs false
set_option linter.unusedVariables false
set_option maxRecDepth 100000
namespace Go.Proofs.YtbdnkneedengcaaGreatDoor
open Go
variable {G : Nat} {Ext : FuncId → List Value → Mem → Outc → Mem → Prop}

/-- an append where there is room -/
theorem app_room {P : Program} {ts xs : TypeId} {el : TypeId} {bytes b m n T : Nat} {S : Mem} {x : Value} {l news z : List Value} (hok : appOk P ts xs = some (el, 1, bytes)) (hr : S.row? b = some (grownR (l ++ z) el 1)) (hl : l.length = n)
    (hx : firstOf S 1 m x = some news) (hm : lenOf' x = some m) (hnews : news.length = m) (h1 : news.all oneCell = true) (hT : (l ++ z).length = T) (hroom : n + m ≤ T) :
    ∃ S', aappend P ts xs (.slice (some ⟨b, 0, none⟩) n (UNK + T)) x S = some (.slice (some ⟨b, 0, none⟩) (n + m) (UNK + T), S') ∧ S'.row? b = some (grownR (l ++ news ++ z.drop m) el 1) ∧ KeepL [b] S S' := by
  obtain ⟨dx, i, zz, hu1, hu2, hi, hd, hz, hzz1, hzz2, hsz, rfl⟩ := appOk_some hok
  have hcond : ¬ (zz.cells.size ≠ i.size ∨ ¬ zz.cells.toList.all scalar = true) := fun h => h.elim (fun h => h hzz1) (fun h => h hzz2)
  have hf : firstOf S 1 n (.slice (some ⟨b, 0, none⟩) n (UNK + T)) = some l := by
    have hs : Slv S 1 (.slice (some ⟨b, 0, none⟩) n (UNK + T)) n (((l ++ z).drop 0).take (n * 1)) := Slv.of (o := 0) hr (by show 0 + n * 1 ≤ (l ++ z).length; omega) (.inl rfl)
    rw [List.drop_zero, Nat.mul_one, List.take_left' hl] at hs
    have := hs.first (Nat.le_refl n)
    rwa [List.take_of_length_le (by omega)] at this
  rw [aappend_eq hu1 hu2 hi hd hz hm, hsz]
  simp only [hx, hf, Option.bind_some]
  rw [hsz] at hcond
  rw [if_neg hcond, if_pos (by rw [knownCap_unk]; exact hroom)]
  by_cases h0 : news = []
  · subst h0
    have hm0 : m = 0 := by simpa using hnews.symm
    subst hm0
    rw [if_pos rfl]
    exact ⟨S, rfl, by simpa using hr, KeepL.refl _ _⟩
  · rw [if_neg h0, add_one, Nat.zero_add]
    have hw := write_of (S := S) (b := b) (o := n) (l := news) hr rfl (by show n + news.length ≤ (l ++ z).length; omega) h1
    rw [hw]
    refine ⟨_, rfl, ?_, ⟨by simp, fun r h2 h3 => by rw [List.getElem?_set, if_neg (fun h => h3 (by simp [h]))]⟩⟩
    rw [row_set_same hr rfl]
    refine congrArg some ?_
    show grownR (putFrom (l ++ z) n news) el 1 = _
    congr 1
    unfold putFrom
    rw [List.take_left' hl, List.drop_append, hl, show n + news.length - n = m by omega, List.drop_of_length_le (l := l) (by omega)]
    rfl
theorem aeff_appendZ {P : Program} {S : Mem} {ts xs : TypeId} {s x : Operand} {o : Oper} {ev : Operand → Value} {c : Call} {r : Value × Mem} (ho : o.op = .call c) (hc : c = ⟨.builtin .append, #[s, x], #[ts, xs]⟩) (h0 : aappend P ts xs (ev s) (ev x) S = none)
    (h : aappendZ P ts xs (ev s) (ev x) S = some r) : aeff P o ev S = some r := by
  subst hc
  simp [aeff, ho, h0, h]
theorem zeroBytes (n : Nat) : zeroList #[v64 0#64] (n * 1) = wv (List.replicate n 0#64) := by
  unfold zeroList wv
  rw [Nat.mul_one, List.map_replicate]
  refine List.ext_getElem (by simp) fun i h1 h2 => ?_
  simp only [List.getElem_map, List.getElem_range, List.getElem_replicate]
  show (#[v64 0#64] : Array Value)[i % 1]! = v64 0#64
  rw [Nat.mod_one]
  rfl
theorem growZ (n : Nat) (h0 : 0 < n) (hn : n ≤ 1099511627776) (S : Mem) : aappendZ Tryz.prog 22 3 (.slice none 0 0) (.int .i64 (n : Int)) S = some (.slice (some ⟨S.length, 0, none⟩) (0 + n) (UNK + (0 + n)), S ++ [grownR (wv (List.replicate n 0#64)) 55 1]) := by
  have h1 : aappendZ Tryz.prog 22 3 (.slice none 0 0) (.int .i64 (n : Int)) S = if (0 < UNK ∧ (1 : Nat) = 1 ∧ true = true ∧ 0 < n * 1 ∧ ¬ 0 + n ≤ 0 ∧ roomy (0 + n) 8 ∧ ([] : List Value).length = 0 * 1) then
      some (.slice (some ⟨S.length, 0, none⟩) (0 + n) (UNK + (0 + n)), S ++ [grownR ([] ++ zeroList #[v64 0#64] (n * 1)) 55 1]) else none := rfl
  rw [h1, if_pos ⟨by unfold UNK; omega, rfl, rfl, by omega, by omega, by unfold roomy; omega, rfl⟩, zeroBytes]
  rfl
theorem growW_C (n : Nat) (h0 : 0 < n) (hn : n ≤ 1099511627776) (S : Mem) : C Tryz.prog G Ext 106 [.slice none 0 0, .int .i64 (n : Int)] S fun v S' => v = .slice (some ⟨S.length, 0, none⟩) 0 (UNK + n) ∧ S' = S ++ [grownR (wv (List.replicate n 0#64)) 55 1] := by
  refine C.fn Tryz.func106 rfl (by kernel_rfl) rfl ?_
  repeat first|refine W.g ?_|refine L.p rfl rfl ?_|refine L.nil ?_|refine L.skip rfl ?_
  refine W.ite rfl (fun h => ?_) (fun h => ?_)
  · have := of_decide_eq_true h; omega
  clear h
  repeat first|refine W.g ?_|refine L.p rfl rfl ?_|refine L.nil ?_|refine L.skip rfl ?_
  have e1 : IntKind.i64.wrap ((n : Int) - IntKind.i64.wrap (((0 : Nat) : Int) - ((0 : Nat) : Int))) = (n : Int) := by
    rw [show IntKind.i64.wrap (((0 : Nat) : Int) - ((0 : Nat) : Int)) = 0 by decide, wrap64 (by omega) (by omega)]; omega
  rw [e1]
  refine W.ite rfl (fun h => ?_) (fun h => ?_)
  rotate_left
  · have := of_decide_eq_false h; omega
  clear h
  repeat first|refine W.g ?_|refine L.p rfl rfl ?_|refine L.nil ?_|refine L.skip rfl ?_
  refine L.eff (v := .slice (some ⟨S.length, 0, none⟩) (0 + n) (UNK + (0 + n))) (S1 := S ++ [grownR (wv (List.replicate n 0#64)) 55 1]) rfl ?_ ?_
  · exact aeff_appendZ rfl rfl rfl (growZ n h0 hn S)
  repeat first|refine W.g ?_|refine L.p rfl rfl ?_|refine L.nil ?_|refine L.skip rfl ?_
  refine L.is (.slice (some ⟨S.length, 0, none⟩) 0 (UNK + (0 + n))) ?_ rfl ?_
  · refine (slice_at0 rfl rfl rfl).trans ?_
    refine (aslice_at (k := 0) (h := 0) (.inl ⟨rfl, rfl⟩) (.inr ⟨.i64, rfl⟩) (Nat.le_refl _) (Nat.zero_le _)).trans ?_
    rw [if_neg (by omega)]
    dsimp only
    rw [if_pos (.inl rfl), knownCap_unk]
    rfl
  repeat first|refine W.g ?_|refine L.p rfl rfl ?_|refine L.nil ?_|refine L.skip rfl ?_
  refine ⟨.inr rfl, _, rfl, ?_, rfl⟩
  refine (force_eq rfl).trans ?_
  rw [Nat.zero_add]
/-- parts to be joined -/
def WParts (S : Mem) (vs : List Value) (ps : List WL) : Prop := vs.length = ps.length ∧ ∀ (i : Nat) (l : WL), ps[i]? = some l → ∃ a c, vs[i]? = some (.slice a l.length c) ∧ Slv S 1 (.slice a l.length c) l.length (wv l)
theorem WParts.cons {S S' : Mem} {vs : List Value} {ps : List WL} (h : WParts S vs ps) (k : Cons S S') : WParts S' vs ps := ⟨h.1, fun i l hl => let ⟨a, c, h1, h2⟩ := h.2 i l hl; ⟨a, c, h1, h2.cons k⟩⟩
theorem wflat_step {ps : List WL} {i : Nat} {l : WL} (h : ps[i]? = some l) : (ps.take (i + 1)).flatten = (ps.take i).flatten ++ l := by
  rw [List.take_add_one, h]; simp
theorem wflat_le (ps : List WL) (i : Nat) : (ps.take i).flatten.length ≤ ps.flatten.length := by
  have : ps.flatten = (ps.take i).flatten ++ (ps.drop i).flatten := by rw [← List.flatten_append, List.take_append_drop]
  rw [this, List.length_append]; omega
theorem concatW_C (a : Option Addr) (c : Nat) (vs : List Value) (ps : List WL) (S : Mem) (hv : Slv S 1 (.slice a ps.length c) ps.length vs) (hp : WParts S vs ps) (h0 : 0 < ps.flatten.length) (hn : ps.flatten.length < 1099511627776) (hk : ps.length < 1099511627776) :
    C Tryz.prog G Ext 76 [.slice a ps.length c] S fun v S' => ∃ d : Hd, v = d.v ∧ RetW S S' d ps.flatten := by
  refine C.fn Tryz.func76 rfl (by kernel_rfl) rfl ?_
  repeat first|refine W.g ?_|refine L.p rfl rfl ?_|refine L.nil ?_|refine L.skip rfl ?_
  refine W.loop (fun j e T => ∃ i, j = ps.length - i ∧ i ≤ ps.length ∧ S = T ∧ e 0 = .slice a ps.length c ∧ e 3 = vi (ps.take i).flatten.length ∧ e 9 = .slice a ps.length c ∧ e 10 = vi ps.length ∧ e 11 = vi i) ps.length
    ⟨0, by omega, by omega, rfl, rfl, rfl, rfl, rfl, rfl⟩ ?_
  rintro j e T ⟨i, rfl, hi, rfl, e0, e3, e9, e10, e11⟩
  refine W.env5 e0 e3 e9 e10 e11 ?_
  have hle := wflat_le ps i
  repeat first|refine W.g ?_|refine L.p rfl rfl ?_|refine L.nil ?_|refine L.skip rfl ?_
  refine W.ite rfl (fun h => ?_) (fun h => ?_)
  · have hin : i < ps.length := by have := of_decide_eq_true h; omega
    clear h
    obtain ⟨l, hl⟩ : ∃ l, ps[i]? = some l := ⟨_, List.getElem?_eq_getElem hin⟩
    obtain ⟨a1, c1, hv1, hs1⟩ := hp.2 i l hl
    have hst := wflat_step hl
    have hle2 := wflat_le ps (i + 1)
    rw [hst, List.length_append] at hle2
    repeat first|refine W.g ?_|refine L.p rfl rfl ?_|refine L.nil ?_|refine L.skip rfl ?_
    refine L.el hv rfl hv1 rfl rfl rfl rfl (fun _ => rfl) rfl (fun p => ?_)
    repeat first|refine W.g ?_|refine L.p rfl rfl ?_|refine L.nil ?_|refine L.skip rfl ?_
    rw [show IntKind.i64.wrap (((ps.take i).flatten.length : Int) + (l.length : Int)) = (((ps.take i).flatten.length + l.length : Nat) : Int) by rw [wrap64 (by omega) (by omega)]; rfl]
    repeat first|refine W.g ?_|refine L.p rfl rfl ?_|refine L.nil ?_|refine L.skip rfl ?_
    refine W.ite rfl (fun h => ?_) (fun h => ?_)
    · have := of_decide_eq_true h; omega
    clear h
    repeat first|refine W.g ?_|refine L.p rfl rfl ?_|refine L.nil ?_|refine L.skip rfl ?_
    refine ⟨ps.length - (i + 1), by omega, i + 1, rfl, by omega, rfl, rfl, ?_, rfl, rfl, ?_⟩
    · refine (force_eq rfl).trans ?_
      rw [hst, List.length_append]
    · refine (force_eq rfl).trans ?_
      rw [wrap64 (by omega) (by omega)]; rfl
  have hin : i = ps.length := by have := of_decide_eq_false h; omega
  subst hin
  clear h hle
  rw [List.take_length]
  obtain ⟨n, hnn⟩ : ∃ n, n = ps.flatten.length := ⟨_, rfl⟩
  rw [← hnn] at h0 hn ⊢
  repeat first|refine W.g ?_|refine L.p rfl rfl ?_|refine L.nil ?_|refine L.skip rfl ?_
  refine L.cl (growW_C n h0 (by omega) S) rfl rfl ?_
  rintro _ _ ⟨rfl, rfl⟩
  refine ⟨nofun, ?_⟩
  have hc1 : Cons S (S ++ [grownR (wv (List.replicate n 0#64)) 55 1]) := Cons.push _ _
  have hr1 : Mem.row? (S ++ [grownR (wv (List.replicate n 0#64)) 55 1]) S.length = some (grownR (wv (List.replicate n 0#64)) 55 1) := row_push_new rfl
  generalize S ++ [grownR (wv (List.replicate n 0#64)) 55 1] = S1 at *
  repeat first|refine W.g ?_|refine L.p rfl rfl ?_|refine L.nil ?_|refine L.skip rfl ?_
  refine W.loop (fun j e T => ∃ i z, j = ps.length - i ∧ i ≤ ps.length ∧ Cons S T ∧ e 6 = .slice (some ⟨S.length, 0, none⟩) (ps.take i).flatten.length (UNK + n) ∧ e 25 = .slice a ps.length c ∧ e 26 = vi ps.length ∧ e 27 = vi i ∧
      T.row? S.length = some (grownR (wv (ps.take i).flatten ++ z) 55 1) ∧ (wv (ps.take i).flatten ++ z).length = n) ps.length
    ⟨0, wv (List.replicate n 0#64), by omega, by omega, hc1, rfl, rfl, rfl, rfl, hr1, by simp [wv]⟩ ?_
  clear hr1 hc1 e0 e3 e9 e10 e11
  rintro j e T ⟨i, z, rfl, hi, hc, e6, e25, e26, e27, hr, hz⟩
  refine W.env4 e6 e25 e26 e27 ?_
  have hle := wflat_le ps i
  repeat first|refine W.g ?_|refine L.p rfl rfl ?_|refine L.nil ?_|refine L.skip rfl ?_
  refine W.ite rfl (fun h => ?_) (fun h => ?_)
  · have hin : i < ps.length := by have := of_decide_eq_true h; omega
    clear h
    obtain ⟨l, hl⟩ : ∃ l, ps[i]? = some l := ⟨_, List.getElem?_eq_getElem hin⟩
    obtain ⟨a1, c1, hv1, hs1⟩ := hp.2 i l hl
    have hst := wflat_step hl
    have hle2 := wflat_le ps (i + 1)
    rw [hst, List.length_append] at hle2
    repeat first|refine W.g ?_|refine L.p rfl rfl ?_|refine L.nil ?_|refine L.skip rfl ?_
    refine L.el (hv.cons hc) rfl hv1 rfl rfl rfl rfl (fun _ => rfl) rfl (fun p => ?_)
    repeat first|refine W.g ?_|refine L.p rfl rfl ?_|refine L.nil ?_|refine L.skip rfl ?_
    have hs2 := hs1.cons hc
    obtain ⟨T1, q1, q2, q3⟩ := app_room (P := Tryz.prog) (ts := 22) (xs := 22) (x := .slice a1 l.length c1) (m := l.length) (n := (ps.take i).flatten.length) (T := n) rfl hr (wv_len _)
      (by have := hs2.first (Nat.le_refl _); rwa [Nat.mul_one, List.take_of_length_le (by rw [wv_len]; exact Nat.le_refl _)] at this) rfl (wv_len _) (wv_one _) hz (by omega)
    refine L.eff (v := .slice (some ⟨S.length, 0, none⟩) ((ps.take i).flatten.length + l.length) (UNK + n)) (S1 := T1) rfl (aeff_append rfl rfl q1) ?_
    repeat first|refine W.g ?_|refine L.p rfl rfl ?_|refine L.nil ?_|refine L.skip rfl ?_
    refine ⟨ps.length - (i + 1), by omega, i + 1, z.drop l.length, rfl, by omega, q3.cons0 hc (fun b hb => by simp at hb; omega), ?_, rfl, rfl, ?_, ?_, ?_⟩
    · refine (force_eq rfl).trans ?_
      rw [hst, List.length_append]
    · refine (force_eq rfl).trans ?_
      rw [wrap64 (by omega) (by omega)]; rfl
    · rw [q2, hst]; simp [wv]
    · rw [hst]
      simp only [List.length_append, wv_len, List.length_drop] at hz ⊢
      omega
  have hin : i = ps.length := by have := of_decide_eq_false h; omega
  subst hin
  clear h hle
  rw [List.take_length] at hr hz ⊢
  have hz0 : z = [] := by
    rw [List.length_append, wv_len, ← hnn] at hz
    exact List.length_eq_zero_iff.1 (by omega)
  rw [hz0, List.append_nil] at hr
  repeat first|refine W.g ?_|refine L.p rfl rfl ?_|refine L.nil ?_|refine L.skip rfl ?_
  refine ⟨.inr rfl, _, rfl, ⟨some S.length, n, UNK + n⟩, ?_, hc, by omega, HdOk.grown hr (by rw [wv_len, hnn]), by rintro b' ⟨⟩; exact Nat.le_refl _⟩
  refine (force_eq rfl).trans ?_
  rw [hnn]; rfl
end Go.Proofs.YtbdnkneedengcaaGreatDoor

/- Functions that defer calls, and functions that recover, on the abstract machine. Conditions: none. -/
set_option linter.unusedSimpArgs false
set_option linter.unusedVariables false
namespace Go.Proofs.YtbdnkneedengcaaGreatDoor
open Go

/-- a deferred call: the function, and all that it is handed -/
structure ADef where
  f : FuncId
  args : List Value
def DR (ρ : Nat → Option Loc) (D : ADef) (d : Deferred) : Prop := ∃ cap, d.target = .fn (.func D.f) cap ∧ LR ρ D.args (d.args.toList ++ cap.toList)
inductive DRs (ρ : Nat → Option Loc) : List ADef → List Deferred → Prop
  | nil : DRs ρ [] []
  | cons {D d Ds ds} (h : DR ρ D d) (k : DRs ρ Ds ds) : DRs ρ (D :: Ds) (d :: ds)
theorem DRs.mono {ρ ρ' : Nat → Option Loc} (hs : Sub ρ ρ') {Ds : List ADef} {ds : List Deferred} (h : DRs ρ Ds ds) : DRs ρ' Ds ds := by
  induction h with
  | nil => exact .nil
  | cons h k ih => obtain ⟨cap, h1, h2⟩ := h; exact .cons ⟨cap, h1, h2.mono hs⟩ ih

/-- code that may defer calls -/
inductive DRun (P : Program) (G : Nat) (Ext : FuncId → List Value → Mem → Outc → Mem → Prop) : Code → Env → Mem → List ADef → Xit → Env → Mem → List ADef → Prop
  | code {c e S ds x e' S'} (h : Ex P G Ext (.j (.code c e S x e' S'))) : DRun P G Ext c e S ds x e' S' ds
  | seq {a b e S ds e1 S1 ds1 x e' S' ds'} (h : DRun P G Ext a e S ds .nrm e1 S1 ds1) (k : DRun P G Ext b e1 S1 ds1 x e' S' ds') : DRun P G Ext (.seq a b) e S ds x e' S' ds'
  | seqOut {a b e S ds x e' S' ds'} (h : DRun P G Ext a e S ds x e' S' ds') (hx : x ≠ .nrm) : DRun P G Ext (.seq a b) e S ds x e' S' ds'
  | defer {id ops n e S ds e1 S1 o c fv f first captured} (hn : ops.size = n + 1) (h : Ex P G Ext (.j (.ops false ops (List.range n) e S none e1 S1))) (ho : ops[n]? = some o) (hw : awanted ops o e1 = true) (hd : o.op = .defer c)
      (hc : c.callee = .value fv) (hf : e1.eval fv = .func (.func f) first captured) : DRun P G Ext (.region id ops false) e S ds .nrm (e1.put o.dst undef) S1 (⟨f, first.toList ++ c.args.toList.map e1.eval ++ captured.toList⟩ :: ds)

section
variable {P : Program} {G : Nat}
/-- some operations, then others -/
theorem Tr.runApp {fl : Bool} {ops : Array Oper} {n : Nat} (hok : opsOk n G ops = true) {is js : List Nat} {e e' : Env} {S S' : Mem} (h : Tr P G fl ops is e S e' S') {Q : Exit → Act → World → Prop} {ds : List Deferred}
    {ρ0 : Nat → Option Loc} {S0 : Mem} {w0 : World} (hK : Reach G n ds ρ0 S0 w0 e' S' (fun a w => wpOps P ops Q js a w)) : ∀ (ρ : Nat → Option Loc) (a : Act) (w : World), ER ρ e a → SR ρ S w → Glob G ρ → Stp ρ0 S0 w0 ρ S w → a.tmps.size = n → a.defers = ds → wpOps P ops Q (is ++ js) a w := by
  induction h with
  | nil e S => intro ρ a w hE hS hG hst hn hd; exact hK ρ a w hE hS hst hn hd
  | skip ho hw _ ih =>
    intro ρ a w hE hS hG hst hn hd
    simp only [List.cons_append, wpOps, ho]
    rw [wanted_eq hn hok (fun t _ => hE t), hw]
    simp only [Bool.false_eq_true, if_false]
    exact ih hK ρ _ w (put_ER hE (flat_VR ρ undef_flat) (fun d h => by rw [hn]; exact (opsOk_mem hok ho).1 d h)) hS hG hst (by rw [put_size]; exact hn) (by rw [put_defers']; exact hd)
  | pure ho hw hp _ ih =>
    intro ρ a w hE hS hG hst hn hd
    simp only [List.cons_append, wpOps, ho]
    rw [wanted_eq hn hok (fun t _ => hE t), hw]
    simp only [if_true]
    refine .inl (sim_pure (G := G) hp _ ρ a w _ _ (fun x hx => eval_VR hG ((opsOk_mem hok ho).2 x hx) (fun t _ => hE t)) hS hG (fun v' ρ' w' h1 h2 h3 => ?_))
    exact ih hK ρ' _ w' (put_ER (fun t => (hE t).mono h3.ext) h1 (fun d h => by rw [hn]; exact (opsOk_mem hok ho).1 d h)) h2 (fun g hg => (hG g hg).mono h3.ext) (hst.trans h3) (by rw [put_size]; exact hn) (by rw [put_defers']; exact hd)
  | load ho hw hp _ ih =>
    intro ρ a w hE hS hG hst hn hd
    simp only [List.cons_append, wpOps, ho]
    rw [wanted_eq hn hok (fun t _ => hE t), hw]
    simp only [if_true]
    refine .inl (sim_load (G := G) hp ρ a w _ _ (fun x hx => eval_VR hG ((opsOk_mem hok ho).2 x hx) (fun t _ => hE t)) hS hG (fun v' ρ' w' h1 h2 h3 => ?_))
    exact ih hK ρ' _ w' (put_ER (fun t => (hE t).mono h3.ext) h1 (fun d h => by rw [hn]; exact (opsOk_mem hok ho).1 d h)) h2 (fun g hg => (hG g hg).mono h3.ext) (hst.trans h3) (by rw [put_size]; exact hn) (by rw [put_defers']; exact hd)
  | eff ho hw hp _ _ _ ih =>
    intro ρ a w hE hS hG hst hn hd
    simp only [List.cons_append, wpOps, ho]
    rw [wanted_eq hn hok (fun t _ => hE t), hw]
    simp only [if_true]
    refine .inl (hp ρ a w _ _ (fun x hx => eval_VR hG ((opsOk_mem hok ho).2 x hx) (fun t _ => hE t)) hS hG (fun v' ρ' w' h1 h2 h3 => ?_))
    exact ih hK ρ' _ w' (put_ER (fun t => (hE t).mono h3.ext) h1 (fun d h => by rw [hn]; exact (opsOk_mem hok ho).1 d h)) h2 (fun g hg => (hG g hg).mono h3.ext) (hst.trans h3) (by rw [put_size]; exact hn) (by rw [put_defers']; exact hd)

def AfterD (n : Nat) (ρ : Nat → Option Loc) (S : Mem) (w : World) (x : Xit) (e' : Env) (S' : Mem) (Ds : List ADef) (ex : Exit) (a' : Act) (w' : World) : Prop :=
  ∃ ρ', XR ρ' x ex ∧ ER ρ' e' a' ∧ SR ρ' S' w' ∧ Stp ρ S w ρ' S' w' ∧ a'.tmps.size = n ∧ DRs ρ' Ds a'.defers
variable {Ext : FuncId → List Value → Mem → Outc → Mem → Prop}
theorem DRun.sim (hm : P.follows .mixedOrders = true) (hext : ∀ f args S out S', Ext f args S out S' → CallSim P G f args S out S') {c : Code} {e : Env} {S : Mem} {Ds : List ADef} {x : Xit} {e' : Env} {S' : Mem} {Ds' : List ADef}
    (h : DRun P G Ext c e S Ds x e' S' Ds') : ∀ (n : Nat) (ρ : Nat → Option Loc) (a : Act) (w : World), codeOk P n G c = true → ER ρ e a → SR ρ S w → Glob G ρ → a.tmps.size = n → DRs ρ Ds a.defers → c.wp P (AfterD n ρ S w x e' S' Ds') a w := by
  induction h with
  | @code c e S ds x e' S' h =>
    intro n ρ a w hok hE hS hG hn hD
    refine wp_mono ((h.sim hm hext) n ρ a w hok hE hS hG hn).1 fun ex a' w' ⟨ρ', q1, q2, q3, q4, q5, q6⟩ => ⟨ρ', q1, q2, q3, q4, q5, ?_⟩
    rw [q6]; exact hD.mono q4.ext
  | @seq a b e S ds e1 S1 ds1 x e' S' ds' h k ih1 ih2 =>
    intro n ρ a w hok hE hS hG hn hD
    simp only [codeOk, Bool.and_eq_true] at hok
    refine wp_seq (wp_mono (ih1 n ρ a w hok.1 hE hS hG hn hD) fun ex a1 w1 hA => ?_)
    obtain ⟨ρ1, q1, q2, q3, q4, q5, q6⟩ := hA
    cases ex with
    | normal => exact wp_mono (ih2 n ρ1 a1 w1 hok.2 q2 q3 (hG.mono q4.ext) q5 q6) fun ex a2 w2 ⟨ρ2, r1, r2, r3, r4, r5⟩ => ⟨ρ2, r1, r2, r3, q4.trans r4, r5⟩
    | _ => exact q1.elim
  | @seqOut a b e S ds x e' S' ds' h hx ih =>
    intro n ρ a w hok hE hS hG hn hD
    simp only [codeOk, Bool.and_eq_true] at hok
    refine wp_seq (wp_mono (ih n ρ a w hok.1 hE hS hG hn hD) fun ex a1 w1 hA => ?_)
    obtain ⟨ρ1, q1, q2⟩ := hA
    exact then_out (q1.notNormal hx) ⟨ρ1, q1, q2⟩
  | @defer id ops m e S ds e1 S1 o c fv f first captured hm' h ho hw hd hc hf =>
    intro n ρ a w hok hE hS hG hn hD
    simp only [codeOk, Bool.and_eq_true] at hok
    refine wp_region ?_
    rw [hm', List.range_succ]
    refine Tr.runApp (ds := a.defers) hok.1 (h.sim hm hext) (ρ0 := ρ) (S0 := S) (w0 := w) (fun ρ' a' w' q1 q2 q3 q4 q5 => ?_) ρ a w hE hS hG (Stp.refl _ _ _) hn rfl
    have hG' := hG.mono q3.ext
    simp only [wpOps, ho]
    rw [wanted_eq q4 hok.1 (fun t _ => q1 t), hw]
    simp only [if_true]
    have hev := fun x hx => eval_VR (e := e1) (a := a') hG' ((opsOk_mem hok.1 ho).2 x hx) (fun t _ => q1 t)
    have m0 := hev fv (by simp [hd, Op.operands, Call.operands, hc])
    rw [hf] at m0
    obtain ⟨first', captured', hfe, hl1, hl2⟩ : ∃ f2 c2, a'.eval fv = .func (.func f) f2 c2 ∧ LR ρ' first.toList f2.toList ∧ LR ρ' captured.toList c2.toList := by
      generalize a'.eval fv = u at m0
      cases m0 with
      | func _ _ f2 _ c2 r1 r2 r3 r4 => exact ⟨f2, c2, rfl, ⟨by simpa using r1, fun i v v' x y => r3 i v v' (by simpa using x) (by simpa using y)⟩, ⟨by simpa using r2, fun i v v' x y => r4 i v v' (by simpa using x) (by simpa using y)⟩⟩
    have hl3 : LR ρ' (c.args.toList.map e1.eval) (c.args.toList.map a'.eval) := by
      refine ⟨by simp, fun i v v' x y => ?_⟩
      rw [List.getElem?_map, Option.map_eq_some_iff] at x y
      obtain ⟨q, hq, rfl⟩ := x
      obtain ⟨q', hq', rfl⟩ := y
      rw [hq] at hq'; cases hq'
      exact hev q (by simp [hd, Op.operands, Call.operands, hc]; right; exact List.mem_of_getElem? hq |> fun h => by simpa using h)
    have hrun : (execOp a'.eval o).run P w' = .ok (.defer { target := .fn (.func f) captured', args := first' ++ c.args.map a'.eval }) w' := by
      simp only [execOp, hd, resolve, hc, Sem.run_bind, Deferred.ofValue, hfe, Sem.run_pure, Result.andThen_ok]
    refine .inl ?_
    unfold Oper.wp
    rw [hrun]
    show AfterD n ρ S w .nrm (e1.put o.dst undef) S1 _ .normal _ w'
    refine ⟨ρ', trivial, ?_, q2, q3, by rw [put_size]; exact q4, ?_⟩
    · exact put_ER (a := { a' with defers := _ :: a'.defers }) q1 (flat_VR ρ' undef_flat) (fun d h => by show d < a'.tmps.size; rw [q4]; exact (opsOk_mem hok.1 ho).1 d h)
    · rw [put_defers']
      refine .cons ⟨captured', rfl, ?_⟩ (by rw [q5]; exact hD.mono q3.ext)
      simpa using (hl1.append hl3).append hl2

/-- how a function is being left -/
inductive AMode where
  | ret | pan (v : Value)
def MR (ρ : Nat → Option Loc) : AMode → FrameMode → Prop
  | .ret, .returning => True
  | .pan v, .panicking ch => ∃ v', VR ρ v v' ∧ ch = [{ v := v', recovered := false }]
  | _, _ => False
theorem MR.mono {ρ ρ' : Nat → Option Loc} (hs : Sub ρ ρ') {m : AMode} {u : FrameMode} (h : MR ρ m u) : MR ρ' m u := by
  cases m <;> cases u <;> first | exact h | (obtain ⟨v', h1, h2⟩ := h; exact ⟨v', h1.mono hs, h2⟩)
theorem MR.ne {ρ : Nat → Option Loc} {m : AMode} {u : FrameMode} (h : MR ρ m u) : u ≠ .run := by rintro rfl; cases m <;> exact h
theorem MR.settle {ρ : Nat → Option Loc} {m : AMode} {u : FrameMode} (h : MR ρ m u) : settle u = u := by
  cases m <;> cases u <;> first | rfl | exact h.elim | (obtain ⟨v', h1, rfl⟩ := h; rfl)
/-- what a deferred call does -/
def DSim (P : Program) (G : Nat) (f : FuncId) (args : List Value) (m : AMode) (S : Mem) (m' : AMode) (S' : Mem) : Prop :=
  (∃ fn, P.funcs[f]? = some fn ∧ fn.name ≠ "runtime.NumGoroutine" ∧ fn.body.isSome = true) ∧
  ∀ (ρ : Nat → Option Loc) (args' : List Value) (w : World) (u : FrameMode), LR ρ args args' → SR ρ S w → Glob G ρ → MR ρ m u →
    CallsD P f args'.toArray u w fun en u' w' => ∃ ρ', (∃ vv, en = .returned vv) ∧ MR ρ' m' (Go.settle u') ∧ SR ρ' S' w' ∧ Stp ρ S w ρ' S' w'
/-- the deferred calls, the last one first, and the end -/
inductive ALv (P : Program) (G : Nat) (fn : Func) (e : Env) : List ADef → AMode → Mem → Outc → Mem → Prop
  | ret {S v} (h : aresults P fn e S = some v) : ALv P G fn e [] .ret S (.ret v) S
  | pan (v S) : ALv P G fn e [] (.pan v) S (.pan v) S
  | cons {D ds m S m' S1 out S'} (h : DSim P G D.f D.args m S m' S1) (k : ALv P G fn e ds m' S1 out S') : ALv P G fn e (D :: ds) m S out S'
theorem ALv.sim {fn : Func} {e : Env} {Ds : List ADef} {m : AMode} {S : Mem} {out : Outc} {S' : Mem} (h : ALv P G fn e Ds m S out S') : ∀ (ρ0 : Nat → Option Loc) (S0 : Mem) (w0 : World) (ρ : Nat → Option Loc) (a : Act) (ds : List Deferred) (w : World) (u : FrameMode),
    ER ρ e a → DRs ρ Ds ds → SR ρ S w → Glob G ρ → MR ρ m u → Stp ρ0 S0 w0 ρ S w → Leaves P fn a.tmps (fun en w' => ∃ ρ', OR ρ' out en ∧ SR ρ' S' w' ∧ Stp ρ0 S0 w0 ρ' S' w') ds u w := by
  induction h with
  | @ret S v h =>
    intro ρ0 S0 w0 ρ a ds w u hE hD hS hG hM hst
    cases hD
    cases u with
    | returning =>
      obtain ⟨v', hv', hrun⟩ := results_sound (P := P) hE hS h
      exact ⟨v', hrun, ρ, hv', hS, hst⟩
    | _ => exact hM.elim
  | pan v S =>
    intro ρ0 S0 w0 ρ a ds w u hE hD hS hG hM hst
    cases hD
    cases u with
    | panicking ch => exact ⟨ρ, hM, hS, hst⟩
    | _ => exact hM.elim
  | @cons D ds m S m' S1 out S' h k ih =>
    intro ρ0 S0 w0 ρ a ds' w u hE hD hS hG hM hst
    cases hD with
    | @cons _ d _ ds'' h1 h2 =>
      obtain ⟨cap, ht, hl⟩ := h1
      obtain ⟨⟨fn', hf', hn', hb'⟩, hsim⟩ := h
      obtain ⟨tgt, dargs⟩ := d
      dsimp only at ht hl
      subst ht
      have hnm : (fn'.name == "runtime.NumGoroutine") = false := by simpa using hn'
      have hbn : fn'.body.isNone = false := by cases hb : fn'.body <;> simp [hb] at hb' ⊢
      refine leaves_cons (f := D.f) (args := dargs ++ cap) hM.ne (by simp only [invoke, callFunc, Sem.run_bind, run_program, hf', hnm, hbn, Result.andThen_ok, Bool.false_eq_true, if_false, Sem.run_pure]) ?_
      have hc := hsim ρ (dargs.toList ++ cap.toList) w u hl hS hG hM
      rw [show (dargs.toList ++ cap.toList).toArray = dargs ++ cap by simp] at hc
      refine hc.mono fun en u' w' ⟨ρ', ⟨vv, he⟩, r1, r2, r3⟩ => ?_
      subst he
      exact ih ρ0 S0 w0 ρ' a ds'' w' _ (fun t => (hE t).mono r3.ext) (h2.mono r3.ext) r2 (hG.mono r3.ext) r1 (hst.trans r3)
def modeOf : Xit → Option AMode
  | .nrm | .ret => some .ret
  | .pan v => some (.pan v)
  | _ => none
/-- what recover hands out -/
def recovered : AMode → Value
  | .ret => .nilIface
  | .pan v => v
end
end Go.Proofs.YtbdnkneedengcaaGreatDoor

/- Calls that return or panic, in the form of weakest preconditions. Conditions: none. -/
set_option linter.unusedSimpArgs false
set_option linter.unusedVariables false
namespace Go.Proofs.YtbdnkneedengcaaGreatDoor
open Go

/-- a call that ends somehow -/
def CO (P : Program) (G : Nat) (Ext : FuncId → List Value → Mem → Outc → Mem → Prop) (f : FuncId) (args : List Value) (S : Mem) (R : Outc → Mem → Prop) : Prop := ∃ out S', Ex P G Ext (.j (.call f args S out S')) ∧ R out S'
/-- what is asked where a function's text ends -/
def XQ (P : Program) (fn : Func) (R : Outc → Mem → Prop) : Xit → Env → Mem → Prop
  | .nrm, e, S => ∃ v, aresults P fn e S = some v ∧ R (.ret v) S
  | .ret, e, S => ∃ v, aresults P fn e S = some v ∧ R (.ret v) S
  | .pan v, _, S => R (.pan v) S
  | _, _, _ => False
section
variable {P : Program} {G : Nat} {Ext : FuncId → List Value → Mem → Outc → Mem → Prop} {e : Env} {S : Mem} {fl : Bool} {ops : Array Oper} {K : Kont}
variable {rest : List Oper} {dst : Option Tmp} {ty : TypeId} {pos : String} {af : Array Edge} {gd : Option (Nat × Bool)}
theorem CO.fn {f : FuncId} {fn : Func} {c : Code} {args : List Value} {R : Outc → Mem → Prop} (hf : P.funcs[f]? = some fn) (hb : fn.body = some c) (hok : fnOk P G fn c = true) (ha : Nat.ble args.length fn.ntmps = true)
    (h : W P G Ext c (Env.of args) S (XQ P fn R)) : CO P G Ext f args S R := by
  obtain ⟨x, e', S', h1, hx⟩ := h
  have hal := Nat.le_of_ble_eq_true ha
  cases x with
  | nrm => obtain ⟨v, hr, hR⟩ := hx; exact ⟨.ret v, S', .fn hf hb hok hal h1 (.inl rfl) hr, hR⟩
  | ret => obtain ⟨v, hr, hR⟩ := hx; exact ⟨.ret v, S', .fn hf hb hok hal h1 (.inr rfl) hr, hR⟩
  | pan v => exact ⟨.pan v, S', .fnPan hf hb hok hal h1, hx⟩
  | _ => exact hx.elim
theorem CO.mono {f : FuncId} {args : List Value} {R R' : Outc → Mem → Prop} (h : CO P G Ext f args S R) (hq : ∀ o S, R o S → R' o S) : CO P G Ext f args S R' := let ⟨o, S', h1, h2⟩ := h; ⟨o, S', h1, hq _ _ h2⟩
theorem C.co {f : FuncId} {args : List Value} {R : Value → Mem → Prop} (h : C P G Ext f args S R) : CO P G Ext f args S fun o S' => ∃ v, o = .ret v ∧ R v S' := let ⟨v, S', h1, h2⟩ := h; ⟨.ret v, S', h1, v, rfl, h2⟩
theorem CO.c {f : FuncId} {args : List Value} {R : Value → Mem → Prop} (h : CO P G Ext f args S fun o S' => ∃ v, o = .ret v ∧ R v S') : C P G Ext f args S R := by
  obtain ⟨o, S', h1, v, rfl, h2⟩ := h
  exact ⟨v, S', h1, h2⟩
/-- a call behind which the run goes on, or panics -/
def GoP1 (K : Kont) (fl : Bool) (e : Env) (S : Mem) (go : Value → Mem → Prop) : Outc → Mem → Prop
  | .ret v, S1 => (fl = true → Cons S S1) ∧ go v S1
  | .pan v, S1 => K.pan v e S1
theorem L.co {op : Op} {f : FuncId} {args : List Value} {R : Outc → Mem → Prop} (hcall : CO P G Ext f args S R) (hw : awanted ops ⟨dst, op, ty, pos, af, gd⟩ e = true) (hc : acall ⟨dst, op, ty, pos, af, gd⟩ e.eval = some (f, args))
    (h : ∀ o S1, R o S1 → GoP1 K fl e S (fun v S1 => L P G Ext fl ops rest (e.put dst v) S1 K) o S1) : L P G Ext fl ops (⟨dst, op, ty, pos, af, gd⟩ :: rest) e S K := by
  obtain ⟨o, S1, h1, h2⟩ := hcall
  have h3 := h o S1 h2
  cases o with
  | ret v => exact L.call hw hc ⟨v, S1, h1, h3⟩
  | pan v => exact L.callPan (R := fun v' S' => v' = v ∧ S' = S1) ⟨v, S1, h1, rfl, rfl⟩ hw hc (by rintro _ _ ⟨rfl, rfl⟩; exact h3)
end
/-- contracts that are met by themselves -/
def Known (P : Program) (G : Nat) : FuncId → List Value → Mem → Outc → Mem → Prop := fun f args S out S' => CallSim P G f args S out S'
end Go.Proofs.YtbdnkneedengcaaGreatDoor

/- Walks through functions that defer calls. Conditions: none. -/
set_option linter.unusedSimpArgs false
set_option linter.unusedVariables false
namespace Go.Proofs.YtbdnkneedengcaaGreatDoor
open Go

/-- a run of code that may defer calls -/
def DW (P : Program) (G : Nat) (Ext : FuncId → List Value → Mem → Outc → Mem → Prop) (c : Code) (e : Env) (S : Mem) (Ds : List ADef) (Q : Xit → Env → Mem → List ADef → Prop) : Prop :=
  ∃ x e' S' Ds', DRun P G Ext c e S Ds x e' S' Ds' ∧ Q x e' S' Ds'
def DThn (K : Env → Mem → List ADef → Prop) (Q : Xit → Env → Mem → List ADef → Prop) : Xit → Env → Mem → List ADef → Prop
  | .nrm, e, S, Ds => K e S Ds
  | x, e, S, Ds => Q x e S Ds
section
variable {P : Program} {G : Nat} {Ext : FuncId → List Value → Mem → Outc → Mem → Prop} {Q : Xit → Env → Mem → List ADef → Prop} {e : Env} {S : Mem} {Ds : List ADef}
theorem DW.code {c : Code} (h : W P G Ext c e S fun x e S => Q x e S Ds) : DW P G Ext c e S Ds Q := let ⟨x, e', S', h1, h2⟩ := h; ⟨x, e', S', Ds, .code h1, h2⟩
theorem DW.seq {a b : Code} (h : DW P G Ext a e S Ds (DThn (fun e S Ds => DW P G Ext b e S Ds Q) Q)) : DW P G Ext (.seq a b) e S Ds Q := by
  obtain ⟨x, e1, S1, D1, h1, h2⟩ := h
  cases x with
  | nrm => obtain ⟨y, e2, S2, D2, h3, h4⟩ := h2; exact ⟨y, e2, S2, D2, .seq h1 h3, h4⟩
  | _ => exact ⟨_, e1, S1, D1, .seqOut h1 (by simp), h2⟩
/-- a call is deferred -/
theorem DW.defer {id : Nat} {c : Call} {fv : Operand} {f : FuncId} {first captured : Array Value} {dst : Option Tmp} {ty : TypeId} {pos : String} {af : Array Edge} (hc : c.callee = .value fv) (hf : e.eval fv = .func (.func f) first captured)
    (h : Q .nrm (e.put dst undef) S (⟨f, first.toList ++ c.args.toList.map e.eval ++ captured.toList⟩ :: Ds)) : DW P G Ext (.region id #[⟨dst, .defer c, ty, pos, af, none⟩] false) e S Ds Q :=
  ⟨_, _, _, _, .defer (n := 0) rfl (.nil _ _ _ _) rfl rfl rfl hc hf, h⟩
end
/-- what is known, used -/
theorem C.known {P : Program} {G : Nat} {f : FuncId} {args : List Value} {S : Mem} {R : Value → Mem → Prop} (h : ∃ v S', Known P G f args S (.ret v) S' ∧ R v S') : C P G (Known P G) f args S R := let ⟨v, S', h1, h2⟩ := h; ⟨v, S', .ext h1, h2⟩
end Go.Proofs.YtbdnkneedengcaaGreatDoor

/- A region that draws its order, where loads and stores are unordered but go to different rows. Conditions: none. -/
set_option linter.unusedSimpArgs false
set_option linter.unusedVariables false
namespace Go.Proofs.YtbdnkneedengcaaGreatDoor
open Go
section
variable {P : Program} {G : Nat}
structure Order2 (P : Program) (ops : Array Oper) : Prop where
  less : ∀ {j : Nat} {o : Oper} {e : Edge}, ops[j]? = some o → e ∈ o.after → Region.binds .any e = true → e.on < j
  uniq : ∀ {i j : Nat} {oi oj : Oper} {d : Tmp}, ops[i]? = some oi → ops[j]? = some oj → i ≠ j → oi.dst = some d → oj.dst ≠ some d
  slot : ∀ {i j : Nat} {oi oj : Oper} {d : Tmp}, ops[i]? = some oi → ops[j]? = some oj → i ≠ j → oi.dst = some d → d ∈ oj.looksAt ops → Anc ops i j ∨ Anc ops j i
  effs : ∀ {i j : Nat} {oi oj : Oper}, ops[i]? = some oi → ops[j]? = some oj → i ≠ j → 2 ≤ opKind P oi → 2 ≤ opKind P oj → Anc ops i j ∨ Anc ops j i
theorem Order2.lt {ops : Array Oper} (h : Order2 P ops) {i j : Nat} (ha : Anc ops i j) : i < j := by
  induction ha with
  | edge ho he hb => exact h.less ho he hb
  | trans _ _ h1 h2 => exact Nat.lt_trans h1 h2
set_option maxHeartbeats 1000000 in
/-- a region that draws, by its run in the text's order; what a load reads, no unordered effect touches -/
theorem drawnR {ops : Array Oper} {n : Nat} (hord : Order2 P ops) (hok : opsOk n G ops = true) {e e' : Env} {S S' : Mem} {E : Nat → Env} {M : Nat → Mem} {V : Nat → Value} (hE0 : E 0 = e) (hM0 : M 0 = S) (hEN : E ops.size = e') (hMN : M ops.size = S')
    (hfact : ∀ (j : Nat) (o : Oper), ops[j]? = some o → Fact P G false ops E M V j o)
    (hloads : ∀ (i : Nat) (o : Oper), ops[i]? = some o → opKind P o = 1 → ∃ x ∈ o.op.operands, ∃ b, (∀ ρ u, VR ρ ((E i).eval x) u → ∃ c, At ρ b c) ∧ b < (M i).length ∧ (∀ S2 : Mem, S2[b]? = (M i)[b]? → aload P o (E i).eval S2 = some (V i)) ∧
      ∀ (k : Nat) (ok : Oper), ops[k]? = some ok → 2 ≤ opKind P ok → ¬ (Anc ops k i ∨ Anc ops i k) → (M (k + 1))[b]? = (M k)[b]?)
    {Q : Exit → Act → World → Prop} {ds : List Deferred} {ρ0 : Nat → Option Loc} {S0 : Mem} {w0 : World} (hK : Reach G n ds ρ0 S0 w0 e' S' (Q .normal))
    {ρ : Nat → Option Loc} {a : Act} {w : World} (hE : ER ρ e a) (hS : SR ρ S w) (hG : Glob G ρ) (hst : Stp ρ0 S0 w0 ρ S w) (hn : a.tmps.size = n) (hd : a.defers = ds) :
    wpAny P .any ops Q ops.size (Array.replicate ops.size false) a w := by
  have fact : ∀ {j : Nat} {o : Oper}, ops[j]? = some o → Fact P G false ops E M V j o := fun hj => hfact _ _ hj
  have lt : ∀ {j : Nat} {o : Oper}, ops[j]? = some o → j < ops.size := fun hj => (Array.getElem?_eq_some_iff.1 hj).1
  have getO : ∀ {j : Nat}, j < ops.size → ∃ o, ops[j]? = some o := fun hj => ⟨_, Array.getElem?_eq_getElem hj⟩
  -- memory stands still where nothing acts
  have mconst1 : ∀ {j : Nat} {o : Oper}, ops[j]? = some o → ¬ 2 ≤ opKind P o → M (j + 1) = M j := fun hj hk => by
    rcases (fact hj).2 with ⟨_, _, h⟩ | ⟨_, ⟨_, h⟩ | ⟨_, h⟩ | ⟨_, h, _⟩⟩
    · exact h
    · exact h
    · exact h
    · exact absurd h hk
  have mconst : ∀ (d a : Nat), a + d ≤ ops.size → (∀ k o, a ≤ k → k < a + d → ops[k]? = some o → ¬ 2 ≤ opKind P o) → M (a + d) = M a := by
    intro d
    induction d with
    | zero => intro a _ _; rfl
    | succ d ih =>
      intro a ha hk
      obtain ⟨o, ho⟩ := getO (j := a + d) (by omega)
      have := mconst1 ho (hk _ _ (by omega) (by omega) ho)
      rw [← Nat.add_assoc, this]
      exact ih a (by omega) (fun k o h1 h2 => hk k o h1 (by omega))
  have mrow : ∀ (b d a : Nat), a + d ≤ ops.size → (∀ k o, a ≤ k → k < a + d → ops[k]? = some o → 2 ≤ opKind P o → (M (k + 1))[b]? = (M k)[b]?) → (M (a + d))[b]? = (M a)[b]? := by
    intro b d
    induction d with
    | zero => intro a _ _; rfl
    | succ d ih =>
      intro a ha hk
      obtain ⟨o, ho⟩ := getO (j := a + d) (by omega)
      have h0 := ih a (by omega) (fun k o h1 h2 => hk k o h1 (by omega))
      rw [← h0, ← Nat.add_assoc]
      by_cases h2 : 2 ≤ opKind P o
      · exact hk _ _ (by omega) (by omega) ho h2
      · rw [mconst1 ho h2]
  -- what a slot holds
  have slotMiss : ∀ (j t : Nat), j ≤ ops.size → (∀ (k : Nat) (o : Oper), k < j → ops[k]? = some o → o.dst ≠ some t) → E j t = e t := by
    intro j
    induction j with
    | zero => intro t _ _; rw [hE0]
    | succ j ih =>
      intro t hj hk
      obtain ⟨o, ho⟩ := getO (j := j) (by omega)
      rw [(fact ho).1]
      have hne := hk j o (by omega) ho
      have : (E j).put o.dst (V j) t = E j t := by
        unfold Env.put
        split
        · rename_i d hd'
          rw [if_neg (fun h => hne (by rw [hd', h]))]
        · rfl
      rw [this]
      exact ih t (by omega) (fun k o h1 => hk k o (by omega))
  have slotHit : ∀ (j k t : Nat) (o : Oper), j ≤ ops.size → k < j → ops[k]? = some o → o.dst = some t → E j t = V k := by
    intro j
    induction j with
    | zero => intro k t o _ hk; omega
    | succ j ih =>
      intro k t o hj hk ho hdst
      obtain ⟨oj, hoj⟩ := getO (j := j) (by omega)
      rw [(fact hoj).1]
      by_cases hkj : k = j
      · subst hkj
        rw [ho] at hoj; cases hoj
        simp [Env.put, hdst]
      · have hne := hord.uniq ho hoj hkj hdst
        have : (E j).put oj.dst (V j) t = E j t := by
          unfold Env.put
          split
          · rename_i d hd'
            rw [if_neg (fun h => hne (by rw [hd', h]))]
          · rfl
        rw [this]
        exact ih k t o (by omega) (by omega) ho hdst
  -- the run
  have main : ∀ (fuel : Nat) (listed : Array Bool) (ρ : Nat → Option Loc) (m : Nat) (a : Act) (w : World), listed.toList.count false = fuel → Inv P G ops e M V ρ0 S0 w0 n ds ρ m listed a w → wpAny P .any ops Q fuel listed a w := by
    intro fuel
    induction fuel with
    | zero =>
      intro listed ρ m a w hcount I
      have all : ∀ k, k < ops.size → listed.getD k false = true := fun k hk => by
        rw [List.count_eq_zero] at hcount
        have hk' : k < listed.size := by rw [I.lsize]; exact hk
        have hmem : listed[k] ∈ listed.toList := by simp
        simp only [Array.getD_eq_getD_getElem?, Array.getElem?_eq_getElem hk', Option.getD_some]
        cases hb : listed[k] with
        | true => rfl
        | false => rw [hb] at hmem; exact absurd hmem hcount
      have hMm : M m = S' := by
        have := mconst (ops.size - m) m (by have := I.hm; omega) (fun k o h1 h2 ho hk => by
          have := (I.eff k o ho hk).1 (all k (lt ho)); omega)
        rw [show m + (ops.size - m) = ops.size from by have := I.hm; omega] at this
        rw [← this, hMN]
      refine ⟨?_, hK ρ a w ?_ (hMm ▸ I.sr) (hMm ▸ I.stp) I.size I.def_⟩
      · cases hr : Region.ready .any ops listed with
        | nil => rfl
        | cons i r =>
          have hi : i ∈ Region.ready .any ops listed := by rw [hr]; simp
          obtain ⟨h0, o, ho, _⟩ := mem_ready.1 hi
          have := all i (lt ho)
          have hi' : i < listed.size := by rw [I.lsize]; exact lt ho
          simp only [Array.getD_eq_getD_getElem?, Array.getElem?_eq_getElem hi', Option.getD_some] at h0 this
          rw [h0] at this; cases this
      · intro t
        rw [← hEN]
        by_cases hex : ∃ (k : Nat) (o : Oper), ops[k]? = some o ∧ o.dst = some t
        · obtain ⟨k, o, ho, hdst⟩ := hex
          rw [slotHit _ k t o (Nat.le_refl _) (lt ho) ho hdst]
          exact I.hit k o t ho (all k (lt ho)) hdst
        · rw [slotMiss _ t (Nat.le_refl _) (fun k o _ ho hdst => hex ⟨k, o, ho, hdst⟩)]
          exact I.miss t (fun k o ho _ hdst => hex ⟨k, o, ho, hdst⟩)
    | succ fuel ih =>
      intro listed ρ m a w hcount I
      refine ⟨fun hnil => ?_, fun i hi => ?_⟩
      · -- somebody may always come up
        exfalso
        have hmem : false ∈ listed.toList := by
          have : 0 < listed.toList.count false := by omega
          exact List.count_pos_iff.1 this
        obtain ⟨k, hk⟩ := List.mem_iff_getElem?.1 hmem
        have hleast : ∀ k : Nat, listed[k]? = some false → ∃ i, i ∈ Region.ready .any ops listed := by
          intro k
          induction k using Nat.strongRecOn with
          | _ k ihk =>
            intro hk
            have hks : k < ops.size := by rw [← I.lsize]; exact (Array.getElem?_eq_some_iff.1 hk).1
            obtain ⟨o, ho⟩ := getO hks
            by_cases hall : ∀ x ∈ o.after, Region.binds .any x = true → listed.getD x.on false = true
            · exact ⟨k, mem_ready.2 ⟨by simp [hk], o, ho, hall⟩⟩
            · simp only [Classical.not_forall] at hall
              obtain ⟨x, hx, hb, hxl⟩ := hall
              have hlt := hord.less ho hx hb
              refine ihk x.on hlt ?_
              have hxs : x.on < listed.size := by rw [I.lsize]; omega
              rw [Array.getElem?_eq_getElem hxs]
              simp only [Array.getD_eq_getD_getElem?, Array.getElem?_eq_getElem hxs, Option.getD_some] at hxl
              simpa using hxl
        obtain ⟨i, hi⟩ := hleast k (by simpa using hk)
        rw [hnil] at hi; cases hi
      · obtain ⟨h0, o, ho, hall⟩ := mem_ready.1 hi
        have hisz := lt ho
        have hil : i < listed.size := by rw [I.lsize]; exact hisz
        have hif : listed[i]? = some false := by
          rw [Array.getElem?_eq_getElem hil]
          simp only [Array.getD_eq_getD_getElem?, Array.getElem?_eq_getElem hil, Option.getD_some] at h0
          rw [h0]
        have hin : ¬ listed.getD i false = true := by simp [hif]
        have hpre : ∀ {k : Nat}, Anc ops k i → listed.getD k false = true := fun ha => I.ancReady ho hall ha
        have hpost : ∀ {k : Nat}, Anc ops i k → ¬ listed.getD k false = true := fun ha hk => hin (I.anc ha hk)
        -- the slots that it looks at
        have hlook : ∀ t, t ∈ o.looksAt ops → VR ρ (E i t) (a.tmps.getD t undef) := by
          intro t ht
          by_cases hex : ∃ (k : Nat) (ok : Oper), ops[k]? = some ok ∧ ok.dst = some t ∧ k ≠ i
          · obtain ⟨k, ok, hok', hdst, hne⟩ := hex
            rcases hord.slot hok' ho hne hdst ht with hA | hA
            · rw [slotHit i k t ok (by omega) (hord.lt hA) hok' hdst]
              exact I.hit k ok t hok' (hpre hA) hdst
            · have hki := hord.lt hA
              rw [slotMiss i t (by omega) (fun q oq hq hoq hdq => hord.uniq hoq hok' (by omega) hdq hdst)]
              refine I.miss t (fun q oq hoq hql hdq => ?_)
              by_cases hqk : q = k
              · subst hqk; exact hpost hA hql
              · exact hord.uniq hoq hok' hqk hdq hdst
          · rw [slotMiss i t (by omega) (fun q oq hq hoq hdq => hex ⟨q, oq, hoq, hdq, by omega⟩)]
            refine I.miss t (fun q oq hoq hql hdq => hex ⟨q, oq, hoq, hdq, fun hqi => ?_⟩)
            subst hqi; exact hin hql
        have hopv : ∀ x ∈ o.op.operands, VR ρ ((E i).eval x) (a.eval x) := fun x hx => eval_VR I.gl ((opsOk_mem hok ho).2 x hx) (fun t ht => hlook t (by
          subst ht
          simp only [Oper.looksAt, List.mem_append, List.mem_filterMap]
          exact .inl ⟨.tmp t, by simpa using hx, rfl⟩))
        have hwant : Region.wanted o (yielded ops a.tmps) = awanted ops o (E i) := wanted_eq I.size hok hlook
        have hdstlt : ∀ d, o.dst = some d → d < a.tmps.size := fun d h => by rw [I.size]; exact (opsOk_mem hok ho).1 d h
        have hcnt : (listed.setIfInBounds i true).toList.count false = fuel := by
          have := count_set_true listed.toList i (by simpa using hif)
          rw [Array.toList_setIfInBounds]
          omega
        have hset : ∀ k, (listed.setIfInBounds i true).getD k false = true ↔ listed.getD k false = true ∨ k = i := fun k => by
          by_cases hki : i = k
          · subst hki; simp [hil]
          · rw [getD_set_ne false hki]; constructor
            · exact .inl
            · rintro (h | h)
              · exact h
              · exact absurd h.symm hki
        -- how it goes on, once it has been carried out
        have go : ∀ (v' : Value) (ρ' : Nat → Option Loc) (m' : Nat) (w' : World), VR ρ' (V i) v' → m' ≤ ops.size → SR ρ' (M m') w' → Sub ρ ρ' → Stp ρ0 S0 w0 ρ' (M m') w' →
            (∀ (k : Nat) (ok : Oper), ops[k]? = some ok → 2 ≤ opKind P ok → ((listed.getD k false = true ∨ k = i) ↔ k < m')) → wpAny P .any ops Q fuel (listed.setIfInBounds i true) (a.put o.dst v') w' := by
          intro v' ρ' m' w' hv hm' hs hsub hstp heff
          refine ih _ ρ' m' _ w' hcnt ⟨fun j oj x hoj hjl hx hb => ?_, fun k ok t hok' hkl hdst => ?_, fun t hmiss => ?_, hm', fun k ok hok' hk => ?_, hs, fun g hg => (I.gl g hg).mono hsub, hstp, by rw [put_size]; exact I.size, by rw [put_defers']; exact I.def_, by simpa using I.lsize⟩
          · rw [hset] at hjl ⊢
            rcases hjl with hjl | rfl
            · exact .inl (I.closed j oj x hoj hjl hx hb)
            · rw [ho] at hoj; cases hoj; exact .inl (hall x hx hb)
          · by_cases hki : k = i
            · subst hki
              rw [ho] at hok'; cases hok'
              have hdl := hdstlt t hdst
              simp [Act.put, hdst, hdl]
              exact hv
            · rw [hset] at hkl
              have := (I.hit k ok t hok' (hkl.resolve_right hki) hdst).mono hsub
              have hne := hord.uniq hok' ho hki hdst
              rw [show (a.put o.dst v').tmps.getD t undef = a.tmps.getD t undef from ?_]
              · exact this
              · cases hd' : o.dst with
                | none => rfl
                | some d =>
                  simp only [Act.put, Array.getD_eq_getD_getElem?]
                  rw [Array.getElem?_setIfInBounds_ne (fun h => hne (by rw [hd', h]))]
          · have h1 : o.dst ≠ some t := hmiss i o ho ((hset i).2 (.inr rfl))
            have := (I.miss t (fun k ok hok' hkl => hmiss k ok hok' ((hset k).2 (.inl hkl)))).mono hsub
            rw [show (a.put o.dst v').tmps.getD t undef = a.tmps.getD t undef from ?_]
            · exact this
            · cases hd' : o.dst with
              | none => rfl
              | some d =>
                simp only [Act.put, Array.getD_eq_getD_getElem?]
                rw [Array.getElem?_setIfInBounds_ne (fun h => h1 (by rw [hd', h]))]
          · rw [hset]; exact heff k ok hok' hk
        -- where it acts on memory: memory is the text's
        have hact : 2 ≤ opKind P o → M m = M i ∧ ∀ (k : Nat) (ok : Oper), ops[k]? = some ok → 2 ≤ opKind P ok → ((listed.getD k false = true ∨ k = i) ↔ k < i + 1) := by
          intro hk2
          have hmi : m ≤ i := by
            rcases Nat.lt_or_ge i m with h9 | h9
            · exact absurd ((I.eff i o ho hk2).2 h9) hin
            · exact h9
          refine ⟨?_, fun k ok hok' hk => ?_⟩
          · have := mconst (i - m) m (by omega) (fun k ok h1 h2 hok' hk => by
              rcases hord.effs hok' ho (by omega) hk hk2 with hA | hA
              · have := (I.eff k ok hok' hk).1 (hpre hA); omega
              · have := hord.lt hA; omega)
            rw [show m + (i - m) = i from by omega] at this
            exact this.symm
          · by_cases hki : k = i
            · subst hki; exact ⟨fun _ => by omega, fun _ => .inr rfl⟩
            · rcases hord.effs hok' ho hki hk hk2 with hA | hA
              · have := hord.lt hA
                exact ⟨fun _ => by omega, fun _ => .inl (hpre hA)⟩
              · have := hord.lt hA
                exact ⟨fun hh => absurd (hh.resolve_right hki) (hpost hA), fun _ => by omega⟩
        have hquiet : ¬ 2 ≤ opKind P o → ∀ (k : Nat) (ok : Oper), ops[k]? = some ok → 2 ≤ opKind P ok → ((listed.getD k false = true ∨ k = i) ↔ k < m) := fun hk k ok hok' hk' => by
          rw [← I.eff k ok hok' hk']
          exact ⟨fun hh => hh.resolve_right (fun e => by subst e; rw [ho] at hok'; cases hok'; exact hk hk'), .inl⟩
        -- a step that leaves memory alone
        have same : ∀ (v' : Value), VR ρ (V i) v' → M (i + 1) = M i → wpAny P .any ops Q fuel (listed.setIfInBounds i true) (a.put o.dst v') w := fun v' hv hMi => by
          by_cases hk2 : 2 ≤ opKind P o
          · obtain ⟨h1, h2⟩ := hact hk2
            exact go v' ρ (i + 1) w hv (by omega) (by rw [hMi, ← h1]; exact I.sr) (Sub.refl _) (by rw [hMi, ← h1]; exact I.stp) h2
          · exact go v' ρ m w hv I.hm I.sr (Sub.refl _) I.stp (hquiet hk2)
        unfold wpOp
        simp only [ho]
        rw [hwant]
        rcases (fact ho).2 with ⟨hw, hV, hMi⟩ | ⟨hw, ⟨hp, hMi⟩ | ⟨hp, hMi⟩ | ⟨hp, hk2, _⟩⟩
        · rw [hw]
          simp only [Bool.false_eq_true, if_false]
          exact same undef (by rw [hV]; exact flat_VR ρ undef_flat) hMi
        · rw [hw]
          simp only [if_true]
          obtain ⟨v', hv', hrun⟩ := hp ρ a.eval hopv
          exact .inl (wp_value (hrun w) (same v' hv' hMi))
        · rw [hw]
          simp only [if_true]
          obtain ⟨hk1, _⟩ := aload_agree hp
          obtain ⟨x, hx, b, hb, hbl, hagree, hun⟩ := hloads i o ho hk1
          have hsame : (M m)[b]? = (M i)[b]? := by
            rcases Nat.lt_or_ge i m with him | him
            · have hc := mrow b (m - i) i (by have := I.hm; omega) (fun k ok h1 h2 hok' hk => by
                refine hun k ok hok' hk fun hA => ?_
                have hkl := (I.eff k ok hok' hk).2 (by omega)
                rcases hA with hA | hA
                · have := hord.lt hA; omega
                · exact hpost hA hkl)
              rw [show i + (m - i) = m from by omega] at hc
              exact hc
            · have hc := mrow b (i - m) m (by omega) (fun k ok h1 h2 hok' hk => by
                refine hun k ok hok' hk fun hA => ?_
                rcases hA with hA | hA
                · have := (I.eff k ok hok' hk).1 (hpre hA); omega
                · have := hord.lt hA; omega)
              rw [show m + (i - m) = i from by omega] at hc
              exact hc.symm
          obtain ⟨v', hv', hrun⟩ := aload_sound I.sr (hagree (M m) hsame) hopv
          exact .inl (wp_value hrun (same v' hv' hMi))
        · rw [hw]
          simp only [if_true]
          obtain ⟨h1, h2⟩ := hact hk2
          refine .inl (hp ρ a w _ _ hopv (h1 ▸ I.sr) I.gl fun v' ρ' w' q1 q2 q3 => ?_)
          exact go v' ρ' (i + 1) w' q1 (by omega) q2 q3.ext (Stp.trans (h1 ▸ I.stp) q3) h2
  refine main ops.size _ ρ 0 a w (by simp) ⟨fun j o x ho hl => ?_, fun k o t ho hl => ?_, fun t _ => hE t, Nat.zero_le _, fun k o ho _ => ?_, by rw [hM0]; exact hS, hG, by rw [hM0]; exact hst, hn, hd, by simp⟩
  · by_cases hj : j < ops.size
    · simp [hj] at hl
    · simp [hj] at hl
  · by_cases hk : k < ops.size
    · simp [hk] at hl
    · simp [hk] at hl
  · by_cases hk : k < ops.size
    · simp [hk]
    · simp [hk]
end
end Go.Proofs.YtbdnkneedengcaaGreatDoor

/- A region that draws its order, with one allocation that may come at any time. Conditions: none. -/
set_option linter.unusedSimpArgs false
set_option linter.unusedVariables false
namespace Go.Proofs.YtbdnkneedengcaaGreatDoor
open Go
section
variable {P : Program} {G : Nat}
/-- the state on the way; the slot X is not told -/
structure InvX (P : Program) (G : Nat) (ops : Array Oper) (e0 : Env) (M : Nat → Mem) (V : Nat → Value) (ρ0 : Nat → Option Loc) (S0 : Mem) (w0 : World) (n : Nat) (ds : List Deferred) (X : Option Tmp)
    (ρ : Nat → Option Loc) (m : Nat) (listed : Array Bool) (a : Act) (w : World) : Prop where
  closed : ∀ (j : Nat) (o : Oper) (x : Edge), ops[j]? = some o → listed.getD j false = true → x ∈ o.after → Region.binds .any x = true → listed.getD x.on false = true
  hit : ∀ (k : Nat) (o : Oper) (t : Tmp), ops[k]? = some o → listed.getD k false = true → o.dst = some t → X ≠ some t → VR ρ (V k) (a.tmps.getD t undef)
  miss : ∀ t, X ≠ some t → (∀ (k : Nat) (o : Oper), ops[k]? = some o → listed.getD k false = true → o.dst ≠ some t) → VR ρ (e0 t) (a.tmps.getD t undef)
  hm : m ≤ ops.size
  eff : ∀ (k : Nat) (o : Oper), ops[k]? = some o → 2 ≤ opKind P o → (listed.getD k false = true ↔ k < m)
  sr : SR ρ (M m) w
  gl : Glob G ρ
  stp : Stp ρ0 S0 w0 ρ (M m) w
  size : a.tmps.size = n
  def_ : a.defers = ds
  lsize : listed.size = ops.size
def ClosedL (ops : Array Oper) (listed : Array Bool) : Prop := ∀ (j : Nat) (o : Oper) (x : Edge), ops[j]? = some o → listed.getD j false = true → x ∈ o.after → Region.binds .any x = true → listed.getD x.on false = true
theorem ClosedL.anc {ops : Array Oper} {listed : Array Bool} (h : ClosedL ops listed) {i j : Nat} (ha : Anc ops i j) : listed.getD j false = true → listed.getD i false = true := by
  induction ha with
  | edge ho he hb => exact fun hj => h _ _ _ ho hj he hb
  | trans _ _ ih1 ih2 => exact fun hk => ih1 (ih2 hk)
theorem ClosedL.ready {ops : Array Oper} {listed : Array Bool} (h : ClosedL ops listed) {i j : Nat} {o : Oper} (ho : ops[j]? = some o) (hr : ∀ x ∈ o.after, Region.binds .any x = true → listed.getD x.on false = true) (ha : Anc ops i j) : listed.getD i false = true := by
  induction ha with
  | edge ho' he hb => rw [ho] at ho'; cases ho'; exact hr _ he hb
  | trans h1 h2 ih1 ih2 => exact h.anc h1 (ih2 ho)
structure Ord3 (P : Program) (ops : Array Oper) (A : Nat) : Prop where
  less : ∀ {j : Nat} {o : Oper} {e : Edge}, ops[j]? = some o → e ∈ o.after → Region.binds .any e = true → e.on < j
  uniq : ∀ {i j : Nat} {oi oj : Oper} {d : Tmp}, ops[i]? = some oi → ops[j]? = some oj → i ≠ j → oi.dst = some d → oj.dst ≠ some d
  slot : ∀ {i j : Nat} {oi oj : Oper} {d : Tmp}, ops[i]? = some oi → ops[j]? = some oj → i ≠ j → oi.dst = some d → d ∈ oj.looksAt ops → Anc ops i j ∨ Anc ops j i
  effs : ∀ {i j : Nat} {oi oj : Oper}, ops[i]? = some oi → ops[j]? = some oj → i ≠ j → i ≠ A → j ≠ A → 2 ≤ opKind P oi → 2 ≤ opKind P oj → Anc ops i j ∨ Anc ops j i
  late : ∀ {k : Nat} {ok : Oper}, ops[k]? = some ok → 2 ≤ opKind P ok → A < k → Anc ops A k
  wait : ∀ {j k : Nat} {oj ok : Oper} {e : Edge}, ops[j]? = some oj → e ∈ oj.after → Region.binds .any e = true → e.on = A → ops[k]? = some ok → 2 ≤ opKind P ok → k < A → Anc ops k j
theorem Ord3.lt {ops : Array Oper} {A : Nat} (h : Ord3 P ops A) {i j : Nat} (ha : Anc ops i j) : i < j := by
  induction ha with
  | edge ho he hb => exact h.less ho he hb
  | trans _ _ h1 h2 => exact Nat.lt_trans h1 h2
theorem Ord3.waits {ops : Array Oper} {A k i : Nat} {ok : Oper} (h : Ord3 P ops A) (ha : Anc ops A i) (hk : ops[k]? = some ok) (h2 : 2 ≤ opKind P ok) (hlt : k < A) : Anc ops k i := by
  generalize hA : A = A' at ha
  induction ha with
  | edge ho he hb => exact h.wait ho he hb hA.symm hk h2 hlt
  | trans h1 h2' ih1 ih2 => exact .trans (ih1 hA) h2'
/-- what an operation that may come up now is given -/
theorem InvX.opv {ops : Array Oper} {n A : Nat} (hord : Ord3 P ops A) (hok : opsOk n G ops = true) {e : Env} {E : Nat → Env} {M : Nat → Mem} {V : Nat → Value} (hE0 : E 0 = e)
    (hE1 : ∀ (j : Nat) (o : Oper), ops[j]? = some o → E (j + 1) = (E j).put o.dst (V j))
    {ds : List Deferred} {ρ0 : Nat → Option Loc} {S0 : Mem} {w0 : World} {X : Option Tmp} {ρ : Nat → Option Loc} {m : Nat} {listed : Array Bool} {a : Act} {w : World} (I : InvX P G ops e M V ρ0 S0 w0 n ds X ρ m listed a w)
    {i : Nat} {o : Oper} (ho : ops[i]? = some o) (hif : listed[i]? = some false) (hall : ∀ x ∈ o.after, Region.binds .any x = true → listed.getD x.on false = true)
    (hX : ∀ t, X = some t → t ∉ o.looksAt ops) : ∀ x ∈ o.op.operands, VR ρ ((E i).eval x) (a.eval x) := by
  have lt : ∀ {j : Nat} {o : Oper}, ops[j]? = some o → j < ops.size := fun hj => (Array.getElem?_eq_some_iff.1 hj).1
  have getO : ∀ {j : Nat}, j < ops.size → ∃ o, ops[j]? = some o := fun hj => ⟨_, Array.getElem?_eq_getElem hj⟩
  -- what a slot holds
  have slotMiss : ∀ (j t : Nat), j ≤ ops.size → (∀ (k : Nat) (o : Oper), k < j → ops[k]? = some o → o.dst ≠ some t) → E j t = e t := by
    intro j
    induction j with
    | zero => intro t _ _; rw [hE0]
    | succ j ih =>
      intro t hj hk
      obtain ⟨o, ho⟩ := getO (j := j) (by omega)
      rw [hE1 _ _ ho]
      have hne := hk j o (by omega) ho
      have : (E j).put o.dst (V j) t = E j t := by
        unfold Env.put
        split
        · rename_i d hd'
          rw [if_neg (fun h => hne (by rw [hd', h]))]
        · rfl
      rw [this]
      exact ih t (by omega) (fun k o h1 => hk k o (by omega))
  have slotHit : ∀ (j k t : Nat) (o : Oper), j ≤ ops.size → k < j → ops[k]? = some o → o.dst = some t → E j t = V k := by
    intro j
    induction j with
    | zero => intro k t o _ hk; omega
    | succ j ih =>
      intro k t o hj hk ho hdst
      obtain ⟨oj, hoj⟩ := getO (j := j) (by omega)
      rw [hE1 _ _ hoj]
      by_cases hkj : k = j
      · subst hkj
        rw [ho] at hoj; cases hoj
        simp [Env.put, hdst]
      · have hne := hord.uniq ho hoj hkj hdst
        have : (E j).put oj.dst (V j) t = E j t := by
          unfold Env.put
          split
          · rename_i d hd'
            rw [if_neg (fun h => hne (by rw [hd', h]))]
          · rfl
        rw [this]
        exact ih k t o (by omega) (by omega) ho hdst
  have hisz := lt ho
  have hil : i < listed.size := by rw [I.lsize]; exact hisz
  have hin : ¬ listed.getD i false = true := by simp [hif]
  have hcl : ClosedL ops listed := I.closed
  have hpre : ∀ {k : Nat}, Anc ops k i → listed.getD k false = true := fun ha => hcl.ready ho hall ha
  have hpost : ∀ {k : Nat}, Anc ops i k → ¬ listed.getD k false = true := fun ha hk => hin (hcl.anc ha hk)
  -- the slots that it looks at
  have hlook : ∀ t, t ∈ o.looksAt ops → VR ρ (E i t) (a.tmps.getD t undef) := by
    intro t ht
    have hXt : X ≠ some t := fun h => hX t h ht
    by_cases hex : ∃ (k : Nat) (ok : Oper), ops[k]? = some ok ∧ ok.dst = some t ∧ k ≠ i
    · obtain ⟨k, ok, hok', hdst, hne⟩ := hex
      rcases hord.slot hok' ho hne hdst ht with hA | hA
      · rw [slotHit i k t ok (by omega) (hord.lt hA) hok' hdst]
        exact I.hit k ok t hok' (hpre hA) hdst hXt
      · have hki := hord.lt hA
        rw [slotMiss i t (by omega) (fun q oq hq hoq hdq => hord.uniq hoq hok' (by omega) hdq hdst)]
        refine I.miss t hXt (fun q oq hoq hql hdq => ?_)
        by_cases hqk : q = k
        · subst hqk; exact hpost hA hql
        · exact hord.uniq hoq hok' hqk hdq hdst
    · rw [slotMiss i t (by omega) (fun q oq hq hoq hdq => hex ⟨q, oq, hoq, hdq, by omega⟩)]
      refine I.miss t hXt (fun q oq hoq hql hdq => hex ⟨q, oq, hoq, hdq, fun hqi => ?_⟩)
      subst hqi; exact hin hql
  have hopv : ∀ x ∈ o.op.operands, VR ρ ((E i).eval x) (a.eval x) := fun x hx => eval_VR I.gl ((opsOk_mem hok ho).2 x hx) (fun t ht => hlook t (by
    subst ht
    simp only [Oper.looksAt, List.mem_append, List.mem_filterMap]
    exact .inl ⟨.tmp t, by simpa using hx, rfl⟩))
  exact hopv
set_option maxHeartbeats 2000000 in
/-- one operation, where memory is as the text has it -/
theorem InvX.step {ops : Array Oper} {n A : Nat} (hord : Ord3 P ops A) (hok : opsOk n G ops = true) {e : Env} {E : Nat → Env} {M : Nat → Mem} {V : Nat → Value} (hE0 : E 0 = e)
    (hfact : ∀ (j : Nat) (o : Oper), ops[j]? = some o → Fact P G false ops E M V j o)
    (hloads : ∀ (i : Nat) (o : Oper), ops[i]? = some o → opKind P o = 1 → ∃ x ∈ o.op.operands, ∃ b, (∀ ρ u, VR ρ ((E i).eval x) u → ∃ c, At ρ b c) ∧ b < (M i).length ∧ (∀ S2 : Mem, S2[b]? = (M i)[b]? → aload P o (E i).eval S2 = some (V i)) ∧
      ∀ (k : Nat) (ok : Oper), ops[k]? = some ok → 2 ≤ opKind P ok → ¬ (Anc ops k i ∨ Anc ops i k) → (M (k + 1))[b]? = (M k)[b]?)
    {ds : List Deferred} {ρ0 : Nat → Option Loc} {S0 : Mem} {w0 : World} {X : Option Tmp} {ρ : Nat → Option Loc} {m : Nat} {listed : Array Bool} {a : Act} {w : World} (I : InvX P G ops e M V ρ0 S0 w0 n ds X ρ m listed a w)
    {i : Nat} {o : Oper} (ho : ops[i]? = some o) (hif : listed[i]? = some false) (hall : ∀ x ∈ o.after, Region.binds .any x = true → listed.getD x.on false = true)
    (hX : ∀ t, X = some t → t ∉ o.looksAt ops) (hXd : ∀ t, X = some t → o.dst ≠ some t)
    (hin' : 2 ≤ opKind P o → ∀ (k : Nat) (ok : Oper), ops[k]? = some ok → 2 ≤ opKind P ok → k ≠ i → (listed.getD k false = true ↔ k < i))
    {Q : Exit → Act → World → Prop} {K : Act → World → Prop}
    (hK : ∀ (v' : Value) (ρ' : Nat → Option Loc) (m' : Nat) (w' : World), InvX P G ops e M V ρ0 S0 w0 n ds X ρ' m' (listed.setIfInBounds i true) (a.put o.dst v') w' → Stp ρ (M m) w ρ' (M m') w' → K (a.put o.dst v') w') : wpOp P ops Q i K a w := by
  have fact : ∀ {j : Nat} {o : Oper}, ops[j]? = some o → Fact P G false ops E M V j o := fun hj => hfact _ _ hj
  have lt : ∀ {j : Nat} {o : Oper}, ops[j]? = some o → j < ops.size := fun hj => (Array.getElem?_eq_some_iff.1 hj).1
  have getO : ∀ {j : Nat}, j < ops.size → ∃ o, ops[j]? = some o := fun hj => ⟨_, Array.getElem?_eq_getElem hj⟩
  -- memory stands still where nothing acts
  have mconst1 : ∀ {j : Nat} {o : Oper}, ops[j]? = some o → ¬ 2 ≤ opKind P o → M (j + 1) = M j := fun hj hk => by
    rcases (fact hj).2 with ⟨_, _, h⟩ | ⟨_, ⟨_, h⟩ | ⟨_, h⟩ | ⟨_, h, _⟩⟩
    · exact h
    · exact h
    · exact h
    · exact absurd h hk
  have mconst : ∀ (d a : Nat), a + d ≤ ops.size → (∀ k o, a ≤ k → k < a + d → ops[k]? = some o → ¬ 2 ≤ opKind P o) → M (a + d) = M a := by
    intro d
    induction d with
    | zero => intro a _ _; rfl
    | succ d ih =>
      intro a ha hk
      obtain ⟨o, ho⟩ := getO (j := a + d) (by omega)
      have := mconst1 ho (hk _ _ (by omega) (by omega) ho)
      rw [← Nat.add_assoc, this]
      exact ih a (by omega) (fun k o h1 h2 => hk k o h1 (by omega))
  have mrow : ∀ (b d a : Nat), a + d ≤ ops.size → (∀ k o, a ≤ k → k < a + d → ops[k]? = some o → 2 ≤ opKind P o → (M (k + 1))[b]? = (M k)[b]?) → (M (a + d))[b]? = (M a)[b]? := by
    intro b d
    induction d with
    | zero => intro a _ _; rfl
    | succ d ih =>
      intro a ha hk
      obtain ⟨o, ho⟩ := getO (j := a + d) (by omega)
      have h0 := ih a (by omega) (fun k o h1 h2 => hk k o h1 (by omega))
      rw [← h0, ← Nat.add_assoc]
      by_cases h2 : 2 ≤ opKind P o
      · exact hk _ _ (by omega) (by omega) ho h2
      · rw [mconst1 ho h2]
  -- what a slot holds
  have slotMiss : ∀ (j t : Nat), j ≤ ops.size → (∀ (k : Nat) (o : Oper), k < j → ops[k]? = some o → o.dst ≠ some t) → E j t = e t := by
    intro j
    induction j with
    | zero => intro t _ _; rw [hE0]
    | succ j ih =>
      intro t hj hk
      obtain ⟨o, ho⟩ := getO (j := j) (by omega)
      rw [(fact ho).1]
      have hne := hk j o (by omega) ho
      have : (E j).put o.dst (V j) t = E j t := by
        unfold Env.put
        split
        · rename_i d hd'
          rw [if_neg (fun h => hne (by rw [hd', h]))]
        · rfl
      rw [this]
      exact ih t (by omega) (fun k o h1 => hk k o (by omega))
  have slotHit : ∀ (j k t : Nat) (o : Oper), j ≤ ops.size → k < j → ops[k]? = some o → o.dst = some t → E j t = V k := by
    intro j
    induction j with
    | zero => intro k t o _ hk; omega
    | succ j ih =>
      intro k t o hj hk ho hdst
      obtain ⟨oj, hoj⟩ := getO (j := j) (by omega)
      rw [(fact hoj).1]
      by_cases hkj : k = j
      · subst hkj
        rw [ho] at hoj; cases hoj
        simp [Env.put, hdst]
      · have hne := hord.uniq ho hoj hkj hdst
        have : (E j).put oj.dst (V j) t = E j t := by
          unfold Env.put
          split
          · rename_i d hd'
            rw [if_neg (fun h => hne (by rw [hd', h]))]
          · rfl
        rw [this]
        exact ih k t o (by omega) (by omega) ho hdst
  have hisz := lt ho
  have hil : i < listed.size := by rw [I.lsize]; exact hisz
  have hin : ¬ listed.getD i false = true := by simp [hif]
  have hcl : ClosedL ops listed := I.closed
  have hpre : ∀ {k : Nat}, Anc ops k i → listed.getD k false = true := fun ha => hcl.ready ho hall ha
  have hpost : ∀ {k : Nat}, Anc ops i k → ¬ listed.getD k false = true := fun ha hk => hin (hcl.anc ha hk)
  -- the slots that it looks at
  have hlook : ∀ t, t ∈ o.looksAt ops → VR ρ (E i t) (a.tmps.getD t undef) := by
    intro t ht
    have hXt : X ≠ some t := fun h => hX t h ht
    by_cases hex : ∃ (k : Nat) (ok : Oper), ops[k]? = some ok ∧ ok.dst = some t ∧ k ≠ i
    · obtain ⟨k, ok, hok', hdst, hne⟩ := hex
      rcases hord.slot hok' ho hne hdst ht with hA | hA
      · rw [slotHit i k t ok (by omega) (hord.lt hA) hok' hdst]
        exact I.hit k ok t hok' (hpre hA) hdst hXt
      · have hki := hord.lt hA
        rw [slotMiss i t (by omega) (fun q oq hq hoq hdq => hord.uniq hoq hok' (by omega) hdq hdst)]
        refine I.miss t hXt (fun q oq hoq hql hdq => ?_)
        by_cases hqk : q = k
        · subst hqk; exact hpost hA hql
        · exact hord.uniq hoq hok' hqk hdq hdst
    · rw [slotMiss i t (by omega) (fun q oq hq hoq hdq => hex ⟨q, oq, hoq, hdq, by omega⟩)]
      refine I.miss t hXt (fun q oq hoq hql hdq => hex ⟨q, oq, hoq, hdq, fun hqi => ?_⟩)
      subst hqi; exact hin hql
  have hopv : ∀ x ∈ o.op.operands, VR ρ ((E i).eval x) (a.eval x) := fun x hx => eval_VR I.gl ((opsOk_mem hok ho).2 x hx) (fun t ht => hlook t (by
    subst ht
    simp only [Oper.looksAt, List.mem_append, List.mem_filterMap]
    exact .inl ⟨.tmp t, by simpa using hx, rfl⟩))
  have hwant : Region.wanted o (yielded ops a.tmps) = awanted ops o (E i) := wanted_eq I.size hok hlook
  have hdstlt : ∀ d, o.dst = some d → d < a.tmps.size := fun d h => by rw [I.size]; exact (opsOk_mem hok ho).1 d h
  have hset : ∀ k, (listed.setIfInBounds i true).getD k false = true ↔ listed.getD k false = true ∨ k = i := fun k => by
    by_cases hki : i = k
    · subst hki; simp [hil]
    · rw [getD_set_ne false hki]; constructor
      · exact .inl
      · rintro (h | h)
        · exact h
        · exact absurd h.symm hki
  -- how it goes on, once it has been carried out
  have go : ∀ (v' : Value) (ρ' : Nat → Option Loc) (m' : Nat) (w' : World), VR ρ' (V i) v' → m' ≤ ops.size → SR ρ' (M m') w' → Sub ρ ρ' → Stp ρ (M m) w ρ' (M m') w' →
      (∀ (k : Nat) (ok : Oper), ops[k]? = some ok → 2 ≤ opKind P ok → ((listed.getD k false = true ∨ k = i) ↔ k < m')) → K (a.put o.dst v') w' := by
    intro v' ρ' m' w' hv hm' hs hsub hstp heff
    refine hK _ ρ' m' w' ⟨fun j oj x hoj hjl hx hb => ?_, fun k ok t hok' hkl hdst hXt => ?_, fun t hXt hmiss => ?_, hm', fun k ok hok' hk => ?_, hs, fun g hg => (I.gl g hg).mono hsub, I.stp.trans hstp, by rw [put_size]; exact I.size, by rw [put_defers']; exact I.def_, by simpa using I.lsize⟩ hstp
    · rw [hset] at hjl ⊢
      rcases hjl with hjl | rfl
      · exact .inl (I.closed j oj x hoj hjl hx hb)
      · rw [ho] at hoj; cases hoj; exact .inl (hall x hx hb)
    · by_cases hki : k = i
      · subst hki
        rw [ho] at hok'; cases hok'
        have hdl := hdstlt t hdst
        simp [Act.put, hdst, hdl]
        exact hv
      · rw [hset] at hkl
        have := (I.hit k ok t hok' (hkl.resolve_right hki) hdst hXt).mono hsub
        have hne := hord.uniq hok' ho hki hdst
        rw [show (a.put o.dst v').tmps.getD t undef = a.tmps.getD t undef from ?_]
        · exact this
        · cases hd' : o.dst with
          | none => rfl
          | some d =>
            simp only [Act.put, Array.getD_eq_getD_getElem?]
            rw [Array.getElem?_setIfInBounds_ne (fun h => hne (by rw [hd', h]))]
    · have h1 : o.dst ≠ some t := hmiss i o ho ((hset i).2 (.inr rfl))
      have := (I.miss t hXt (fun k ok hok' hkl => hmiss k ok hok' ((hset k).2 (.inl hkl)))).mono hsub
      rw [show (a.put o.dst v').tmps.getD t undef = a.tmps.getD t undef from ?_]
      · exact this
      · cases hd' : o.dst with
        | none => rfl
        | some d =>
          simp only [Act.put, Array.getD_eq_getD_getElem?]
          rw [Array.getElem?_setIfInBounds_ne (fun h => h1 (by rw [hd', h]))]
    · rw [hset]; exact heff k ok hok' hk
  -- where it acts on memory: memory is the text's
  have hact : 2 ≤ opKind P o → M m = M i ∧ ∀ (k : Nat) (ok : Oper), ops[k]? = some ok → 2 ≤ opKind P ok → ((listed.getD k false = true ∨ k = i) ↔ k < i + 1) := by
    intro hk2
    have hmi : m ≤ i := by
      rcases Nat.lt_or_ge i m with h9 | h9
      · exact absurd ((I.eff i o ho hk2).2 h9) hin
      · exact h9
    refine ⟨?_, fun k ok hok' hk => ?_⟩
    · have := mconst (i - m) m (by omega) (fun k ok h1 h2 hok' hk => by
        have h3 := (hin' hk2 k ok hok' hk (by omega)).2 (by omega)
        have := (I.eff k ok hok' hk).1 h3
        omega)
      rw [show m + (i - m) = i from by omega] at this
      exact this.symm
    · by_cases hki : k = i
      · subst hki; exact ⟨fun _ => by omega, fun _ => .inr rfl⟩
      · have h3 := hin' hk2 k ok hok' hk hki
        exact ⟨fun hh => by have := h3.1 (hh.resolve_right hki); omega, fun hh => .inl (h3.2 (by omega))⟩
  have hquiet : ¬ 2 ≤ opKind P o → ∀ (k : Nat) (ok : Oper), ops[k]? = some ok → 2 ≤ opKind P ok → ((listed.getD k false = true ∨ k = i) ↔ k < m) := fun hk k ok hok' hk' => by
    rw [← I.eff k ok hok' hk']
    exact ⟨fun hh => hh.resolve_right (fun e => by subst e; rw [ho] at hok'; cases hok'; exact hk hk'), .inl⟩
  -- a step that leaves memory alone
  have same : ∀ (v' : Value), VR ρ (V i) v' → M (i + 1) = M i → K (a.put o.dst v') w := fun v' hv hMi => by
    by_cases hk2 : 2 ≤ opKind P o
    · obtain ⟨h1, h2⟩ := hact hk2
      exact go v' ρ (i + 1) w hv (by omega) (by rw [hMi, ← h1]; exact I.sr) (Sub.refl _) (by rw [hMi, ← h1]; exact Stp.refl _ _ _) h2
    · exact go v' ρ m w hv I.hm I.sr (Sub.refl _) (Stp.refl _ _ _) (hquiet hk2)
  unfold wpOp
  simp only [ho]
  rw [hwant]
  rcases (fact ho).2 with ⟨hw, hV, hMi⟩ | ⟨hw, ⟨hp, hMi⟩ | ⟨hp, hMi⟩ | ⟨hp, hk2, _⟩⟩
  · rw [hw]
    simp only [Bool.false_eq_true, if_false]
    exact same undef (by rw [hV]; exact flat_VR ρ undef_flat) hMi
  · rw [hw]
    simp only [if_true]
    obtain ⟨v', hv', hrun⟩ := hp ρ a.eval hopv
    exact .inl (wp_value (hrun w) (same v' hv' hMi))
  · rw [hw]
    simp only [if_true]
    obtain ⟨hk1, _⟩ := aload_agree hp
    obtain ⟨x, hx, b, hb, hbl, hagree, hun⟩ := hloads i o ho hk1
    have hsame : (M m)[b]? = (M i)[b]? := by
      rcases Nat.lt_or_ge i m with him | him
      · have hc := mrow b (m - i) i (by have := I.hm; omega) (fun k ok h1 h2 hok' hk => by
          refine hun k ok hok' hk fun hA => ?_
          have hkl := (I.eff k ok hok' hk).2 (by omega)
          rcases hA with hA | hA
          · have := hord.lt hA; omega
          · exact hpost hA hkl)
        rw [show i + (m - i) = m from by omega] at hc
        exact hc
      · have hc := mrow b (i - m) m (by omega) (fun k ok h1 h2 hok' hk => by
          refine hun k ok hok' hk fun hA => ?_
          rcases hA with hA | hA
          · have := (I.eff k ok hok' hk).1 (hpre hA); omega
          · have := hord.lt hA; omega)
        rw [show m + (i - m) = i from by omega] at hc
        exact hc.symm
    obtain ⟨v', hv', hrun⟩ := aload_sound I.sr (hagree (M m) hsame) hopv
    exact .inl (wp_value hrun (same v' hv' hMi))
  · rw [hw]
    simp only [if_true]
    obtain ⟨h1, h2⟩ := hact hk2
    refine .inl (hp ρ a w _ _ hopv (h1 ▸ I.sr) I.gl fun v' ρ' w' q1 q2 q3 => ?_)
    exact go v' ρ' (i + 1) w' q1 (by omega) q2 q3.ext (by rw [h1]; exact q3) h2
/-- an allocation that nobody knows of yet -/
theorem SR.beside {ρ : Nat → Option Loc} {S : Mem} {w : World} (h : SR ρ S w) (c : Array Value) (t : TypeId) : SR ρ S (w.alloc (.cells c t)) ∧ Stp ρ S w ρ S (w.alloc (.cells c t)) ∧ Lone ρ S w.heap.size := by
  have hold : ∀ k, k < w.heap.size → (w.alloc (.cells c t)).heap[k]? = w.heap[k]? := fun k hk => by
    show (w.heap.push _)[k]? = _
    rw [Array.getElem?_push, if_neg (by omega)]
  have hsz : (w.alloc (.cells c t)).heap.size = w.heap.size + 1 := by show (w.heap.push _).size = _; simp
  refine ⟨⟨fun r y hy hl => ?_, fun r L hL => ?_, h.inj, fun r y s p hy hit => ?_⟩, ⟨Sub.refl _, rfl, rfl, rfl, by omega, fun b hb _ => hold b hb, fun _ _ h => h, fun _ _ h => h⟩, fun r ⟨L, h1, h2⟩ => ?_⟩
  · obtain ⟨L, h1, h2⟩ := h.live r y hy hl
    exact ⟨L, h1, h2.mono (Sub.refl _) (hold _ ((h.dom r L h1).2 y hy (by rw [hl]; nofun)))⟩
  · have := h.dom r L hL
    exact ⟨this.1, fun y hy hyo => by have := this.2 y hy hyo; omega⟩
  · obtain ⟨M, m1, m2, m3⟩ := h.iter r y s p hy hit
    exact ⟨M, m1, by rw [hold _ (Array.getElem?_eq_some_iff.1 m2).1]; exact m2, m3⟩
  · have := h.dom r L h1
    refine ⟨S[r], List.getElem?_eq_getElem this.1, ?_⟩
    have h3 := this.2 _ (List.getElem?_eq_getElem this.1)
    cases hs : (S[r]'this.1).st with
    | opq => rfl
    | _ => have := h3 (by rw [hs]; nofun); omega
theorem set_comm {l : Array Bool} {i j : Nat} (h : i ≠ j) : (l.setIfInBounds i true).setIfInBounds j true = (l.setIfInBounds j true).setIfInBounds i true := by
  apply Array.ext_getElem?
  intro k
  simp only [Array.getElem?_setIfInBounds, Array.size_setIfInBounds]
  by_cases h1 : j = k <;> by_cases h2 : i = k <;> simp [h1, h2]
set_option maxHeartbeats 2000000 in
/-- a region that draws, by its run in the text's order, but that one allocation may come at any time -/
theorem drawnF {ops : Array Oper} {n A : Nat} (hord : Ord3 P ops A) (hok : opsOk n G ops = true) {e e' : Env} {S S' : Mem} {E : Nat → Env} {M : Nat → Mem} {V : Nat → Value} (hE0 : E 0 = e) (hM0 : M 0 = S) (hEN : E ops.size = e') (hMN : M ops.size = S')
    (hfact : ∀ (j : Nat) (o : Oper), ops[j]? = some o → Fact P G false ops E M V j o)
    (hloads : ∀ (i : Nat) (o : Oper), ops[i]? = some o → opKind P o = 1 → ∃ x ∈ o.op.operands, ∃ b, (∀ ρ u, VR ρ ((E i).eval x) u → ∃ c, At ρ b c) ∧ b < (M i).length ∧ (∀ S2 : Mem, S2[b]? = (M i)[b]? → aload P o (E i).eval S2 = some (V i)) ∧
      ∀ (k : Nat) (ok : Oper), ops[k]? = some ok → 2 ≤ opKind P ok → ¬ (Anc ops k i ∨ Anc ops i k) → (M (k + 1))[b]? = (M k)[b]?)
    {dA : Tmp} {opA : Op} {tA ty : TypeId} {pos : String} {af : Array Edge} {cs : Array Value} {mk : Option Addr → Value} (hA : ops[A]? = some ⟨some dA, opA, ty, pos, af, none⟩) (hAk : opKind P ⟨some dA, opA, ty, pos, af, none⟩ = 2) (hza : cs.toList.all scalar = true)
    (hmk : ∀ (ρ : Nat → Option Loc) (x y : Addr), At ρ x.block y.block → y.off = x.off → y.spot = x.spot → VR ρ (mk (some x)) (mk (some y)))
    (hrunA : ∀ (ρ : Nat → Option Loc) (a : Act) (w : World), (∀ x ∈ opA.operands, VR ρ ((E A).eval x) (a.eval x)) → (execOp a.eval ⟨some dA, opA, ty, pos, af, none⟩).run P w = .ok (.value (mk (some ⟨w.heap.size, 0, none⟩))) (w.alloc (.cells cs tA)))
    (hVA : V A = mk (some ⟨(M A).length, 0, none⟩)) (hMA : M (A + 1) = M A ++ [newR cs.toList tA])
    {Q : Exit → Act → World → Prop} {ds : List Deferred} {ρ0 : Nat → Option Loc} {S0 : Mem} {w0 : World} (hK : Reach G n ds ρ0 S0 w0 e' S' (Q .normal))
    {ρ : Nat → Option Loc} {a : Act} {w : World} (hE : ER ρ e a) (hS : SR ρ S w) (hG : Glob G ρ) (hst : Stp ρ0 S0 w0 ρ S w) (hn : a.tmps.size = n) (hd : a.defers = ds) :
    wpAny P .any ops Q ops.size (Array.replicate ops.size false) a w := by
  have fact : ∀ {j : Nat} {o : Oper}, ops[j]? = some o → Fact P G false ops E M V j o := fun hj => hfact _ _ hj
  have lt : ∀ {j : Nat} {o : Oper}, ops[j]? = some o → j < ops.size := fun hj => (Array.getElem?_eq_some_iff.1 hj).1
  have getO : ∀ {j : Nat}, j < ops.size → ∃ o, ops[j]? = some o := fun hj => ⟨_, Array.getElem?_eq_getElem hj⟩
  -- memory stands still where nothing acts
  have mconst1 : ∀ {j : Nat} {o : Oper}, ops[j]? = some o → ¬ 2 ≤ opKind P o → M (j + 1) = M j := fun hj hk => by
    rcases (fact hj).2 with ⟨_, _, h⟩ | ⟨_, ⟨_, h⟩ | ⟨_, h⟩ | ⟨_, h, _⟩⟩
    · exact h
    · exact h
    · exact h
    · exact absurd h hk
  have mconst : ∀ (d a : Nat), a + d ≤ ops.size → (∀ k o, a ≤ k → k < a + d → ops[k]? = some o → ¬ 2 ≤ opKind P o) → M (a + d) = M a := by
    intro d
    induction d with
    | zero => intro a _ _; rfl
    | succ d ih =>
      intro a ha hk
      obtain ⟨o, ho⟩ := getO (j := a + d) (by omega)
      have := mconst1 ho (hk _ _ (by omega) (by omega) ho)
      rw [← Nat.add_assoc, this]
      exact ih a (by omega) (fun k o h1 h2 => hk k o h1 (by omega))
  have mrow : ∀ (b d a : Nat), a + d ≤ ops.size → (∀ k o, a ≤ k → k < a + d → ops[k]? = some o → 2 ≤ opKind P o → (M (k + 1))[b]? = (M k)[b]?) → (M (a + d))[b]? = (M a)[b]? := by
    intro b d
    induction d with
    | zero => intro a _ _; rfl
    | succ d ih =>
      intro a ha hk
      obtain ⟨o, ho⟩ := getO (j := a + d) (by omega)
      have h0 := ih a (by omega) (fun k o h1 h2 => hk k o h1 (by omega))
      rw [← h0, ← Nat.add_assoc]
      by_cases h2 : 2 ≤ opKind P o
      · exact hk _ _ (by omega) (by omega) ho h2
      · rw [mconst1 ho h2]
  -- what a slot holds
  have slotMiss : ∀ (j t : Nat), j ≤ ops.size → (∀ (k : Nat) (o : Oper), k < j → ops[k]? = some o → o.dst ≠ some t) → E j t = e t := by
    intro j
    induction j with
    | zero => intro t _ _; rw [hE0]
    | succ j ih =>
      intro t hj hk
      obtain ⟨o, ho⟩ := getO (j := j) (by omega)
      rw [(fact ho).1]
      have hne := hk j o (by omega) ho
      have : (E j).put o.dst (V j) t = E j t := by
        unfold Env.put
        split
        · rename_i d hd'
          rw [if_neg (fun h => hne (by rw [hd', h]))]
        · rfl
      rw [this]
      exact ih t (by omega) (fun k o h1 => hk k o (by omega))
  have slotHit : ∀ (j k t : Nat) (o : Oper), j ≤ ops.size → k < j → ops[k]? = some o → o.dst = some t → E j t = V k := by
    intro j
    induction j with
    | zero => intro k t o _ hk; omega
    | succ j ih =>
      intro k t o hj hk ho hdst
      obtain ⟨oj, hoj⟩ := getO (j := j) (by omega)
      rw [(fact hoj).1]
      by_cases hkj : k = j
      · subst hkj
        rw [ho] at hoj; cases hoj
        simp [Env.put, hdst]
      · have hne := hord.uniq ho hoj hkj hdst
        have : (E j).put oj.dst (V j) t = E j t := by
          unfold Env.put
          split
          · rename_i d hd'
            rw [if_neg (fun h => hne (by rw [hd', h]))]
          · rfl
        rw [this]
        exact ih k t o (by omega) (by omega) ho hdst
  have hAsz := lt hA
  have hdA : dA < n := (opsOk_mem hok hA).1 dA rfl
  -- what is still to be done ahead of the allocation
  have main : ∀ (fuel : Nat) (listed : Array Bool) (a : Act) (w : World), listed.toList.count false = fuel →
      ((∃ ρ m, InvX P G ops e M V ρ0 S0 w0 n ds none ρ m listed a w) ∨
       (∃ ρ m lst b0, listed = lst.setIfInBounds A true ∧ lst[A]? = some false ∧ InvX P G ops e M V ρ0 S0 w0 n ds (some dA) ρ m lst a w ∧
        (∃ (k : Nat) (ok : Oper), ops[k]? = some ok ∧ 2 ≤ opKind P ok ∧ k < A ∧ ¬ lst.getD k false = true) ∧ (∀ x ∈ af, Region.binds .any x = true → lst.getD x.on false = true) ∧
        w0.heap.size ≤ b0 ∧ w.heap[b0]? = some (.cells cs tA) ∧ Lone ρ (M m) b0 ∧ a.tmps.getD dA undef = mk (some ⟨b0, 0, none⟩))) → wpAny P .any ops Q fuel listed a w := by
    intro fuel
    induction fuel with
    | zero =>
      intro listed a w hcount I
      have allL : ∀ k, k < listed.size → listed.getD k false = true := fun k hk' => by
        rw [List.count_eq_zero] at hcount
        have hmem : listed[k] ∈ listed.toList := by simp
        simp only [Array.getD_eq_getD_getElem?, Array.getElem?_eq_getElem hk', Option.getD_some]
        cases hb : listed[k] with
        | true => rfl
        | false => rw [hb] at hmem; exact absurd hmem hcount
      rcases I with ⟨ρ, m, I⟩ | ⟨ρ, m, lst, b0, rfl, hlA, I, ⟨k, ok, hk, hk2, hkA, hkl⟩, _⟩
      · have all : ∀ k, k < ops.size → listed.getD k false = true := fun k hk => allL k (by rw [I.lsize]; exact hk)
        have hMm : M m = S' := by
          have := mconst (ops.size - m) m (by have := I.hm; omega) (fun k o h1 h2 ho hk => by
            have := (I.eff k o ho hk).1 (all k (lt ho)); omega)
          rw [show m + (ops.size - m) = ops.size from by have := I.hm; omega] at this
          rw [← this, hMN]
        refine ⟨?_, hK ρ a w ?_ (hMm ▸ I.sr) (hMm ▸ I.stp) I.size I.def_⟩
        · cases hr : Region.ready .any ops listed with
          | nil => rfl
          | cons i r =>
            have hi : i ∈ Region.ready .any ops listed := by rw [hr]; simp
            obtain ⟨h0, o, ho, _⟩ := mem_ready.1 hi
            have := all i (lt ho)
            have hi' : i < listed.size := by rw [I.lsize]; exact lt ho
            simp only [Array.getD_eq_getD_getElem?, Array.getElem?_eq_getElem hi', Option.getD_some] at h0 this
            rw [h0] at this; cases this
        · intro t
          rw [← hEN]
          by_cases hex : ∃ (k : Nat) (o : Oper), ops[k]? = some o ∧ o.dst = some t
          · obtain ⟨k, o, ho, hdst⟩ := hex
            rw [slotHit _ k t o (Nat.le_refl _) (lt ho) ho hdst]
            exact I.hit k o t ho (all k (lt ho)) hdst nofun
          · rw [slotMiss _ t (Nat.le_refl _) (fun k o _ ho hdst => hex ⟨k, o, ho, hdst⟩)]
            exact I.miss t nofun (fun k o ho _ hdst => hex ⟨k, o, ho, hdst⟩)
      · have := allL k (by simp; rw [I.lsize]; exact lt hk)
        rw [getD_set_ne false (by omega)] at this
        exact absurd this hkl
    | succ fuel ih =>
      intro listed a w hcount I
      have hlsz : listed.size = ops.size := by
        rcases I with ⟨ρ, m, I⟩ | ⟨ρ, m, lst, b0, rfl, hlA, I, _⟩
        · exact I.lsize
        · simp [I.lsize]
      refine ⟨fun hnil => ?_, fun i hi => ?_⟩
      · exfalso
        have hmem : false ∈ listed.toList := by
          have : 0 < listed.toList.count false := by omega
          exact List.count_pos_iff.1 this
        obtain ⟨k, hk⟩ := List.mem_iff_getElem?.1 hmem
        have hleast : ∀ k : Nat, listed[k]? = some false → ∃ i, i ∈ Region.ready .any ops listed := by
          intro k
          induction k using Nat.strongRecOn with
          | _ k ihk =>
            intro hk
            have hks : k < ops.size := by rw [← hlsz]; exact (Array.getElem?_eq_some_iff.1 hk).1
            obtain ⟨o, ho⟩ := getO hks
            by_cases hall : ∀ x ∈ o.after, Region.binds .any x = true → listed.getD x.on false = true
            · exact ⟨k, mem_ready.2 ⟨by simp [hk], o, ho, hall⟩⟩
            · simp only [Classical.not_forall] at hall
              obtain ⟨x, hx, hb, hxl⟩ := hall
              have hlt := hord.less ho hx hb
              refine ihk x.on hlt ?_
              have hxs : x.on < listed.size := by rw [hlsz]; omega
              rw [Array.getElem?_eq_getElem hxs]
              simp only [Array.getD_eq_getD_getElem?, Array.getElem?_eq_getElem hxs, Option.getD_some] at hxl
              simpa using hxl
        obtain ⟨i, hi⟩ := hleast k (by simpa using hk)
        rw [hnil] at hi; cases hi
      · obtain ⟨h0, o, ho, hall⟩ := mem_ready.1 hi
        have hisz := lt ho
        have hil : i < listed.size := by rw [hlsz]; exact hisz
        have hif : listed[i]? = some false := by
          rw [Array.getElem?_eq_getElem hil]
          simp only [Array.getD_eq_getD_getElem?, Array.getElem?_eq_getElem hil, Option.getD_some] at h0
          rw [h0]
        have hin : ¬ listed.getD i false = true := by simp [hif]
        have hcnt : (listed.setIfInBounds i true).toList.count false = fuel := by
          have := count_set_true listed.toList i (by simpa using hif)
          rw [Array.toList_setIfInBounds]
          omega
        rcases I with ⟨ρ, m, I⟩ | ⟨ρ, m, lst, b0, rfl, hlA, I, ⟨k, ok, hk, hk2, hkA, hkl⟩, hAr, hb0, hbh, hlone, hptr⟩
        · have hcl : ClosedL ops listed := I.closed
          have hpre : ∀ {k : Nat}, Anc ops k i → listed.getD k false = true := fun ha => hcl.ready ho hall ha
          have hpost : ∀ {k : Nat}, Anc ops i k → ¬ listed.getD k false = true := fun ha hk => hin (hcl.anc ha hk)
          by_cases hpend : i = A ∧ ∃ (k : Nat) (ok : Oper), ops[k]? = some ok ∧ 2 ≤ opKind P ok ∧ k < A ∧ ¬ listed.getD k false = true
          · -- the allocation comes up early
            obtain ⟨rfl, htodo⟩ := hpend
            rw [hA] at ho; cases ho
            obtain ⟨s1, s2, s3⟩ := I.sr.beside cs tA
            unfold wpOp
            simp only [hA]
            have hrun := hrunA ρ a w (I.opv hord hok hE0 (fun j o hj => (fact hj).1) hA hif hall nofun)
            have hwt : Region.wanted ⟨some dA, opA, ty, pos, af, none⟩ (yielded ops a.tmps) = true := rfl
            rw [hwt]
            simp only [if_true]
            refine .inl (wp_value hrun ?_)
            have hne : ∀ t, (some dA : Option Tmp) ≠ some t → (a.put (some dA) (mk (some ⟨w.heap.size, 0, none⟩))).tmps.getD t undef = a.tmps.getD t undef := fun t ht => by
              simp only [Act.put, Array.getD_eq_getD_getElem?]
              rw [Array.getElem?_setIfInBounds_ne (fun h => ht (by rw [h]))]
            refine ih _ _ _ hcnt (.inr ⟨ρ, m, listed, w.heap.size, rfl, hif, ⟨I.closed, fun k o t hk hkl hkd hX => ?_, fun t hX hmiss => ?_, I.hm, I.eff, s1, I.gl, I.stp.trans s2, by rw [put_size]; exact I.size, by rw [put_defers']; exact I.def_, I.lsize⟩, htodo, hall, I.stp.size, ?_, s3, ?_⟩)
            · rw [hne t hX]; exact I.hit k o t hk hkl hkd nofun
            · rw [hne t hX]; exact I.miss t nofun hmiss
            · show (w.heap.push _)[w.heap.size]? = _
              simp
            · have hdA' : dA < a.tmps.size := by rw [I.size]; exact hdA
              simp [Act.put, hdA']
          · refine I.step hord hok hE0 hfact hloads ho hif hall nofun nofun (fun hk2 k ok hk hkk hne => ?_) (fun v' ρ' m' w' I' _ => ih _ _ _ hcnt (.inl ⟨ρ', m', I'⟩))
            by_cases hiA : i = A
            · subst hiA
              have hno : ∀ k ok, ops[k]? = some ok → 2 ≤ opKind P ok → k < i → listed.getD k false = true := fun k ok h1 h2 h3 => by
                refine Classical.byContradiction fun h4 => hpend ⟨rfl, k, ok, h1, h2, h3, h4⟩
              refine ⟨fun hl => ?_, fun hlt => hno k ok hk hkk hlt⟩
              rcases Nat.lt_or_ge k i with h9 | h9
              · exact h9
              · exact absurd hl (hpost (hord.late hk hkk (by omega)))
            · by_cases hkA : k = A
              · subst hkA
                constructor
                · intro hl
                  rcases Nat.lt_or_ge k i with h9 | h9
                  · exact h9
                  · have h1 := (I.eff k ok hk hkk).1 hl
                    exact absurd ((I.eff i o ho hk2).2 (by omega)) hin
                · intro hlt
                  exact hpre (hord.late ho hk2 hlt)
              · rcases hord.effs hk ho hne hkA hiA hkk hk2 with h9 | h9
                · have := hord.lt h9
                  exact ⟨fun _ => this, fun _ => hpre h9⟩
                · have := hord.lt h9
                  exact ⟨fun hl => absurd hl (hpost h9), fun h => by omega⟩
        · -- the allocation came up already
          have hAl : A < lst.size := (Array.getElem?_eq_some_iff.1 hlA).1
          have hiA : i ≠ A := fun h => by subst h; simp [hAl] at hif
          have hgA : ¬ lst.getD A false = true := by simp [hlA]
          have hget : ∀ k, (lst.setIfInBounds A true).getD k false = true ↔ lst.getD k false = true ∨ k = A := fun k => by
            by_cases hki : A = k
            · subst hki; simp [hAl]
            · rw [getD_set_ne false hki]; constructor
              · exact .inl
              · rintro (h | h)
                · exact h
                · exact absurd h.symm hki
          have hif' : lst[i]? = some false := by rw [Array.getElem?_setIfInBounds_ne (Ne.symm hiA)] at hif; exact hif
          have hcl' : ClosedL ops lst := I.closed
          have hcl : ClosedL ops (lst.setIfInBounds A true) := fun j oj x hoj hjl hx hb => by
            rw [hget] at hjl ⊢
            rcases hjl with hjl | rfl
            · exact .inl (I.closed j oj x hoj hjl hx hb)
            · rw [hA] at hoj; cases hoj; exact .inl (hAr x hx hb)
          have hnoA : ¬ Anc ops A i := fun hh => by
            have := hcl.ready ho hall (hord.waits hh hk hk2 hkA)
            rw [hget] at this
            exact this.elim hkl (by omega)
          have hall' : ∀ x ∈ o.after, Region.binds .any x = true → lst.getD x.on false = true := fun x hx hb => by
            have := hall x hx hb
            rw [hget] at this
            refine this.resolve_right fun h => hnoA ?_
            rw [← h]; exact .edge ho hx hb
          have hin2 : ¬ lst.getD i false = true := by simp [hif']
          have hpre : ∀ {k : Nat}, Anc ops k i → lst.getD k false = true := fun ha => hcl'.ready ho hall' ha
          have hpost : ∀ {k : Nat}, Anc ops i k → ¬ lst.getD k false = true := fun ha hk => hin2 (hcl'.anc ha hk)
          have hXd : o.dst ≠ some dA := hord.uniq hA ho (Ne.symm hiA) rfl
          refine I.step hord hok hE0 hfact hloads ho hif' hall' (fun t ht => ?_) (fun t ht => by cases ht; exact hXd) (fun hk2' k' ok' hk' hkk hne => ?_) (fun v' ρ' m' w' I' q => ?_)
          · cases ht
            intro hl
            rcases hord.slot hA ho (Ne.symm hiA) rfl hl with h9 | h9
            · exact hnoA h9
            · have hh : lst.getD i false = true := hcl'.ready hA hAr h9
              exact hin2 hh
          · by_cases hkA' : k' = A
            · subst hkA'
              exact ⟨fun h => absurd h hgA, fun h => absurd (hord.late ho hk2' h) hnoA⟩
            · rcases hord.effs hk' ho hne hkA' hiA hkk hk2' with h9 | h9
              · have := hord.lt h9
                exact ⟨fun _ => this, fun _ => hpre h9⟩
              · have := hord.lt h9
                exact ⟨fun hl => absurd hl (hpost h9), fun h => by omega⟩
          · have hb1 : b0 < w.heap.size := (Array.getElem?_eq_some_iff.1 hbh).1
            have hq : Quiet ρ (M m) b0 := fun r hr => let ⟨x, h1, h2⟩ := hlone r hr; ⟨x, h1, .inl h2⟩
            have hbh' : w'.heap[b0]? = some (.cells cs tA) := by rw [q.frame b0 hb1 hq]; exact hbh
            have hlone' := q.lone b0 hb1 hlone
            have hptr' : (a.put o.dst v').tmps.getD dA undef = mk (some ⟨b0, 0, none⟩) := by
              rw [← hptr]
              cases hd' : o.dst with
              | none => rfl
              | some d =>
                simp only [Act.put, Array.getD_eq_getD_getElem?]
                rw [Array.getElem?_setIfInBounds_ne (fun h => hXd (by rw [hd', h]))]
            have hset : ∀ k, (lst.setIfInBounds i true).getD k false = true ↔ lst.getD k false = true ∨ k = i := fun k => by
              by_cases hki : i = k
              · subst hki; simp [(Array.getElem?_eq_some_iff.1 hif').1]
              · rw [getD_set_ne false hki]; constructor
                · exact .inl
                · rintro (h | h)
                  · exact h
                  · exact absurd h.symm hki
            have hAr' : ∀ x ∈ af, Region.binds .any x = true → (lst.setIfInBounds i true).getD x.on false = true := fun x hx hb => (hset _).2 (.inl (hAr x hx hb))
            have hlA' : (lst.setIfInBounds i true)[A]? = some false := by rw [Array.getElem?_setIfInBounds_ne hiA]; exact hlA
            by_cases htodo : ∃ (k : Nat) (ok : Oper), ops[k]? = some ok ∧ 2 ≤ opKind P ok ∧ k < A ∧ ¬ (lst.setIfInBounds i true).getD k false = true
            · exact ih _ _ _ hcnt (.inr ⟨ρ', m', lst.setIfInBounds i true, b0, set_comm (Ne.symm hiA), hlA', I', htodo, hAr', hb0, hbh', hlone', hptr'⟩)
            · -- now the text may come to it
              have hdone : ∀ k ok, ops[k]? = some ok → 2 ≤ opKind P ok → k < A → (lst.setIfInBounds i true).getD k false = true := fun k ok h1 h2 h3 => by
                refine Classical.byContradiction fun h4 => htodo ⟨k, ok, h1, h2, h3, h4⟩
              have hm'A : m' ≤ A := by
                rcases Nat.lt_or_ge A m' with h9 | h9
                · have := (I'.eff A _ hA (by rw [hAk]; omega)).2 h9
                  simp [hlA'] at this
                · exact h9
              have hMm : M A = M m' := by
                have := mconst (A - m') m' (by omega) (fun k ok h1 h2 hok' hk => by
                  have := (I'.eff k ok hok' hk).1 (hdone k ok hok' hk (by omega)); omega)
                rw [show m' + (A - m') = A from by omega] at this
                exact this
              have hsc := scalars_LR ρ' hza
              obtain ⟨ρ2, p1, p2, p3, p4⟩ := I'.sr.adopt (newR cs.toList tA) cs b0 hbh' hlone' I'.stp hb0 rfl (by simp [newR]) rfl (fun j u hu => by
                obtain ⟨u', h1, h2⟩ := hsc.get hu
                exact ⟨u', by simpa using h1, h2⟩)
              rw [← hMm, ← hMA] at p3 p4
              rw [← hMm] at p2
              have hgetA : ∀ k, ((lst.setIfInBounds A true).setIfInBounds i true).getD k false = true ↔ (lst.setIfInBounds i true).getD k false = true ∨ k = A := fun k => by
                rw [set_comm (Ne.symm hiA)]
                have hAl' : A < (lst.setIfInBounds i true).size := by simpa using hAl
                by_cases hki : A = k
                · subst hki; simp [hAl]
                · rw [getD_set_ne false hki]; constructor
                  · exact .inl
                  · rintro (h | h)
                    · exact h
                    · exact absurd h.symm hki
              refine ih _ _ _ hcnt (.inl ⟨ρ2, A + 1, ⟨fun j oj x hoj hjl hx hb => ?_, fun k o t hk hkl hkd _ => ?_, fun t _ hmiss => ?_, by omega, fun k ok hk hkk => ?_, p3, fun g hg => (I'.gl g hg).mono p1, p4, I'.size, I'.def_, by simp [I.lsize]⟩⟩)
              · rw [hgetA] at hjl ⊢
                rcases hjl with hjl | rfl
                · exact .inl (I'.closed j oj x hoj hjl hx hb)
                · rw [hA] at hoj; cases hoj; exact .inl (hAr' x hx hb)
              · by_cases hkA' : k = A
                · subst hkA'
                  rw [hA] at hk; cases hk
                  cases hkd
                  rw [hptr', hVA]
                  exact hmk _ _ _ ⟨_, p2, rfl⟩ rfl rfl
                · rw [hgetA] at hkl
                  exact (I'.hit k o t hk (hkl.resolve_right hkA') hkd (fun h => hord.uniq hA hk (Ne.symm hkA') rfl (by rw [hkd, ← h]))).mono p1
              · have hne : (some dA : Option Tmp) ≠ some t := hmiss A _ hA ((hgetA A).2 (.inr rfl))
                exact (I'.miss t hne (fun k ok hk hkl => hmiss k ok hk ((hgetA k).2 (.inl hkl)))).mono p1
              · rw [hgetA]
                constructor
                · rintro (h | h)
                  · have := (I'.eff k ok hk hkk).1 h; omega
                  · omega
                · intro h
                  by_cases hkA' : k = A
                  · exact .inr hkA'
                  · exact .inl (hdone k ok hk hkk (by omega))
  refine main ops.size _ a w (by simp) (.inl ⟨ρ, 0, ⟨fun j o x ho hl => ?_, fun k o t ho hl => ?_, fun t _ _ => hE t, Nat.zero_le _, fun k o ho _ => ?_, by rw [hM0]; exact hS, hG, by rw [hM0]; exact hst, hn, hd, by simp⟩⟩)
  · by_cases hj : j < ops.size
    · simp [hj] at hl
    · simp [hj] at hl
  · by_cases hk : k < ops.size
    · simp [hk] at hl
    · simp [hk] at hl
  · by_cases hk : k < ops.size
    · simp [hk]
    · simp [hk]
end
def pairOk3 (P : Program) (ops : Array Oper) (ms : List Nat) (A i j : Nat) (oi oj : Oper) : Bool :=
  (match oi.dst with
   | some d => oj.dst != some d && (!(oj.looksAt ops).contains d || ordB ms i j)
   | none => true) &&
  (!(decide (2 ≤ opKind P oi) && decide (2 ≤ opKind P oj)) || i == A || j == A || ordB ms i j)
def order3Ok (P : Program) (ops : Array Oper) (A : Nat) : Bool :=
  let ms := masks ops.toList []
  ops.toList.zipIdx.all fun (oj, j) => (oj.after.toList.all fun e => !Region.binds .any e || (decide (e.on < j) &&
      (!(e.on == A) || ops.toList.zipIdx.all fun (ok, k) => !decide (2 ≤ opKind P ok) || !decide (k < A) || (ms.getD j 0).testBit k))) &&
    (!decide (2 ≤ opKind P oj) || !decide (A < j) || (ms.getD j 0).testBit A) &&
    ops.toList.zipIdx.all fun (oi, i) => i == j || pairOk3 P ops ms A i j oi oj
theorem order3_of {P : Program} {ops : Array Oper} {A : Nat} (h : order3Ok P ops A = true) : Ord3 P ops A := by
  have hm := masks_sound (ops := ops) ops.toList [] (by simp) (by simp)
  have ord : ∀ i j, ordB (masks ops.toList []) i j = true → Anc ops i j ∨ Anc ops j i := fun i j h => by
    simp only [ordB, Bool.or_eq_true] at h
    exact h.imp (hm _ _) (hm _ _)
  simp only [order3Ok, List.all_eq_true, Bool.and_eq_true] at h
  have pr : ∀ {i j : Nat} {oi oj : Oper}, ops[i]? = some oi → ops[j]? = some oj → i ≠ j → pairOk3 P ops (masks ops.toList []) A i j oi oj = true := fun hi hj hne => by
    have := (h _ (zipIdx_mem hj)).2 _ (zipIdx_mem hi)
    simp only [Bool.or_eq_true, beq_iff_eq] at this
    exact this.resolve_left hne
  refine ⟨fun hj he hb => ?_, fun hi hj hne hd => ?_, fun {i j _ _ _} hi hj hne hd hl => ?_, fun {i j _ _} hi hj hne hiA hjA k1 k2 => ?_, fun {k ok} hk h2 hlt => ?_, fun {j k oj ok e} hj he hb hon hk h2 hlt => ?_⟩
  · have := (h _ (zipIdx_mem hj)).1.1 _ (by simpa using he)
    simp [hb] at this
    exact this.1
  · have := pr hi hj hne
    simp only [pairOk3, hd, Bool.and_eq_true, bne_iff_ne] at this
    exact this.1.1
  · have := pr hi hj hne
    simp only [pairOk3, hd, Bool.and_eq_true, Bool.or_eq_true, Bool.not_eq_true', List.contains_iff_mem] at this
    rcases this.1.2 with h1 | h1
    · exact absurd hl (by simpa using h1)
    · exact ord _ _ h1
  · have := pr hi hj hne
    simp only [pairOk3, Bool.and_eq_true, Bool.or_eq_true, beq_iff_eq] at this
    rcases this.2 with ((h1 | h1) | h1) | h1
    · simp [k1, k2] at h1
    · exact absurd h1 hiA
    · exact absurd h1 hjA
    · exact ord _ _ h1
  · have := (h _ (zipIdx_mem hk)).1.2
    simp only [Bool.or_eq_true] at this
    rcases this with (h1 | h1) | h1
    · simp [h2] at h1
    · simp at h1; omega
    · exact hm _ _ h1
  · have := (h _ (zipIdx_mem hj)).1.1 _ (by simpa using he)
    simp only [hb, Bool.not_true, Bool.false_or, Bool.and_eq_true, hon, beq_self_eq_true, List.all_eq_true] at this
    have := this.2 _ (zipIdx_mem hk)
    simp only [Bool.or_eq_true] at this
    rcases this with (h1 | h1) | h1
    · simp [h2] at h1
    · simp at h1; omega
    · exact hm _ _ h1
end Go.Proofs.YtbdnkneedengcaaGreatDoor

/- A region that draws its order does not mind in which order its operations are written. Conditions: none. -/
set_option linter.unusedSimpArgs false
set_option linter.unusedVariables false
namespace Go.Proofs.YtbdnkneedengcaaGreatDoor
open Go
def ren (σ : Nat → Nat) (o : Oper) : Oper := { o with after := o.after.map fun e => { e with on := σ e.on } }
def noOper : Oper := ⟨none, .move (.const (.bool false)), 0, "", #[], none⟩
def permL (τ : List Nat) (σ : Nat → Nat) (ops : Array Oper) : Array Oper := (τ.map fun j => ((ops[j]?).map (ren σ)).getD noOper).toArray
def permOk (τ : List Nat) (σ : Nat → Nat) (ops : Array Oper) : Bool :=
  Nat.beq τ.length ops.size && ((List.range ops.size).all fun i => decide (τ[σ i]? = some i)) && ((List.range ops.size).all fun j => match τ[j]? with | some k => Nat.beq (σ k) j && Nat.blt k ops.size | none => false) &&
  ops.toList.all fun o => o.guard.isNone && o.after.toList.all fun e => Nat.blt e.on ops.size
section
variable {P : Program} {G : Nat}
theorem exec_ren (σ : Nat → Nat) (ev : Operand → Value) (o : Oper) : execOp ev (ren σ o) = execOp ev o := by
  obtain ⟨d, op, ty, pos, af, gd⟩ := o
  unfold ren
  cases op <;> rfl
theorem wanted_none {o : Oper} (h : o.guard = none) (f : Nat → Option Bool) : Region.wanted o f = true := by
  unfold Region.wanted
  rw [h]
theorem ren_wp (σ : Nat → Nat) (o : Oper) (a : Act) (w : World) (K : Act → World → Prop) (Q : Exit → Act → World → Prop) : (ren σ o).wp P a w K Q = o.wp P a w K Q := by
  unfold Oper.wp
  rw [exec_ren]
  rfl
theorem ren_asks (σ : Nat → Nat) (o : Oper) (a : Act) (w : World) : (ren σ o).asks P a w = o.asks P a w := by
  unfold Oper.asks
  rw [exec_ren]
structure PermOf (τ : List Nat) (σ : Nat → Nat) (ops : Array Oper) : Prop where
  len : τ.length = ops.size
  to : ∀ i, i < ops.size → τ[σ i]? = some i
  un : ∀ j, j < ops.size → ∃ k, τ[j]? = some k ∧ σ k = j ∧ k < ops.size
  free : ∀ (i : Nat) (o : Oper), ops[i]? = some o → o.guard = none ∧ ∀ e ∈ o.after, e.on < ops.size
theorem permOk_of {τ : List Nat} {σ : Nat → Nat} {ops : Array Oper} (hp : permOk τ σ ops = true) : PermOf τ σ ops := by
  simp only [permOk, Bool.and_eq_true, List.all_eq_true, List.mem_range] at hp
  obtain ⟨⟨⟨h1, h2⟩, h3⟩, h4⟩ := hp
  refine ⟨Nat.eq_of_beq_eq_true h1, fun i hi => of_decide_eq_true (h2 i hi), fun j hj => ?_, fun i o ho => ?_⟩
  · have := h3 j hj
    split at this
    · rename_i k hk
      rw [Bool.and_eq_true] at this
      exact ⟨k, hk, Nat.eq_of_beq_eq_true this.1, by have := this.2; simp [Nat.blt] at this; omega⟩
    · cases this
  · have hm : o ∈ ops.toList := by
      rw [Array.mem_toList_iff]
      exact Array.mem_of_getElem? ho
    have := h4 o hm
    refine ⟨by simpa using this.1, fun e he => ?_⟩
    have h5 := this.2 e (by simpa using he)
    simp [Nat.blt] at h5
    omega
theorem permL_size {τ : List Nat} {σ : Nat → Nat} {ops : Array Oper} (hp : PermOf τ σ ops) : (permL τ σ ops).size = ops.size := by
  unfold permL
  simp [hp.len]
theorem PermOf.get {τ : List Nat} {σ : Nat → Nat} {ops : Array Oper} (hp : PermOf τ σ ops) {i : Nat} {o : Oper} (h : ops[i]? = some o) : (permL τ σ ops)[σ i]? = some (ren σ o) := by
  have hi := (Array.getElem?_eq_some_iff.1 h).1
  unfold permL
  rw [List.getElem?_toArray, List.getElem?_map, hp.to i hi]
  simp [h]
theorem PermOf.ready {md : Region.Mode} {τ : List Nat} {σ : Nat → Nat} {ops : Array Oper} (hp : PermOf τ σ ops) {l l' : Array Bool} (hl : ∀ i, i < ops.size → l'[σ i]? = l[i]?) {i : Nat} (hi : i < ops.size) : i ∈ Region.ready md ops l ↔ σ i ∈ Region.ready md (permL τ σ ops) l' := by
  obtain ⟨o, ho⟩ : ∃ o, ops[i]? = some o := ⟨_, Array.getElem?_eq_getElem hi⟩
  rw [mem_ready, mem_ready, hp.get ho, ho]
  simp only [Array.getD_eq_getD_getElem?, hl i hi]
  refine and_congr Iff.rfl ⟨?_, ?_⟩
  · rintro ⟨o1, h1, h2⟩
    cases h1
    refine ⟨_, rfl, fun e he hb => ?_⟩
    have he' : ∃ e0 ∈ o.after, { e0 with on := σ e0.on } = e := by
      have : e ∈ o.after.map fun e => { e with on := σ e.on } := he
      simpa using this
    obtain ⟨e0, h3, rfl⟩ := he'
    rw [hl _ ((hp.free i o ho).2 e0 h3)]
    exact h2 e0 h3 hb
  · rintro ⟨o1, h1, h2⟩
    cases h1
    refine ⟨_, rfl, fun e he hb => ?_⟩
    have := h2 { e with on := σ e.on } (by
      show _ ∈ o.after.map fun e => { e with on := σ e.on }
      exact Array.mem_map.2 ⟨e, he, rfl⟩) hb
    rwa [hl _ ((hp.free i o ho).2 e he)] at this
theorem wpAny_perm {md : Region.Mode} {ops : Array Oper} {τ : List Nat} {σ : Nat → Nat} (hp : PermOf τ σ ops) {Q : Exit → Act → World → Prop} : ∀ (fuel : Nat) (l l' : Array Bool) (a : Act) (w : World), l.size = ops.size → l'.size = ops.size →
    (∀ i, i < ops.size → l'[σ i]? = l[i]?) → wpAny P md (permL τ σ ops) Q fuel l' a w → wpAny P md ops Q fuel l a w := by
  have rlt : ∀ {l : Array Bool} {i : Nat}, i ∈ Region.ready md ops l → i < ops.size := fun h => by
    obtain ⟨_, o, ho, _⟩ := mem_ready.1 h
    exact (Array.getElem?_eq_some_iff.1 ho).1
  have nil1 : ∀ {l l' : Array Bool}, (∀ i, i < ops.size → l'[σ i]? = l[i]?) → (Region.ready md ops l = [] ↔ Region.ready md (permL τ σ ops) l' = []) := fun {l l'} hl => by
    rw [List.eq_nil_iff_forall_not_mem, List.eq_nil_iff_forall_not_mem]
    constructor
    · intro h j hj
      obtain ⟨_, o, ho, _⟩ := mem_ready.1 hj
      have hj2 := (Array.getElem?_eq_some_iff.1 ho).1
      rw [permL_size hp] at hj2
      obtain ⟨k, _, rfl, hk⟩ := hp.un j hj2
      exact h k ((hp.ready hl hk).2 hj)
    · intro h i hi
      exact h (σ i) ((hp.ready hl (rlt hi)).1 hi)
  intro fuel
  induction fuel with
  | zero => exact fun l l' a w _ _ hl h => ⟨(nil1 hl).2 h.1, h.2⟩
  | succ fuel ih =>
    intro l l' a w hs hs' hl h
    refine ⟨fun hn => h.1 ((nil1 hl).1 hn), fun i hi => ?_⟩
    have hil := rlt hi
    have h2 := h.2 (σ i) ((hp.ready hl hil).1 hi)
    obtain ⟨o, ho⟩ : ∃ o, ops[i]? = some o := ⟨_, Array.getElem?_eq_getElem hil⟩
    have hg := (hp.free i o ho).1
    have hσ : σ i < ops.size := by
      have := (List.getElem?_eq_some_iff.1 (hp.to i hil)).1
      rw [hp.len] at this; exact this
    have h3 : wpOp P ops Q i (wpAny P md (permL τ σ ops) Q fuel (l'.setIfInBounds (σ i) true)) a w := by
      unfold wpOp at h2 ⊢
      rw [hp.get ho] at h2
      rw [ho]
      dsimp only at h2 ⊢
      rw [wanted_none (o := ren σ o) hg, ren_wp, ren_asks] at h2
      rw [wanted_none hg]
      exact h2
    refine wpOp_mono (fun a' w' h' => ih _ _ a' w' (by simpa using hs) (by simpa using hs') (fun k hk => ?_) h') h3
    rw [Array.getElem?_setIfInBounds, Array.getElem?_setIfInBounds]
    by_cases hik : i = k
    · subst hik
      rw [if_pos rfl, if_pos rfl, hs, hs', if_pos hσ, if_pos hil]
    · have hne : σ i ≠ σ k := fun e => hik (by
        have h5 := hp.to i hil
        rw [e, hp.to k hk] at h5
        exact (Option.some.inj h5).symm)
      rw [if_neg hne, if_neg hik]
      exact hl k hk
theorem permL_ops {n : Nat} {ops : Array Oper} {τ : List Nat} {σ : Nat → Nat} (hp : PermOf τ σ ops) (h : opsOk n G ops = true) : opsOk n G (permL τ σ ops) = true := by
  unfold opsOk at h ⊢
  rw [List.all_eq_true] at h ⊢
  intro o' ho'
  obtain ⟨j, hj⟩ := List.getElem?_of_mem ho'
  rw [Array.getElem?_toList] at hj
  have hj2 := (Array.getElem?_eq_some_iff.1 hj).1
  rw [permL_size hp] at hj2
  obtain ⟨k, _, rfl, hk⟩ := hp.un j hj2
  obtain ⟨o, ho⟩ : ∃ o, ops[k]? = some o := ⟨_, Array.getElem?_eq_getElem hk⟩
  rw [hp.get ho] at hj
  cases hj
  have := h o (by rw [Array.mem_toList_iff]; exact Array.mem_of_getElem? ho)
  exact this
theorem wp_perm {md : Region.Mode} {ops : Array Oper} {τ : List Nat} {σ : Nat → Nat} (hp : PermOf τ σ ops) {Q : Exit → Act → World → Prop} {a : Act} {w : World} (h : wpAny P md (permL τ σ ops) Q (permL τ σ ops).size (Array.replicate (permL τ σ ops).size false) a w) : wpAny P md ops Q ops.size (Array.replicate ops.size false) a w := by
  rw [permL_size hp] at h
  refine wpAny_perm hp _ _ _ a w (by simp) (by simp) (fun i hi => ?_) h
  have hσ : σ i < ops.size := by
    have := (List.getElem?_eq_some_iff.1 (hp.to i hi)).1
    rw [hp.len] at this; exact this
  simp [hi, hσ]
end
end Go.Proofs.YtbdnkneedengcaaGreatDoor

/- Functions that defer calls, with a region whose loads and stores are unordered. Conditions: none. -/
set_option linter.unusedSimpArgs false
set_option linter.unusedVariables false
namespace Go.Proofs.YtbdnkneedengcaaGreatDoor
open Go
def pairOk2 (P : Program) (ops : Array Oper) (ms : List Nat) (i j : Nat) (oi oj : Oper) : Bool :=
  (match oi.dst with
   | some d => oj.dst != some d && (!(oj.looksAt ops).contains d || ordB ms i j)
   | none => true) &&
  (!(decide (2 ≤ opKind P oi) && decide (2 ≤ opKind P oj)) || ordB ms i j)
def order2Ok (P : Program) (ops : Array Oper) : Bool :=
  let ms := masks ops.toList []
  ops.toList.zipIdx.all fun (oj, j) => (oj.after.toList.all fun e => !Region.binds .any e || decide (e.on < j)) &&
    ops.toList.zipIdx.all fun (oi, i) => i == j || pairOk2 P ops ms i j oi oj
theorem order2_of {P : Program} {ops : Array Oper} (h : order2Ok P ops = true) : Order2 P ops := by
  have hm := masks_sound (ops := ops) ops.toList [] (by simp) (by simp)
  have ord : ∀ i j, ordB (masks ops.toList []) i j = true → Anc ops i j ∨ Anc ops j i := fun i j h => by
    simp only [ordB, Bool.or_eq_true] at h
    exact h.imp (hm _ _) (hm _ _)
  simp only [order2Ok, List.all_eq_true, Bool.and_eq_true] at h
  have pr : ∀ {i j : Nat} {oi oj : Oper}, ops[i]? = some oi → ops[j]? = some oj → i ≠ j → pairOk2 P ops (masks ops.toList []) i j oi oj = true := fun hi hj hne => by
    have := (h _ (zipIdx_mem hj)).2 _ (zipIdx_mem hi)
    simp only [Bool.or_eq_true, beq_iff_eq] at this
    exact this.resolve_left hne
  refine ⟨fun hj he hb => ?_, fun hi hj hne hd => ?_, fun {i j _ _ _} hi hj hne hd hl => ?_, fun {i j _ _} hi hj hne k1 k2 => ?_⟩
  · have := (h _ (zipIdx_mem hj)).1 _ (by simpa using he)
    simpa [hb] using this
  · have := pr hi hj hne
    simp only [pairOk2, hd, Bool.and_eq_true, bne_iff_ne] at this
    exact this.1.1
  · have := pr hi hj hne
    simp only [pairOk2, hd, Bool.and_eq_true, Bool.or_eq_true, Bool.not_eq_true', List.contains_iff_mem] at this
    rcases this.1.2 with h1 | h1
    · exact absurd hl (by simpa using h1)
    · exact ord _ _ h1
  · have := pr hi hj hne
    simp only [pairOk2, Bool.and_eq_true, Bool.or_eq_true] at this
    rcases this.2 with h1 | h1
    · simp [k1, k2] at h1
    · exact ord _ _ h1
def opsAll (n G : Nat) : Code → Bool
  | .region _ ops _ => opsOk n G ops && true
  | .seq a b => opsAll n G a && opsAll n G b
  | .cond c a b => operandOk G c && opsAll n G a && opsAll n G b
  | .block _ b | .loop b | .scope b => opsAll n G b
  | _ => true
def strict (P : Program) : Code → Bool
  | .region _ ops draw => !draw || orderOk P ops
  | .seq a b => strict P a && strict P b
  | .cond _ a b => strict P a && strict P b
  | .block _ b | .loop b | .scope b => strict P b
  | _ => true
theorem codeOk_of {P : Program} {n G : Nat} (c : Code) (h : opsAll n G c = true) (hs : strict P c = true) : codeOk P n G c = true := by
  induction c with
  | region _ ops draw => simp only [opsAll, strict, codeOk, Bool.and_eq_true] at *; exact ⟨h.1, hs⟩
  | seq a b ia ib => simp only [opsAll, strict, codeOk, Bool.and_eq_true] at *; exact ⟨ia h.1 hs.1, ib h.2 hs.2⟩
  | cond c a b ia ib => simp only [opsAll, strict, codeOk, Bool.and_eq_true] at *; exact ⟨⟨h.1.1, ia h.1.2 hs.1⟩, ib h.2 hs.2⟩
  | block _ b ib => exact ib h hs
  | loop b ib => exact ib h hs
  | scope b ib => exact ib h hs
  | _ => rfl
def fnOk2 (G : Nat) (fn : Func) (c : Code) : Bool := opsAll fn.ntmps G c && fn.name != "runtime.NumGoroutine" && decide (fn.params.size + fn.nfree ≤ fn.ntmps)
/-- code that may defer calls -/
inductive DRun2 (P : Program) (G : Nat) (Ext : FuncId → List Value → Mem → Outc → Mem → Prop) : Code → Env → Mem → List ADef → Xit → Env → Mem → List ADef → Prop
  | code {c e S ds x e' S'} (hs : strict P c = true) (h : Ex P G Ext (.j (.code c e S x e' S'))) : DRun2 P G Ext c e S ds x e' S' ds
  | seq {a b e S ds e1 S1 ds1 x e' S' ds'} (h : DRun2 P G Ext a e S ds .nrm e1 S1 ds1) (k : DRun2 P G Ext b e1 S1 ds1 x e' S' ds') : DRun2 P G Ext (.seq a b) e S ds x e' S' ds'
  | seqOut {a b e S ds x e' S' ds'} (h : DRun2 P G Ext a e S ds x e' S' ds') (hx : x ≠ .nrm) : DRun2 P G Ext (.seq a b) e S ds x e' S' ds'
  | defer {id ops n e S ds e1 S1 o c fv f first captured} (hn : ops.size = n + 1) (h : Ex P G Ext (.j (.ops false ops (List.range n) e S none e1 S1))) (ho : ops[n]? = some o) (hw : awanted ops o e1 = true) (hd : o.op = .defer c)
      (hc : c.callee = .value fv) (hf : e1.eval fv = .func (.func f) first captured) : DRun2 P G Ext (.region id ops false) e S ds .nrm (e1.put o.dst undef) S1 (⟨f, first.toList ++ c.args.toList.map e1.eval ++ captured.toList⟩ :: ds)
  | rows {id ops e S ds e' S'} {E : Nat → Env} {M : Nat → Mem} {V : Nat → Value} (ho : order2Ok P ops = true) (hE0 : E 0 = e) (hM0 : M 0 = S) (hEN : E ops.size = e') (hMN : M ops.size = S')
      (hfact : ∀ (j : Nat) (o : Oper), ops[j]? = some o → Fact P G false ops E M V j o)
      (hloads : ∀ (i : Nat) (o : Oper), ops[i]? = some o → opKind P o = 1 → ∃ x ∈ o.op.operands, ∃ b, (∀ ρ u, VR ρ ((E i).eval x) u → ∃ c, At ρ b c) ∧ b < (M i).length ∧ (∀ S2 : Mem, S2[b]? = (M i)[b]? → aload P o (E i).eval S2 = some (V i)) ∧
        ∀ (k : Nat) (ok : Oper), ops[k]? = some ok → 2 ≤ opKind P ok → ¬ (Anc ops k i ∨ Anc ops i k) → (M (k + 1))[b]? = (M k)[b]?) : DRun2 P G Ext (.region id ops true) e S ds .nrm e' S' ds
  | flt {id ops0 ops e S ds e' S'} {A : Nat} {dA : Tmp} {opA : Op} {tA ty : TypeId} {pos : String} {af : Array Edge} {cs : Array Value} {mk : Option Addr → Value} {E : Nat → Env} {M : Nat → Mem} {V : Nat → Value} {τ : List Nat} {σ : Nat → Nat} (hp : PermOf τ σ ops0) (hops : permL τ σ ops0 = ops)
      (ho : order3Ok P ops A = true) (hE0 : E 0 = e) (hM0 : M 0 = S) (hEN : E ops.size = e') (hMN : M ops.size = S')
      (hfact : ∀ (j : Nat) (o : Oper), ops[j]? = some o → Fact P G false ops E M V j o)
      (hloads : ∀ (i : Nat) (o : Oper), ops[i]? = some o → opKind P o = 1 → ∃ x ∈ o.op.operands, ∃ b, (∀ ρ u, VR ρ ((E i).eval x) u → ∃ c, At ρ b c) ∧ b < (M i).length ∧ (∀ S2 : Mem, S2[b]? = (M i)[b]? → aload P o (E i).eval S2 = some (V i)) ∧
        ∀ (k : Nat) (ok : Oper), ops[k]? = some ok → 2 ≤ opKind P ok → ¬ (Anc ops k i ∨ Anc ops i k) → (M (k + 1))[b]? = (M k)[b]?)
      (hA : ops[A]? = some ⟨some dA, opA, ty, pos, af, none⟩) (hAk : opKind P ⟨some dA, opA, ty, pos, af, none⟩ = 2) (hza : cs.toList.all scalar = true)
      (hmk : ∀ (ρ : Nat → Option Loc) (x y : Addr), At ρ x.block y.block → y.off = x.off → y.spot = x.spot → VR ρ (mk (some x)) (mk (some y)))
      (hrunA : ∀ (ρ : Nat → Option Loc) (a : Act) (w : World), (∀ x ∈ opA.operands, VR ρ ((E A).eval x) (a.eval x)) → (execOp a.eval ⟨some dA, opA, ty, pos, af, none⟩).run P w = .ok (.value (mk (some ⟨w.heap.size, 0, none⟩))) (w.alloc (.cells cs tA)))
      (hVA : V A = mk (some ⟨(M A).length, 0, none⟩)) (hMA : M (A + 1) = M A ++ [newR cs.toList tA]) : DRun2 P G Ext (.region id ops0 true) e S ds .nrm e' S' ds

section
variable {P : Program} {G : Nat} {Ext : FuncId → List Value → Mem → Outc → Mem → Prop}
theorem DRun2.sim (hm : P.follows .mixedOrders = true) (hext : ∀ f args S out S', Ext f args S out S' → CallSim P G f args S out S') {c : Code} {e : Env} {S : Mem} {Ds : List ADef} {x : Xit} {e' : Env} {S' : Mem} {Ds' : List ADef}
    (h : DRun2 P G Ext c e S Ds x e' S' Ds') : ∀ (n : Nat) (ρ : Nat → Option Loc) (a : Act) (w : World), opsAll n G c = true → ER ρ e a → SR ρ S w → Glob G ρ → a.tmps.size = n → DRs ρ Ds a.defers → c.wp P (AfterD n ρ S w x e' S' Ds') a w := by
  induction h with
  | @code c e S ds x e' S' hs h =>
    intro n ρ a w hok hE hS hG hn hD
    refine wp_mono ((h.sim hm hext) n ρ a w (codeOk_of c hok hs) hE hS hG hn).1 fun ex a' w' ⟨ρ', q1, q2, q3, q4, q5, q6⟩ => ⟨ρ', q1, q2, q3, q4, q5, ?_⟩
    rw [q6]; exact hD.mono q4.ext
  | @seq a b e S ds e1 S1 ds1 x e' S' ds' h k ih1 ih2 =>
    intro n ρ a w hok hE hS hG hn hD
    simp only [opsAll, Bool.and_eq_true] at hok
    refine wp_seq (wp_mono (ih1 n ρ a w hok.1 hE hS hG hn hD) fun ex a1 w1 hA => ?_)
    obtain ⟨ρ1, q1, q2, q3, q4, q5, q6⟩ := hA
    cases ex with
    | normal => exact wp_mono (ih2 n ρ1 a1 w1 hok.2 q2 q3 (hG.mono q4.ext) q5 q6) fun ex a2 w2 ⟨ρ2, r1, r2, r3, r4, r5⟩ => ⟨ρ2, r1, r2, r3, q4.trans r4, r5⟩
    | _ => exact q1.elim
  | @seqOut a b e S ds x e' S' ds' h hx ih =>
    intro n ρ a w hok hE hS hG hn hD
    simp only [opsAll, Bool.and_eq_true] at hok
    refine wp_seq (wp_mono (ih n ρ a w hok.1 hE hS hG hn hD) fun ex a1 w1 hA => ?_)
    obtain ⟨ρ1, q1, q2⟩ := hA
    exact then_out (q1.notNormal hx) ⟨ρ1, q1, q2⟩
  | @defer id ops m e S ds e1 S1 o c fv f first captured hm' h ho hw hd hc hf =>
    intro n ρ a w hok hE hS hG hn hD
    simp only [opsAll, Bool.and_eq_true] at hok
    refine wp_region ?_
    rw [hm', List.range_succ]
    refine Tr.runApp (ds := a.defers) hok.1 (h.sim hm hext) (ρ0 := ρ) (S0 := S) (w0 := w) (fun ρ' a' w' q1 q2 q3 q4 q5 => ?_) ρ a w hE hS hG (Stp.refl _ _ _) hn rfl
    have hG' := hG.mono q3.ext
    simp only [wpOps, ho]
    rw [wanted_eq q4 hok.1 (fun t _ => q1 t), hw]
    simp only [if_true]
    have hev := fun x hx => eval_VR (e := e1) (a := a') hG' ((opsOk_mem hok.1 ho).2 x hx) (fun t _ => q1 t)
    have m0 := hev fv (by simp [hd, Op.operands, Call.operands, hc])
    rw [hf] at m0
    obtain ⟨first', captured', hfe, hl1, hl2⟩ : ∃ f2 c2, a'.eval fv = .func (.func f) f2 c2 ∧ LR ρ' first.toList f2.toList ∧ LR ρ' captured.toList c2.toList := by
      generalize a'.eval fv = u at m0
      cases m0 with
      | func _ _ f2 _ c2 r1 r2 r3 r4 => exact ⟨f2, c2, rfl, ⟨by simpa using r1, fun i v v' x y => r3 i v v' (by simpa using x) (by simpa using y)⟩, ⟨by simpa using r2, fun i v v' x y => r4 i v v' (by simpa using x) (by simpa using y)⟩⟩
    have hl3 : LR ρ' (c.args.toList.map e1.eval) (c.args.toList.map a'.eval) := by
      refine ⟨by simp, fun i v v' x y => ?_⟩
      rw [List.getElem?_map, Option.map_eq_some_iff] at x y
      obtain ⟨q, hq, rfl⟩ := x
      obtain ⟨q', hq', rfl⟩ := y
      rw [hq] at hq'; cases hq'
      exact hev q (by simp [hd, Op.operands, Call.operands, hc]; right; exact List.mem_of_getElem? hq |> fun h => by simpa using h)
    have hrun : (execOp a'.eval o).run P w' = .ok (.defer { target := .fn (.func f) captured', args := first' ++ c.args.map a'.eval }) w' := by
      simp only [execOp, hd, resolve, hc, Sem.run_bind, Deferred.ofValue, hfe, Sem.run_pure, Result.andThen_ok]
    refine .inl ?_
    unfold Oper.wp
    rw [hrun]
    show AfterD n ρ S w .nrm (e1.put o.dst undef) S1 _ .normal _ w'
    refine ⟨ρ', trivial, ?_, q2, q3, by rw [put_size]; exact q4, ?_⟩
    · exact put_ER (a := { a' with defers := _ :: a'.defers }) q1 (flat_VR ρ' undef_flat) (fun d h => by show d < a'.tmps.size; rw [q4]; exact (opsOk_mem hok.1 ho).1 d h)
    · rw [put_defers']
      refine .cons ⟨captured', rfl, ?_⟩ (by rw [q5]; exact hD.mono q3.ext)
      simpa using (hl1.append hl3).append hl2
  | @rows id ops e S ds e' S' E M V ho hE0 hM0 hEN hMN hfact hloads =>
    intro n ρ a w hok hE hS hG hn hD
    simp only [opsAll, Bool.and_eq_true] at hok
    refine wp_region_any hm ?_
    refine drawnR (order2_of ho) hok.1 hE0 hM0 hEN hMN hfact hloads (ds := a.defers) (ρ0 := ρ) (S0 := S) (w0 := w) (fun ρ' a' w' q1 q2 q3 q4 q5 => ⟨ρ', trivial, q1, q2, q3, q4, ?_⟩) hE hS.drew hG (Stp.drew ρ S w) hn rfl
    rw [q5]; exact hD.mono q3.ext
  | @flt id ops0 ops e S ds e' S' A dA opA tA ty pos af cs mk E M V τ σ hp hops ho hE0 hM0 hEN hMN hfact hloads hA hAk hza hmk hrunA hVA hMA =>
    intro n ρ a w hok hE hS hG hn hD
    simp only [opsAll, Bool.and_eq_true] at hok
    refine wp_region_any hm ?_
    subst hops
    refine wp_perm hp ?_
    refine drawnF (order3_of ho) (permL_ops hp hok.1) hE0 hM0 hEN hMN hfact hloads hA hAk hza hmk hrunA hVA hMA (ds := a.defers) (ρ0 := ρ) (S0 := S) (w0 := w) (fun ρ' a' w' q1 q2 q3 q4 q5 => ⟨ρ', trivial, q1, q2, q3, q4, ?_⟩) hE hS.drew hG (Stp.drew ρ S w) hn rfl
    rw [q5]; exact hD.mono q3.ext

/-- a function that defers calls -/
theorem callSim_def2 (hm : P.follows .mixedOrders = true) (hext : ∀ f args S out S', Ext f args S out S' → CallSim P G f args S out S') {f : FuncId} {fn : Func} {c : Code} {args : List Value} {S : Mem} {x : Xit} {e' : Env} {S1 : Mem} {Ds : List ADef} {m : AMode} {out : Outc} {S' : Mem}
    (hf : P.funcs[f]? = some fn) (hb : fn.body = some c) (hok : fnOk2 G fn c = true) (ha : args.length ≤ fn.ntmps) (h : DRun2 P G Ext c (Env.of args) S [] x e' S1 Ds) (hx : modeOf x = some m) (hl : ALv P G fn e' Ds m S1 out S') : CallSim P G f args S out S' := by
  simp only [fnOk2, Bool.and_eq_true, bne_iff_ne, ne_eq] at hok
  refine ⟨⟨fn, hf, hok.1.2, by rw [hb]; rfl⟩, fun ρ args' w hla hS hG => ?_⟩
  have hsz : ({ tmps := args'.toArray ++ Array.replicate (fn.ntmps - args'.toArray.size) undef, defers := [] } : Act).tmps.size = fn.ntmps := by
    have := hla.1; simp; omega
  refine calls_of_wp_defers hf hb (wp_mono (h.sim hm hext fn.ntmps ρ _ w hok.1.1 (of_ER hla _) hS hG hsz .nil) fun ex a1 w1 hA => ?_)
  obtain ⟨ρ1, q1, q2, q3, q4, q5, q6⟩ := hA
  have fin : ∀ u, MR ρ1 m u → Leaves P fn a1.tmps (fun en w' => ∃ ρ', OR ρ' out en ∧ SR ρ' S' w' ∧ Stp ρ S w ρ' S' w') a1.defers u w1 := fun u hu => hl.sim ρ S w ρ1 a1 a1.defers w1 u q2 q6 q3 (hG.mono q4.ext) hu q4
  cases x with
  | nrm => cases hx; cases ex <;> first | exact fin .returning trivial | exact q1.elim
  | ret => cases hx; cases ex <;> first | exact fin .returning trivial | exact q1.elim
  | pan v => cases hx; cases ex <;> first | exact fin (.panicking _) q1 | exact q1.elim
  | _ => cases hx

end
end Go.Proofs.YtbdnkneedengcaaGreatDoor

/- Walks through functions that defer calls, with a region whose loads and stores are unordered. Conditions: none. -/
set_option linter.unusedSimpArgs false
set_option linter.unusedVariables false
namespace Go.Proofs.YtbdnkneedengcaaGreatDoor
open Go
/-- a run of code that may defer calls -/
def DV (P : Program) (G : Nat) (Ext : FuncId → List Value → Mem → Outc → Mem → Prop) (c : Code) (e : Env) (S : Mem) (Ds : List ADef) (Q : Xit → Env → Mem → List ADef → Prop) : Prop :=
  ∃ x e' S' Ds', DRun2 P G Ext c e S Ds x e' S' Ds' ∧ Q x e' S' Ds'
section
variable {P : Program} {G : Nat} {Ext : FuncId → List Value → Mem → Outc → Mem → Prop} {Q : Xit → Env → Mem → List ADef → Prop} {e : Env} {S : Mem} {Ds : List ADef}
theorem DV.code {c : Code} (hs : strict P c = true) (h : W P G Ext c e S fun x e S => Q x e S Ds) : DV P G Ext c e S Ds Q := let ⟨x, e', S', h1, h2⟩ := h; ⟨x, e', S', Ds, .code hs h1, h2⟩
theorem DV.seq {a b : Code} (h : DV P G Ext a e S Ds (DThn (fun e S Ds => DV P G Ext b e S Ds Q) Q)) : DV P G Ext (.seq a b) e S Ds Q := by
  obtain ⟨x, e1, S1, D1, h1, h2⟩ := h
  cases x with
  | nrm => obtain ⟨y, e2, S2, D2, h3, h4⟩ := h2; exact ⟨y, e2, S2, D2, .seq h1 h3, h4⟩
  | _ => exact ⟨_, e1, S1, D1, .seqOut h1 (by simp), h2⟩
/-- a call is deferred -/
theorem DV.defer {id : Nat} {c : Call} {fv : Operand} {f : FuncId} {first captured : Array Value} {dst : Option Tmp} {ty : TypeId} {pos : String} {af : Array Edge} (hc : c.callee = .value fv) (hf : e.eval fv = .func (.func f) first captured)
    (h : Q .nrm (e.put dst undef) S (⟨f, first.toList ++ c.args.toList.map e.eval ++ captured.toList⟩ :: Ds)) : DV P G Ext (.region id #[⟨dst, .defer c, ty, pos, af, none⟩] false) e S Ds Q :=
  ⟨_, _, _, _, .defer (n := 0) rfl (.nil _ _ _ _) rfl rfl rfl hc hf, h⟩
end
/-- a function that defers calls: what it owes -/
theorem known_def2 {P : Program} {G : Nat} {Ext : FuncId → List Value → Mem → Outc → Mem → Prop} (hm : P.follows .mixedOrders = true) (hext : ∀ f args S out S', Ext f args S out S' → CallSim P G f args S out S') {f : FuncId} {fn : Func} {c : Code} {args : List Value} {S : Mem}
    {R : Value → Mem → Prop} (hf : P.funcs[f]? = some fn) (hb : fn.body = some c) (hok : fnOk2 G fn c = true) (ha : Nat.ble args.length fn.ntmps = true)
    (h : DV P G Ext c (Env.of args) S [] fun x e S1 Ds => ∃ m v S', modeOf x = some m ∧ ALv P G fn e Ds m S1 (.ret v) S' ∧ R v S') : ∃ v S', Known P G f args S (.ret v) S' ∧ R v S' := by
  obtain ⟨x, e', S1, Ds, h1, m, v, S', h2, h3, h4⟩ := h
  exact ⟨v, S', callSim_def2 hm hext hf hb hok (Nat.le_of_ble_eq_true ha) h1 h2 h3, h4⟩
end Go.Proofs.YtbdnkneedengcaaGreatDoor

/- Walks through a region that draws, with one allocation at any time. Conditions: none. -/
set_option linter.unusedSimpArgs false
set_option linter.unusedVariables false
namespace Go.Proofs.YtbdnkneedengcaaGreatDoor
open Go
/-- what holds of each operation -/
inductive AllOps (Q : Nat → Oper → Prop) : Nat → List Oper → Prop
  | nil {j : Nat} : AllOps Q j []
  | cons {j : Nat} {o : Oper} {l : List Oper} (h : Q j o) (t : AllOps Q (j + 1) l) : AllOps Q j (o :: l)
theorem AllOps.get {Q : Nat → Oper → Prop} {l : List Oper} {j : Nat} (h : AllOps Q j l) : ∀ (i : Nat) (o : Oper), l[i]? = some o → Q (j + i) o := by
  induction h with
  | nil => intro i o h; simp at h
  | @cons j o l h t ih =>
    intro i o' e
    cases i with
    | zero => simp at e; subst e; exact h
    | succ i => have := ih i o' (by simpa using e); rwa [Nat.add_right_comm, Nat.add_assoc] at this
/-- the slots after so many operations -/
def envAt (ops : Array Oper) (V : Nat → Value) (e : Env) : Nat → Env
  | 0 => e
  | j + 1 => (envAt ops V e j).put ((ops[j]?).bind (·.dst)) (V j)
section
variable {P : Program} {G : Nat} {Ext : FuncId → List Value → Mem → Outc → Mem → Prop} {Q : Xit → Env → Mem → List ADef → Prop} {e : Env} {S : Mem} {Ds : List ADef}
def Fact3 (P : Program) (G : Nat) (ops : Array Oper) (E : Nat → Env) (M : Nat → Mem) (V : Nat → Value) (j : Nat) (o : Oper) : Prop := awanted ops o (E j) = true ∧
    ((PSim P o (E j).eval (V j) ∧ M (j + 1) = M j) ∨
     (OpSim P G o (E j) (M j) (V j) (M (j + 1)) ∧ 2 ≤ opKind P o ∧ (opKind P o = 2 → Cons (M j) (M (j + 1)))))
theorem Fact3.pure {ops : Array Oper} {E : Nat → Env} {M : Nat → Mem} {V : Nat → Value} {j : Nat} {o : Oper} (hw : awanted ops o (E j) = true) (h : apure P o (E j).eval = some (V j)) (hm : M (j + 1) = M j) : Fact3 P G ops E M V j o := ⟨hw, .inl ⟨apure_psim h, hm⟩⟩
theorem Fact3.eff {ops : Array Oper} {E : Nat → Env} {M : Nat → Mem} {V : Nat → Value} {j : Nat} {o : Oper} (hw : awanted ops o (E j) = true) (h : aeff P o (E j).eval (M j) = some (V j, M (j + 1))) (hk : 2 ≤ opKind P o) (hc : opKind P o = 2 → Cons (M j) (M (j + 1))) : Fact3 P G ops E M V j o := ⟨hw, .inr ⟨sim_eff h, hk, hc⟩⟩
theorem Fact3.call {ops : Array Oper} {E : Nat → Env} {M : Nat → Mem} {V : Nat → Value} {j : Nat} {o : Oper} {f : FuncId} {args : List Value} (hw : awanted ops o (E j) = true) (hc : acall o (E j).eval = some (f, args)) (h : CallSim P G f args (M j) (.ret (V j)) (M (j + 1))) (hk : opKind P o = 4) : Fact3 P G ops E M V j o :=
  ⟨hw, .inr ⟨sim_call hc h, by omega, fun h => by omega⟩⟩
/-- a region that draws, without a load, with an allocation at any time, by its slots and memories -/
theorem DV.fltM {id : Nat} {ops0 ops : Array Oper} {M : Nat → Mem} {V : Nat → Value} (τ : List Nat) (σ : Nat → Nat) (A : Nat) {dA : Tmp} {opA : Op} {tA ty : TypeId} {pos : String} {af : Array Edge} {cs : Array Value} {mk : Option Addr → Value} (hp : permOk τ σ ops0 = true) (hops : permL τ σ ops0 = ops)
    (ho : order3Ok P ops A = true) (hM0 : M 0 = S) (hnl : (ops.toList.all fun o => !Nat.beq (opKind P o) 1) = true)
    (hA : ops[A]? = some ⟨some dA, opA, ty, pos, af, none⟩) (hAk : opKind P ⟨some dA, opA, ty, pos, af, none⟩ = 2) (hza : cs.toList.all scalar = true)
    (hmk : ∀ (ρ : Nat → Option Loc) (x y : Addr), At ρ x.block y.block → y.off = x.off → y.spot = x.spot → VR ρ (mk (some x)) (mk (some y)))
    (hrunA : ∀ (ρ : Nat → Option Loc) (a : Act) (w : World), (∀ x ∈ opA.operands, VR ρ ((envAt ops V e A).eval x) (a.eval x)) → (execOp a.eval ⟨some dA, opA, ty, pos, af, none⟩).run P w = .ok (.value (mk (some ⟨w.heap.size, 0, none⟩))) (w.alloc (.cells cs tA)))
    (hVA : V A = mk (some ⟨(M A).length, 0, none⟩)) (hMA : M (A + 1) = M A ++ [newR cs.toList tA])
    (hf : AllOps (Fact3 P G ops (envAt ops V e) M V) 0 ops.toList)
    (h : Q .nrm (envAt ops V e ops.size) (M ops.size) Ds) : DV P G Ext (.region id ops0 true) e S Ds Q := by
  refine ⟨_, _, _, _, .flt (A := A) (E := envAt ops V e) (M := M) (V := V) (permOk_of hp) hops ho rfl hM0 rfl rfl (fun j o hj => ?_) (fun i o hi hk => ?_) hA hAk hza hmk hrunA hVA hMA, h⟩
  · have := hf.get j o (by simpa using hj)
    rw [Nat.zero_add] at this
    refine ⟨by simp only [envAt, hj, Option.bind_some], .inr ⟨this.1, ?_⟩⟩
    rcases this.2 with h1 | ⟨h1, h2, h3⟩
    · exact .inl h1
    · exact .inr (.inr ⟨h1, h2, fun h => h.elim h3 (fun h => by cases h.2)⟩)
  · have := List.all_eq_true.1 hnl o (by rw [Array.mem_toList_iff]; exact Array.mem_of_getElem? hi)
    rw [hk] at this
    cases this
end
end Go.Proofs.YtbdnkneedengcaaGreatDoor
