/- What several proofs share, part 7: a model of memory, contracts of functions. Conditions: none. -/
import Derived.Test.YtbdnkneedengcaaGreatDoorLibF

/- The document's digits compared, taken off, multiplied by little ones: walked. Conditions: none. -/
set_option linter.unusedSimpArgs false
set_option linter.unusedVariables false
set_option maxRecDepth 100000
set_option maxHeartbeats 4000000
namespace Go.Proofs.YtbdnkneedengcaaGreatDoor
open Go
variable {G : Nat} {Ext : FuncId → List Value → Mem → Outc → Mem → Prop}
/-- digits that a reference hands out -/
def HalfR (S S' : Mem) (v : Value) (N : Nat) : Prop := ∃ (l : WL) (a : Option Addr) (c : Nat), Cons S S' ∧ v = .slice a l.length c ∧ WIn S' a c l ∧ (∀ x, a = some x → S.length ≤ x.block) ∧ HalfOk l ∧ hnum l = N
theorem grow_new {N : Nat} {S : Mem} {el : TypeId} {a : Option Addr} {n c : Nat} {l : List Value} (h : Grow N S el 1 (.slice a n c) n l) : ∀ x, a = some x → N ≤ x.block := fun x hx => by
  obtain ⟨_, ⟨hv, _⟩ | ⟨b, hb, hv, _⟩⟩ := h
  · injection hv with e1; rw [e1] at hx; cases hx
  · injection hv with e1; rw [e1] at hx; cases hx; exact hb
theorem compare_C (a1 a2 : Option Addr) (c1 c2 : Nat) (f g : WL) (S : Mem) (h1 : WIn S a1 c1 f) (h2 : WIn S a2 c2 g) (k1 : HalfOk f) (k2 : HalfOk g) :
    C Tryz.prog G Ext 72 [.slice a1 f.length c1, .slice a2 g.length c2] S fun v S' => v = .int .i64 (cmpI (hnum f) (hnum g)) ∧ S' = S := by
  have hl1 := h1.2.2.2
  have hl2 := h2.2.2.2
  refine C.fn Tryz.func72 rfl (by kernel_rfl) rfl ?_
  repeat first|refine W.g ?_|refine L.p rfl rfl ?_|refine L.nil ?_|refine L.skip rfl ?_
  refine W.ite rfl (fun h => ?_) (fun h => ?_)
  · have hne : f.length ≠ g.length := fun he => by rw [he] at h; simp at h
    clear h
    repeat first|refine W.g ?_|refine L.p rfl rfl ?_|refine L.nil ?_|refine L.skip rfl ?_
    refine W.ite rfl (fun h => ?_) (fun h => ?_)
    · have hlt : f.length < g.length := by have := of_decide_eq_true h; omega
      clear h
      repeat first|refine W.g ?_|refine L.p rfl rfl ?_|refine L.nil ?_|refine L.skip rfl ?_
      refine ⟨.inr rfl, _, rfl, ?_, rfl⟩
      have : hnum f < hnum g := by
        refine Classical.byContradiction fun hc => ?_
        have := half_len k2 k1 (by omega)
        omega
      unfold cmpI
      rw [if_pos (by omega)]; rfl
    · have hlt : g.length < f.length := by have := of_decide_eq_false h; omega
      clear h
      repeat first|refine W.g ?_|refine L.p rfl rfl ?_|refine L.nil ?_|refine L.skip rfl ?_
      refine ⟨.inr rfl, _, rfl, ?_, rfl⟩
      have : hnum g < hnum f := by
        refine Classical.byContradiction fun hc => ?_
        have := half_len k1 k2 (by omega)
        omega
      unfold cmpI
      rw [if_neg (by omega), if_pos (by omega)]; rfl
  have heq : f.length = g.length := by
    refine Classical.byContradiction fun hc => ?_
    have : ((f.length : Int) != (g.length : Int)) = true := by rw [bne_iff_ne]; omega
    rw [this] at h; cases h
  clear h
  repeat first|refine W.g ?_|refine L.p rfl rfl ?_|refine L.nil ?_|refine L.skip rfl ?_
  refine W.loop (fun j e T => ∃ k : Nat, j = k ∧ k ≤ f.length ∧ T = S ∧ e 0 = .slice a1 f.length c1 ∧ e 1 = .slice a2 g.length c2 ∧ e 5 = .int .i64 ((k : Int) - 1) ∧ ∀ p, k ≤ p → f[p]? = g[p]?) f.length
    ⟨f.length, rfl, Nat.le_refl _, rfl, rfl, rfl, ?_, fun p hp => ?_⟩ ?_
  · exact congrArg (Value.int .i64) (wrap64 (by omega) (by omega))
  · rw [List.getElem?_eq_none (by omega), List.getElem?_eq_none (by omega)]
  rintro j e T ⟨k, rfl, hk, rfl, e0, e1', e5, hp⟩
  refine W.env3 e0 e1' e5 ?_
  repeat first|refine W.g ?_|refine L.p rfl rfl ?_|refine L.nil ?_|refine L.skip rfl ?_
  refine W.ite rfl (fun h => ?_) (fun h => ?_)
  · have hk1 : 1 ≤ j := by have := of_decide_eq_true h; omega
    clear h
    obtain ⟨m, rfl⟩ : ∃ m, j = m + 1 := ⟨j - 1, by omega⟩
    have hm : (((m + 1 : Nat) : Int) - 1) = (m : Int) := by omega
    rw [hm]
    obtain ⟨x, hx⟩ : ∃ x, f[m]? = some x := ⟨_, List.getElem?_eq_getElem (by omega)⟩
    obtain ⟨y, hy⟩ : ∃ y, g[m]? = some y := ⟨_, List.getElem?_eq_getElem (by omega)⟩
    have hd := drop_same (k := m + 1) (fun p h => hp p h)
    repeat first|refine W.g ?_|refine L.p rfl rfl ?_|refine L.nil ?_|refine L.skip rfl ?_
    refine L.el h1.1 (k := m) rfl (wv_get hx) rfl rfl rfl rfl (fun _ => rfl) rfl (fun p => ?_)
    repeat first|refine W.g ?_|refine L.p rfl rfl ?_|refine L.nil ?_|refine L.skip rfl ?_
    refine L.el h2.1 (k := m) rfl (wv_get hy) rfl rfl rfl rfl (fun _ => rfl) rfl (fun p => ?_)
    repeat first|refine W.g ?_|refine L.p rfl rfl ?_|refine L.nil ?_|refine L.skip rfl ?_
    refine W.ite rfl (fun h => ?_) (fun h => ?_)
    · have hlt : x.toNat < y.toNat := by have := of_decide_eq_true h; omega
      clear h
      have := hcmp_at k1.1 hx hy hd hlt
      repeat first|refine W.g ?_|refine L.p rfl rfl ?_|refine L.nil ?_|refine L.skip rfl ?_
      refine ⟨.inr rfl, _, rfl, ?_, rfl⟩
      unfold cmpI
      rw [if_pos (by omega)]; rfl
    have hge : y.toNat ≤ x.toNat := by have := of_decide_eq_false h; omega
    clear h
    repeat first|refine W.g ?_|refine L.p rfl rfl ?_|refine L.nil ?_|refine L.skip rfl ?_
    refine L.el h1.1 (k := m) rfl (wv_get hx) rfl rfl rfl rfl (fun _ => rfl) rfl (fun p => ?_)
    repeat first|refine W.g ?_|refine L.p rfl rfl ?_|refine L.nil ?_|refine L.skip rfl ?_
    refine L.el h2.1 (k := m) rfl (wv_get hy) rfl rfl rfl rfl (fun _ => rfl) rfl (fun p => ?_)
    repeat first|refine W.g ?_|refine L.p rfl rfl ?_|refine L.nil ?_|refine L.skip rfl ?_
    refine W.ite rfl (fun h => ?_) (fun h => ?_)
    · have hlt : y.toNat < x.toNat := by have := of_decide_eq_true h; omega
      clear h
      have := hcmp_at k2.1 hy hx hd.symm hlt
      repeat first|refine W.g ?_|refine L.p rfl rfl ?_|refine L.nil ?_|refine L.skip rfl ?_
      refine ⟨.inr rfl, _, rfl, ?_, rfl⟩
      unfold cmpI
      rw [if_neg (by omega), if_pos (by omega)]; rfl
    · have hxy : x = y := by
        have := of_decide_eq_false h
        exact BitVec.eq_of_toNat_eq (by omega)
      clear h
      repeat first|refine W.g ?_|refine L.p rfl rfl ?_|refine L.nil ?_|refine L.skip rfl ?_
      refine ⟨m, by omega, m, rfl, by omega, rfl, rfl, rfl, congrArg (Value.int .i64) (wrap64 (by omega) (by omega)), fun p h => ?_⟩
      rcases Nat.eq_or_lt_of_le h with h | h
      · rw [← h, hx, hy, hxy]
      · exact hp p h
  · have hk0 : j = 0 := by have := of_decide_eq_false h; omega
    subst hk0
    clear h
    have hfg : f = g := List.ext_getElem? fun p => hp p (Nat.zero_le _)
    repeat first|refine W.g ?_|refine L.p rfl rfl ?_|refine L.nil ?_|refine L.skip rfl ?_
    refine ⟨.inr rfl, _, rfl, ?_, rfl⟩
    rw [hfg]
    unfold cmpI
    rw [if_neg (by omega), if_neg (by omega)]; rfl
theorem word32 (s : Nat) : ∃ r : BitVec 64, r.toNat = s % 4294967296 := word_of (by omega)
theorem minus_C (a1 a2 : Option Addr) (c1 c2 : Nat) (f g : WL) (S : Mem) (h1 : WIn S a1 c1 f) (h2 : WIn S a2 c2 g) (k1 : HalfOk f) (k2 : HalfOk g) (hge : hnum g ≤ hnum f) (hlen : f.length < 1000000) :
    C Tryz.prog G Ext 100 [.slice a1 f.length c1, .slice a2 g.length c2] S fun v S' => HalfR S S' v (hnum f - hnum g) := by
  have hll := half_len k2 k1 hge
  refine C.fn Tryz.func100 rfl (by kernel_rfl) rfl ?_
  repeat first|refine W.g ?_|refine L.p rfl rfl ?_|refine L.nil ?_|refine L.skip rfl ?_
  refine W.loop (fun j e T => ∃ (i : Nat) (o : WL) (a3 : Option Addr) (c3 l : Nat), j = f.length - i ∧ i ≤ f.length ∧ Cons S T ∧ e 0 = .slice a1 f.length c1 ∧ e 1 = .slice a2 g.length c2 ∧ e 5 = .slice a3 i c3 ∧ e 6 = .int .u64 (l : Int) ∧ e 7 = vi i ∧ Grow S.length T 55 1 (.slice a3 i c3) i (wv o) ∧ o.length = i ∧ Small32 o ∧ l ≤ 1 ∧ hnum o + hnum (g.take i) = hnum (f.take i) + l * 2 ^ (32 * i)) f.length
    ⟨0, [], none, 0, 0, by omega, by omega, Cons.refl _, rfl, rfl, rfl, rfl, rfl, Grow.nil _ _ _ _, rfl, (fun x hx => by simp at hx), by decide, by simp [hnum]⟩ ?_
  rintro j e T ⟨i, o, a3, c3, l, rfl, hi, hc, e0, e1, e5, e6, e7, hg, hol, hso, hl, hsum⟩
  refine W.env5 e0 e1 e5 e6 e7 ?_
  repeat first|refine W.g ?_|refine L.p rfl rfl ?_|refine L.nil ?_|refine L.skip rfl ?_
  refine W.ite rfl (fun h => ?_) (fun h => ?_)
  · have hin : i < f.length := by have := of_decide_eq_true h; omega
    clear h
    obtain ⟨x, hx⟩ : ∃ x, f[i]? = some x := ⟨_, List.getElem?_eq_getElem hin⟩
    have hxl := small32_get k1.1 hx
    have hw1 : IntKind.u64.wrap (IntKind.u64.wrap ((x.toNat : Int) + 4294967296) - (l : Int)) = ((x.toNat + 4294967296 - l : Nat) : Int) := by
      rw [show IntKind.u64.wrap ((x.toNat : Int) + 4294967296) = ((x.toNat + 4294967296 : Nat) : Int) from wrapU64 (by omega) (by omega), wrapU64 (by omega) (by omega)]; omega
    repeat first|refine W.g ?_|refine L.p rfl rfl ?_|refine L.nil ?_|refine L.skip rfl ?_
    refine L.el (h1.cons hc).1 (k := i) rfl (wv_get hx) rfl rfl rfl rfl (fun _ => rfl) rfl (fun p => ?_)
    repeat first|refine W.g ?_|refine L.p rfl rfl ?_|refine L.nil ?_|refine L.skip rfl ?_
    rw [hw1]
    refine W.ite rfl (fun h => ?_) (fun h => ?_)
    · have hi2 : i < g.length := by have := of_decide_eq_true h; omega
      clear h
      obtain ⟨y, hy⟩ : ∃ y, g[i]? = some y := ⟨_, List.getElem?_eq_getElem hi2⟩
      have hyl := small32_get k2.1 hy
      have hty := hnum_take_succ hy
      have hw2 : IntKind.u64.wrap (((x.toNat + 4294967296 - l : Nat) : Int) - (y.toNat : Int)) = ((x.toNat + 4294967296 - l - y.toNat : Nat) : Int) := by
        rw [wrapU64 (by omega) (by omega)]; omega
      repeat first|refine W.g ?_|refine L.p rfl rfl ?_|refine L.nil ?_|refine L.skip rfl ?_
      refine L.el (h2.cons hc).1 (k := i) rfl (wv_get hy) rfl rfl rfl rfl (fun _ => rfl) rfl (fun p => ?_)
      repeat first|refine W.g ?_|refine L.p rfl rfl ?_|refine L.nil ?_|refine L.skip rfl ?_
      rw [hw2]
      obtain ⟨s, hs⟩ : ∃ s, s = x.toNat + 4294967296 - l - y.toNat := ⟨_, rfl⟩
      obtain ⟨hst, hs1⟩ := sub_step32 (P := 2 ^ (32 * i)) hsum hl hxl hyl hs
      obtain ⟨r, hr⟩ := word32 s
      rw [← hr] at hst
      rw [← hs]
      have hw3 : IntKind.u64.wrap (1 - Int.fdiv (s : Int) (2 ^ min (Int.toNat 32) IntKind.u64.bits)) = ((1 - s / 4294967296 : Nat) : Int) := by
        rw [shrHi, wrapU64 (by omega) (by omega)]; omega
      repeat first|refine W.g ?_|refine L.p rfl rfl ?_|refine L.nil ?_|refine L.skip rfl ?_
      rw [andLo (by omega), ← hr]
      refine L.push1 (w := v64 r) rfl hc.len (.inl hg) rfl rfl rfl rfl rfl (by omega) rfl (fun _ => rfl) (fun p a4 c4 S2 h2 h3 h4 => ?_)
      repeat first|refine W.g ?_|refine L.p rfl rfl ?_|refine L.nil ?_|refine L.skip rfl ?_
      refine ⟨f.length - (i + 1), by omega, i + 1, o ++ [r], a4, c4, 1 - s / 4294967296, rfl, by omega, hc.trans' h4, rfl, rfl, rfl, (force_eq rfl).trans (congrArg (Value.int .u64) hw3), congrArg (Value.int .i64) (wrap64 (by omega) (by omega)), by rw [wv, List.map_append]; exact h2, by simp [hol], small32_snoc hso (by omega), by omega, ?_⟩
      rw [hnum_snoc, hol, pow32_succ, hnum_take_succ hx, hty]
      exact hst
    · have hi2 : g.length ≤ i := by have := of_decide_eq_false h; omega
      clear h
      have hyl : 0 < 4294967296 := by decide
      have hty : hnum (g.take (i + 1)) = hnum (g.take i) + 2 ^ (32 * i) * 0 := by rw [htake_more hi2]; omega
      rw [show x.toNat + 4294967296 - l = x.toNat + 4294967296 - l - 0 from rfl]
      obtain ⟨s, hs⟩ : ∃ s, s = x.toNat + 4294967296 - l - 0 := ⟨_, rfl⟩
      obtain ⟨hst, hs1⟩ := sub_step32 (P := 2 ^ (32 * i)) hsum hl hxl hyl hs
      obtain ⟨r, hr⟩ := word32 s
      rw [← hr] at hst
      rw [← hs]
      have hw3 : IntKind.u64.wrap (1 - Int.fdiv (s : Int) (2 ^ min (Int.toNat 32) IntKind.u64.bits)) = ((1 - s / 4294967296 : Nat) : Int) := by
        rw [shrHi, wrapU64 (by omega) (by omega)]; omega
      repeat first|refine W.g ?_|refine L.p rfl rfl ?_|refine L.nil ?_|refine L.skip rfl ?_
      rw [andLo (by omega), ← hr]
      refine L.push1 (w := v64 r) rfl hc.len (.inl hg) rfl rfl rfl rfl rfl (by omega) rfl (fun _ => rfl) (fun p a4 c4 S2 h2 h3 h4 => ?_)
      repeat first|refine W.g ?_|refine L.p rfl rfl ?_|refine L.nil ?_|refine L.skip rfl ?_
      refine ⟨f.length - (i + 1), by omega, i + 1, o ++ [r], a4, c4, 1 - s / 4294967296, rfl, by omega, hc.trans' h4, rfl, rfl, rfl, (force_eq rfl).trans (congrArg (Value.int .u64) hw3), congrArg (Value.int .i64) (wrap64 (by omega) (by omega)), by rw [wv, List.map_append]; exact h2, by simp [hol], small32_snoc hso (by omega), by omega, ?_⟩
      rw [hnum_snoc, hol, pow32_succ, hnum_take_succ hx, hty]
      exact hst
  · have hin : i = f.length := by have := of_decide_eq_false h; omega
    subst hin
    clear h
    rw [List.take_length, List.take_of_length_le hll] at hsum
    have hlt := hnum_lt hso
    rw [hol] at hlt
    have hl0 : l = 0 := by
      rcases Nat.lt_or_ge 0 l with h | h
      · have : l = 1 := by omega
        subst this
        rw [Nat.one_mul] at hsum
        omega
      · omega
    subst hl0
    rw [Nat.zero_mul, Nat.add_zero] at hsum
    have hW : WIn T a3 c3 o := grow_win (by rw [hol]; exact hg) (by omega)
    repeat first|refine W.g ?_|refine L.p rfl rfl ?_|refine L.nil ?_|refine L.skip rfl ?_
    refine L.cl (strip_C a3 c3 o T hW) rfl (by rw [hol]; rfl) ?_
    rintro _ _ ⟨rfl, rfl⟩
    refine ⟨nofun, ?_⟩
    repeat first|refine W.g ?_|refine L.p rfl rfl ?_|refine L.nil ?_|refine L.skip rfl ?_
    exact ⟨.inr rfl, _, rfl, fm o, a3, c3, hc, rfl, hW.form, grow_new hg, HalfOk.form hso, by rw [hnum_form]; omega⟩
theorem little_C (a : Option Addr) (c n : Nat) (f : WL) (S : Mem) (h1 : WIn S a c f) (k1 : Small32 f) (hn : n < 4294967296) (hlen : f.length < 1000000) :
    C Tryz.prog G Ext 102 [.slice a f.length c, .int .u64 (n : Int)] S fun v S' => HalfR S S' v (hnum f * n) := by
  refine C.fn Tryz.func102 rfl (by kernel_rfl) rfl ?_
  repeat first|refine W.g ?_|refine L.p rfl rfl ?_|refine L.nil ?_|refine L.skip rfl ?_
  refine W.loop (fun j e T => ∃ (i : Nat) (o : WL) (a3 : Option Addr) (c3 cr : Nat), j = f.length - i ∧ i ≤ f.length ∧ Cons S T ∧ e 0 = .slice a f.length c ∧ e 1 = .int .u64 (n : Int) ∧ e 5 = .slice a3 i c3 ∧ e 6 = .int .u64 (cr : Int) ∧ e 7 = vi i ∧ Grow S.length T 55 1 (.slice a3 i c3) i (wv o) ∧ o.length = i ∧ Small32 o ∧ cr < 4294967296 ∧ hnum o + cr * 2 ^ (32 * i) = hnum (f.take i) * n) f.length
    ⟨0, [], none, 0, 0, by omega, by omega, Cons.refl _, rfl, rfl, rfl, rfl, rfl, Grow.nil _ _ _ _, rfl, (fun x hx => by simp at hx), by decide, by simp [hnum]⟩ ?_
  rintro j e T ⟨i, o, a3, c3, cr, rfl, hi, hc, e0, e1, e5, e6, e7, hg, hol, hso, hcr, hsum⟩
  refine W.env5 e0 e1 e5 e6 e7 ?_
  repeat first|refine W.g ?_|refine L.p rfl rfl ?_|refine L.nil ?_|refine L.skip rfl ?_
  refine W.ite rfl (fun h => ?_) (fun h => ?_)
  · have hin : i < f.length := by have := of_decide_eq_true h; omega
    clear h
    obtain ⟨x, hx⟩ : ∃ x, f[i]? = some x := ⟨_, List.getElem?_eq_getElem hin⟩
    have hxl := small32_get k1 hx
    have hxn : x.toNat * n ≤ 4294967295 * 4294967295 := Nat.mul_le_mul (by omega) (by omega)
    obtain ⟨s, hs⟩ : ∃ s, s = x.toNat * n + cr := ⟨_, rfl⟩
    have hw1 : IntKind.u64.wrap (IntKind.u64.wrap ((x.toNat : Int) * (n : Int)) + (cr : Int)) = (s : Int) := by
      rw [umul (by omega), uadd (by omega), hs]
    have hsl : s < 18446744073709551616 := by omega
    obtain ⟨r, hr⟩ := word32 s
    have hst := mul_step32 (P := 2 ^ (32 * i)) hsum hs
    rw [← hr] at hst
    repeat first|refine W.g ?_|refine L.p rfl rfl ?_|refine L.nil ?_|refine L.skip rfl ?_
    refine L.el (h1.cons hc).1 (k := i) rfl (wv_get hx) rfl rfl rfl rfl (fun _ => rfl) rfl (fun p => ?_)
    repeat first|refine W.g ?_|refine L.p rfl rfl ?_|refine L.nil ?_|refine L.skip rfl ?_
    rw [hw1, andLo hsl, ← hr]
    refine L.push1 (w := v64 r) rfl hc.len (.inl hg) rfl rfl rfl rfl rfl (by omega) rfl (fun _ => rfl) (fun p a4 c4 S2 h2 h3 h4 => ?_)
    repeat first|refine W.g ?_|refine L.p rfl rfl ?_|refine L.nil ?_|refine L.skip rfl ?_
    refine ⟨f.length - (i + 1), by omega, i + 1, o ++ [r], a4, c4, s / 4294967296, rfl, by omega, hc.trans' h4, rfl, rfl, rfl, (force_eq rfl).trans (congrArg (Value.int .u64) (shrHi s)), congrArg (Value.int .i64) (wrap64 (by omega) (by omega)), by rw [wv, List.map_append]; exact h2, by simp [hol], small32_snoc hso (by omega), by omega, ?_⟩
    rw [hnum_snoc, hol, pow32_succ, hnum_take_succ hx]
    exact hst
  · have hin : i = f.length := by have := of_decide_eq_false h; omega
    subst hin
    clear h
    rw [List.take_length] at hsum
    obtain ⟨r, hr⟩ := word_of (n := cr) (by omega)
    rw [← hr]
    repeat first|refine W.g ?_|refine L.p rfl rfl ?_|refine L.nil ?_|refine L.skip rfl ?_
    refine L.push1 (w := v64 r) rfl hc.len (.inl hg) rfl rfl rfl rfl rfl (by omega) rfl (fun _ => rfl) (fun p a4 c4 S2 h2 h3 h4 => ?_)
    have hW : WIn S2 a4 c4 (o ++ [r]) := grow_win (by rw [List.length_append, hol, wv, List.map_append]; exact h2) (by simp; omega)
    have hlo : (o ++ [r]).length = f.length + 1 := by simp [hol]
    repeat first|refine W.g ?_|refine L.p rfl rfl ?_|refine L.nil ?_|refine L.skip rfl ?_
    refine L.cl (strip_C a4 c4 (o ++ [r]) S2 hW) rfl (by rw [hlo]; rfl) ?_
    rintro _ _ ⟨rfl, rfl⟩
    refine ⟨nofun, ?_⟩
    repeat first|refine W.g ?_|refine L.p rfl rfl ?_|refine L.nil ?_|refine L.skip rfl ?_
    refine ⟨.inr rfl, _, rfl, fm (o ++ [r]), a4, c4, hc.trans' h4, rfl, hW.form, grow_new h2, HalfOk.form (small32_snoc hso (by omega)), ?_⟩
    rw [hnum_form, hnum_snoc, hol, hr, Nat.mul_comm (2 ^ (32 * f.length))]
    exact hsum
end Go.Proofs.YtbdnkneedengcaaGreatDoor

/- The document's sums, differences, products: walked. Conditions: none. -/
set_option linter.unusedSimpArgs false
set_option linter.unusedVariables false
set_option maxRecDepth 100000
set_option maxHeartbeats 4000000
namespace Go.Proofs.YtbdnkneedengcaaGreatDoor
open Go
variable {G : Nat} {Ext : FuncId → List Value → Mem → Outc → Mem → Prop}
theorem limbs_num {h : WL} (hs : Small32 h) : fm (un h) = toW (hnum h) := by unfold fm; rw [wnum_un _ hs]
theorem hl_ok (l : WL) : HalfOk (fm (hl l)) := HalfOk.form (small_hl l)
theorem hl_num (l : WL) : hnum (fm (hl l)) = wnum l := by rw [hnum_form, hnum_hl]
theorem hlf_len (l : WL) : (fm (hl l)).length ≤ 2 * l.length := by
  have := toW_len_le (hl l)
  rw [hl_len] at this
  exact this
/-- digits made limbs -/
theorem limbsN_C (a : Option Addr) (c : Nat) (h : WL) (S : Mem) (hI : WIn S a c h) (hs : Small32 h) (hlen : h.length < 1000000) : C Tryz.prog G Ext 88 [.slice a h.length c] S fun v S' => RefW S S' v (toW (hnum h)) := by
  rw [← limbs_num hs]
  exact limbs_C a c h S hI hlen
/-- limbs made digits -/
theorem halvesN_C (a : Option Addr) (c : Nat) (l : WL) (S : Mem) (hI : WIn S a c l) (hlen : l.length < 1000000) : C Tryz.prog G Ext 73 [.slice a l.length c] S fun v S' => ∃ h, RefW S S' v h ∧ HalfOk h ∧ hnum h = wnum l ∧ h.length ≤ 2 * l.length :=
  (halves_C a c l S hI hlen).mono fun v S' h => ⟨_, h, hl_ok l, hl_num l, hlf_len l⟩
theorem minusR_C (a1 a2 : Option Addr) (c1 c2 : Nat) (l1 l2 : WL) (S : Mem) (h1 : WIn S a1 c1 l1) (h2 : WIn S a2 c2 l2) (n1 : l1.length < 400000) (n2 : l2.length < 400000) (hge : wnum l2 ≤ wnum l1) :
    C Tryz.prog G Ext 65 [.slice a1 l1.length c1, .slice a2 l2.length c2] S fun v S' => RefW S S' v (toW (wnum l1 - wnum l2)) := by
  refine C.fn Tryz.func65 rfl (by kernel_rfl) rfl ?_
  repeat first|refine W.g ?_|refine L.p rfl rfl ?_|refine L.nil ?_|refine L.skip rfl ?_
  refine L.cl (halvesN_C a1 c1 l1 S h1 (by omega)) rfl rfl ?_
  rintro _ S1 ⟨f, ⟨k1, b1, d1, rfl, i1⟩, o1, e1, q1⟩
  refine ⟨fun _ => k1, ?_⟩
  repeat first|refine W.g ?_|refine L.p rfl rfl ?_|refine L.nil ?_|refine L.skip rfl ?_
  refine L.cl (halvesN_C a2 c2 l2 S1 (h2.cons k1) (by omega)) rfl rfl ?_
  rintro _ S2 ⟨g, ⟨k2, b2, d2, rfl, i2⟩, o2, e2, q2⟩
  refine ⟨fun _ => k2, ?_⟩
  repeat first|refine W.g ?_|refine L.p rfl rfl ?_|refine L.nil ?_|refine L.skip rfl ?_
  refine L.cl (minus_C b1 b2 d1 d2 f g S2 (i1.cons k2) i2 o1 o2 (by omega) (by omega)) rfl rfl ?_
  rintro _ S3 ⟨h, b3, d3, k3, rfl, i3, _, o3, e3⟩
  refine ⟨fun _ => k3, ?_⟩
  have hh : h.length ≤ f.length := half_len o3 o1 (by omega)
  repeat first|refine W.g ?_|refine L.p rfl rfl ?_|refine L.nil ?_|refine L.skip rfl ?_
  refine L.cl (limbsN_C b3 d3 h S3 i3 o3.1 (by omega)) rfl rfl ?_
  rintro _ S4 ⟨k4, b4, d4, rfl, i4⟩
  refine ⟨fun _ => k4, ?_⟩
  repeat first|refine W.g ?_|refine L.p rfl rfl ?_|refine L.nil ?_|refine L.skip rfl ?_
  rw [e3, e1, e2] at i4 ⊢
  exact ⟨.inr rfl, _, rfl, ((k1.trans k2).trans k3).trans k4, b4, d4, rfl, i4⟩
theorem compareR_C (a1 a2 : Option Addr) (c1 c2 : Nat) (l1 l2 : WL) (S : Mem) (h1 : WIn S a1 c1 l1) (h2 : WIn S a2 c2 l2) (n1 : l1.length < 400000) (n2 : l2.length < 400000) :
    C Tryz.prog G Ext 25 [.slice a1 l1.length c1, .slice a2 l2.length c2] S fun v S' => v = .int .i64 (cmpI (wnum l1) (wnum l2)) ∧ Cons S S' := by
  refine C.fn Tryz.func25 rfl (by kernel_rfl) rfl ?_
  repeat first|refine W.g ?_|refine L.p rfl rfl ?_|refine L.nil ?_|refine L.skip rfl ?_
  refine L.cl (halvesN_C a1 c1 l1 S h1 (by omega)) rfl rfl ?_
  rintro _ S1 ⟨f, ⟨k1, b1, d1, rfl, i1⟩, o1, e1, q1⟩
  refine ⟨fun _ => k1, ?_⟩
  repeat first|refine W.g ?_|refine L.p rfl rfl ?_|refine L.nil ?_|refine L.skip rfl ?_
  refine L.cl (halvesN_C a2 c2 l2 S1 (h2.cons k1) (by omega)) rfl rfl ?_
  rintro _ S2 ⟨g, ⟨k2, b2, d2, rfl, i2⟩, o2, e2, q2⟩
  refine ⟨fun _ => k2, ?_⟩
  repeat first|refine W.g ?_|refine L.p rfl rfl ?_|refine L.nil ?_|refine L.skip rfl ?_
  refine L.cl (compare_C b1 b2 d1 d2 f g S2 (i1.cons k2) i2 o1 o2) rfl rfl ?_
  rintro _ _ ⟨rfl, rfl⟩
  refine ⟨fun _ => Cons.refl _, ?_⟩
  rw [e1, e2]
  repeat first|refine W.g ?_|refine L.p rfl rfl ?_|refine L.nil ?_|refine L.skip rfl ?_
  exact ⟨.inr rfl, _, rfl, rfl, k1.trans k2⟩
theorem plusR_C (a1 a2 : Option Addr) (c1 c2 : Nat) (l1 l2 : WL) (S : Mem) (h1 : WIn S a1 c1 l1) (h2 : WIn S a2 c2 l2) (n1 : l1.length < 400000) (n2 : l2.length < 400000) :
    C Tryz.prog G Ext 64 [.slice a1 l1.length c1, .slice a2 l2.length c2] S fun v S' => RefW S S' v (toW (wnum l1 + wnum l2)) := by
  refine C.fn Tryz.func64 rfl (by kernel_rfl) rfl ?_
  repeat first|refine W.g ?_|refine L.p rfl rfl ?_|refine L.nil ?_|refine L.skip rfl ?_
  refine L.cl (halvesN_C a1 c1 l1 S h1 (by omega)) rfl rfl ?_
  rintro _ S1 ⟨f, ⟨k1, b1, d1, rfl, i1⟩, o1, e1, q1⟩
  refine ⟨fun _ => k1, ?_⟩
  repeat first|refine W.g ?_|refine L.p rfl rfl ?_|refine L.nil ?_|refine L.skip rfl ?_
  refine L.cl (halvesN_C a2 c2 l2 S1 (h2.cons k1) (by omega)) rfl rfl ?_
  rintro _ S2 ⟨g, ⟨k2, b2, d2, rfl, i2⟩, o2, e2, q2⟩
  refine ⟨fun _ => k2, ?_⟩
  replace i1 := i1.cons k2
  repeat first|refine W.g ?_|refine L.p rfl rfl ?_|refine L.nil ?_|refine L.skip rfl ?_
  refine W.loop (fun j e T => ∃ (i : Nat) (o : WL) (a3 : Option Addr) (c3 cr : Nat), j = 2 * (max f.length g.length - i) + cr ∧ i ≤ max f.length g.length + 1 ∧ Cons S2 T ∧ e 5 = .slice b1 f.length d1 ∧ e 6 = .slice b2 g.length d2 ∧ e 7 = .slice a3 i c3 ∧ e 8 = .int .u64 (cr : Int) ∧ e 9 = vi i ∧ Grow S2.length T 55 1 (.slice a3 i c3) i (wv o) ∧ o.length = i ∧ Small32 o ∧ cr ≤ 1 ∧ (i = max f.length g.length + 1 → cr = 0) ∧ hnum o + cr * 2 ^ (32 * i) = hnum (f.take i) + hnum (g.take i)) (2 * max f.length g.length)
    ⟨0, [], none, 0, 0, by omega, by omega, Cons.refl _, rfl, rfl, rfl, rfl, rfl, Grow.nil _ _ _ _, rfl, (fun x hx => by simp at hx), by decide, fun _ => rfl, by simp [hnum]⟩ ?_
  rintro j e T ⟨i, o, a3, c3, cr, rfl, hi, hc, e5, e6, e7, e8, e9, hg, hol, hso, hcr, hcl, hsum⟩
  refine W.env5 e5 e6 e7 e8 e9 ?_
  refine W.seq ?_
  refine W.seq ?_
  refine W.mono (R := fun x e' T' => x = .nrm ∧ T' = T ∧ e' 5 = .slice b1 f.length d1 ∧ e' 6 = .slice b2 g.length d2 ∧ e' 7 = .slice a3 i c3 ∧ e' 8 = .int .u64 (cr : Int) ∧ e' 9 = vi i ∧ e' 28 = .bool (decide (i < f.length ∨ i < g.length ∨ 0 < cr))) ?_ ?_
  · repeat first|refine W.g ?_|refine L.p rfl rfl ?_|refine L.nil ?_|refine L.skip rfl ?_
    cases hb : decide ((i : Int) < (f.length : Int))
    · have q1 : ¬ i < f.length := by have := of_decide_eq_false hb; omega
      repeat first|refine W.g ?_|refine L.p rfl rfl ?_|refine L.nil ?_|refine L.skip rfl ?_
      cases hb2 : decide ((i : Int) < (g.length : Int))
      · have q2 : ¬ i < g.length := by have := of_decide_eq_false hb2; omega
        repeat first|refine W.g ?_|refine L.p rfl rfl ?_|refine L.nil ?_|refine L.skip rfl ?_
        exact ⟨rfl, rfl, rfl, rfl, rfl, rfl, rfl, congrArg Value.bool (decide_eq_decide.2 (by omega))⟩
      · have q2 : i < g.length := by have := of_decide_eq_true hb2; omega
        repeat first|refine W.g ?_|refine L.p rfl rfl ?_|refine L.nil ?_|refine L.skip rfl ?_
        exact ⟨rfl, rfl, rfl, rfl, rfl, rfl, rfl, congrArg Value.bool (decide_eq_true (.inr (.inl q2))).symm⟩
    · have q1 : i < f.length := by have := of_decide_eq_true hb; omega
      repeat first|refine W.g ?_|refine L.p rfl rfl ?_|refine L.nil ?_|refine L.skip rfl ?_
      exact ⟨rfl, rfl, rfl, rfl, rfl, rfl, rfl, congrArg Value.bool (decide_eq_true (.inl q1)).symm⟩
  clear e5 e6 e7 e8 e9
  rintro _ e T' ⟨rfl, hT, e5, e6, e7, e8, e9, e28⟩
  subst hT
  refine W.env6 e5 e6 e7 e8 e9 e28 ?_
  repeat first|refine W.g ?_|refine L.p rfl rfl ?_|refine L.nil ?_|refine L.skip rfl ?_
  refine W.ite rfl (fun h => ?_) (fun h => ?_)
  · have hor := of_decide_eq_true h
    clear h
    repeat first|refine W.g ?_|refine L.p rfl rfl ?_|refine L.nil ?_|refine L.skip rfl ?_
    refine W.mono (R := fun x e' T'' => x = .nrm ∧ T'' = T' ∧ ∃ y : Nat, e' 5 = .slice b1 f.length d1 ∧ e' 6 = .slice b2 g.length d2 ∧ e' 7 = .slice a3 i c3 ∧ e' 9 = vi i ∧ e' 10 = .int .u64 ((cr + y : Nat) : Int) ∧ y < 4294967296 ∧ (f.length ≤ i → y = 0) ∧ hnum (f.take (i + 1)) = hnum (f.take i) + 2 ^ (32 * i) * y) ?_ ?_
    · refine W.ite rfl (fun h => ?_) (fun h => ?_)
      · have hin : i < f.length := by have := of_decide_eq_true h; omega
        clear h
        obtain ⟨x, hx⟩ : ∃ x, f[i]? = some x := ⟨_, List.getElem?_eq_getElem hin⟩
        have hxl := small32_get o1.1 hx
        repeat first|refine W.g ?_|refine L.p rfl rfl ?_|refine L.nil ?_|refine L.skip rfl ?_
        refine L.el (i1.cons hc).1 (k := i) rfl (wv_get hx) rfl rfl rfl rfl (fun _ => rfl) rfl (fun p => ?_)
        repeat first|refine W.g ?_|refine L.p rfl rfl ?_|refine L.nil ?_|refine L.skip rfl ?_
        exact ⟨rfl, rfl, x.toNat, rfl, rfl, rfl, rfl, (force_eq rfl).trans (congrArg (Value.int .u64) (uadd (by omega))), hxl, fun _ => by omega, hnum_take_succ hx⟩
      · have hin : f.length ≤ i := by have := of_decide_eq_false h; omega
        clear h
        repeat first|refine W.g ?_|refine L.p rfl rfl ?_|refine L.nil ?_|refine L.skip rfl ?_
        exact ⟨rfl, rfl, 0, rfl, rfl, rfl, rfl, rfl, by decide, fun _ => rfl, by rw [htake_more hin]; omega⟩
    clear e5 e6 e7 e9
    rintro _ e T'' ⟨rfl, hT, y, e5, e6, e7, e9, e10, hyl, hyz, hty⟩
    subst hT
    rename Mem => T'
    refine W.env5 e5 e6 e7 e9 e10 ?_
    repeat first|refine W.g ?_|refine L.p rfl rfl ?_|refine L.nil ?_|refine L.skip rfl ?_
    refine W.mono (R := fun x e' T'' => x = .nrm ∧ T'' = T' ∧ ∃ z : Nat, e' 5 = .slice b1 f.length d1 ∧ e' 6 = .slice b2 g.length d2 ∧ e' 7 = .slice a3 i c3 ∧ e' 9 = vi i ∧ e' 10 = .int .u64 (((cr + y) + z : Nat) : Int) ∧ z < 4294967296 ∧ (g.length ≤ i → z = 0) ∧ hnum (g.take (i + 1)) = hnum (g.take i) + 2 ^ (32 * i) * z) ?_ ?_
    · refine W.ite rfl (fun h => ?_) (fun h => ?_)
      · have hin : i < g.length := by have := of_decide_eq_true h; omega
        clear h
        obtain ⟨x, hx⟩ : ∃ x, g[i]? = some x := ⟨_, List.getElem?_eq_getElem hin⟩
        have hxl := small32_get o2.1 hx
        repeat first|refine W.g ?_|refine L.p rfl rfl ?_|refine L.nil ?_|refine L.skip rfl ?_
        refine L.el (i2.cons hc).1 (k := i) rfl (wv_get hx) rfl rfl rfl rfl (fun _ => rfl) rfl (fun p => ?_)
        repeat first|refine W.g ?_|refine L.p rfl rfl ?_|refine L.nil ?_|refine L.skip rfl ?_
        exact ⟨rfl, rfl, x.toNat, rfl, rfl, rfl, rfl, (force_eq rfl).trans (congrArg (Value.int .u64) (uadd (by omega))), hxl, fun _ => by omega, hnum_take_succ hx⟩
      · have hin : g.length ≤ i := by have := of_decide_eq_false h; omega
        clear h
        repeat first|refine W.g ?_|refine L.p rfl rfl ?_|refine L.nil ?_|refine L.skip rfl ?_
        exact ⟨rfl, rfl, 0, rfl, rfl, rfl, rfl, rfl, by decide, fun _ => rfl, by rw [htake_more hin]; omega⟩
    clear e5 e6 e7 e9
    rintro _ e T'' ⟨rfl, hT, z, e5, e6, e7, e9, e10, hzl, hzz, htz⟩
    subst hT
    rename Mem => T'
    refine W.env5 e5 e6 e7 e9 e10 ?_
    obtain ⟨s, hs⟩ : ∃ s, s = cr + y + z := ⟨_, rfl⟩
    rw [← hs]
    have hst := add_step32 (P := 2 ^ (32 * i)) hsum hs
    rw [← hty, ← htz] at hst
    obtain ⟨r, hr⟩ := word32 s
    rw [← hr] at hst
    repeat first|refine W.g ?_|refine L.p rfl rfl ?_|refine L.nil ?_|refine L.skip rfl ?_
    rw [andLo (by omega), ← hr]
    refine L.push1 (w := v64 r) rfl hc.len (.inl hg) rfl rfl rfl rfl rfl (by omega) rfl (fun _ => rfl) (fun p a4 c4 S2 h2 h3 h4 => ?_)
    repeat first|refine W.g ?_|refine L.p rfl rfl ?_|refine L.nil ?_|refine L.skip rfl ?_
    refine ⟨2 * (max f.length g.length - (i + 1)) + s / 4294967296, by omega, i + 1, o ++ [r], a4, c4, s / 4294967296, rfl, by omega, hc.trans' h4, rfl, rfl, rfl, (force_eq rfl).trans (congrArg (Value.int .u64) (shrHi s)), congrArg (Value.int .i64) (wrap64 (by omega) (by omega)), by rw [wv, List.map_append]; exact h2, by simp [hol], small32_snoc hso (by omega), by omega, fun _ => by omega, ?_⟩
    rw [hnum_snoc, hol, pow32_succ]
    exact hst
  · have hor := of_decide_eq_false h
    clear h
    have hcr0 : cr = 0 := by omega
    subst hcr0
    rw [Nat.zero_mul, Nat.add_zero, List.take_of_length_le (show f.length ≤ i by omega), List.take_of_length_le (show g.length ≤ i by omega)] at hsum
    have hW : WIn T' a3 c3 o := grow_win (by rw [hol]; exact hg) (by omega)
    repeat first|refine W.g ?_|refine L.p rfl rfl ?_|refine L.nil ?_|refine L.skip rfl ?_
    refine L.cl (limbsN_C a3 c3 o T' hW hso (by omega)) rfl (by rw [hol]; rfl) ?_
    rintro _ S4 ⟨k4, b4, d4, rfl, i4⟩
    refine ⟨fun _ => k4, ?_⟩
    rw [hsum, e1, e2] at i4 ⊢
    repeat first|refine W.g ?_|refine L.p rfl rfl ?_|refine L.nil ?_|refine L.skip rfl ?_
    exact ⟨.inr rfl, _, rfl, (((k1.trans k2).trans hc).trans k4), b4, d4, rfl, i4⟩
theorem timesR_C (a1 a2 : Option Addr) (c1 c2 : Nat) (l1 l2 : WL) (S : Mem) (h1 : WIn S a1 c1 l1) (h2 : WIn S a2 c2 l2) (n1 : l1.length < 100000) (n2 : l2.length < 100000) :
    C Tryz.prog G Ext 66 [.slice a1 l1.length c1, .slice a2 l2.length c2] S fun v S' => RefW S S' v (toW (wnum l1 * wnum l2)) := by
  refine C.fn Tryz.func66 rfl (by kernel_rfl) rfl ?_
  repeat first|refine W.g ?_|refine L.p rfl rfl ?_|refine L.nil ?_|refine L.skip rfl ?_
  refine L.cl (halvesN_C a1 c1 l1 S h1 (by omega)) rfl rfl ?_
  rintro _ S1 ⟨f, ⟨k1, b1, d1, rfl, i1⟩, o1, e1, q1⟩
  refine ⟨fun _ => k1, ?_⟩
  repeat first|refine W.g ?_|refine L.p rfl rfl ?_|refine L.nil ?_|refine L.skip rfl ?_
  refine L.cl (halvesN_C a2 c2 l2 S1 (h2.cons k1) (by omega)) rfl rfl ?_
  rintro _ S2 ⟨g, ⟨k2, b2, d2, rfl, i2⟩, o2, e2, q2⟩
  refine ⟨fun _ => k2, ?_⟩
  replace i1 := i1.cons k2
  obtain ⟨sz, hsz⟩ : ∃ sz, sz = f.length + g.length := ⟨_, rfl⟩
  have hw1 : IntKind.i64.wrap ((f.length : Int) + (g.length : Int)) = ((sz : Nat) : Int) := by rw [wrap64 (by omega) (by omega), hsz]; rfl
  repeat first|refine W.g ?_|refine L.p rfl rfl ?_|refine L.nil ?_|refine L.skip rfl ?_
  refine L.mk (n := sz) (m := sz) (bytes := 8) (zv := v64 0#64) rfl rfl hw1 rfl hw1 (Nat.le_refl _) (by omega) rfl rfl ?_
  have hro : Mem.row? (S2 ++ [newR (List.replicate sz (v64 0#64)) 55]) S2.length = some (newR (wv (List.replicate sz 0#64)) 55) := by
    rw [row_push_new rfl]; simp [wv]
  have hk5 := Cons.push S2 (newR (List.replicate sz (v64 0#64)) 55)
  generalize S2 ++ [newR (List.replicate sz (v64 0#64)) 55] = S3 at *
  obtain ⟨ro, hro0⟩ : ∃ ro, ro = S2.length := ⟨_, rfl⟩
  rw [← hro0] at hro ⊢
  have hs0 : Small32 (List.replicate sz 0#64) := fun x hx => by rw [List.eq_of_mem_replicate hx]; decide
  repeat first|refine W.g ?_|refine L.p rfl rfl ?_|refine L.nil ?_|refine L.skip rfl ?_
  refine W.loop (fun j e T => ∃ (i : Nat) (o : WL), j = f.length - i ∧ i ≤ f.length ∧ e 5 = .slice b1 f.length d1 ∧ e 6 = .slice b2 g.length d2 ∧ e 7 = .slice (some ⟨ro, 0, none⟩) sz sz ∧ e 8 = vi i ∧ Cons S2 T ∧ T.row? ro = some (newR (wv o) 55) ∧ o.length = sz ∧ Small32 o ∧ hnum o = hnum (f.take i) * hnum g ∧ ∀ p, i + g.length ≤ p → p < sz → o[p]? = some 0#64) f.length
    ⟨0, List.replicate sz 0#64, by omega, by omega, rfl, rfl, rfl, rfl, hk5, hro, by simp, hs0, by rw [hnum_zeros]; simp [hnum], fun p _ hp => by simp [hp]⟩ ?_
  clear hro hk5 hs0
  rintro j e T ⟨i, o, rfl, hi, e5, e6, e7, e8, hkT, hro, hol, hso, hwo, hz⟩
  refine W.env4 e5 e6 e7 e8 ?_
  repeat first|refine W.g ?_|refine L.p rfl rfl ?_|refine L.nil ?_|refine L.skip rfl ?_
  refine W.ite rfl (fun h => ?_) (fun h => ?_)
  · have hin : i < f.length := by have := of_decide_eq_true h; omega
    clear h
    obtain ⟨x, hx⟩ : ∃ x, f[i]? = some x := ⟨_, List.getElem?_eq_getElem hin⟩
    have hxl := small32_get o1.1 hx
    repeat first|refine W.g ?_|refine L.p rfl rfl ?_|refine L.nil ?_|refine L.skip rfl ?_
    refine W.loop (fun j e T => ∃ (k : Nat) (o : WL) (cr : Nat), j = g.length - k ∧ k ≤ g.length ∧ e 5 = .slice b1 f.length d1 ∧ e 6 = .slice b2 g.length d2 ∧ e 7 = .slice (some ⟨ro, 0, none⟩) sz sz ∧ e 8 = vi i ∧ e 9 = .int .u64 (cr : Int) ∧ e 10 = vi k ∧ Cons S2 T ∧ T.row? ro = some (newR (wv o) 55) ∧ o.length = sz ∧ Small32 o ∧ cr < 4294967296 ∧ hnum o + cr * 2 ^ (32 * (i + k)) = hnum (f.take i) * hnum g + x.toNat * hnum (g.take k) * 2 ^ (32 * i) ∧ ∀ p, i + g.length ≤ p → p < sz → o[p]? = some 0#64) g.length
      ⟨0, o, 0, by omega, by omega, rfl, rfl, rfl, rfl, rfl, rfl, hkT, hro, hol, hso, by decide, by rw [hwo]; simp [hnum], hz⟩ ?_
    clear hro hol hwo hz hkT e5 e6 e7 e8 hso
    clear o e T
    rintro j e T ⟨k, o, cr, rfl, hk, e5, e6, e7, e8, e9, e10, hkT, hro, hol, hso, hcr, hsum, hz⟩
    refine W.env6 e5 e6 e7 e8 e9 e10 ?_
    have hsl : Slv T 1 (.slice (some ⟨ro, 0, none⟩) sz sz) sz (wv o) := Slv.all hro rfl (by rw [wv_len, hol, Nat.mul_one])
    repeat first|refine W.g ?_|refine L.p rfl rfl ?_|refine L.nil ?_|refine L.skip rfl ?_
    refine W.ite rfl (fun h => ?_) (fun h => ?_)
    · have hk2 : k < g.length := by have := of_decide_eq_true h; omega
      clear h
      obtain ⟨y, hy⟩ : ∃ y, g[k]? = some y := ⟨_, List.getElem?_eq_getElem hk2⟩
      obtain ⟨z, hzz⟩ : ∃ z, o[i + k]? = some z := ⟨_, List.getElem?_eq_getElem (by omega)⟩
      have hyl := small32_get o2.1 hy
      have hzl := small32_get hso hzz
      have hw2 : IntKind.i64.wrap ((i : Int) + (k : Int)) = ((i + k : Nat) : Int) := by rw [wrap64 (by omega) (by omega)]; rfl
      have hxy : x.toNat * y.toNat ≤ 4294967295 * 4294967295 := Nat.mul_le_mul (by omega) (by omega)
      obtain ⟨s, hs⟩ : ∃ s, s = z.toNat + x.toNat * y.toNat + cr := ⟨_, rfl⟩
      have hw3 : IntKind.u64.wrap (IntKind.u64.wrap ((z.toNat : Int) + IntKind.u64.wrap ((x.toNat : Int) * (y.toNat : Int))) + (cr : Int)) = (s : Int) := by
        rw [umul (by omega), uadd (by omega), uadd (by omega), hs]
      obtain ⟨r, hr⟩ := word32 s
      repeat first|refine W.g ?_|refine L.p rfl rfl ?_|refine L.nil ?_|refine L.skip rfl ?_
      rw [hw2]
      refine L.el hsl (k := i + k) rfl (wv_get hzz) rfl rfl rfl rfl (fun _ => rfl) rfl (fun p => ?_)
      repeat first|refine W.g ?_|refine L.p rfl rfl ?_|refine L.nil ?_|refine L.skip rfl ?_
      refine L.el (i1.cons hkT).1 (k := i) rfl (wv_get hx) rfl rfl rfl rfl (fun _ => rfl) rfl (fun p => ?_)
      repeat first|refine W.g ?_|refine L.p rfl rfl ?_|refine L.nil ?_|refine L.skip rfl ?_
      refine L.el (i2.cons hkT).1 (k := k) rfl (wv_get hy) rfl rfl rfl rfl (fun _ => rfl) rfl (fun p => ?_)
      repeat first|refine W.g ?_|refine L.p rfl rfl ?_|refine L.nil ?_|refine L.skip rfl ?_
      rw [hw3, hw2, andLo (by omega), ← hr]
      refine L.elst hro rfl (by show 0 + sz ≤ (wv o).length; rw [wv_len, hol]; omega) (k := i + k) rfl (by omega) rfl rfl rfl rfl (fun _ => rfl) (fun _ => rfl) rfl rfl rfl (fun p => ?_)
      have hr2 := row_set_w (k := i + k) (r := r) hro
      have hk6 := hkT.set ro { newR (wv o) 55 with cells := (newR (wv o) 55).cells.set (0 + (i + k)) (v64 r) } (by omega)
      have hws := hnum_set (y := r) hzz
      generalize List.set T ro _ = T6 at *
      repeat first|refine W.g ?_|refine L.p rfl rfl ?_|refine L.nil ?_|refine L.skip rfl ?_
      refine ⟨g.length - (k + 1), by omega, k + 1, o.set (i + k) r, s / 4294967296, rfl, by omega, rfl, rfl, rfl, rfl, (force_eq rfl).trans (congrArg (Value.int .u64) (shrHi s)), congrArg (Value.int .i64) (wrap64 (by omega) (by omega)), hk6, hr2, by simpa using hol, small32_set hso (by omega), by omega, ?_, fun p hp1 hp2 => ?_⟩
      · rw [hnum_take_succ hy, show i + (k + 1) = i + k + 1 by omega, pow32_succ]
        have hP : 2 ^ (32 * i) * 2 ^ (32 * k) = 2 ^ (32 * (i + k)) := by rw [← Nat.pow_add]; congr 1; omega
        have e4 : x.toNat * (hnum (g.take k) + 2 ^ (32 * k) * y.toNat) * 2 ^ (32 * i) = x.toNat * hnum (g.take k) * 2 ^ (32 * i) + x.toNat * y.toNat * 2 ^ (32 * (i + k)) := by
          rw [← hP, Nat.mul_add, Nat.add_mul]; congr 1
          rw [Nat.mul_comm (2 ^ (32 * k)), Nat.mul_assoc, Nat.mul_assoc, Nat.mul_assoc, Nat.mul_comm (2 ^ (32 * k))]
        rw [e4]
        have e5 : r.toNat * 2 ^ (32 * (i + k)) + s / 4294967296 * (2 ^ (32 * (i + k)) * 4294967296) = s * 2 ^ (32 * (i + k)) := by
          rw [hr, Nat.mul_comm (2 ^ (32 * (i + k))) 4294967296, ← Nat.mul_assoc, ← Nat.add_mul]; congr 1; omega
        have e6 : s * 2 ^ (32 * (i + k)) = z.toNat * 2 ^ (32 * (i + k)) + x.toNat * y.toNat * 2 ^ (32 * (i + k)) + cr * 2 ^ (32 * (i + k)) := by rw [hs, Nat.add_mul, Nat.add_mul]
        omega
      · rw [List.getElem?_set, if_neg (by omega)]; exact hz p hp1 hp2
    · have hkk : k = g.length := by have := of_decide_eq_false h; omega
      subst hkk
      clear h
      rw [List.take_length] at hsum
      have hz0 := hz (i + g.length) (Nat.le_refl _) (by omega)
      have hw2 : IntKind.i64.wrap ((i : Int) + (g.length : Int)) = ((i + g.length : Nat) : Int) := by rw [wrap64 (by omega) (by omega)]; rfl
      obtain ⟨r, hr⟩ := word_of (n := cr) (by omega)
      rw [← hr] at hsum hcr ⊢
      repeat first|refine W.g ?_|refine L.p rfl rfl ?_|refine L.nil ?_|refine L.skip rfl ?_
      rw [hw2]
      refine L.elst hro rfl (by show 0 + sz ≤ (wv o).length; rw [wv_len, hol]; omega) (k := i + g.length) rfl (by omega) rfl rfl rfl rfl (fun _ => rfl) (fun _ => rfl) rfl rfl rfl (fun p => ?_)
      have hr2 := row_set_w (k := i + g.length) (r := r) hro
      have hk6 := hkT.set ro { newR (wv o) 55 with cells := (newR (wv o) 55).cells.set (0 + (i + g.length)) (v64 r) } (by omega)
      have hws := hnum_set (y := r) hz0
      generalize List.set T ro _ = T6 at *
      repeat first|refine W.g ?_|refine L.p rfl rfl ?_|refine L.nil ?_|refine L.skip rfl ?_
      refine ⟨f.length - (i + 1), by omega, i + 1, o.set (i + g.length) r, rfl, by omega, rfl, rfl, rfl, congrArg (Value.int .i64) (wrap64 (by omega) (by omega)), hk6, hr2, by simpa using hol, small32_set hso hcr, ?_, fun p hp1 hp2 => ?_⟩
      · rw [hnum_take_succ hx, Nat.add_mul]
        have hz1 : (0#64 : BitVec 64).toNat * 2 ^ (32 * (i + g.length)) = 0 := Nat.zero_mul _
        rw [hz1] at hws
        rw [Nat.mul_comm (2 ^ (32 * i)), Nat.mul_right_comm]
        omega
      · rw [List.getElem?_set, if_neg (by omega)]; exact hz p (by omega) hp2
  · have hin : i = f.length := by have := of_decide_eq_false h; omega
    subst hin
    clear h
    rw [List.take_length] at hwo
    have hW : WIn T (some ⟨ro, 0, none⟩) sz o := (WOwn.row (N := 0) hro hol (Nat.zero_le _) (by omega)).1
    have hfo : HalfOk (fm o) := HalfOk.form hso
    have hfl : (fm o).length ≤ o.length := toW_len_le o
    repeat first|refine W.g ?_|refine L.p rfl rfl ?_|refine L.nil ?_|refine L.skip rfl ?_
    refine L.cl (strip_C (some ⟨ro, 0, none⟩) sz o T hW) rfl (by rw [hol]; rfl) ?_
    rintro _ _ ⟨rfl, rfl⟩
    refine ⟨fun _ => Cons.refl _, ?_⟩
    rename Mem => T
    repeat first|refine W.g ?_|refine L.p rfl rfl ?_|refine L.nil ?_|refine L.skip rfl ?_
    refine L.cl (limbsN_C (some ⟨ro, 0, none⟩) sz (fm o) T hW.form hfo.1 (by omega)) rfl rfl ?_
    rintro _ S4 ⟨k4, b4, d4, rfl, i4⟩
    refine ⟨fun _ => k4, ?_⟩
    rw [hnum_form, hwo, e1, e2] at i4 ⊢
    repeat first|refine W.g ?_|refine L.p rfl rfl ?_|refine L.nil ?_|refine L.skip rfl ?_
    exact ⟨.inr rfl, _, rfl, (((k1.trans k2).trans hkT).trans k4), b4, d4, rfl, i4⟩
end Go.Proofs.YtbdnkneedengcaaGreatDoor

/- The document's quotient: walked. Conditions: none. -/
set_option linter.unusedSimpArgs false
set_option linter.unusedVariables false
set_option maxRecDepth 100000
set_option maxHeartbeats 4000000
namespace Go.Proofs.YtbdnkneedengcaaGreatDoor
open Go
variable {G : Nat} {Ext : FuncId → List Value → Mem → Outc → Mem → Prop}
theorem surely_C (a1 a2 : Option Addr) (c1 c2 : Nat) (f g : WL) (S : Mem) (h1 : WIn S a1 c1 f) (h2 : WIn S a2 c2 g) (k1 : HalfOk f) (k2 : HalfOk g) (hg0 : 0 < hnum g) (hge : hnum g ≤ hnum f) (hlt : hnum f < hnum g * 4294967296) (n1 : f.length < 1000000) :
    C Tryz.prog G Ext 101 [.slice a1 f.length c1, .slice a2 g.length c2] S fun v S' => ∃ n : Nat, v = .int .u64 (n : Int) ∧ S' = S ∧ 1 ≤ n ∧ n < 4294967296 ∧ n * hnum g ≤ hnum f := by
  obtain ⟨m, hm⟩ : ∃ m, g.length = m + 1 := by
    cases hg : g with
    | nil => rw [hg] at hg0; exact absurd hg0 (by decide)
    | cons x t => exact ⟨t.length, rfl⟩
  have hlf := half_len k2 k1 hge
  have hlf2 : f.length ≤ m + 2 := by
    refine Classical.byContradiction fun hc => ?_
    have q1 := half_ge k1 (by omega)
    have q2 := hnum_lt k2.1
    have q3 : 2 ^ (32 * (m + 2)) ≤ 2 ^ (32 * (f.length - 1)) := Nat.pow_le_pow_right (by decide) (by omega)
    rw [hm] at q2
    rw [pow32_succ (m + 1)] at q3
    have := Nat.mul_lt_mul_of_pos_right q2 (show 0 < 4294967296 by decide)
    omega
  obtain ⟨x, hx⟩ : ∃ x, f[m]? = some x := ⟨_, List.getElem?_eq_getElem (by omega)⟩
  obtain ⟨t, ht⟩ : ∃ t, g[m]? = some t := ⟨_, List.getElem?_eq_getElem (by omega)⟩
  have hxl := small32_get k1.1 hx
  have htl := small32_get k2.1 ht
  have hgv := hnum_take_succ ht
  rw [List.take_of_length_le (by omega)] at hgv
  have hgl := hnum_lt (small32_take k2.1 m)
  rw [List.length_take, Nat.min_eq_left (by omega)] at hgl
  have hn1 : IntKind.i64.wrap (((m + 1 : Nat) : Int) - 1) = (m : Int) := by rw [wrap64 (by omega) (by omega)]; omega
  have hw1 : IntKind.u64.wrap ((t.toNat : Int) + 1) = ((t.toNat + 1 : Nat) : Int) := wrapU64 (by omega) (by omega)
  have fin : ∀ top : Nat, hnum f = hnum (f.take m) + 2 ^ (32 * m) * top → 1 ≤ max 1 (top / (t.toNat + 1)) ∧ max 1 (top / (t.toNat + 1)) < 4294967296 ∧ max 1 (top / (t.toNat + 1)) * hnum g ≤ hnum f := fun top h => by
    have q1 := sure_le h hgv hgl
    have q2 : max 1 (top / (t.toNat + 1)) * hnum g ≤ hnum f := by
      rcases Nat.le_total (top / (t.toNat + 1)) 1 with q | q
      · rw [Nat.max_eq_left q, Nat.one_mul]; exact hge
      · rw [Nat.max_eq_right q]; exact q1
    refine ⟨Nat.le_max_left _ _, ?_, q2⟩
    refine Nat.lt_of_mul_lt_mul_right (a := hnum g) (Nat.lt_of_le_of_lt q2 ?_)
    rw [Nat.mul_comm 4294967296]; exact hlt
  have hgle : Value.slice a2 g.length c2 = .slice a2 (m + 1) c2 := by rw [hm]
  refine C.fn Tryz.func101 rfl (by kernel_rfl) rfl ?_
  rw [hgle]
  have h2' : Slv S 1 (.slice a2 (m + 1) c2) (m + 1) (wv g) := by have := h2.1; rwa [hm] at this
  repeat first|refine W.g ?_|refine L.p rfl rfl ?_|refine L.nil ?_|refine L.skip rfl ?_
  refine L.el h1.1 (k := m) hn1 (wv_get hx) rfl rfl rfl rfl (fun _ => rfl) rfl (fun p => ?_)
  repeat first|refine W.g ?_|refine L.p rfl rfl ?_|refine L.nil ?_|refine L.skip rfl ?_
  refine W.ite rfl (fun h => ?_) (fun h => ?_)
  · have hlf3 : f.length = m + 2 := by have := of_decide_eq_true h; omega
    clear h
    obtain ⟨z, hz⟩ : ∃ z, f[m + 1]? = some z := ⟨_, List.getElem?_eq_getElem (by omega)⟩
    have hzl := small32_get k1.1 hz
    have hfv := hnum_take_succ hz
    rw [List.take_of_length_le (by omega), hnum_take_succ hx, pow32_succ] at hfv
    have hw2 : IntKind.u64.wrap ((BitVec.ofInt IntKind.u64.bits (x.toNat : Int) ||| BitVec.ofInt IntKind.u64.bits (IntKind.u64.wrap ((z.toNat : Int) * 2 ^ min (Int.toNat 32) IntKind.u64.bits))).toNat : Int) = ((z.toNat * 4294967296 + x.toNat : Nat) : Int) := by
      rw [show IntKind.u64.wrap ((z.toNat : Int) * 2 ^ min (Int.toNat 32) IntKind.u64.bits) = ((z.toNat * 2 ^ 32 % 18446744073709551616 : Nat) : Int) from shl_nat z.toNat 32, or_nat x.isLt (Nat.mod_lt _ (by decide))]
      have e : (2 : Nat) ^ 32 = 4294967296 := by decide
      rw [Nat.mod_eq_of_lt (by rw [e]; omega), Nat.or_comm, Nat.mul_comm z.toNat, ← Nat.two_pow_add_eq_or_of_lt (by rw [e]; exact hxl), e]
    repeat first|refine W.g ?_|refine L.p rfl rfl ?_|refine L.nil ?_|refine L.skip rfl ?_
    refine L.el h1.1 (k := m + 1) rfl (wv_get hz) rfl rfl rfl rfl (fun _ => rfl) rfl (fun p => ?_)
    repeat first|refine W.g ?_|refine L.p rfl rfl ?_|refine L.nil ?_|refine L.skip rfl ?_
    rw [hw2]
    refine L.el h2' (k := m) hn1 (wv_get ht) rfl rfl rfl rfl (fun _ => rfl) rfl (fun p => ?_)
    repeat first|refine W.g ?_|refine L.p rfl rfl ?_|refine L.nil ?_|refine L.skip rfl ?_
    rw [hw1]
    refine L.quo rfl rfl (by omega) rfl ?_
    rw [nquo (by omega)]
    repeat first|refine W.g ?_|refine L.p rfl rfl ?_|refine L.nil ?_|refine L.skip rfl ?_
    refine L.max (c := ((max 1 ((z.toNat * 4294967296 + x.toNat) / (t.toNat + 1)) : Nat) : Int)) rfl rfl rfl ?_ ?_
    · generalize ((z.toNat * 4294967296 + x.toNat)) / (t.toNat + 1) = Q
      split <;> omega
    repeat first|refine W.g ?_|refine L.p rfl rfl ?_|refine L.nil ?_|refine L.skip rfl ?_
    refine ⟨.inr rfl, _, rfl, max 1 ((z.toNat * 4294967296 + x.toNat) / (t.toNat + 1)), rfl, rfl, fin (z.toNat * 4294967296 + x.toNat) ?_⟩
    · rw [hfv, Nat.mul_add, Nat.mul_comm z.toNat, ← Nat.mul_assoc]; omega
  · have hlf3 : f.length = m + 1 := by have := of_decide_eq_false h; omega
    clear h
    have hfv := hnum_take_succ hx
    rw [List.take_of_length_le (by omega)] at hfv
    repeat first|refine W.g ?_|refine L.p rfl rfl ?_|refine L.nil ?_|refine L.skip rfl ?_
    refine L.el h2' (k := m) hn1 (wv_get ht) rfl rfl rfl rfl (fun _ => rfl) rfl (fun p => ?_)
    repeat first|refine W.g ?_|refine L.p rfl rfl ?_|refine L.nil ?_|refine L.skip rfl ?_
    rw [hw1]
    refine L.quo rfl rfl (by omega) rfl ?_
    rw [nquo (by omega)]
    repeat first|refine W.g ?_|refine L.p rfl rfl ?_|refine L.nil ?_|refine L.skip rfl ?_
    refine L.max (c := ((max 1 (x.toNat / (t.toNat + 1)) : Nat) : Int)) rfl rfl rfl ?_ ?_
    · generalize (x.toNat) / (t.toNat + 1) = Q
      split <;> omega
    repeat first|refine W.g ?_|refine L.p rfl rfl ?_|refine L.nil ?_|refine L.skip rfl ?_
    refine ⟨.inr rfl, _, rfl, max 1 (x.toNat / (t.toNat + 1)), rfl, rfl, fin x.toNat ?_⟩
    · exact hfv
/-- what 'Over' hands out -/
def OverR (S S' : Mem) (v : Value) (A B : Nat) : Prop := ∃ (a1 a2 : Option Addr) (c1 c2 : Nat), v = .tuple #[.slice a1 (toW (A / B)).length c1, .slice a2 (toW (A % B)).length c2] ∧ Cons S S' ∧ WIn S' a1 c1 (toW (A / B)) ∧ WIn S' a2 c2 (toW (A % B))
theorem over_C (a1 a2 : Option Addr) (c1 c2 : Nat) (l1 l2 : WL) (S : Mem) (h1 : WIn S a1 c1 l1) (h2 : WIn S a2 c2 l2) (n1 : l1.length < 100000) (n2 : l2.length < 100000) (hpos : 0 < wnum l2) :
    C Tryz.prog G Ext 68 [.slice a1 l1.length c1, .slice a2 l2.length c2] S fun v S' => OverR S S' v (wnum l1) (wnum l2) := by
  refine C.fn Tryz.func68 rfl (by kernel_rfl) rfl ?_
  repeat first|refine W.g ?_|refine L.p rfl rfl ?_|refine L.nil ?_|refine L.skip rfl ?_
  refine L.cl (halvesN_C a1 c1 l1 S h1 (by omega)) rfl rfl ?_
  rintro _ S1 ⟨f, ⟨k1, b1, d1, rfl, i1⟩, o1, e1, q1⟩
  refine ⟨fun _ => k1, ?_⟩
  repeat first|refine W.g ?_|refine L.p rfl rfl ?_|refine L.nil ?_|refine L.skip rfl ?_
  refine L.cl (halvesN_C a2 c2 l2 S1 (h2.cons k1) (by omega)) rfl rfl ?_
  rintro _ S2 ⟨g, ⟨k2, b2, d2, rfl, i2⟩, o2, e2, q2⟩
  refine ⟨fun _ => k2, ?_⟩
  replace i1 := i1.cons k2
  have kA := k1.trans k2
  rw [← e2] at hpos
  rw [← e1, ← e2]
  clear e1 e2 h1 h2 k1 k2
  have hgl : 0 < g.length := by
    cases hg : g with
    | nil => rw [hg] at hpos; exact absurd hpos (by decide)
    | cons x t => exact Nat.succ_pos _
  obtain ⟨tp, htp⟩ : ∃ tp, tp = f.length + 1 - g.length := ⟨_, rfl⟩
  have htl : tp ≤ f.length := by omega
  repeat first|refine W.g ?_|refine L.p rfl rfl ?_|refine L.nil ?_|refine L.skip rfl ?_
  refine L.mk (n := f.length) (m := f.length) (bytes := 8) (zv := v64 0#64) rfl rfl rfl rfl rfl (Nat.le_refl _) (by omega) rfl rfl ?_
  have hrq : Mem.row? (S2 ++ [newR (List.replicate f.length (v64 0#64)) 55]) S2.length = some (newR (wv (List.replicate f.length 0#64)) 55) := by
    rw [row_push_new rfl]; simp [wv]
  have hk5 := Cons.push S2 (newR (List.replicate f.length (v64 0#64)) 55)
  generalize S2 ++ [newR (List.replicate f.length (v64 0#64)) 55] = S3 at *
  obtain ⟨rq, hrq0⟩ : ∃ rq, rq = S2.length := ⟨_, rfl⟩
  rw [← hrq0] at hrq ⊢
  have hrqS := row_lt hrq
  have hs0 : Small32 (List.replicate f.length 0#64) := fun x hx => by rw [List.eq_of_mem_replicate hx]; decide
  repeat first|refine W.g ?_|refine L.p rfl rfl ?_|refine L.nil ?_|refine L.skip rfl ?_
  refine L.max (c := (tp : Int)) rfl rfl rfl ?_ ?_
  · rw [wrap64 (x := (f.length : Int) - (g.length : Int)) (by omega) (by omega), wrap64 (by omega) (by omega)]
    split <;> omega
  repeat first|refine W.g ?_|refine L.p rfl rfl ?_|refine L.nil ?_|refine L.skip rfl ?_
  obtain ⟨a3, c3, p1, p2, p3, _⟩ := slv_part (lo := some (vi tp)) (hi := none) (k := tp) (h := f.length) (i1.cons hk5).1 (.inr ⟨.i64, rfl⟩) (.inl ⟨rfl, rfl⟩) htl (Nat.le_refl _) (Cut.of i1.2.1)
  rw [List.take_of_length_le (by rw [List.length_drop, wv_len]; omega)] at p2
  refine L.is (.slice a3 (f.length - tp) c3) ((slice_at0 rfl rfl rfl).trans p1) rfl ?_
  repeat first|refine W.g ?_|refine L.p rfl rfl ?_|refine L.nil ?_|refine L.skip rfl ?_
  refine L.app (N := S3.length) (n := 0) (bytes := 8) (l := []) rfl (Nat.le_refl _) (Grow.nil _ _ _ _) rfl rfl p2 (by rw [show (wv f).drop tp = wv (f.drop tp) by rw [wv, ← List.map_drop]; rfl]; exact wv_one _) (by omega) rfl rfl (fun a4 c4 S4 g1 g2 g3 => ?_)
  rw [Nat.zero_add, List.nil_append, show (wv f).drop tp = wv (f.drop tp) by rw [wv, ← List.map_drop]; rfl] at g1
  have hdl : (f.drop tp).length = f.length - tp := by rw [List.length_drop]
  have hW4 : WIn S4 a4 c4 (f.drop tp) := grow_win (by rw [hdl]; exact g1) (by omega)
  have hk6 : Cons S3 S4 := g3.cons
  have hnw := grow_new g1
  repeat first|refine W.g ?_|refine L.p rfl rfl ?_|refine L.nil ?_|refine L.skip rfl ?_
  refine L.cl (strip_C a4 c4 (f.drop tp) S4 hW4) rfl (by rw [hdl, Nat.zero_add]; rfl) ?_
  rintro _ _ ⟨rfl, rfl⟩
  refine ⟨fun _ => Cons.refl _, ?_⟩
  rename Mem => S4
  have hsd : Small32 (f.drop tp) := fun x hx => o1.1 x (List.mem_of_mem_drop hx)
  have hR0 : HalfOk (fm (f.drop tp)) := HalfOk.form hsd
  have hRn : hnum (fm (f.drop tp)) = hnum (f.drop tp) := hnum_form _
  have hRl : hnum (f.drop tp) < hnum g := by
    have q3 := hnum_lt hsd
    have q4 := half_ge o2 hgl
    have q5 : 2 ^ (32 * (f.drop tp).length) ≤ 2 ^ (32 * (g.length - 1)) := Nat.pow_le_pow_right (by decide) (by omega)
    omega
  have hsplit : hnum f = hnum (f.take tp) + 2 ^ (32 * tp) * hnum (f.drop tp) := by
    have := hnum_append (f.take tp) (f.drop tp)
    rw [List.take_append_drop, List.length_take, Nat.min_eq_left htl] at this
    exact this
  repeat first|refine W.g ?_|refine L.p rfl rfl ?_|refine L.nil ?_|refine L.skip rfl ?_
  refine W.loop (fun k e T => ∃ (q rest : WL) (ar : Option Addr) (cr : Nat), k ≤ tp ∧ Cons S2 T ∧ S3.length ≤ T.length ∧ e 6 = .slice b1 f.length d1 ∧ e 7 = .slice b2 g.length d2 ∧ e 8 = .slice (some ⟨rq, 0, none⟩) f.length f.length ∧ e 10 = .slice ar rest.length cr ∧ e 11 = .int .i64 ((k : Int) - 1) ∧ T.row? rq = some (newR (wv q) 55) ∧ q.length = f.length ∧ Small32 q ∧ WIn T ar cr rest ∧ (∀ x, ar = some x → S3.length ≤ x.block) ∧ HalfOk rest ∧ hnum rest < hnum g ∧
      hnum f = hnum q * hnum g + hnum rest * 2 ^ (32 * k) + hnum (f.take k) ∧ ∀ p, p < k → q[p]? = some 0#64) tp
    ⟨List.replicate f.length 0#64, fm (f.drop tp), a4, c4, Nat.le_refl _, hk5.trans hk6, hk6.len, rfl, rfl, rfl, rfl, congrArg (Value.int .i64) (wrap64 (by omega) (by omega)), hk6.row' hrq, by simp, hs0, hW4.form, hnw, hR0, by omega, by rw [hnum_zeros, hRn, Nat.mul_comm (hnum (f.drop tp))]; omega, fun p hp => by rw [List.getElem?_replicate, if_pos (by omega)]⟩ ?_
  clear hsplit hRl hRn hR0 hsd hnw hk6 hW4 g1 g2 g3 p1 p2 p3 hs0 hrq hk5 hdl
  rintro k e T ⟨q, rest, ar, cr, hk, kT, hTl, e6, e7, e8, e10, e11, hrq, hql, hsq, hrW, hnw, hrok, hrlt, hsum, hz⟩
  refine W.env5 e6 e7 e8 e10 e11 ?_
  repeat first|refine W.g ?_|refine L.p rfl rfl ?_|refine L.nil ?_|refine L.skip rfl ?_
  refine W.ite rfl (fun h => ?_) (fun h => ?_)
  · have hk1 : 1 ≤ k := by have := of_decide_eq_true h; omega
    clear h
    obtain ⟨j, rfl⟩ : ∃ j, k = j + 1 := ⟨k - 1, by omega⟩
    have hm : (((j + 1 : Nat) : Int) - 1) = (j : Int) := by omega
    rw [hm]
    obtain ⟨x, hx⟩ : ∃ x, f[j]? = some x := ⟨_, List.getElem?_eq_getElem (by omega)⟩
    have hxl := small32_get o1.1 hx
    have hrll := half_len hrok o2 (by omega)
    repeat first|refine W.g ?_|refine L.p rfl rfl ?_|refine L.nil ?_|refine L.skip rfl ?_
    refine L.el (i1.cons kT).1 (k := j) rfl (wv_get hx) rfl rfl rfl rfl (fun _ => rfl) rfl (fun p => ?_)
    repeat first|refine W.g ?_|refine L.p rfl rfl ?_|refine L.nil ?_|refine L.skip rfl ?_
    refine L.push1 (w := v64 x) (N := T.length) (n := 0) (l := []) rfl (Nat.le_refl _) (.inl (Grow.nil _ _ _ _)) rfl rfl rfl rfl rfl (by omega) rfl (fun _ => rfl) (fun p a5 c5 T1 g1 g2 g3 => ?_)
    have hkT1 : Cons T T1 := g3.cons
    repeat first|refine W.g ?_|refine L.p rfl rfl ?_|refine L.nil ?_|refine L.skip rfl ?_
    refine L.app (N := T.length) (n := 1) (bytes := 8) (l := [v64 x]) rfl g2 g1 rfl rfl (hrW.cons hkT1).1 (wv_one _) (by omega) rfl rfl (fun a6 c6 T2 g4 g5 g6 => ?_)
    have hkT2 : Cons T T2 := hkT1.trans' g6
    have hnl : (x :: rest).length = 1 + rest.length := by rw [List.length_cons]; omega
    have hW6 : WIn T2 a6 c6 (x :: rest) := grow_win (by rw [hnl]; exact g4) (by omega)
    have hnw6 := grow_new g4
    have hs6 : Small32 (x :: rest) := fun y hy => by
      rcases List.mem_cons.1 hy with rfl | hy
      · exact hxl
      · exact hrok.1 y hy
    repeat first|refine W.g ?_|refine L.p rfl rfl ?_|refine L.nil ?_|refine L.skip rfl ?_
    refine L.cl (strip_C a6 c6 (x :: rest) T2 hW6) rfl (by rw [hnl]; rfl) ?_
    rintro _ _ ⟨rfl, rfl⟩
    refine ⟨fun _ => Cons.refl _, ?_⟩
    rename Mem => T2
    have hcur : hnum (fm (x :: rest)) = x.toNat + 4294967296 * hnum rest := by rw [hnum_form]; rfl
    have hz0 := hz j (by omega)
    rw [hnum_take_succ hx, pow32_succ] at hsum
    repeat first|refine W.g ?_|refine L.p rfl rfl ?_|refine L.nil ?_|refine L.skip rfl ?_
    refine W.mono (R := fun x' e' T' => x' = .exit 2 ∧ ∃ (q rest : WL) (ar : Option Addr) (cr : Nat), Cons S2 T' ∧ S3.length ≤ T'.length ∧ e' 6 = .slice b1 f.length d1 ∧ e' 7 = .slice b2 g.length d2 ∧ e' 8 = .slice (some ⟨rq, 0, none⟩) f.length f.length ∧ e' 10 = .slice ar rest.length cr ∧ e' 11 = vi j ∧ T'.row? rq = some (newR (wv q) 55) ∧ q.length = f.length ∧ Small32 q ∧ WIn T' ar cr rest ∧ (∀ x, ar = some x → S3.length ≤ x.block) ∧ HalfOk rest ∧ hnum rest < hnum g ∧
        hnum f = hnum q * hnum g + hnum rest * 2 ^ (32 * j) + hnum (f.take j) ∧ ∀ p, p < j → q[p]? = some 0#64) ?_ ?_
    · refine W.loop (fun n e' T' => ∃ (q rest : WL) (w : BitVec 64) (ar : Option Addr) (cr : Nat), n = hnum rest ∧ Cons S2 T' ∧ S3.length ≤ T'.length ∧ e' 6 = .slice b1 f.length d1 ∧ e' 7 = .slice b2 g.length d2 ∧ e' 8 = .slice (some ⟨rq, 0, none⟩) f.length f.length ∧ e' 10 = .slice ar rest.length cr ∧ e' 11 = vi j ∧ T'.row? rq = some (newR (wv q) 55) ∧ q.length = f.length ∧ Small32 q ∧ q[j]? = some w ∧ w.toNat * hnum g + hnum rest < hnum g * 4294967296 ∧ WIn T' ar cr rest ∧ (∀ x, ar = some x → S3.length ≤ x.block) ∧ HalfOk rest ∧
          hnum f = hnum q * hnum g + hnum rest * 2 ^ (32 * j) + hnum (f.take j) ∧ ∀ p, p < j → q[p]? = some 0#64) (hnum (fm (x :: rest)))
        ⟨q, fm (x :: rest), 0#64, a6, c6, rfl, kT.trans hkT2, Nat.le_trans hTl hkT2.len, rfl, rfl, rfl, rfl, rfl, hkT2.row' hrq, hql, hsq, hz0, ?_, hW6.form, fun y hy => Nat.le_trans hTl (hnw6 y hy), HalfOk.form hs6, ?_, fun p hp => hz p (by omega)⟩ ?_
      · rw [hcur, show (0#64 : BitVec 64).toNat * hnum g = 0 from Nat.zero_mul _]
        omega
      · rw [hcur, hsum, Nat.add_mul, Nat.mul_comm 4294967296 (hnum rest), Nat.mul_assoc (hnum rest), Nat.mul_comm 4294967296 (2 ^ (32 * j)), Nat.mul_comm x.toNat]; omega
      clear hcur hsum hz0 hs6 hnw6 hW6 g1 g2 g3 g4 g5 g6 hkT1 hkT2 hz hrW hnw hrok hrlt hrll hsq hql hrq
      rintro n e' T' ⟨q, rest, w, ar, cr, rfl, kT, hTl, e6, e7, e8, e10, e11, hrq, hql, hsq, hw, hwb, hrW, hnw, hrok, hsum, hz⟩
      refine W.env5 e6 e7 e8 e10 e11 ?_
      have hwl := small32_get hsq hw
      repeat first|refine W.g ?_|refine L.p rfl rfl ?_|refine L.nil ?_|refine L.skip rfl ?_
      refine L.cl (compare_C ar b2 cr d2 rest g T' hrW (i2.cons kT) hrok o2) rfl rfl ?_
      rintro _ M ⟨rfl, hM⟩
      have hM := hM.symm
      subst hM
      refine ⟨fun _ => Cons.refl _, ?_⟩
      repeat first|refine W.g ?_|refine L.p rfl rfl ?_|refine L.nil ?_|refine L.skip rfl ?_
      refine W.ite rfl (fun h => ?_) (fun h => ?_)
      · have hge : hnum g ≤ hnum rest := by
          have h0 := of_decide_eq_true h
          unfold cmpI at h0
          split at h0 <;> omega
        clear h
        have hrl : hnum rest < hnum g * 4294967296 := by omega
        have hrlen : rest.length ≤ g.length + 1 := by
          refine Classical.byContradiction fun hc => ?_
          have q1 := half_ge hrok (by omega)
          have q2 := hnum_lt o2.1
          have q3 : 2 ^ (32 * (g.length + 1)) ≤ 2 ^ (32 * (rest.length - 1)) := Nat.pow_le_pow_right (by decide) (by omega)
          rw [pow32_succ] at q3
          have := Nat.mul_lt_mul_of_pos_right q2 (show 0 < 4294967296 by decide)
          omega
        repeat first|refine W.g ?_|refine L.p rfl rfl ?_|refine L.nil ?_|refine L.skip rfl ?_
        refine L.cl (surely_C ar b2 cr d2 rest g T' hrW (i2.cons kT) hrok o2 hpos hge hrl (by omega)) rfl rfl ?_
        rintro _ M2 ⟨n, rfl, hM2, hn1, hn2, hn3⟩
        have hM2 := hM2.symm
        subst hM2
        refine ⟨fun _ => Cons.refl _, ?_⟩
        repeat first|refine W.g ?_|refine L.p rfl rfl ?_|refine L.nil ?_|refine L.skip rfl ?_
        refine L.cl (little_C b2 d2 n g T' (i2.cons kT) o2.1 hn2 (by omega)) rfl rfl ?_
        rintro _ T3 ⟨y, ay, cy, kT3, rfl, iy, _, oy, ey⟩
        refine ⟨fun _ => kT3, ?_⟩
        repeat first|refine W.g ?_|refine L.p rfl rfl ?_|refine L.nil ?_|refine L.skip rfl ?_
        refine L.cl (minus_C ar ay cr cy rest y T3 (hrW.cons kT3) iy hrok oy (by rw [ey, Nat.mul_comm]; exact hn3) (by omega)) rfl rfl ?_
        rintro _ T4 ⟨r2, a7, c7, kT4, rfl, i7, n7, o7, e7'⟩
        refine ⟨fun _ => kT4, ?_⟩
        have kT34 := kT3.trans kT4
        have hrq4 := kT34.row' hrq
        have hsl : Slv T4 1 (.slice (some ⟨rq, 0, none⟩) f.length f.length) f.length (wv q) := Slv.all hrq4 rfl (by rw [wv_len, hql, Nat.mul_one])
        have hwn : w.toNat + n < 4294967296 := by
          have q1 : (w.toNat + n) * hnum g < 4294967296 * hnum g := by rw [Nat.add_mul, Nat.mul_comm 4294967296]; omega
          exact Nat.lt_of_mul_lt_mul_right q1
        obtain ⟨w2, hw2⟩ := word_of (n := w.toNat + n) (by omega)
        repeat first|refine W.g ?_|refine L.p rfl rfl ?_|refine L.nil ?_|refine L.skip rfl ?_
        refine L.el hsl (k := j) rfl (wv_get hw) rfl rfl rfl rfl (fun _ => rfl) rfl (fun p => ?_)
        repeat first|refine W.g ?_|refine L.p rfl rfl ?_|refine L.nil ?_|refine L.skip rfl ?_
        rw [uadd (a := w.toNat) (b := n) (by omega), ← hw2]
        refine L.elst hrq4 rfl (by show 0 + f.length ≤ (wv q).length; rw [wv_len, hql]; omega) (k := j) rfl (by omega) rfl rfl rfl rfl (fun _ => rfl) (fun _ => rfl) rfl rfl rfl (fun p => ?_)
        have hrq5 := row_set_w (k := j) (r := w2) hrq4
        have hk8 : Cons S2 (List.set T4 rq { newR (wv q) 55 with cells := (newR (wv q) 55).cells.set (0 + j) (v64 w2) }) := (kT.trans kT34).set rq _ (by omega)
        have i8 := i7.keepb (Keep.set rq T4 { newR (wv q) 55 with cells := (newR (wv q) 55).cells.set (0 + j) (v64 w2) }) (fun x hx => by have := n7 x hx; have := kT3.len; omega)
        have hl8 : S3.length ≤ (List.set T4 rq { newR (wv q) 55 with cells := (newR (wv q) 55).cells.set (0 + j) (v64 w2) }).length := by rw [List.length_set]; have := kT34.len; omega
        have hws := hnum_set (y := w2) hw
        generalize List.set T4 rq _ = T5 at *
        repeat first|refine W.g ?_|refine L.p rfl rfl ?_|refine L.nil ?_|refine L.skip rfl ?_
        have hcl : hnum r2 = hnum rest - n * hnum g := by rw [e7', ey, Nat.mul_comm n]
        have hpn : 0 < n * hnum g := Nat.mul_pos (by omega) hpos
        refine ⟨hnum r2, by omega, q.set j w2, r2, w2, a7, c7, rfl, hk8, hl8, rfl, rfl, rfl, rfl, rfl, hrq5, by simpa using hql, small32_set hsq (by omega), by rw [List.getElem?_set, if_pos rfl, if_pos (by omega)], ?_, i8, fun x hx => by have := n7 x hx; have := kT3.len; omega, o7, ?_, fun p hp => ?_⟩
        · rw [hw2, hcl, Nat.add_mul]; omega
        · rw [hw2] at hws
          have q1 : hnum (q.set j w2) = hnum q + n * 2 ^ (32 * j) := by rw [Nat.add_mul] at hws; omega
          have q2 : hnum rest * 2 ^ (32 * j) = hnum r2 * 2 ^ (32 * j) + n * hnum g * 2 ^ (32 * j) := by rw [← Nat.add_mul]; congr 1; omega
          rw [q1, Nat.add_mul, hsum, q2, Nat.mul_right_comm n]; omega
        · rw [List.getElem?_set, if_neg (by omega)]; exact hz p hp
      · have hlt : hnum rest < hnum g := by
          have h0 := of_decide_eq_false h
          refine Classical.byContradiction fun hc => h0 ?_
          unfold cmpI
          rw [if_neg (by omega)]
          split <;> omega
        clear h
        repeat first|refine W.g ?_|refine L.p rfl rfl ?_|refine L.nil ?_|refine L.skip rfl ?_
        exact ⟨rfl, q, rest, ar, cr, kT, hTl, rfl, rfl, rfl, rfl, rfl, hrq, hql, hsq, hrW, hnw, hrok, hlt, hsum, hz⟩
    clear hcur hsum hz0 hs6 hnw6 hW6 g1 g2 g3 g4 g5 g6 hkT1 hkT2 hz hrW hnw hrok hrlt hrll hsq hql hrq e6 e7 e8 e10 e11 hTl kT
    rintro _ e' T' ⟨rfl, q, rest, ar, cr, kT, hTl, e6, e7, e8, e10, e11, hrq, hql, hsq, hrW, hnw, hrok, hlt, hsum, hz⟩
    refine W.env5 e6 e7 e8 e10 e11 ?_
    repeat first|refine W.g ?_|refine L.p rfl rfl ?_|refine L.nil ?_|refine L.skip rfl ?_
    exact ⟨j, by omega, q, rest, ar, cr, by omega, kT, hTl, rfl, rfl, rfl, rfl, (force_eq rfl).trans (congrArg (Value.int .i64) (wrap64 (by omega) (by omega))), hrq, hql, hsq, hrW, hnw, hrok, hlt, hsum, hz⟩
  · have hk0 : k = 0 := by have := of_decide_eq_false h; omega
    subst hk0
    clear h
    rw [Nat.mul_zero, Nat.pow_zero, Nat.mul_one, List.take_zero, show hnum [] = 0 from rfl, Nat.add_zero] at hsum
    have hdv : hnum q = hnum f / hnum g ∧ hnum rest = hnum f % hnum g := by
      rw [hsum, Nat.mul_comm]
      refine ⟨?_, ?_⟩
      · rw [Nat.mul_add_div hpos, Nat.div_eq_of_lt hrlt, Nat.add_zero]
      · rw [Nat.mul_add_mod, Nat.mod_eq_of_lt hrlt]
    have hWq : WIn T (some ⟨rq, 0, none⟩) f.length q := (WOwn.row (N := 0) hrq hql (Nat.zero_le _) (by omega)).1
    have hfq : (fm q).length ≤ q.length := toW_len_le q
    have hrll := half_len hrok o2 (by omega)
    repeat first|refine W.g ?_|refine L.p rfl rfl ?_|refine L.nil ?_|refine L.skip rfl ?_
    refine L.cl (strip_C (some ⟨rq, 0, none⟩) f.length q T hWq) rfl (by rw [hql]; rfl) ?_
    rintro _ _ ⟨rfl, rfl⟩
    refine ⟨fun _ => Cons.refl _, ?_⟩
    rename Mem => T
    repeat first|refine W.g ?_|refine L.p rfl rfl ?_|refine L.nil ?_|refine L.skip rfl ?_
    refine L.cl (limbsN_C (some ⟨rq, 0, none⟩) f.length (fm q) T hWq.form (small32_form hsq) (by omega)) rfl rfl ?_
    rintro _ T1 ⟨k4, b4, d4, rfl, i4⟩
    refine ⟨fun _ => k4, ?_⟩
    repeat first|refine W.g ?_|refine L.p rfl rfl ?_|refine L.nil ?_|refine L.skip rfl ?_
    refine L.cl (limbsN_C ar cr rest T1 (hrW.cons k4) hrok.1 (by omega)) rfl rfl ?_
    rintro _ T2 ⟨k5, b5, d5, rfl, i5⟩
    refine ⟨fun _ => k5, ?_⟩
    rw [hnum_form, hdv.1] at i4 ⊢
    rw [hdv.2] at i5 ⊢
    repeat first|refine W.g ?_|refine L.p rfl rfl ?_|refine L.nil ?_|refine L.skip rfl ?_
    exact ⟨.inr rfl, _, rfl, b4, b5, d4, d5, rfl, ((kA.trans kT).trans k4).trans k5, i4.cons k5, i5⟩
end Go.Proofs.YtbdnkneedengcaaGreatDoor

/- The document's greatest common divisor: walked. Conditions: none. -/
set_option linter.unusedSimpArgs false
set_option linter.unusedVariables false
set_option maxRecDepth 100000
set_option maxHeartbeats 4000000
namespace Go.Proofs.YtbdnkneedengcaaGreatDoor
open Go
variable {G : Nat} {Ext : FuncId → List Value → Mem → Outc → Mem → Prop}
/-- a digit's half, with what comes down from the next one -/
def hdW (x y : Nat) : Nat := x / 2 + y % 2 * 2147483648
def halfL : WL → WL
  | [] => []
  | x :: t => BitVec.ofNat 64 (hdW x.toNat (t.getD 0 0#64).toNat) :: halfL t
theorem halfL_len (l : WL) : (halfL l).length = l.length := by
  induction l with
  | nil => rfl
  | cons x t ih => rw [halfL, List.length_cons, ih, List.length_cons]
theorem hdW_lt {x y : Nat} (h : x < 4294967296) : hdW x y < 4294967296 := by unfold hdW; omega
theorem halfL_get {l : WL} (h : Small32 l) {i : Nat} {x : BitVec 64} (hx : l[i]? = some x) : ∃ r : BitVec 64, (halfL l)[i]? = some r ∧ r.toNat = hdW x.toNat (l.getD (i + 1) 0#64).toNat := by
  induction l generalizing i with
  | nil => simp at hx
  | cons z t ih =>
    cases i with
    | zero =>
      simp at hx; subst hx
      refine ⟨_, rfl, ?_⟩
      have := hdW_lt (y := (t.getD 0 0#64).toNat) (h z List.mem_cons_self)
      rw [BitVec.toNat_ofNat, Nat.mod_eq_of_lt (by omega)]; rfl
    | succ i => exact ih (fun y hy => h y (List.mem_cons_of_mem _ hy)) (by simpa using hx)
theorem halfL_small {l : WL} (h : Small32 l) : Small32 (halfL l) := fun y hy => by
  obtain ⟨i, hi⟩ := List.mem_iff_getElem?.1 hy
  have hlt : i < l.length := by rw [← halfL_len]; exact (List.getElem?_eq_some_iff.1 hi).1
  obtain ⟨r, h1, h2⟩ := halfL_get h (List.getElem?_eq_getElem hlt)
  rw [hi] at h1; cases h1
  rw [h2]
  exact hdW_lt (h _ (List.getElem_mem hlt))
theorem hnum_mod {l : WL} : hnum l % 2 = (l.getD 0 0#64).toNat % 2 := by
  cases l with
  | nil => rfl
  | cons x t =>
    show (x.toNat + 4294967296 * hnum t) % 2 = x.toNat % 2
    omega
theorem halfL_num {l : WL} (h : Small32 l) : hnum (halfL l) = hnum l / 2 := by
  induction l with
  | nil => rfl
  | cons x t ih =>
    have hx := h x List.mem_cons_self
    have h2 := ih (fun y hy => h y (List.mem_cons_of_mem _ hy))
    have hm := hnum_mod (l := t)
    rw [halfL, hnum, h2, hnum]
    have := hdW_lt (y := (t.getD 0 0#64).toNat) hx
    rw [BitVec.toNat_ofNat, Nat.mod_eq_of_lt (by omega)]
    unfold hdW
    rw [← hm]
    generalize hnum t = T at *
    omega
theorem and1 (n : Nat) (h : n < 18446744073709551616) : IntKind.u64.wrap ((BitVec.ofInt IntKind.u64.bits (n : Int) &&& BitVec.ofInt IntKind.u64.bits 1).toNat : Int) = ((n % 2 : Nat) : Int) := by
  have h1 : (BitVec.ofInt 64 (n : Int) &&& BitVec.ofInt 64 1).toNat = n % 2 := by
    have h2 : (BitVec.ofInt 64 1 : BitVec 64) = BitVec.ofNat 64 (2 ^ 1 - 1) := by decide
    rw [h2, BitVec.toNat_and, BitVec.toNat_ofNat, Nat.mod_eq_of_lt (by decide), Nat.and_two_pow_sub_one_eq_mod, BitVec.toNat_ofInt]
    show ((n : Int) % ((2 ^ 64 : Nat) : Int)).toNat % 2 = _
    omega
  show IntKind.u64.wrap ((BitVec.ofInt 64 (n : Int) &&& BitVec.ofInt 64 1).toNat : Int) = _
  rw [h1, wrapU64 (by omega) (by omega)]
theorem down_C (a : Option Addr) (c : Nat) (f : WL) (S : Mem) (h1 : WIn S a c f) (k1 : Small32 f) (hlen : f.length < 1000000) :
    C Tryz.prog G Ext 103 [.slice a f.length c] S fun v S' => HalfR S S' v (hnum f / 2) := by
  refine C.fn Tryz.func103 rfl (by kernel_rfl) rfl ?_
  have hHl := halfL_len f
  repeat first|refine W.g ?_|refine L.p rfl rfl ?_|refine L.nil ?_|refine L.skip rfl ?_
  refine W.loop (fun j e T => ∃ (i : Nat) (a3 : Option Addr) (c3 : Nat), j = f.length - i ∧ i ≤ f.length ∧ Cons S T ∧ e 0 = .slice a f.length c ∧ e 3 = .slice a3 i c3 ∧ e 4 = vi i ∧ Grow S.length T 55 1 (.slice a3 i c3) i (wv ((halfL f).take i))) f.length
    ⟨0, none, 0, by omega, by omega, Cons.refl _, rfl, rfl, rfl, Grow.nil _ _ _ _⟩ ?_
  rintro j e T ⟨i, a3, c3, rfl, hi, hc, e0, e3, e4, hg⟩
  refine W.env3 e0 e3 e4 ?_
  repeat first|refine W.g ?_|refine L.p rfl rfl ?_|refine L.nil ?_|refine L.skip rfl ?_
  refine W.ite rfl (fun h => ?_) (fun h => ?_)
  · have hin : i < f.length := by have := of_decide_eq_true h; omega
    clear h
    obtain ⟨x, hx⟩ : ∃ x, f[i]? = some x := ⟨_, List.getElem?_eq_getElem hin⟩
    have hxl := small32_get k1 hx
    obtain ⟨r, hr1, hr2⟩ := halfL_get k1 hx
    have htk : wv ((halfL f).take (i + 1)) = wv ((halfL f).take i) ++ [v64 r] := by rw [List.take_add_one, hr1, wv, List.map_append]; rfl
    have hi1 : IntKind.i64.wrap ((i : Int) + 1) = ((i + 1 : Nat) : Int) := by rw [wrap64 (by omega) (by omega)]; rfl
    repeat first|refine W.g ?_|refine L.p rfl rfl ?_|refine L.nil ?_|refine L.skip rfl ?_
    refine L.el (h1.cons hc).1 (k := i) rfl (wv_get hx) rfl rfl rfl rfl (fun _ => rfl) rfl (fun p => ?_)
    repeat first|refine W.g ?_|refine L.p rfl rfl ?_|refine L.nil ?_|refine L.skip rfl ?_
    refine W.mono (R := fun x' e' T' => x' = .nrm ∧ T' = T ∧ e' 0 = .slice a f.length c ∧ e' 3 = .slice a3 i c3 ∧ e' 4 = vi i ∧ e' 5 = v64 r) ?_ ?_
    · refine W.ite rfl (fun h => ?_) (fun h => ?_)
      · have hi2 : i + 1 < f.length := by rw [hi1] at h; have := of_decide_eq_true h; omega
        clear h
        obtain ⟨y, hy⟩ : ∃ y, f[i + 1]? = some y := ⟨_, List.getElem?_eq_getElem hi2⟩
        rw [List.getD_eq_getElem?_getD, hy, Option.getD_some] at hr2
        have hw : IntKind.u64.wrap ((BitVec.ofInt IntKind.u64.bits (((x.toNat / 2 : Nat)) : Int) ||| BitVec.ofInt IntKind.u64.bits (IntKind.u64.wrap (((y.toNat % 2 : Nat) : Int) * 2 ^ min (Int.toNat 31) IntKind.u64.bits))).toNat : Int) = (r.toNat : Int) := by
          rw [show IntKind.u64.wrap (((y.toNat % 2 : Nat) : Int) * 2 ^ min (Int.toNat 31) IntKind.u64.bits) = ((y.toNat % 2 * 2 ^ 31 % 18446744073709551616 : Nat) : Int) from shl_nat (y.toNat % 2) 31, or_nat (by omega) (Nat.mod_lt _ (by decide)), hr2]
          have e : (2 : Nat) ^ 31 = 2147483648 := by decide
          unfold hdW
          rw [Nat.mod_eq_of_lt (by rw [e]; omega), Nat.or_comm, Nat.mul_comm (y.toNat % 2), ← Nat.two_pow_add_eq_or_of_lt (by rw [e]; omega), e]
          congr 1; omega
        repeat first|refine W.g ?_|refine L.p rfl rfl ?_|refine L.nil ?_|refine L.skip rfl ?_
        refine L.el (h1.cons hc).1 (k := i + 1) hi1 (wv_get hy) rfl rfl rfl rfl (fun _ => rfl) rfl (fun p => ?_)
        repeat first|refine W.g ?_|refine L.p rfl rfl ?_|refine L.nil ?_|refine L.skip rfl ?_
        rw [shr1, and1 _ y.isLt, hw]
        exact ⟨rfl, rfl, rfl, rfl, rfl, rfl⟩
      · have hi2 : f.length ≤ i + 1 := by rw [hi1] at h; have := of_decide_eq_false h; omega
        clear h
        rw [List.getD_eq_getElem?_getD, List.getElem?_eq_none hi2] at hr2
        have hr3 : r.toNat = x.toNat / 2 := by rw [hr2]; show x.toNat / 2 + 0 % 2 * _ = _; omega
        repeat first|refine W.g ?_|refine L.p rfl rfl ?_|refine L.nil ?_|refine L.skip rfl ?_
        rw [shr1, ← hr3]
        exact ⟨rfl, rfl, rfl, rfl, rfl, rfl⟩
    clear e0 e3 e4
    rintro _ e T' ⟨rfl, hT, e0, e3, e4, e5⟩
    subst hT
    refine W.env4 e0 e3 e4 e5 ?_
    repeat first|refine W.g ?_|refine L.p rfl rfl ?_|refine L.nil ?_|refine L.skip rfl ?_
    refine L.push1 (w := v64 r) rfl hc.len (.inl hg) rfl rfl rfl rfl rfl (by omega) rfl (fun _ => rfl) (fun p a4 c4 S2 h2 h3 h4 => ?_)
    repeat first|refine W.g ?_|refine L.p rfl rfl ?_|refine L.nil ?_|refine L.skip rfl ?_
    exact ⟨f.length - (i + 1), by omega, i + 1, a4, c4, rfl, by omega, hc.trans' h4, rfl, rfl, congrArg (Value.int .i64) hi1, by rw [htk]; exact h2⟩
  · have hin : i = f.length := by have := of_decide_eq_false h; omega
    subst hin
    clear h
    rw [List.take_of_length_le (by omega)] at hg
    have hW : WIn T a3 c3 (halfL f) := grow_win (by rw [hHl]; exact hg) (by omega)
    repeat first|refine W.g ?_|refine L.p rfl rfl ?_|refine L.nil ?_|refine L.skip rfl ?_
    refine L.cl (strip_C a3 c3 (halfL f) T hW) rfl (by rw [hHl]; rfl) ?_
    rintro _ _ ⟨rfl, rfl⟩
    refine ⟨fun _ => Cons.refl _, ?_⟩
    repeat first|refine W.g ?_|refine L.p rfl rfl ?_|refine L.nil ?_|refine L.skip rfl ?_
    exact ⟨.inr rfl, _, rfl, fm (halfL f), a3, c3, hc, rfl, hW.form, grow_new hg, HalfOk.form (halfL_small k1), by rw [hnum_form, halfL_num k1]⟩
theorem two_C (n : Nat) (hn : n < 10000000) (S : Mem) : C Tryz.prog G Ext 83 [vi n] S fun v S' => ∃ l, RefW S S' v l ∧ wnum l = 2 ^ n ∧ l.length = n / 64 + 1 := by
  refine C.fn Tryz.func83 rfl (by kernel_rfl) rfl ?_
  have e1 : IntKind.i64.wrap (Int.tdiv (n : Int) 64) = ((n / 64 : Nat) : Int) := by
    rw [show Int.tdiv (n : Int) 64 = ((n / 64 : Nat) : Int) from (Int.ofNat_tdiv n 64).symm, wrap64 (by omega) (by omega)]
  have e2 : IntKind.i64.wrap (IntKind.i64.wrap (Int.tdiv (n : Int) 64) + 1) = ((n / 64 + 1 : Nat) : Int) := by
    rw [e1, wrap64 (by omega) (by omega)]; rfl
  have e3 : Int.tmod (n : Int) 64 = ((n % 64 : Nat) : Int) := (Int.ofNat_tmod n 64).symm
  repeat first|refine W.g ?_|refine L.p rfl rfl ?_|refine L.nil ?_|refine L.skip rfl ?_
  refine L.mk (n := n / 64 + 1) (m := n / 64 + 1) (bytes := 8) (zv := v64 0#64) rfl rfl e2 rfl e2 (Nat.le_refl _) (by omega) rfl rfl ?_
  have hro : Mem.row? (S ++ [newR (List.replicate (n / 64 + 1) (v64 0#64)) 55]) S.length = some (newR (wv (List.replicate (n / 64 + 1) 0#64)) 55) := by
    rw [row_push_new rfl]; simp [wv]
  have hk := Cons.push S (newR (List.replicate (n / 64 + 1) (v64 0#64)) 55)
  generalize S ++ [newR (List.replicate (n / 64 + 1) (v64 0#64)) 55] = T at *
  obtain ⟨ro, hro0⟩ : ∃ ro, ro = S.length := ⟨_, rfl⟩
  rw [← hro0] at hro ⊢
  obtain ⟨r, hr⟩ := word_of (n := 2 ^ (n % 64)) (by rw [← show (2 : Nat) ^ 64 = 18446744073709551616 by decide]; exact Nat.pow_lt_pow_right (by decide) (Nat.mod_lt _ (by decide)))
  have hw : IntKind.u64.wrap (1 * 2 ^ (n % 64)) = (r.toNat : Int) := by
    rw [show (1 : Int) * 2 ^ (n % 64) = ((1 : Nat) : Int) * 2 ^ (n % 64) from rfl, shl_nat, Nat.one_mul, ← hr, Nat.mod_eq_of_lt r.isLt]
  repeat first|refine W.g ?_|refine L.p rfl rfl ?_|refine L.nil ?_|refine L.skip rfl ?_
  rw [e3, show min (Int.toNat ((n % 64 : Nat) : Int)) IntKind.u64.bits = n % 64 by rw [bits_u64, Int.toNat_natCast]; omega, hw]
  refine L.elst hro rfl (by show 0 + (n / 64 + 1) ≤ (wv (List.replicate (n / 64 + 1) 0#64)).length; rw [wv_len, List.length_replicate]; omega) (k := n / 64) e1 (by omega) rfl rfl rfl rfl (fun _ => rfl) (fun _ => rfl) rfl rfl rfl (fun p => ?_)
  have hr2 := row_set_w (k := n / 64) (r := r) hro
  have hk2 := hk.set ro { newR (wv (List.replicate (n / 64 + 1) 0#64)) 55 with cells := (newR (wv (List.replicate (n / 64 + 1) 0#64)) 55).cells.set (0 + n / 64) (v64 r) } (by omega)
  have hws := wnum_set (l := List.replicate (n / 64 + 1) 0#64) (q := n / 64) (x := 0#64) (y := r) (by rw [List.getElem?_replicate, if_pos (by omega)])
  rw [zero_word, wnum_zeros, Nat.zero_add, Nat.add_zero, hr, ← Nat.pow_add, show n % 64 + 64 * (n / 64) = n by omega] at hws
  generalize List.set T ro _ = T2 at *
  have hl : ((List.replicate (n / 64 + 1) 0#64).set (n / 64) r).length = n / 64 + 1 := by simp
  generalize (List.replicate (n / 64 + 1) 0#64).set (n / 64) r = o at *
  repeat first|refine W.g ?_|refine L.p rfl rfl ?_|refine L.nil ?_|refine L.skip rfl ?_
  exact ⟨.inr rfl, _, rfl, o, ⟨hk2, some ⟨ro, 0, none⟩, n / 64 + 1, by rw [hl]; rfl, (WOwn.row (N := 0) hr2 hl (Nat.zero_le _) (by omega)).1⟩, hws, hl⟩
theorem even_bit (n : Nat) : (Int.tmod (n : Int) 2 == 0) = decide (n % 2 = 0) := by
  rw [show Int.tmod (n : Int) 2 = ((n % 2 : Nat) : Int) from (Int.ofNat_tmod n 2).symm, Bool.eq_iff_iff, beq_iff_eq, decide_eq_true_eq]
  omega
theorem first_of {l : WL} (h : 0 < hnum l) : ∃ x, l[0]? = some x ∧ hnum l % 2 = x.toNat % 2 := by
  cases l with
  | nil => exact absurd h (by decide)
  | cons x t => exact ⟨x, rfl, by rw [hnum_mod]; rfl⟩
theorem gcd_halve {a b : Nat} (ha : a % 2 = 0) (hb : b % 2 = 1) : Nat.gcd (a / 2) b = Nat.gcd a b := by
  obtain ⟨c, rfl⟩ : ∃ c, a = 2 * c := ⟨a / 2, by omega⟩
  rw [Nat.mul_div_cancel_left _ (by decide)]
  have hc : Nat.Coprime b 2 := by
    rw [Nat.coprime_iff_gcd_eq_one, Nat.gcd_comm, Nat.gcd_rec, hb]; rfl
  exact (Nat.Coprime.gcd_mul_left_cancel c hc.symm).symm
theorem gcd_both {a b : Nat} (ha : a % 2 = 0) (hb : b % 2 = 0) : Nat.gcd a b = 2 * Nat.gcd (a / 2) (b / 2) := by
  obtain ⟨c, rfl⟩ : ∃ c, a = 2 * c := ⟨a / 2, by omega⟩
  obtain ⟨d, rfl⟩ : ∃ d, b = 2 * d := ⟨b / 2, by omega⟩
  rw [Nat.mul_div_cancel_left _ (by decide), Nat.mul_div_cancel_left _ (by decide), Nat.gcd_mul_left]
theorem divisor_C (a1 a2 : Option Addr) (c1 c2 : Nat) (l1 l2 : WL) (S : Mem) (h1 : WIn S a1 c1 l1) (h2 : WIn S a2 c2 l2) (n1 : l1.length < 10000) (n2 : l2.length < 10000) :
    C Tryz.prog G Ext 69 [.slice a1 l1.length c1, .slice a2 l2.length c2] S fun v S' => RefW S S' v (toW (Nat.gcd (wnum l1) (wnum l2))) := by
  refine C.fn Tryz.func69 rfl (by kernel_rfl) rfl ?_
  repeat first|refine W.g ?_|refine L.p rfl rfl ?_|refine L.nil ?_|refine L.skip rfl ?_
  refine L.cl (halvesN_C a1 c1 l1 S h1 (by omega)) rfl rfl ?_
  rintro _ S1 ⟨f, ⟨k1, b1, d1, rfl, i1⟩, o1, e1, q1⟩
  refine ⟨fun _ => k1, ?_⟩
  repeat first|refine W.g ?_|refine L.p rfl rfl ?_|refine L.nil ?_|refine L.skip rfl ?_
  refine L.cl (halvesN_C a2 c2 l2 S1 (h2.cons k1) (by omega)) rfl rfl ?_
  rintro _ S2 ⟨g, ⟨k2, b2, d2, rfl, i2⟩, o2, e2, q2⟩
  refine ⟨fun _ => k2, ?_⟩
  replace i1 := i1.cons k2
  have kA := k1.trans k2
  rw [← e1, ← e2]
  clear e1 e2 h1 h2 k1 k2
  repeat first|refine W.g ?_|refine L.p rfl rfl ?_|refine L.nil ?_|refine L.skip rfl ?_
  refine W.ite rfl (fun h => ?_) (fun h => ?_)
  · have h0 : f = [] := List.length_eq_zero_iff.1 (by have := eq_of_beq h; omega)
    clear h
    subst h0
    repeat first|refine W.g ?_|refine L.p rfl rfl ?_|refine L.nil ?_|refine L.skip rfl ?_
    refine L.cl (limbsN_C b2 d2 g S2 i2 o2.1 (by omega)) rfl rfl ?_
    rintro _ T1 ⟨k4, b4, d4, rfl, i4⟩
    refine ⟨fun _ => k4, ?_⟩
    repeat first|refine W.g ?_|refine L.p rfl rfl ?_|refine L.nil ?_|refine L.skip rfl ?_
    rw [show hnum ([] : WL) = 0 from rfl, Nat.gcd_zero_left]
    exact ⟨.inr rfl, _, rfl, kA.trans k4, b4, d4, rfl, i4⟩
  have hf0 : 0 < f.length := Nat.pos_of_ne_zero fun e => by rw [e] at h; cases h
  clear h
  repeat first|refine W.g ?_|refine L.p rfl rfl ?_|refine L.nil ?_|refine L.skip rfl ?_
  refine W.ite rfl (fun h => ?_) (fun h => ?_)
  · have h0 : g = [] := List.length_eq_zero_iff.1 (by have := eq_of_beq h; omega)
    clear h
    subst h0
    repeat first|refine W.g ?_|refine L.p rfl rfl ?_|refine L.nil ?_|refine L.skip rfl ?_
    refine L.cl (limbsN_C b1 d1 f S2 i1 o1.1 (by omega)) rfl rfl ?_
    rintro _ T1 ⟨k4, b4, d4, rfl, i4⟩
    refine ⟨fun _ => k4, ?_⟩
    repeat first|refine W.g ?_|refine L.p rfl rfl ?_|refine L.nil ?_|refine L.skip rfl ?_
    rw [show hnum ([] : WL) = 0 from rfl, Nat.gcd_zero_right]
    exact ⟨.inr rfl, _, rfl, kA.trans k4, b4, d4, rfl, i4⟩
  have hg0 : 0 < g.length := Nat.pos_of_ne_zero fun e => by rw [e] at h; cases h
  clear h
  have hfp := half_pos o1 hf0
  have hgp := half_pos o2 hg0
  obtain ⟨E, hE⟩ : ∃ E, E = 640000 := ⟨_, rfl⟩
  have hfl : hnum f < 2 ^ E := Nat.lt_of_lt_of_le (hnum_lt o1.1) (Nat.pow_le_pow_right (by decide) (by omega))
  obtain ⟨A, hA⟩ : ∃ A, A = hnum f := ⟨_, rfl⟩
  obtain ⟨B, hB⟩ : ∃ B, B = hnum g := ⟨_, rfl⟩
  have hfl' : f.length ≤ 20000 := by omega
  have hgl' : g.length ≤ 20000 := by omega
  rw [← hA, ← hB]
  repeat first|refine W.g ?_|refine L.p rfl rfl ?_|refine L.nil ?_|refine L.skip rfl ?_
  -- twos
  refine W.mono (R := fun x e T => x = .exit 0 ∧ ∃ (f g : WL) (a3 a4 : Option Addr) (c3 c4 tw : Nat), Cons S2 T ∧ e 5 = .slice a3 f.length c3 ∧ e 6 = .slice a4 g.length c4 ∧ e 7 = vi tw ∧ WIn T a3 c3 f ∧ WIn T a4 c4 g ∧ HalfOk f ∧ HalfOk g ∧ 0 < hnum f ∧ 0 < hnum g ∧ f.length ≤ 20000 ∧ g.length ≤ 20000 ∧ 2 ^ tw * Nat.gcd (hnum f) (hnum g) = Nat.gcd A B ∧ 2 ^ tw * hnum f = A ∧ (hnum f % 2 = 1 ∨ hnum g % 2 = 1)) ?_ ?_
  · refine W.loop (fun j e T => ∃ (f g : WL) (a3 a4 : Option Addr) (c3 c4 tw : Nat), j = hnum f ∧ Cons S2 T ∧ e 5 = .slice a3 f.length c3 ∧ e 6 = .slice a4 g.length c4 ∧ e 7 = vi tw ∧ WIn T a3 c3 f ∧ WIn T a4 c4 g ∧ HalfOk f ∧ HalfOk g ∧ 0 < hnum f ∧ 0 < hnum g ∧ f.length ≤ 20000 ∧ g.length ≤ 20000 ∧ 2 ^ tw * Nat.gcd (hnum f) (hnum g) = Nat.gcd A B ∧ 2 ^ tw * hnum f = A) (hnum f)
      ⟨f, g, b1, b2, d1, d2, 0, rfl, Cons.refl _, rfl, rfl, rfl, i1, i2, o1, o2, hfp, hgp, hfl', hgl', by rw [Nat.pow_zero, Nat.one_mul, hA, hB], by rw [Nat.pow_zero, Nat.one_mul, hA]⟩ ?_
    clear hfp hgp hf0 hg0 o1 o2 i1 i2 q1 q2 hB hfl' hgl'
    rintro j e T ⟨f2, g2, a3, a4, c3, c4, tw, rfl, kT, e5, e6, e7, i1, i2, o1, o2, hfp, hgp, hfl1, hgl1, hgcd, htw⟩
    refine W.env3 e5 e6 e7 ?_
    obtain ⟨x, hx, hxm⟩ := first_of hfp
    obtain ⟨y, hy, hym⟩ := first_of hgp
    have htwl : tw < 640000 := by
      refine Classical.byContradiction fun hc => ?_
      have q1 : 2 ^ E ≤ 2 ^ tw := Nat.pow_le_pow_right (by decide) (by omega)
      have q2 : 2 ^ tw * 1 ≤ 2 ^ tw * hnum f2 := Nat.mul_le_mul_left _ hfp
      omega
    have hev := even_bit x.toNat
    have hev2 := even_bit y.toNat
    refine W.seq ?_
    refine W.seq ?_
    refine W.mono (R := fun x' e' T' => x' = .nrm ∧ T' = T ∧ e' 5 = .slice a3 f2.length c3 ∧ e' 6 = .slice a4 g2.length c4 ∧ e' 7 = vi tw ∧ e' 33 = .bool (decide (hnum f2 % 2 = 0 ∧ hnum g2 % 2 = 0))) ?_ ?_
    · repeat first|refine W.g ?_|refine L.p rfl rfl ?_|refine L.nil ?_|refine L.skip rfl ?_
      refine L.el i1.1 (k := 0) rfl (wv_get hx) rfl rfl rfl rfl (fun _ => rfl) rfl (fun _ => ?_)
      repeat first|refine W.g ?_|refine L.p rfl rfl ?_|refine L.nil ?_|refine L.skip rfl ?_
      rw [hev]
      cases hb : decide (x.toNat % 2 = 0)
      · have hq := of_decide_eq_false hb
        repeat first|refine W.g ?_|refine L.p rfl rfl ?_|refine L.nil ?_|refine L.skip rfl ?_
        exact ⟨rfl, rfl, rfl, rfl, rfl, congrArg Value.bool (decide_eq_false (by omega)).symm⟩
      · have hq := of_decide_eq_true hb
        repeat first|refine W.g ?_|refine L.p rfl rfl ?_|refine L.nil ?_|refine L.skip rfl ?_
        refine L.el i2.1 (k := 0) rfl (wv_get hy) rfl rfl rfl rfl (fun _ => rfl) rfl (fun _ => ?_)
        repeat first|refine W.g ?_|refine L.p rfl rfl ?_|refine L.nil ?_|refine L.skip rfl ?_
        rw [hev2]
        exact ⟨rfl, rfl, rfl, rfl, rfl, congrArg Value.bool (decide_eq_decide.2 (by omega))⟩
    clear e5 e6 e7
    rintro _ e T' ⟨rfl, hT, e5, e6, e7, e33⟩
    subst hT
    refine W.env4 e5 e6 e7 e33 ?_
    repeat first|refine W.g ?_|refine L.p rfl rfl ?_|refine L.nil ?_|refine L.skip rfl ?_
    refine W.ite rfl (fun h => ?_) (fun h => ?_)
    · obtain ⟨hf2, hg2⟩ := of_decide_eq_true h
      clear h
      repeat first|refine W.g ?_|refine L.p rfl rfl ?_|refine L.nil ?_|refine L.skip rfl ?_
      refine L.cl (down_C a3 c3 f2 T' i1 o1.1 (by omega)) rfl rfl ?_
      rintro _ T1 ⟨f3, a5, c5, k5, rfl, i5, _, o5, n5⟩
      refine ⟨fun _ => k5, ?_⟩
      repeat first|refine W.g ?_|refine L.p rfl rfl ?_|refine L.nil ?_|refine L.skip rfl ?_
      refine L.cl (down_C a4 c4 g2 T1 (i2.cons k5) o2.1 (by omega)) rfl rfl ?_
      rintro _ T2 ⟨g3, a6, c6, k6, rfl, i6, _, o6, n6⟩
      refine ⟨fun _ => k6, ?_⟩
      repeat first|refine W.g ?_|refine L.p rfl rfl ?_|refine L.nil ?_|refine L.skip rfl ?_
      have hgb := gcd_both hf2 hg2
      refine ⟨hnum f3, by omega, f3, g3, a5, a6, c5, c6, tw + 1, rfl, (kT.trans k5).trans k6, rfl, rfl, congrArg (Value.int .i64) (wrap64 (by omega) (by omega)), i5.cons k6, i6, o5, o6, by omega, by omega, Nat.le_trans (half_len o5 o1 (by omega)) hfl1, Nat.le_trans (half_len o6 o2 (by omega)) hgl1, ?_, ?_⟩
      · rw [n5, n6, Nat.pow_succ, Nat.mul_assoc, ← hgb, hgcd]
      · rw [n5, Nat.pow_succ, Nat.mul_assoc, show 2 * (hnum f2 / 2) = hnum f2 by omega, htw]
    · have hor := of_decide_eq_false h
      clear h
      repeat first|refine W.g ?_|refine L.p rfl rfl ?_|refine L.nil ?_|refine L.skip rfl ?_
      exact ⟨rfl, f2, g2, a3, a4, c3, c4, tw, kT, rfl, rfl, rfl, i1, i2, o1, o2, hfp, hgp, hfl1, hgl1, hgcd, htw, by omega⟩
  clear hfp hgp hf0 hg0 o1 o2 i1 i2 q1 q2 hB hfl' hgl'
  rintro _ e T ⟨rfl, f2, g2, a3, a4, c3, c4, tw, kT, e5, e6, e7, i1, i2, o1, o2, hfp, hgp, hfl1, hgl1, hgcd, htw, hodd⟩
  have htwl : tw < 640000 := by
    refine Classical.byContradiction fun hc => ?_
    have q1 : 2 ^ E ≤ 2 ^ tw := Nat.pow_le_pow_right (by decide) (by omega)
    have q2 : 2 ^ tw * 1 ≤ 2 ^ tw * hnum f2 := Nat.mul_le_mul_left _ hfp
    omega
  refine W.env3 e5 e6 e7 ?_
  clear htw hfl hA
  obtain ⟨K, hK⟩ : ∃ K, Nat.gcd (hnum f2) (hnum g2) = K := ⟨_, rfl⟩
  rw [hK] at hgcd
  repeat first|refine W.g ?_|refine L.p rfl rfl ?_|refine L.nil ?_|refine L.skip rfl ?_
  refine W.mono (R := fun x e T => x = .exit 2 ∧ ∃ (f : WL) (a3 : Option Addr) (c3 : Nat), Cons S2 T ∧ e 5 = .slice a3 f.length c3 ∧ e 6 = .slice a4 g2.length c4 ∧ e 7 = vi tw ∧ WIn T a3 c3 f ∧ WIn T a4 c4 g2 ∧ HalfOk f ∧ 0 < hnum f ∧ f.length ≤ 20000 ∧ Nat.gcd (hnum f) (hnum g2) = K ∧ hnum f % 2 = 1) ?_ ?_
  · refine W.loop (fun j e T => ∃ (f : WL) (a3 : Option Addr) (c3 : Nat), j = hnum f ∧ Cons S2 T ∧ e 5 = .slice a3 f.length c3 ∧ e 6 = .slice a4 g2.length c4 ∧ e 7 = vi tw ∧ WIn T a3 c3 f ∧ WIn T a4 c4 g2 ∧ HalfOk f ∧ 0 < hnum f ∧ f.length ≤ 20000 ∧ Nat.gcd (hnum f) (hnum g2) = K ∧ (hnum f % 2 = 1 ∨ hnum g2 % 2 = 1)) (hnum f2)
      ⟨f2, a3, c3, rfl, kT, rfl, rfl, rfl, i1, i2, o1, hfp, hfl1, hK, hodd⟩ ?_
    clear hfp hK i1 i2 o1 hfl1 hodd kT e5 e6 e7
    clear T e f2 a3 c3
    rintro j e T ⟨f2, a3, c3, rfl, kT, e5, e6, e7, i1, i2, o1, hfp, hfl1, hK, hodd⟩
    refine W.env3 e5 e6 e7 ?_
    obtain ⟨x, hx, hxm⟩ := first_of hfp
    have hev := even_bit x.toNat
    repeat first|refine W.g ?_|refine L.p rfl rfl ?_|refine L.nil ?_|refine L.skip rfl ?_
    refine L.el i1.1 (k := 0) rfl (wv_get hx) rfl rfl rfl rfl (fun _ => rfl) rfl (fun _ => ?_)
    repeat first|refine W.g ?_|refine L.p rfl rfl ?_|refine L.nil ?_|refine L.skip rfl ?_
    rw [hev]
    refine W.ite rfl (fun h => ?_) (fun h => ?_)
    · have hq : x.toNat % 2 = 0 := of_decide_eq_true h
      clear h
      repeat first|refine W.g ?_|refine L.p rfl rfl ?_|refine L.nil ?_|refine L.skip rfl ?_
      refine L.cl (down_C a3 c3 f2 T i1 o1.1 (by omega)) rfl rfl ?_
      rintro _ T1 ⟨f3, a5, c5, k5, rfl, i5, _, o5, n5⟩
      refine ⟨fun _ => k5, ?_⟩
      repeat first|refine W.g ?_|refine L.p rfl rfl ?_|refine L.nil ?_|refine L.skip rfl ?_
      exact ⟨hnum f3, by omega, f3, a5, c5, rfl, kT.trans k5, rfl, rfl, rfl, i5, i2.cons k5, o5, by omega, Nat.le_trans (half_len o5 o1 (by omega)) hfl1, by rw [n5, gcd_halve (by omega) (by omega), hK], .inr (by omega)⟩
    · have hq : ¬ x.toNat % 2 = 0 := of_decide_eq_false h
      clear h
      repeat first|refine W.g ?_|refine L.p rfl rfl ?_|refine L.nil ?_|refine L.skip rfl ?_
      exact ⟨rfl, f2, a3, c3, kT, rfl, rfl, rfl, i1, i2, o1, hfp, hfl1, hK, by omega⟩
  clear hfp hK i1 i2 o1 hfl1 hodd kT e5 e6 e7
  rintro _ e T ⟨rfl, f2, a3, c3, kT, e5, e6, e7, i1, i2, o1, hfp, hfl1, hK, hodd⟩
  refine W.env3 e5 e6 e7 ?_
  repeat first|refine W.g ?_|refine L.p rfl rfl ?_|refine L.nil ?_|refine L.skip rfl ?_
  refine W.loop (fun j e T => ∃ (f g : WL) (a3 a4 : Option Addr) (c3 c4 : Nat), j = hnum f + hnum g ∧ Cons S2 T ∧ e 5 = .slice a3 f.length c3 ∧ e 6 = .slice a4 g.length c4 ∧ e 7 = vi tw ∧ WIn T a3 c3 f ∧ WIn T a4 c4 g ∧ HalfOk f ∧ HalfOk g ∧ f.length ≤ 20000 ∧ g.length ≤ 20000 ∧ Nat.gcd (hnum f) (hnum g) = K ∧ hnum f % 2 = 1) (hnum f2 + hnum g2)
    ⟨f2, g2, a3, a4, c3, c4, rfl, kT, rfl, rfl, rfl, i1, i2, o1, o2, hfl1, hgl1, hK, hodd⟩ ?_
  clear hfp hgp hK i1 i2 o1 o2 hfl1 hgl1 hodd kT e5 e6 e7
  clear f2 g2
  rintro j e T ⟨f2, g2, a3, a4, c3, c4, rfl, kT, e5, e6, e7, i1, i2, o1, o2, hfl1, hgl1, hK, hodd⟩
  refine W.env3 e5 e6 e7 ?_
  have hfp : 0 < hnum f2 := by omega
  obtain ⟨x, hx, hxm⟩ := first_of hfp
  have hxl := small32_get o1.1 hx
  have hone : (1 < hnum f2) ↔ (1 < f2.length ∨ 1 < x.toNat) := by
    cases hf : f2 with
    | nil => rw [hf] at hfp; exact absurd hfp (by decide)
    | cons z t =>
      rw [hf] at hx
      simp at hx
      subst hx
      rw [hf] at o1
      cases t with
      | nil => show 1 < z.toNat + 4294967296 * 0 ↔ _; simp
      | cons w u =>
        have := half_ge o1 (by simp)
        have h2 : 2 ^ (32 * ((z :: w :: u).length - 1)) ≥ 2 ^ 32 := Nat.pow_le_pow_right (by decide) (by simp; omega)
        have e : (2 : Nat) ^ 32 = 4294967296 := by decide
        constructor
        · intro _; left; simp
        · intro _; omega
  refine W.seq ?_
  refine W.seq ?_
  refine W.mono (R := fun x' e' T' => x' = .nrm ∧ T' = T ∧ e' 5 = .slice a3 f2.length c3 ∧ e' 6 = .slice a4 g2.length c4 ∧ e' 7 = vi tw ∧ e' 60 = .bool (decide (0 < g2.length ∧ 1 < hnum f2))) ?_ ?_
  · repeat first|refine W.g ?_|refine L.p rfl rfl ?_|refine L.nil ?_|refine L.skip rfl ?_
    cases hb : decide ((g2.length : Int) > 0)
    · have hq := of_decide_eq_false hb
      repeat first|refine W.g ?_|refine L.p rfl rfl ?_|refine L.nil ?_|refine L.skip rfl ?_
      exact ⟨rfl, rfl, rfl, rfl, rfl, congrArg Value.bool (decide_eq_false (by omega)).symm⟩
    · have hq := of_decide_eq_true hb
      repeat first|refine W.g ?_|refine L.p rfl rfl ?_|refine L.nil ?_|refine L.skip rfl ?_
      cases hb2 : decide ((f2.length : Int) > 1)
      · have hq2 := of_decide_eq_false hb2
        repeat first|refine W.g ?_|refine L.p rfl rfl ?_|refine L.nil ?_|refine L.skip rfl ?_
        refine L.el i1.1 (k := 0) rfl (wv_get hx) rfl rfl rfl rfl (fun _ => rfl) rfl (fun _ => ?_)
        repeat first|refine W.g ?_|refine L.p rfl rfl ?_|refine L.nil ?_|refine L.skip rfl ?_
        exact ⟨rfl, rfl, rfl, rfl, rfl, congrArg Value.bool (decide_eq_decide.2 (by rw [hone]; omega))⟩
      · have hq2 := of_decide_eq_true hb2
        repeat first|refine W.g ?_|refine L.p rfl rfl ?_|refine L.nil ?_|refine L.skip rfl ?_
        exact ⟨rfl, rfl, rfl, rfl, rfl, congrArg Value.bool (decide_eq_true ⟨by omega, hone.2 (by omega)⟩).symm⟩
  clear e5 e6 e7
  rintro _ e T' ⟨rfl, hT, e5, e6, e7, e60⟩
  subst hT
  refine W.env4 e5 e6 e7 e60 ?_
  repeat first|refine W.g ?_|refine L.p rfl rfl ?_|refine L.nil ?_|refine L.skip rfl ?_
  refine W.ite rfl (fun h => ?_) (fun h => ?_)
  rotate_left
  · have hor := of_decide_eq_false h
    clear h
    have hKf : K = hnum f2 := by
      by_cases hg : 0 < g2.length
      · have : hnum f2 = 1 := by omega
        rw [← hK, this, Nat.gcd_one_left]
      · have : g2 = [] := List.length_eq_zero_iff.1 (by omega)
        rw [← hK, this]
        exact Nat.gcd_zero_right _
    repeat first|refine W.g ?_|refine L.p rfl rfl ?_|refine L.nil ?_|refine L.skip rfl ?_
    refine L.cl (limbsN_C a3 c3 f2 T' i1 o1.1 (by omega)) rfl rfl ?_
    rintro _ T1 ⟨k4, b4, d4, rfl, i4⟩
    refine ⟨fun _ => k4, ?_⟩
    repeat first|refine W.g ?_|refine L.p rfl rfl ?_|refine L.nil ?_|refine L.skip rfl ?_
    refine L.cl (two_C tw (by omega) T1) rfl rfl ?_
    rintro _ T2 ⟨l2', ⟨k5, b5, d5, rfl, i5⟩, e2', q5⟩
    refine ⟨fun _ => k5, ?_⟩
    have hl4 : (toW (hnum f2)).length ≤ f2.length := (toW_len _ _).2 (Nat.lt_of_lt_of_le (hnum_lt o1.1) (Nat.pow_le_pow_right (by decide) (by omega)))
    repeat first|refine W.g ?_|refine L.p rfl rfl ?_|refine L.nil ?_|refine L.skip rfl ?_
    refine L.cl (timesR_C b4 b5 d4 d5 _ l2' T2 (i4.cons k5) i5 (by omega) (by omega)) rfl rfl ?_
    rintro _ T3 ⟨k6, b6, d6, rfl, i6⟩
    refine ⟨fun _ => k6, ?_⟩
    rw [wnum_toW, e2', ← hKf, Nat.mul_comm, hgcd] at i6 ⊢
    repeat first|refine W.g ?_|refine L.p rfl rfl ?_|refine L.nil ?_|refine L.skip rfl ?_
    exact ⟨.inr rfl, _, rfl, (((kA.trans kT).trans k4).trans k5).trans k6, b6, d6, rfl, i6⟩
  obtain ⟨hgl0, hf1⟩ := of_decide_eq_true h
  clear h hone hx hxm hxl
  have hgp := half_pos o2 hgl0
  repeat first|refine W.g ?_|refine L.p rfl rfl ?_|refine L.nil ?_|refine L.skip rfl ?_
  refine W.mono (R := fun x' e' T2 => x' = .exit 6 ∧ ∃ (g : WL) (a4 : Option Addr) (c4 : Nat), Cons S2 T2 ∧ e' 5 = .slice a3 f2.length c3 ∧ e' 6 = .slice a4 g.length c4 ∧ e' 7 = vi tw ∧ WIn T2 a3 c3 f2 ∧ WIn T2 a4 c4 g ∧ HalfOk g ∧ 0 < hnum g ∧ hnum g ≤ hnum g2 ∧ g.length ≤ 20000 ∧ Nat.gcd (hnum f2) (hnum g) = K ∧ hnum g % 2 = 1) ?_ ?_
  · refine W.loop (fun j e' T2 => ∃ (g : WL) (a4 : Option Addr) (c4 : Nat), j = hnum g ∧ Cons S2 T2 ∧ e' 5 = .slice a3 f2.length c3 ∧ e' 6 = .slice a4 g.length c4 ∧ e' 7 = vi tw ∧ WIn T2 a3 c3 f2 ∧ WIn T2 a4 c4 g ∧ HalfOk g ∧ 0 < hnum g ∧ hnum g ≤ hnum g2 ∧ g.length ≤ 20000 ∧ Nat.gcd (hnum f2) (hnum g) = K) (hnum g2)
      ⟨g2, a4, c4, rfl, kT, rfl, rfl, rfl, i1, i2, o2, hgp, Nat.le_refl _, hgl1, hK⟩ ?_
    rintro j e' T2 ⟨g, a5, c5, rfl, kT2, e5, e6, e7, j1, j2, p2, hgp2, hgle, hgl2, hK2⟩
    refine W.env3 e5 e6 e7 ?_
    obtain ⟨y, hy, hym⟩ := first_of hgp2
    have hev := even_bit y.toNat
    repeat first|refine W.g ?_|refine L.p rfl rfl ?_|refine L.nil ?_|refine L.skip rfl ?_
    refine L.el j2.1 (k := 0) rfl (wv_get hy) rfl rfl rfl rfl (fun _ => rfl) rfl (fun _ => ?_)
    repeat first|refine W.g ?_|refine L.p rfl rfl ?_|refine L.nil ?_|refine L.skip rfl ?_
    rw [hev]
    refine W.ite rfl (fun h => ?_) (fun h => ?_)
    · have hq : y.toNat % 2 = 0 := of_decide_eq_true h
      clear h
      repeat first|refine W.g ?_|refine L.p rfl rfl ?_|refine L.nil ?_|refine L.skip rfl ?_
      refine L.cl (down_C a5 c5 g T2 j2 p2.1 (by omega)) rfl rfl ?_
      rintro _ T3 ⟨g3, a6, c6, k5, rfl, i5, _, o5, n5⟩
      refine ⟨fun _ => k5, ?_⟩
      repeat first|refine W.g ?_|refine L.p rfl rfl ?_|refine L.nil ?_|refine L.skip rfl ?_
      exact ⟨hnum g3, by omega, g3, a6, c6, rfl, kT2.trans k5, rfl, rfl, rfl, j1.cons k5, i5, o5, by omega, by omega, Nat.le_trans (half_len o5 p2 (by omega)) hgl2, by rw [n5, Nat.gcd_comm, gcd_halve (by omega) hodd, Nat.gcd_comm, hK2]⟩
    · have hq : ¬ y.toNat % 2 = 0 := of_decide_eq_false h
      clear h
      repeat first|refine W.g ?_|refine L.p rfl rfl ?_|refine L.nil ?_|refine L.skip rfl ?_
      exact ⟨rfl, g, a5, c5, kT2, rfl, rfl, rfl, j1, j2, p2, hgp2, hgle, hgl2, hK2, by omega⟩
  clear e5 e6 e7 i2 hgl1 hK hgp kT i1
  rintro _ e' T2 ⟨rfl, g, a5, c5, kT, e5, e6, e7, i1, i2, p2, hgp, hgle, hgl1, hK, hgodd⟩
  refine W.env3 e5 e6 e7 ?_
  repeat first|refine W.g ?_|refine L.p rfl rfl ?_|refine L.nil ?_|refine L.skip rfl ?_
  refine L.cl (compare_C a3 a5 c3 c5 f2 g T2 i1 i2 o1 p2) rfl rfl ?_
  rintro _ M ⟨rfl, hM⟩
  have hM := hM.symm
  subst hM
  refine ⟨fun _ => Cons.refl _, ?_⟩
  repeat first|refine W.g ?_|refine L.p rfl rfl ?_|refine L.nil ?_|refine L.skip rfl ?_
  refine W.mono (R := fun x' e' T3 => x' = .nrm ∧ T3 = T2 ∧ ∃ (f g' : WL) (a3 a4 : Option Addr) (c3 c4 : Nat), e' 5 = .slice a3 f.length c3 ∧ e' 6 = .slice a4 g'.length c4 ∧ e' 7 = vi tw ∧ WIn T2 a3 c3 f ∧ WIn T2 a4 c4 g' ∧ HalfOk f ∧ HalfOk g' ∧ f.length ≤ 20000 ∧ g'.length ≤ 20000 ∧ Nat.gcd (hnum f) (hnum g') = K ∧ hnum f % 2 = 1 ∧ hnum f ≤ hnum g' ∧ hnum f + hnum g' = hnum f2 + hnum g) ?_ ?_
  · refine W.ite rfl (fun h => ?_) (fun h => ?_)
    · have hgt : hnum g < hnum f2 := by
        have h0 := of_decide_eq_true h
        unfold cmpI at h0
        split at h0
        · omega
        · split at h0 <;> omega
      clear h
      repeat first|refine W.g ?_|refine L.p rfl rfl ?_|refine L.nil ?_|refine L.skip rfl ?_
      exact ⟨rfl, rfl, g, f2, a5, a3, c5, c3, rfl, rfl, rfl, i2, i1, p2, o1, hgl1, hfl1, by rw [Nat.gcd_comm]; exact hK, hgodd, by omega, by omega⟩
    · have hle : hnum f2 ≤ hnum g := by
        have h0 := of_decide_eq_false h
        refine Classical.byContradiction fun hc => h0 ?_
        unfold cmpI
        rw [if_neg (by omega), if_pos (by omega)]
        decide
      clear h
      repeat first|refine W.g ?_|refine L.p rfl rfl ?_|refine L.nil ?_|refine L.skip rfl ?_
      exact ⟨rfl, rfl, f2, g, a3, a5, c3, c5, rfl, rfl, rfl, i1, i2, o1, p2, hfl1, hgl1, hK, hodd, hle, rfl⟩
  clear e5 e6 e7 i1 i2 hK hgl1
  rintro _ e' T3 ⟨rfl, hT3, f4, g4, a6, a7, c6, c7, e5, e6, e7, i1, i2, o3, o4, hfl2, hgl2, hK, hodd2, hle, hsm⟩
  subst hT3
  refine W.env3 e5 e6 e7 ?_
  repeat first|refine W.g ?_|refine L.p rfl rfl ?_|refine L.nil ?_|refine L.skip rfl ?_
  refine L.cl (minus_C a7 a6 c7 c6 g4 f4 T3 i2 i1 o4 o3 hle (by omega)) rfl rfl ?_
  rintro _ T4 ⟨g5, a8, c8, k8, rfl, i8, _, o8, n8⟩
  refine ⟨fun _ => k8, ?_⟩
  repeat first|refine W.g ?_|refine L.p rfl rfl ?_|refine L.nil ?_|refine L.skip rfl ?_
  refine ⟨hnum f4 + hnum g5, by omega, f4, g5, a6, a8, c6, c8, rfl, kT.trans k8, rfl, rfl, rfl, i1.cons k8, i8, o3, o8, hfl2, Nat.le_trans (half_len o8 o4 (by omega)) hgl2, ?_, hodd2⟩
  rw [n8, ← hK]
  exact Nat.gcd_sub_self_right hle
end Go.Proofs.YtbdnkneedengcaaGreatDoor

/- The document's calls of layer 1: walked. Conditions: none. -/
set_option linter.unusedSimpArgs false
set_option linter.unusedVariables false
set_option maxRecDepth 100000
set_option maxHeartbeats 4000000
namespace Go.Proofs.YtbdnkneedengcaaGreatDoor
open Go Ie
variable {Ext : FuncId → List Value → Mem → Outc → Mem → Prop}
/-- a list and an error -/
def RefT (S S' : Mem) (v : Value) (L : WL) (E : Int) : Prop := ∃ (a : Option Addr) (c : Nat), v = .tuple #[.slice a L.length c, .int .i64 E] ∧ Cons S S' ∧ WIn S' a c L
theorem WIn.nil (S : Mem) : WIn S none 0 [] := ⟨Slv.nil _ _ _ _, by decide, fun _ => rfl, by decide⟩
theorem refTold_C (a : Option Addr) (c : Nat) (l : WL) (S : Mem) (h : WIn S a c l) (hlen : l.length < 100000) : C Tryz.prog gN Ext 62 [.slice a l.length c] S fun v S' => RefT S S' v (toldL l) (toldE l) := by
  refine C.fn Tryz.func62 rfl (by kernel_rfl) rfl ?_
  repeat first|refine W.g ?_|refine L.p rfl rfl ?_|refine L.nil ?_|refine L.skip rfl ?_
  refine L.cl (fits_C a c l S h (by omega)) rfl rfl ?_
  rintro _ S1 ⟨rfl, k1⟩
  refine ⟨fun _ => k1, ?_⟩
  repeat first|refine W.g ?_|refine L.p rfl rfl ?_|refine L.nil ?_|refine L.skip rfl ?_
  refine W.ite rfl (fun h => ?_) (fun h => ?_)
  · have hs : small l = false := by simpa using h
    repeat first|refine W.g ?_|refine L.p rfl rfl ?_|refine L.nil ?_|refine L.skip rfl ?_
    exact ⟨.inr rfl, _, rfl, none, 0, by unfold toldL toldE; rw [hs]; rfl, k1, by unfold toldL; rw [hs]; exact WIn.nil _⟩
  · have hs : small l = true := by simpa using h
    clear h
    rename WIn S a c l => h
    repeat first|refine W.g ?_|refine L.p rfl rfl ?_|refine L.nil ?_|refine L.skip rfl ?_
    refine L.cl (form_C a c l S1 (h.cons k1) (by omega)) rfl rfl ?_
    rintro _ S2 ⟨k2, b, d, rfl, i⟩
    refine ⟨fun _ => k2, ?_⟩
    repeat first|refine W.g ?_|refine L.p rfl rfl ?_|refine L.nil ?_|refine L.skip rfl ?_
    exact ⟨.inr rfl, _, rfl, b, d, by unfold toldL toldE; rw [hs]; rfl, k1.trans k2, by unfold toldL; rw [hs]; exact i⟩
theorem refNorm_C (a : Option Addr) (c : Nat) (l : WL) (S : Mem) (h : WIn S a c l) (hlen : l.length < 100000) : C Tryz.prog gN Ext 16 [.slice a l.length c] S fun v S' => RefT S S' v (toldL l) (toldE l) := by
  refine C.fn Tryz.func16 rfl (by kernel_rfl) rfl ?_
  repeat first|refine W.g ?_|refine L.p rfl rfl ?_|refine L.nil ?_|refine L.skip rfl ?_
  refine L.cl (refTold_C a c l S h hlen) rfl rfl ?_
  rintro _ S1 ⟨b, d, rfl, k, i⟩
  refine ⟨fun _ => k, ?_⟩
  repeat first|refine W.g ?_|refine L.p rfl rfl ?_|refine L.nil ?_|refine L.skip rfl ?_
  exact ⟨.inr rfl, _, rfl, b, d, rfl, k, i⟩
theorem refAdd_C (a1 a2 : Option Addr) (c1 c2 : Nat) (l1 l2 : WL) (S : Mem) (h1 : WIn S a1 c1 l1) (h2 : WIn S a2 c2 l2) (n1 : l1.length < 10000) (n2 : l2.length < 10000) :
    C Tryz.prog gN Ext 17 [.slice a1 l1.length c1, .slice a2 l2.length c2] S fun v S' => RefT S S' v (addL l1 l2) (addE l1 l2) := by
  refine C.fn Tryz.func17 rfl (by kernel_rfl) rfl ?_
  repeat first|refine W.g ?_|refine L.p rfl rfl ?_|refine L.nil ?_|refine L.skip rfl ?_
  refine L.cl (fits_C a1 c1 l1 S h1 (by omega)) rfl rfl ?_
  rintro _ S1 ⟨rfl, k1⟩
  refine ⟨fun _ => k1, ?_⟩
  repeat first|refine W.g ?_|refine L.p rfl rfl ?_|refine L.nil ?_|refine L.skip rfl ?_
  cases hs1 : small l1
  · have hsm : (small l1 && small l2) = false := by rw [hs1]; rfl
    repeat first|refine W.g ?_|refine L.p rfl rfl ?_|refine L.nil ?_|refine L.skip rfl ?_
    refine W.ite rfl (fun h => ?_) (fun h => ?_)
    rotate_left
    · cases h
    repeat first|refine W.g ?_|refine L.p rfl rfl ?_|refine L.nil ?_|refine L.skip rfl ?_
    exact ⟨.inr rfl, _, rfl, none, 0, by unfold addL addE; rw [hsm]; rfl, k1, by unfold addL; rw [hsm]; exact WIn.nil _⟩
  repeat first|refine W.g ?_|refine L.p rfl rfl ?_|refine L.nil ?_|refine L.skip rfl ?_
  refine L.cl (fits_C a2 c2 l2 S1 (h2.cons k1) (by omega)) rfl rfl ?_
  rintro _ S2 ⟨rfl, k2⟩
  refine ⟨fun _ => k2, ?_⟩
  replace k1 := k1.trans k2
  clear k2
  repeat first|refine W.g ?_|refine L.p rfl rfl ?_|refine L.nil ?_|refine L.skip rfl ?_
  cases hs2 : small l2
  · have hsm : (small l1 && small l2) = false := by rw [hs1, hs2]; rfl
    repeat first|refine W.g ?_|refine L.p rfl rfl ?_|refine L.nil ?_|refine L.skip rfl ?_
    refine W.ite rfl (fun h => ?_) (fun h => ?_)
    rotate_left
    · cases h
    repeat first|refine W.g ?_|refine L.p rfl rfl ?_|refine L.nil ?_|refine L.skip rfl ?_
    exact ⟨.inr rfl, _, rfl, none, 0, by unfold addL addE; rw [hsm]; rfl, k1, by unfold addL; rw [hsm]; exact WIn.nil _⟩
  repeat first|refine W.g ?_|refine L.p rfl rfl ?_|refine L.nil ?_|refine L.skip rfl ?_
  refine W.ite rfl (fun h => ?_) (fun h => ?_)
  · cases h
  clear h
  have hsm : (small l1 && small l2) = true := by rw [hs1, hs2]; rfl
  replace h1 := h1.cons k1
  replace h2 := h2.cons k1
  repeat first|refine W.g ?_|refine L.p rfl rfl ?_|refine L.nil ?_|refine L.skip rfl ?_
  refine L.cl (plusR_C a1 a2 c1 c2 l1 l2 S2 h1 h2 (by omega) (by omega)) rfl rfl ?_
  rintro _ S3 ⟨k3, b, d, rfl, i⟩
  refine ⟨fun _ => k3, ?_⟩
  have hl : (toW (wnum l1 + wnum l2)).length ≤ l1.length + l2.length + 1 := (toW_len _ _).2 (by
    have q1 := wnum_lt l1
    have q2 := wnum_lt l2
    have q3 : 2 ^ (64 * l1.length) ≤ 2 ^ (64 * (l1.length + l2.length)) := Nat.pow_le_pow_right (by decide) (by omega)
    have q4 : 2 ^ (64 * l2.length) ≤ 2 ^ (64 * (l1.length + l2.length)) := Nat.pow_le_pow_right (by decide) (by omega)
    rw [pow64_succ]; omega)
  repeat first|refine W.g ?_|refine L.p rfl rfl ?_|refine L.nil ?_|refine L.skip rfl ?_
  refine L.cl (refTold_C b d _ S3 i (by omega)) rfl rfl ?_
  rintro _ S4 ⟨b2, d2, rfl, k4, i4⟩
  refine ⟨fun _ => k4, ?_⟩
  repeat first|refine W.g ?_|refine L.p rfl rfl ?_|refine L.nil ?_|refine L.skip rfl ?_
  exact ⟨.inr rfl, _, rfl, b2, d2, by unfold addL addE; rw [hsm]; rfl, (k1.trans k3).trans k4, by unfold addL; rw [hsm]; exact i4⟩
theorem refMul_C (a1 a2 : Option Addr) (c1 c2 : Nat) (l1 l2 : WL) (S : Mem) (h1 : WIn S a1 c1 l1) (h2 : WIn S a2 c2 l2) (n1 : l1.length < 10000) (n2 : l2.length < 10000) :
    C Tryz.prog gN Ext 19 [.slice a1 l1.length c1, .slice a2 l2.length c2] S fun v S' => RefT S S' v (mulL l1 l2) (mulE l1 l2) := by
  refine C.fn Tryz.func19 rfl (by kernel_rfl) rfl ?_
  repeat first|refine W.g ?_|refine L.p rfl rfl ?_|refine L.nil ?_|refine L.skip rfl ?_
  refine L.cl (fits_C a1 c1 l1 S h1 (by omega)) rfl rfl ?_
  rintro _ S1 ⟨rfl, k1⟩
  refine ⟨fun _ => k1, ?_⟩
  repeat first|refine W.g ?_|refine L.p rfl rfl ?_|refine L.nil ?_|refine L.skip rfl ?_
  cases hs1 : small l1
  · have hsm : (small l1 && small l2) = false := by rw [hs1]; rfl
    repeat first|refine W.g ?_|refine L.p rfl rfl ?_|refine L.nil ?_|refine L.skip rfl ?_
    refine W.ite rfl (fun h => ?_) (fun h => ?_)
    rotate_left
    · cases h
    repeat first|refine W.g ?_|refine L.p rfl rfl ?_|refine L.nil ?_|refine L.skip rfl ?_
    exact ⟨.inr rfl, _, rfl, none, 0, by unfold mulL mulE; rw [hsm]; rfl, k1, by unfold mulL; rw [hsm]; exact WIn.nil _⟩
  repeat first|refine W.g ?_|refine L.p rfl rfl ?_|refine L.nil ?_|refine L.skip rfl ?_
  refine L.cl (fits_C a2 c2 l2 S1 (h2.cons k1) (by omega)) rfl rfl ?_
  rintro _ S2 ⟨rfl, k2⟩
  refine ⟨fun _ => k2, ?_⟩
  replace k1 := k1.trans k2
  clear k2
  repeat first|refine W.g ?_|refine L.p rfl rfl ?_|refine L.nil ?_|refine L.skip rfl ?_
  cases hs2 : small l2
  · have hsm : (small l1 && small l2) = false := by rw [hs1, hs2]; rfl
    repeat first|refine W.g ?_|refine L.p rfl rfl ?_|refine L.nil ?_|refine L.skip rfl ?_
    refine W.ite rfl (fun h => ?_) (fun h => ?_)
    rotate_left
    · cases h
    repeat first|refine W.g ?_|refine L.p rfl rfl ?_|refine L.nil ?_|refine L.skip rfl ?_
    exact ⟨.inr rfl, _, rfl, none, 0, by unfold mulL mulE; rw [hsm]; rfl, k1, by unfold mulL; rw [hsm]; exact WIn.nil _⟩
  repeat first|refine W.g ?_|refine L.p rfl rfl ?_|refine L.nil ?_|refine L.skip rfl ?_
  refine W.ite rfl (fun h => ?_) (fun h => ?_)
  · cases h
  clear h
  have hsm : (small l1 && small l2) = true := by rw [hs1, hs2]; rfl
  replace h1 := h1.cons k1
  replace h2 := h2.cons k1
  repeat first|refine W.g ?_|refine L.p rfl rfl ?_|refine L.nil ?_|refine L.skip rfl ?_
  refine L.cl (timesR_C a1 a2 c1 c2 l1 l2 S2 h1 h2 (by omega) (by omega)) rfl rfl ?_
  rintro _ S3 ⟨k3, b, d, rfl, i⟩
  refine ⟨fun _ => k3, ?_⟩
  have hl : (toW (wnum l1 * wnum l2)).length ≤ l1.length + l2.length := (toW_len _ _).2 (by
    rw [Nat.mul_add, Nat.pow_add]; exact Nat.mul_lt_mul'' (wnum_lt l1) (wnum_lt l2))
  repeat first|refine W.g ?_|refine L.p rfl rfl ?_|refine L.nil ?_|refine L.skip rfl ?_
  refine L.cl (refTold_C b d _ S3 i (by omega)) rfl rfl ?_
  rintro _ S4 ⟨b2, d2, rfl, k4, i4⟩
  refine ⟨fun _ => k4, ?_⟩
  repeat first|refine W.g ?_|refine L.p rfl rfl ?_|refine L.nil ?_|refine L.skip rfl ?_
  exact ⟨.inr rfl, _, rfl, b2, d2, by unfold mulL mulE; rw [hsm]; rfl, (k1.trans k3).trans k4, by unfold mulL; rw [hsm]; exact i4⟩
theorem refSub_C (a1 a2 : Option Addr) (c1 c2 : Nat) (l1 l2 : WL) (S : Mem) (h1 : WIn S a1 c1 l1) (h2 : WIn S a2 c2 l2) (n1 : l1.length < 10000) (n2 : l2.length < 10000) :
    C Tryz.prog gN Ext 18 [.slice a1 l1.length c1, .slice a2 l2.length c2] S fun v S' => RefT S S' v (subL l1 l2) (subE l1 l2) := by
  refine C.fn Tryz.func18 rfl (by kernel_rfl) rfl ?_
  repeat first|refine W.g ?_|refine L.p rfl rfl ?_|refine L.nil ?_|refine L.skip rfl ?_
  refine L.cl (fits_C a1 c1 l1 S h1 (by omega)) rfl rfl ?_
  rintro _ S1 ⟨rfl, k1⟩
  refine ⟨fun _ => k1, ?_⟩
  repeat first|refine W.g ?_|refine L.p rfl rfl ?_|refine L.nil ?_|refine L.skip rfl ?_
  cases hs1 : small l1
  · have hsm : (small l1 && small l2) = false := by rw [hs1]; rfl
    repeat first|refine W.g ?_|refine L.p rfl rfl ?_|refine L.nil ?_|refine L.skip rfl ?_
    refine W.ite rfl (fun h => ?_) (fun h => ?_)
    rotate_left
    · cases h
    repeat first|refine W.g ?_|refine L.p rfl rfl ?_|refine L.nil ?_|refine L.skip rfl ?_
    exact ⟨.inr rfl, _, rfl, none, 0, by unfold subL subE; rw [hsm]; rfl, k1, by unfold subL; rw [hsm]; exact WIn.nil _⟩
  repeat first|refine W.g ?_|refine L.p rfl rfl ?_|refine L.nil ?_|refine L.skip rfl ?_
  refine L.cl (fits_C a2 c2 l2 S1 (h2.cons k1) (by omega)) rfl rfl ?_
  rintro _ S2 ⟨rfl, k2⟩
  refine ⟨fun _ => k2, ?_⟩
  replace k1 := k1.trans k2
  clear k2
  repeat first|refine W.g ?_|refine L.p rfl rfl ?_|refine L.nil ?_|refine L.skip rfl ?_
  cases hs2 : small l2
  · have hsm : (small l1 && small l2) = false := by rw [hs1, hs2]; rfl
    repeat first|refine W.g ?_|refine L.p rfl rfl ?_|refine L.nil ?_|refine L.skip rfl ?_
    refine W.ite rfl (fun h => ?_) (fun h => ?_)
    rotate_left
    · cases h
    repeat first|refine W.g ?_|refine L.p rfl rfl ?_|refine L.nil ?_|refine L.skip rfl ?_
    exact ⟨.inr rfl, _, rfl, none, 0, by unfold subL subE; rw [hsm]; rfl, k1, by unfold subL; rw [hsm]; exact WIn.nil _⟩
  repeat first|refine W.g ?_|refine L.p rfl rfl ?_|refine L.nil ?_|refine L.skip rfl ?_
  refine W.ite rfl (fun h => ?_) (fun h => ?_)
  · cases h
  clear h
  have hsm : (small l1 && small l2) = true := by rw [hs1, hs2]; rfl
  replace h1 := h1.cons k1
  replace h2 := h2.cons k1
  repeat first|refine W.g ?_|refine L.p rfl rfl ?_|refine L.nil ?_|refine L.skip rfl ?_
  refine L.cl (compareR_C a1 a2 c1 c2 l1 l2 S2 h1 h2 (by omega) (by omega)) rfl rfl ?_
  rintro _ S3 ⟨rfl, k3⟩
  refine ⟨fun _ => k3, ?_⟩
  repeat first|refine W.g ?_|refine L.p rfl rfl ?_|refine L.nil ?_|refine L.skip rfl ?_
  refine W.ite rfl (fun h => ?_) (fun h => ?_)
  · have hlt : wnum l1 < wnum l2 := by
      have h0 := of_decide_eq_true h
      unfold cmpI at h0
      split at h0
      · omega
      · split at h0 <;> omega
    clear h
    repeat first|refine W.g ?_|refine L.p rfl rfl ?_|refine L.nil ?_|refine L.skip rfl ?_
    exact ⟨.inr rfl, _, rfl, none, 0, by unfold subL subE; rw [hsm, if_pos rfl, if_pos rfl, if_pos hlt, if_pos hlt]; rfl, k1.trans k3, by unfold subL; rw [hsm, if_pos rfl, if_pos hlt]; exact WIn.nil _⟩
  have hge : ¬ wnum l1 < wnum l2 := by
    intro hlt
    have h0 := of_decide_eq_false h
    unfold cmpI at h0
    rw [if_pos (by omega)] at h0
    omega
  clear h
  repeat first|refine W.g ?_|refine L.p rfl rfl ?_|refine L.nil ?_|refine L.skip rfl ?_
  refine L.cl (minusR_C a1 a2 c1 c2 l1 l2 S3 (h1.cons k3) (h2.cons k3) (by omega) (by omega) (by omega)) rfl rfl ?_
  rintro _ S4 ⟨k4, b, d, rfl, i⟩
  refine ⟨fun _ => k4, ?_⟩
  have hl : (toW (wnum l1 - wnum l2)).length ≤ l1.length := (toW_len _ _).2 (by have := wnum_lt l1; omega)
  repeat first|refine W.g ?_|refine L.p rfl rfl ?_|refine L.nil ?_|refine L.skip rfl ?_
  refine L.cl (refTold_C b d _ S4 i (by omega)) rfl rfl ?_
  rintro _ S5 ⟨b2, d2, rfl, k5, i4⟩
  refine ⟨fun _ => k5, ?_⟩
  repeat first|refine W.g ?_|refine L.p rfl rfl ?_|refine L.nil ?_|refine L.skip rfl ?_
  exact ⟨.inr rfl, _, rfl, b2, d2, by unfold subL subE; rw [hsm, if_pos rfl, if_pos rfl, if_neg hge, if_neg hge]; rfl, ((k1.trans k3).trans k4).trans k5, by unfold subL; rw [hsm, if_pos rfl, if_neg hge]; exact i4⟩
theorem refGcd_C (a1 a2 : Option Addr) (c1 c2 : Nat) (l1 l2 : WL) (S : Mem) (h1 : WIn S a1 c1 l1) (h2 : WIn S a2 c2 l2) (n1 : l1.length < 10000) (n2 : l2.length < 10000) :
    C Tryz.prog gN Ext 21 [.slice a1 l1.length c1, .slice a2 l2.length c2] S fun v S' => RefT S S' v (gcdL l1 l2) (gcdE l1 l2) := by
  refine C.fn Tryz.func21 rfl (by kernel_rfl) rfl ?_
  repeat first|refine W.g ?_|refine L.p rfl rfl ?_|refine L.nil ?_|refine L.skip rfl ?_
  refine L.cl (fits_C a1 c1 l1 S h1 (by omega)) rfl rfl ?_
  rintro _ S1 ⟨rfl, k1⟩
  refine ⟨fun _ => k1, ?_⟩
  repeat first|refine W.g ?_|refine L.p rfl rfl ?_|refine L.nil ?_|refine L.skip rfl ?_
  cases hs1 : small l1
  · have hsm : (small l1 && small l2) = false := by rw [hs1]; rfl
    repeat first|refine W.g ?_|refine L.p rfl rfl ?_|refine L.nil ?_|refine L.skip rfl ?_
    refine W.ite rfl (fun h => ?_) (fun h => ?_)
    rotate_left
    · cases h
    repeat first|refine W.g ?_|refine L.p rfl rfl ?_|refine L.nil ?_|refine L.skip rfl ?_
    exact ⟨.inr rfl, _, rfl, none, 0, by unfold gcdL gcdE; rw [hsm]; rfl, k1, by unfold gcdL; rw [hsm]; exact WIn.nil _⟩
  repeat first|refine W.g ?_|refine L.p rfl rfl ?_|refine L.nil ?_|refine L.skip rfl ?_
  refine L.cl (fits_C a2 c2 l2 S1 (h2.cons k1) (by omega)) rfl rfl ?_
  rintro _ S2 ⟨rfl, k2⟩
  refine ⟨fun _ => k2, ?_⟩
  replace k1 := k1.trans k2
  clear k2
  repeat first|refine W.g ?_|refine L.p rfl rfl ?_|refine L.nil ?_|refine L.skip rfl ?_
  cases hs2 : small l2
  · have hsm : (small l1 && small l2) = false := by rw [hs1, hs2]; rfl
    repeat first|refine W.g ?_|refine L.p rfl rfl ?_|refine L.nil ?_|refine L.skip rfl ?_
    refine W.ite rfl (fun h => ?_) (fun h => ?_)
    rotate_left
    · cases h
    repeat first|refine W.g ?_|refine L.p rfl rfl ?_|refine L.nil ?_|refine L.skip rfl ?_
    exact ⟨.inr rfl, _, rfl, none, 0, by unfold gcdL gcdE; rw [hsm]; rfl, k1, by unfold gcdL; rw [hsm]; exact WIn.nil _⟩
  repeat first|refine W.g ?_|refine L.p rfl rfl ?_|refine L.nil ?_|refine L.skip rfl ?_
  refine W.ite rfl (fun h => ?_) (fun h => ?_)
  · cases h
  clear h
  have hsm : (small l1 && small l2) = true := by rw [hs1, hs2]; rfl
  replace h1 := h1.cons k1
  replace h2 := h2.cons k1
  repeat first|refine W.g ?_|refine L.p rfl rfl ?_|refine L.nil ?_|refine L.skip rfl ?_
  refine L.cl (divisor_C a1 a2 c1 c2 l1 l2 S2 h1 h2 (by omega) (by omega)) rfl rfl ?_
  rintro _ S3 ⟨k3, b, d, rfl, i⟩
  refine ⟨fun _ => k3, ?_⟩
  repeat first|refine W.g ?_|refine L.p rfl rfl ?_|refine L.nil ?_|refine L.skip rfl ?_
  exact ⟨.inr rfl, _, rfl, b, d, by unfold gcdL gcdE; rw [hsm]; rfl, k1.trans k3, by unfold gcdL; rw [hsm]; exact i⟩
theorem refDiv_C (a1 a2 : Option Addr) (c1 c2 : Nat) (l1 l2 : WL) (S : Mem) (h1 : WIn S a1 c1 l1) (h2 : WIn S a2 c2 l2) (n1 : l1.length < 10000) (n2 : l2.length < 10000) :
    C Tryz.prog gN Ext 20 [.slice a1 l1.length c1, .slice a2 l2.length c2] S fun v S' => ∃ (b b' : Option Addr) (d d' : Nat), v = .tuple #[.slice b (divQ l1 l2).length d, .slice b' (divM l1 l2).length d', .int .i64 (divE l1 l2)] ∧ Cons S S' ∧ WIn S' b d (divQ l1 l2) ∧ WIn S' b' d' (divM l1 l2) := by
  refine C.fn Tryz.func20 rfl (by kernel_rfl) rfl ?_
  repeat first|refine W.g ?_|refine L.p rfl rfl ?_|refine L.nil ?_|refine L.skip rfl ?_
  refine L.cl (fits_C a1 c1 l1 S h1 (by omega)) rfl rfl ?_
  rintro _ S1 ⟨rfl, k1⟩
  refine ⟨fun _ => k1, ?_⟩
  repeat first|refine W.g ?_|refine L.p rfl rfl ?_|refine L.nil ?_|refine L.skip rfl ?_
  cases hs1 : small l1
  · have hsm : (small l1 && small l2) = false := by rw [hs1]; rfl
    repeat first|refine W.g ?_|refine L.p rfl rfl ?_|refine L.nil ?_|refine L.skip rfl ?_
    refine W.ite rfl (fun h => ?_) (fun h => ?_)
    rotate_left
    · cases h
    repeat first|refine W.g ?_|refine L.p rfl rfl ?_|refine L.nil ?_|refine L.skip rfl ?_
    exact ⟨.inr rfl, _, rfl, none, none, 0, 0, by unfold divQ divM divE; rw [hsm]; rfl, k1, by unfold divQ; rw [hsm]; exact WIn.nil _, by unfold divM; rw [hsm]; exact WIn.nil _⟩
  repeat first|refine W.g ?_|refine L.p rfl rfl ?_|refine L.nil ?_|refine L.skip rfl ?_
  refine L.cl (fits_C a2 c2 l2 S1 (h2.cons k1) (by omega)) rfl rfl ?_
  rintro _ S2 ⟨rfl, k2⟩
  refine ⟨fun _ => k2, ?_⟩
  replace k1 := k1.trans k2
  clear k2
  repeat first|refine W.g ?_|refine L.p rfl rfl ?_|refine L.nil ?_|refine L.skip rfl ?_
  cases hs2 : small l2
  · have hsm : (small l1 && small l2) = false := by rw [hs1, hs2]; rfl
    repeat first|refine W.g ?_|refine L.p rfl rfl ?_|refine L.nil ?_|refine L.skip rfl ?_
    refine W.ite rfl (fun h => ?_) (fun h => ?_)
    rotate_left
    · cases h
    repeat first|refine W.g ?_|refine L.p rfl rfl ?_|refine L.nil ?_|refine L.skip rfl ?_
    exact ⟨.inr rfl, _, rfl, none, none, 0, 0, by unfold divQ divM divE; rw [hsm]; rfl, k1, by unfold divQ; rw [hsm]; exact WIn.nil _, by unfold divM; rw [hsm]; exact WIn.nil _⟩
  repeat first|refine W.g ?_|refine L.p rfl rfl ?_|refine L.nil ?_|refine L.skip rfl ?_
  refine W.ite rfl (fun h => ?_) (fun h => ?_)
  · cases h
  clear h
  have hsm : (small l1 && small l2) = true := by rw [hs1, hs2]; rfl
  replace h1 := h1.cons k1
  replace h2 := h2.cons k1
  repeat first|refine W.g ?_|refine L.p rfl rfl ?_|refine L.nil ?_|refine L.skip rfl ?_
  refine L.cl (form_C a2 c2 l2 S2 h2 (by omega)) rfl rfl ?_
  rintro _ S3 ⟨k3, b, d, rfl, i⟩
  refine ⟨fun _ => k3, ?_⟩
  repeat first|refine W.g ?_|refine L.p rfl rfl ?_|refine L.nil ?_|refine L.skip rfl ?_
  refine W.ite rfl (fun h => ?_) (fun h => ?_)
  · have h0 : wnum l2 = 0 := (fm_nil l2).1 (by have := eq_of_beq h; omega)
    clear h
    repeat first|refine W.g ?_|refine L.p rfl rfl ?_|refine L.nil ?_|refine L.skip rfl ?_
    exact ⟨.inr rfl, _, rfl, none, none, 0, 0, by unfold divQ divM divE; rw [hsm, if_pos rfl, if_pos rfl, if_pos rfl, if_pos h0, if_pos h0, if_pos h0]; rfl, k1.trans k3, by unfold divQ; rw [hsm, if_pos rfl, if_pos h0]; exact WIn.nil _, by unfold divM; rw [hsm, if_pos rfl, if_pos h0]; exact WIn.nil _⟩
  have h0 : wnum l2 ≠ 0 := fun e => by
    have := (fm_nil l2).2 e
    rw [this] at h
    cases h
  clear h
  repeat first|refine W.g ?_|refine L.p rfl rfl ?_|refine L.nil ?_|refine L.skip rfl ?_
  refine L.cl (over_C a1 a2 c1 c2 l1 l2 S3 (h1.cons k3) (h2.cons k3) (by omega) (by omega) (by omega)) rfl rfl ?_
  rintro _ S4 ⟨b1, b2, d1, d2, rfl, k4, i1, i2⟩
  refine ⟨fun _ => k4, ?_⟩
  repeat first|refine W.g ?_|refine L.p rfl rfl ?_|refine L.nil ?_|refine L.skip rfl ?_
  exact ⟨.inr rfl, _, rfl, b1, b2, d1, d2, by unfold divQ divM divE; rw [hsm, if_pos rfl, if_pos rfl, if_pos rfl, if_neg h0, if_neg h0, if_neg h0]; rfl, (k1.trans k3).trans k4, by unfold divQ; rw [hsm, if_pos rfl, if_neg h0]; exact i1, by unfold divM; rw [hsm, if_pos rfl, if_neg h0]; exact i2⟩
end Go.Proofs.YtbdnkneedengcaaGreatDoor
