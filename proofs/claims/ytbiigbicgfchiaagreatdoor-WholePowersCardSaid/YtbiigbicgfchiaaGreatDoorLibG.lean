/- What several proofs share, part 7: a model of memory, contracts of functions. Conditions: none. -/
import Derived.Test.YtbiigbicgfchiaaGreatDoorLibC
import Derived.Test.YtbiigbicgfchiaaGreatDoorLibD
import Derived.Test.YtbiigbicgfchiaaGreatDoorLibE
import Derived.Test.YtbiigbicgfchiaaGreatDoorLibF
import Derived.WalkKit
import Derived.ProofKit
import Derived.OpenShut
import Derived.ShutString
import Derived.ChangeOld
import Derived.Below
import Derived.ChangeSame
import Derived.Test.YtbiigbicgfchiaaGreatDoorRows
import Derived.LaidMore
import Derived.Stop.Joined
import Derived.MakeChecks

/- The document's digits compared, taken off, multiplied by little ones: walked. Conditions: none. -/
set_option linter.unusedSimpArgs false
set_option linter.unusedVariables false
set_option maxRecDepth 100000
set_option maxHeartbeats 4000000
namespace Go.Proofs.YtbiigbicgfchiaaGreatDoor
open Go
variable {G : Nat} {Ext : FuncId → List Value → Mem → Outc → Mem → Prop}
def HalfR (S S' : Mem) (v : Value) (N : Nat) : Prop := ∃ (l : WL) (a : Option Addr) (c : Nat), Cons S S' ∧ v = .slice a l.length c ∧ WIn S' a c l ∧ (∀ x, a = some x → S.length ≤ x.block) ∧ HalfOk l ∧ hnum l = N
theorem grow_new {N : Nat} {S : Mem} {el : TypeId} {a : Option Addr} {n c : Nat} {l : List Value} (h : Grow N S el 1 (.slice a n c) n l) : ∀ x, a = some x → N ≤ x.block := fun x hx => by
 obtain ⟨_, ⟨hv, _⟩ | ⟨b, hb, hv, _⟩⟩ := h
 ·injection hv with e1; rw [e1] at hx; cases hx
 ·injection hv with e1; rw [e1] at hx; cases hx; exact hb
theorem compare_C (a1 a2 : Option Addr) (c1 c2 : Nat) (f g : WL) (S : Mem) (h1 : WIn S a1 c1 f) (h2 : WIn S a2 c2 g) (k1 : HalfOk f) (k2 : HalfOk g) :
  C Tryz.prog G Ext 110 [.slice a1 f.length c1, .slice a2 g.length c2] S fun v S' => v = .int .i64 (cmpI (hnum f) (hnum g)) ∧ S' = S := by
 have hl1 := h1.2.2.2
 have hl2 := h2.2.2.2
 refine C.fn Tryz.func110 rfl (by kernel_rfl) rfl ?_
 repeat first|apply wg|refine ss rfl ?_|apply nl
 refine W.ite rfl (fun h => ?_) (fun h => ?_)
 ·have hne : f.length ≠ g.length := fun he => by rw [he] at h; simp at h
  clear h
  repeat first|apply wg|refine ss rfl ?_|apply nl
  refine W.ite rfl (fun h => ?_) (fun h => ?_)
  ·have hlt : f.length < g.length := by have := of_decide_eq_true h; omega
   clear h
   repeat first|apply wg|refine ss rfl ?_|apply nl
   refine ⟨.inr rfl, _, rfl, ?_, rfl⟩
   have : hnum f < hnum g := by
    refine Classical.byContradiction fun hc => ?_
    have := half_len k2 k1 (by omega)
    omega
   unfold cmpI
   rw [if_pos (by omega)]; rfl
  ·have hlt : g.length < f.length := by have := of_decide_eq_false h; omega
   clear h
   repeat first|apply wg|refine ss rfl ?_|apply nl
   refine ⟨.inr rfl, _, rfl, ?_, rfl⟩
   have : hnum g < hnum f := by
    refine Classical.byContradiction fun hc => ?_
    have := half_len k1 k2 (by omega)
    omega
   unfold cmpI
   rw [if_neg (by omega), if_pos (by omega)]; rfl
 have heq : f.length = g.length := by
  refine Classical.byContradiction fun hc => ?_
  have : ((f.length : Int) != (g.length : Int)) = true := by rw [bne_iff_ne]; omega
  rw [this] at h; cases h
 clear h
 repeat first|apply wg|refine ss rfl ?_|apply nl
 refine W.loop (fun j e T => ∃ k : Nat, j = k ∧ k ≤ f.length ∧ T = S ∧ e 0 = .slice a1 f.length c1 ∧ e 1 = .slice a2 g.length c2 ∧ e 5 = .int .i64 ((k : Int) - 1) ∧ ∀ p, k ≤ p → f[p]? = g[p]?) f.length
  ⟨f.length, rfl, Nat.le_refl _, rfl, rfl, rfl, ?_, fun p hp => ?_⟩ ?_
 ·exact congrArg (Value.int .i64) (wrap64 (by omega) (by omega))
 ·rw [List.getElem?_eq_none (by omega), List.getElem?_eq_none (by omega)]
 rintro j e T ⟨k, rfl, hk, rfl, e0, e1', e5, hp⟩
 refine W.env3 e0 e1' e5 ?_
 repeat first|apply wg|refine ss rfl ?_|apply nl
 refine W.ite rfl (fun h => ?_) (fun h => ?_)
 ·have hk1 : 1 ≤ j := by have := of_decide_eq_true h; omega
  clear h
  obtain ⟨m, rfl⟩ : ∃ m, j = m + 1 := ⟨j - 1, by omega⟩
  have hm : (((m + 1 : Nat) : Int) - 1) = (m : Int) := by omega
  rw [hm]
  obtain ⟨x, hx⟩ : ∃ x, f[m]? = some x := ⟨_, List.getElem?_eq_getElem (by omega)⟩
  obtain ⟨y, hy⟩ : ∃ y, g[m]? = some y := ⟨_, List.getElem?_eq_getElem (by omega)⟩
  have hd := drop_same (k := m + 1) (fun p h => hp p h)
  repeat first|apply wg|refine ss rfl ?_|apply nl
  refine L.el h1.1 (k := m) rfl (wv_get hx) rfl rfl rfl rfl (fun _ => rfl) rfl (fun p => ?_)
  repeat first|apply wg|refine ss rfl ?_|apply nl
  refine L.el h2.1 (k := m) rfl (wv_get hy) rfl rfl rfl rfl (fun _ => rfl) rfl (fun p => ?_)
  repeat first|apply wg|refine ss rfl ?_|apply nl
  refine W.ite rfl (fun h => ?_) (fun h => ?_)
  ·have hlt : x.toNat < y.toNat := by have := of_decide_eq_true h; omega
   clear h
   have := hcmp_at k1.1 hx hy hd hlt
   repeat first|apply wg|refine ss rfl ?_|apply nl
   refine ⟨.inr rfl, _, rfl, ?_, rfl⟩
   unfold cmpI
   rw [if_pos (by omega)]; rfl
  have hge : y.toNat ≤ x.toNat := by have := of_decide_eq_false h; omega
  clear h
  repeat first|apply wg|refine ss rfl ?_|apply nl
  refine L.el h1.1 (k := m) rfl (wv_get hx) rfl rfl rfl rfl (fun _ => rfl) rfl (fun p => ?_)
  repeat first|apply wg|refine ss rfl ?_|apply nl
  refine L.el h2.1 (k := m) rfl (wv_get hy) rfl rfl rfl rfl (fun _ => rfl) rfl (fun p => ?_)
  repeat first|apply wg|refine ss rfl ?_|apply nl
  refine W.ite rfl (fun h => ?_) (fun h => ?_)
  ·have hlt : y.toNat < x.toNat := by have := of_decide_eq_true h; omega
   clear h
   have := hcmp_at k2.1 hy hx hd.symm hlt
   repeat first|apply wg|refine ss rfl ?_|apply nl
   refine ⟨.inr rfl, _, rfl, ?_, rfl⟩
   unfold cmpI
   rw [if_neg (by omega), if_pos (by omega)]; rfl
  ·have hxy : x = y := by
    have := of_decide_eq_false h
    exact BitVec.eq_of_toNat_eq (by omega)
   clear h
   repeat first|apply wg|refine ss rfl ?_|apply nl
   refine ⟨m, by omega, m, rfl, by omega, rfl, rfl, rfl, congrArg (Value.int .i64) (wrap64 (by omega) (by omega)), fun p h => ?_⟩
   rcases Nat.eq_or_lt_of_le h with h | h
   ·rw [← h, hx, hy, hxy]
   ·exact hp p h
 ·have hk0 : j = 0 := by have := of_decide_eq_false h; omega
  subst hk0
  clear h
  have hfg : f = g := List.ext_getElem? fun p => hp p (Nat.zero_le _)
  repeat first|apply wg|refine ss rfl ?_|apply nl
  refine ⟨.inr rfl, _, rfl, ?_, rfl⟩
  rw [hfg]
  unfold cmpI
  rw [if_neg (by omega), if_neg (by omega)]; rfl
theorem word32 (s : Nat) : ∃ r : BitVec 64, r.toNat = s % 4294967296 := word_of (by omega)
theorem minus_C (a1 a2 : Option Addr) (c1 c2 : Nat) (f g : WL) (S : Mem) (h1 : WIn S a1 c1 f) (h2 : WIn S a2 c2 g) (k1 : HalfOk f) (k2 : HalfOk g) (hge : hnum g ≤ hnum f) (hlen : f.length < 1000000) :
  C Tryz.prog G Ext 112 [.slice a1 f.length c1, .slice a2 g.length c2] S fun v S' => HalfR S S' v (hnum f - hnum g) := by
 have hll := half_len k2 k1 hge
 refine C.fn Tryz.func112 rfl (by kernel_rfl) rfl ?_
 repeat first|apply wg|refine ss rfl ?_|apply nl
 refine W.loop (fun j e T => ∃ (i : Nat) (o : WL) (a3 : Option Addr) (c3 l : Nat), j = f.length - i ∧ i ≤ f.length ∧ Cons S T ∧ e 0 = .slice a1 f.length c1 ∧ e 1 = .slice a2 g.length c2 ∧ e 5 = .slice a3 i c3 ∧ e 6 = .int .u64 (l : Int) ∧ e 7 = vi i ∧ Grow S.length T 57 1 (.slice a3 i c3) i (wv o) ∧ o.length = i ∧ Small32 o ∧ l ≤ 1 ∧ hnum o + hnum (g.take i) = hnum (f.take i) + l * 2 ^ (32 * i)) f.length
  ⟨0, [], none, 0, 0, by omega, by omega, Cons.refl _, rfl, rfl, rfl, rfl, rfl, Grow.nil _ _ _ _, rfl, (fun x hx => by simp at hx), by decide, by simp [hnum]⟩ ?_
 rintro j e T ⟨i, o, a3, c3, l, rfl, hi, hc, e0, e1, e5, e6, e7, hg, hol, hso, hl, hsum⟩
 refine W.env5 e0 e1 e5 e6 e7 ?_
 repeat first|apply wg|refine ss rfl ?_|apply nl
 refine W.ite rfl (fun h => ?_) (fun h => ?_)
 ·have hin : i < f.length := by have := of_decide_eq_true h; omega
  clear h
  obtain ⟨x, hx⟩ : ∃ x, f[i]? = some x := ⟨_, List.getElem?_eq_getElem hin⟩
  have hxl := small32_get k1.1 hx
  have hw1 : IntKind.u64.wrap (IntKind.u64.wrap ((x.toNat : Int) + 4294967296) - (l : Int)) = ((x.toNat + 4294967296 - l : Nat) : Int) := by
   rw [show IntKind.u64.wrap ((x.toNat : Int) + 4294967296) = ((x.toNat + 4294967296 : Nat) : Int) from wrapU64 (by omega) (by omega), wrapU64 (by omega) (by omega)]; omega
  repeat first|apply wg|refine ss rfl ?_|apply nl
  refine L.el (h1.cons hc).1 (k := i) rfl (wv_get hx) rfl rfl rfl rfl (fun _ => rfl) rfl (fun p => ?_)
  repeat first|apply wg|refine ss rfl ?_|apply nl
  rw [hw1]
  refine W.ite rfl (fun h => ?_) (fun h => ?_)
  ·have hi2 : i < g.length := by have := of_decide_eq_true h; omega
   clear h
   obtain ⟨y, hy⟩ : ∃ y, g[i]? = some y := ⟨_, List.getElem?_eq_getElem hi2⟩
   have hyl := small32_get k2.1 hy
   have hty := hnum_take_succ hy
   have hw2 : IntKind.u64.wrap (((x.toNat + 4294967296 - l : Nat) : Int) - (y.toNat : Int)) = ((x.toNat + 4294967296 - l - y.toNat : Nat) : Int) := by
    rw [wrapU64 (by omega) (by omega)]; omega
   repeat first|apply wg|refine ss rfl ?_|apply nl
   refine L.el (h2.cons hc).1 (k := i) rfl (wv_get hy) rfl rfl rfl rfl (fun _ => rfl) rfl (fun p => ?_)
   repeat first|apply wg|refine ss rfl ?_|apply nl
   rw [hw2]
   obtain ⟨s, hs⟩ : ∃ s, s = x.toNat + 4294967296 - l - y.toNat := ⟨_, rfl⟩
   obtain ⟨hst, hs1⟩ := sub_step32 (P := 2 ^ (32 * i)) hsum hl hxl hyl hs
   obtain ⟨r, hr⟩ := word32 s
   rw [← hr] at hst
   rw [← hs]
   have hw3 : IntKind.u64.wrap (1 - Int.fdiv (s : Int) (2 ^ min (Int.toNat 32) IntKind.u64.bits)) = ((1 - s / 4294967296 : Nat) : Int) := by
    rw [shrHi, wrapU64 (by omega) (by omega)]; omega
   repeat first|apply wg|refine ss rfl ?_|apply nl
   rw [andLo (by omega), ← hr]
   refine L.push1 (w := v64 r) rfl hc.len (.inl hg) rfl rfl rfl rfl rfl (by omega) rfl (fun _ => rfl) (fun p a4 c4 S2 h2 h3 h4 => ?_)
   repeat first|apply wg|refine ss rfl ?_|apply nl
   refine ⟨f.length - (i + 1), by omega, i + 1, o ++ [r], a4, c4, 1 - s / 4294967296, rfl, by omega, hc.trans' h4, rfl, rfl, rfl, (force_eq rfl).trans (congrArg (Value.int .u64) hw3), congrArg (Value.int .i64) (wrap64 (by omega) (by omega)), by rw [wv, List.map_append]; exact h2, by simp [hol], small32_snoc hso (by omega), by omega, ?_⟩
   rw [hnum_snoc, hol, pow32_succ, hnum_take_succ hx, hty]
   exact hst
  ·have hi2 : g.length ≤ i := by have := of_decide_eq_false h; omega
   clear h
   have hyl : 0 < 4294967296 := by decide
   have hty : hnum (g.take (i + 1)) = hnum (g.take i) + 2 ^ (32 * i) * 0 := by rw [htake_more hi2]; omega
   rw [show x.toNat + 4294967296 - l = x.toNat + 4294967296 - l - 0 from rfl]
   obtain ⟨s, hs⟩ : ∃ s, s = x.toNat + 4294967296 - l - 0 := ⟨_, rfl⟩
   obtain ⟨hst, hs1⟩ := sub_step32 (P := 2 ^ (32 * i)) hsum hl hxl hyl hs
   obtain ⟨r, hr⟩ := word32 s
   rw [← hr] at hst
   rw [← hs]
   have hw3 : IntKind.u64.wrap (1 - Int.fdiv (s : Int) (2 ^ min (Int.toNat 32) IntKind.u64.bits)) = ((1 - s / 4294967296 : Nat) : Int) := by
    rw [shrHi, wrapU64 (by omega) (by omega)]; omega
   repeat first|apply wg|refine ss rfl ?_|apply nl
   rw [andLo (by omega), ← hr]
   refine L.push1 (w := v64 r) rfl hc.len (.inl hg) rfl rfl rfl rfl rfl (by omega) rfl (fun _ => rfl) (fun p a4 c4 S2 h2 h3 h4 => ?_)
   repeat first|apply wg|refine ss rfl ?_|apply nl
   refine ⟨f.length - (i + 1), by omega, i + 1, o ++ [r], a4, c4, 1 - s / 4294967296, rfl, by omega, hc.trans' h4, rfl, rfl, rfl, (force_eq rfl).trans (congrArg (Value.int .u64) hw3), congrArg (Value.int .i64) (wrap64 (by omega) (by omega)), by rw [wv, List.map_append]; exact h2, by simp [hol], small32_snoc hso (by omega), by omega, ?_⟩
   rw [hnum_snoc, hol, pow32_succ, hnum_take_succ hx, hty]
   exact hst
 ·have hin : i = f.length := by have := of_decide_eq_false h; omega
  subst hin
  clear h
  rw [List.take_length, List.take_of_length_le hll] at hsum
  have hlt := hnum_lt hso
  rw [hol] at hlt
  have hl0 : l = 0 := by
   rcases Nat.lt_or_ge 0 l with h | h
   ·have : l = 1 := by omega
    subst this
    rw [Nat.one_mul] at hsum
    omega
   ·omega
  subst hl0
  rw [Nat.zero_mul, Nat.add_zero] at hsum
  have hW : WIn T a3 c3 o := grow_win (by rw [hol]; exact hg) (by omega)
  repeat first|apply wg|refine ss rfl ?_|apply nl
  refine L.cl (strip_C a3 c3 o T hW) rfl (by rw [hol]; rfl) ?_
  rintro _ _ ⟨rfl, rfl⟩
  refine ⟨nofun, ?_⟩
  repeat first|apply wg|refine ss rfl ?_|apply nl
  exact ⟨.inr rfl, _, rfl, fm o, a3, c3, hc, rfl, hW.form, grow_new hg, HalfOk.form hso, by rw [hnum_form]; omega⟩
theorem little_C (a : Option Addr) (c n : Nat) (f : WL) (S : Mem) (h1 : WIn S a c f) (k1 : Small32 f) (hn : n < 4294967296) (hlen : f.length < 1000000) :
  C Tryz.prog G Ext 113 [.slice a f.length c, .int .u64 (n : Int)] S fun v S' => HalfR S S' v (hnum f * n) := by
 refine C.fn Tryz.func113 rfl (by kernel_rfl) rfl ?_
 repeat first|apply wg|refine ss rfl ?_|apply nl
 refine W.loop (fun j e T => ∃ (i : Nat) (o : WL) (a3 : Option Addr) (c3 cr : Nat), j = f.length - i ∧ i ≤ f.length ∧ Cons S T ∧ e 0 = .slice a f.length c ∧ e 1 = .int .u64 (n : Int) ∧ e 5 = .slice a3 i c3 ∧ e 6 = .int .u64 (cr : Int) ∧ e 7 = vi i ∧ Grow S.length T 57 1 (.slice a3 i c3) i (wv o) ∧ o.length = i ∧ Small32 o ∧ cr < 4294967296 ∧ hnum o + cr * 2 ^ (32 * i) = hnum (f.take i) * n) f.length
  ⟨0, [], none, 0, 0, by omega, by omega, Cons.refl _, rfl, rfl, rfl, rfl, rfl, Grow.nil _ _ _ _, rfl, (fun x hx => by simp at hx), by decide, by simp [hnum]⟩ ?_
 rintro j e T ⟨i, o, a3, c3, cr, rfl, hi, hc, e0, e1, e5, e6, e7, hg, hol, hso, hcr, hsum⟩
 refine W.env5 e0 e1 e5 e6 e7 ?_
 repeat first|apply wg|refine ss rfl ?_|apply nl
 refine W.ite rfl (fun h => ?_) (fun h => ?_)
 ·have hin : i < f.length := by have := of_decide_eq_true h; omega
  clear h
  obtain ⟨x, hx⟩ : ∃ x, f[i]? = some x := ⟨_, List.getElem?_eq_getElem hin⟩
  have hxl := small32_get k1 hx
  have hxn : x.toNat * n ≤ 4294967295 * 4294967295 := Nat.mul_le_mul (by omega) (by omega)
  obtain ⟨s, hs⟩ : ∃ s, s = x.toNat * n + cr := ⟨_, rfl⟩
  have hw1 : IntKind.u64.wrap (IntKind.u64.wrap ((x.toNat : Int) * (n : Int)) + (cr : Int)) = (s : Int) := by
   rw [umul (by omega), uadd (by omega), hs]
  have hsl : s < 18446744073709551616 := by omega
  obtain ⟨r, hr⟩ := word32 s
  have hst := mul_step32 (P := 2 ^ (32 * i)) hsum hs
  rw [← hr] at hst
  repeat first|apply wg|refine ss rfl ?_|apply nl
  refine L.el (h1.cons hc).1 (k := i) rfl (wv_get hx) rfl rfl rfl rfl (fun _ => rfl) rfl (fun p => ?_)
  repeat first|apply wg|refine ss rfl ?_|apply nl
  rw [hw1, andLo hsl, ← hr]
  refine L.push1 (w := v64 r) rfl hc.len (.inl hg) rfl rfl rfl rfl rfl (by omega) rfl (fun _ => rfl) (fun p a4 c4 S2 h2 h3 h4 => ?_)
  repeat first|apply wg|refine ss rfl ?_|apply nl
  refine ⟨f.length - (i + 1), by omega, i + 1, o ++ [r], a4, c4, s / 4294967296, rfl, by omega, hc.trans' h4, rfl, rfl, rfl, (force_eq rfl).trans (congrArg (Value.int .u64) (shrHi s)), congrArg (Value.int .i64) (wrap64 (by omega) (by omega)), by rw [wv, List.map_append]; exact h2, by simp [hol], small32_snoc hso (by omega), by omega, ?_⟩
  rw [hnum_snoc, hol, pow32_succ, hnum_take_succ hx]
  exact hst
 ·have hin : i = f.length := by have := of_decide_eq_false h; omega
  subst hin
  clear h
  rw [List.take_length] at hsum
  obtain ⟨r, hr⟩ := word_of (n := cr) (by omega)
  rw [← hr]
  repeat first|apply wg|refine ss rfl ?_|apply nl
  refine L.push1 (w := v64 r) rfl hc.len (.inl hg) rfl rfl rfl rfl rfl (by omega) rfl (fun _ => rfl) (fun p a4 c4 S2 h2 h3 h4 => ?_)
  have hW : WIn S2 a4 c4 (o ++ [r]) := grow_win (by rw [List.length_append, hol, wv, List.map_append]; exact h2) (by simp; omega)
  have hlo : (o ++ [r]).length = f.length + 1 := by simp [hol]
  repeat first|apply wg|refine ss rfl ?_|apply nl
  refine L.cl (strip_C a4 c4 (o ++ [r]) S2 hW) rfl (by rw [hlo]; rfl) ?_
  rintro _ _ ⟨rfl, rfl⟩
  refine ⟨nofun, ?_⟩
  repeat first|apply wg|refine ss rfl ?_|apply nl
  refine ⟨.inr rfl, _, rfl, fm (o ++ [r]), a4, c4, hc.trans' h4, rfl, hW.form, grow_new h2, HalfOk.form (small32_snoc hso (by omega)), ?_⟩
  rw [hnum_form, hnum_snoc, hol, hr, Nat.mul_comm (2 ^ (32 * f.length))]
  exact hsum
end Go.Proofs.YtbiigbicgfchiaaGreatDoor

/- The document's sums, differences, products: walked. Conditions: none. -/
namespace Go.Proofs.YtbiigbicgfchiaaGreatDoor
open Go
variable {G : Nat} {Ext : FuncId → List Value → Mem → Outc → Mem → Prop}
theorem limbs_num {h : WL} (hs : Small32 h) : fm (un h) = toW (hnum h) := by unfold fm; rw [wnum_un _ hs]
theorem hl_ok (l : WL) : HalfOk (fm (hl l)) := HalfOk.form (small_hl l)
theorem hl_num (l : WL) : hnum (fm (hl l)) = wnum l := by rw [hnum_form, hnum_hl]
theorem hlf_len (l : WL) : (fm (hl l)).length ≤ 2 * l.length := by
 have := toW_len_le (hl l)
 rw [hl_len] at this
 exact this
theorem limbsN_C (a : Option Addr) (c : Nat) (h : WL) (S : Mem) (hI : WIn S a c h) (hs : Small32 h) (hlen : h.length < 1000000) : C Tryz.prog G Ext 108 [.slice a h.length c] S fun v S' => RefW S S' v (toW (hnum h)) := by
 rw [← limbs_num hs]
 exact limbs_C a c h S hI hlen
theorem halvesN_C (a : Option Addr) (c : Nat) (l : WL) (S : Mem) (hI : WIn S a c l) (hlen : l.length < 1000000) : C Tryz.prog G Ext 90 [.slice a l.length c] S fun v S' => ∃ h, RefW S S' v h ∧ HalfOk h ∧ hnum h = wnum l ∧ h.length ≤ 2 * l.length :=
 (halves_C a c l S hI hlen).mono fun v S' h => ⟨_, h, hl_ok l, hl_num l, hlf_len l⟩
theorem minusR_C (a1 a2 : Option Addr) (c1 c2 : Nat) (l1 l2 : WL) (S : Mem) (h1 : WIn S a1 c1 l1) (h2 : WIn S a2 c2 l2) (n1 : l1.length < 400000) (n2 : l2.length < 400000) (hge : wnum l2 ≤ wnum l1) :
  C Tryz.prog G Ext 107 [.slice a1 l1.length c1, .slice a2 l2.length c2] S fun v S' => RefW S S' v (toW (wnum l1 - wnum l2)) := by
 refine C.fn Tryz.func107 rfl (by kernel_rfl) rfl ?_
 repeat first|apply wg|refine ss rfl ?_|apply nl
 refine L.cl (halvesN_C a1 c1 l1 S h1 (by omega)) rfl rfl ?_
 rintro _ S1 ⟨f, ⟨k1, b1, d1, rfl, i1⟩, o1, e1, q1⟩
 refine ⟨fun _ => k1, ?_⟩
 repeat first|apply wg|refine ss rfl ?_|apply nl
 refine L.cl (halvesN_C a2 c2 l2 S1 (h2.cons k1) (by omega)) rfl rfl ?_
 rintro _ S2 ⟨g, ⟨k2, b2, d2, rfl, i2⟩, o2, e2, q2⟩
 refine ⟨fun _ => k2, ?_⟩
 repeat first|apply wg|refine ss rfl ?_|apply nl
 refine L.cl (minus_C b1 b2 d1 d2 f g S2 (i1.cons k2) i2 o1 o2 (by omega) (by omega)) rfl rfl ?_
 rintro _ S3 ⟨h, b3, d3, k3, rfl, i3, _, o3, e3⟩
 refine ⟨fun _ => k3, ?_⟩
 have hh : h.length ≤ f.length := half_len o3 o1 (by omega)
 repeat first|apply wg|refine ss rfl ?_|apply nl
 refine L.cl (limbsN_C b3 d3 h S3 i3 o3.1 (by omega)) rfl rfl ?_
 rintro _ S4 ⟨k4, b4, d4, rfl, i4⟩
 refine ⟨fun _ => k4, ?_⟩
 repeat first|apply wg|refine ss rfl ?_|apply nl
 rw [e3, e1, e2] at i4 ⊢
 exact ⟨.inr rfl, _, rfl, ((k1.trans k2).trans k3).trans k4, b4, d4, rfl, i4⟩
theorem compareR_C (a1 a2 : Option Addr) (c1 c2 : Nat) (l1 l2 : WL) (S : Mem) (h1 : WIn S a1 c1 l1) (h2 : WIn S a2 c2 l2) (n1 : l1.length < 400000) (n2 : l2.length < 400000) :
  C Tryz.prog G Ext 106 [.slice a1 l1.length c1, .slice a2 l2.length c2] S fun v S' => v = .int .i64 (cmpI (wnum l1) (wnum l2)) ∧ Cons S S' := by
 refine C.fn Tryz.func106 rfl (by kernel_rfl) rfl ?_
 repeat first|apply wg|refine ss rfl ?_|apply nl
 refine L.cl (halvesN_C a1 c1 l1 S h1 (by omega)) rfl rfl ?_
 rintro _ S1 ⟨f, ⟨k1, b1, d1, rfl, i1⟩, o1, e1, q1⟩
 refine ⟨fun _ => k1, ?_⟩
 repeat first|apply wg|refine ss rfl ?_|apply nl
 refine L.cl (halvesN_C a2 c2 l2 S1 (h2.cons k1) (by omega)) rfl rfl ?_
 rintro _ S2 ⟨g, ⟨k2, b2, d2, rfl, i2⟩, o2, e2, q2⟩
 refine ⟨fun _ => k2, ?_⟩
 repeat first|apply wg|refine ss rfl ?_|apply nl
 refine L.cl (compare_C b1 b2 d1 d2 f g S2 (i1.cons k2) i2 o1 o2) rfl rfl ?_
 rintro _ _ ⟨rfl, rfl⟩
 refine ⟨fun _ => Cons.refl _, ?_⟩
 rw [e1, e2]
 repeat first|apply wg|refine ss rfl ?_|apply nl
 exact ⟨.inr rfl, _, rfl, rfl, k1.trans k2⟩
theorem plusR_C (a1 a2 : Option Addr) (c1 c2 : Nat) (l1 l2 : WL) (S : Mem) (h1 : WIn S a1 c1 l1) (h2 : WIn S a2 c2 l2) (n1 : l1.length < 400000) (n2 : l2.length < 400000) :
  C Tryz.prog G Ext 105 [.slice a1 l1.length c1, .slice a2 l2.length c2] S fun v S' => RefW S S' v (toW (wnum l1 + wnum l2)) := by
 refine C.fn Tryz.func105 rfl (by kernel_rfl) rfl ?_
 repeat first|apply wg|refine ss rfl ?_|apply nl
 refine L.cl (halvesN_C a1 c1 l1 S h1 (by omega)) rfl rfl ?_
 rintro _ S1 ⟨f, ⟨k1, b1, d1, rfl, i1⟩, o1, e1, q1⟩
 refine ⟨fun _ => k1, ?_⟩
 repeat first|apply wg|refine ss rfl ?_|apply nl
 refine L.cl (halvesN_C a2 c2 l2 S1 (h2.cons k1) (by omega)) rfl rfl ?_
 rintro _ S2 ⟨g, ⟨k2, b2, d2, rfl, i2⟩, o2, e2, q2⟩
 refine ⟨fun _ => k2, ?_⟩
 replace i1 := i1.cons k2
 repeat first|apply wg|refine ss rfl ?_|apply nl
 refine W.loop (fun j e T => ∃ (i : Nat) (o : WL) (a3 : Option Addr) (c3 cr : Nat), j = 2 * (max f.length g.length - i) + cr ∧ i ≤ max f.length g.length + 1 ∧ Cons S2 T ∧ e 5 = .slice b1 f.length d1 ∧ e 6 = .slice b2 g.length d2 ∧ e 7 = .slice a3 i c3 ∧ e 8 = .int .u64 (cr : Int) ∧ e 9 = vi i ∧ Grow S2.length T 57 1 (.slice a3 i c3) i (wv o) ∧ o.length = i ∧ Small32 o ∧ cr ≤ 1 ∧ (i = max f.length g.length + 1 → cr = 0) ∧ hnum o + cr * 2 ^ (32 * i) = hnum (f.take i) + hnum (g.take i)) (2 * max f.length g.length)
  ⟨0, [], none, 0, 0, by omega, by omega, Cons.refl _, rfl, rfl, rfl, rfl, rfl, Grow.nil _ _ _ _, rfl, (fun x hx => by simp at hx), by decide, fun _ => rfl, by simp [hnum]⟩ ?_
 rintro j e T ⟨i, o, a3, c3, cr, rfl, hi, hc, e5, e6, e7, e8, e9, hg, hol, hso, hcr, hcl, hsum⟩
 refine W.env5 e5 e6 e7 e8 e9 ?_
 refine W.seq ?_
 refine W.seq ?_
 refine W.mono (R := fun x e' T' => x = .nrm ∧ T' = T ∧ e' 5 = .slice b1 f.length d1 ∧ e' 6 = .slice b2 g.length d2 ∧ e' 7 = .slice a3 i c3 ∧ e' 8 = .int .u64 (cr : Int) ∧ e' 9 = vi i ∧ e' 28 = .bool (decide (i < f.length ∨ i < g.length ∨ 0 < cr))) ?_ ?_
 ·repeat first|apply wg|refine ss rfl ?_|apply nl
  cases hb : decide ((i : Int) < (f.length : Int))
  ·have q1 : ¬ i < f.length := by have := of_decide_eq_false hb; omega
   repeat first|apply wg|refine ss rfl ?_|apply nl
   cases hb2 : decide ((i : Int) < (g.length : Int))
   ·have q2 : ¬ i < g.length := by have := of_decide_eq_false hb2; omega
    repeat first|apply wg|refine ss rfl ?_|apply nl
    exact ⟨rfl, rfl, rfl, rfl, rfl, rfl, rfl, congrArg Value.bool (decide_eq_decide.2 (by omega))⟩
   ·have q2 : i < g.length := by have := of_decide_eq_true hb2; omega
    repeat first|apply wg|refine ss rfl ?_|apply nl
    exact ⟨rfl, rfl, rfl, rfl, rfl, rfl, rfl, congrArg Value.bool (decide_eq_true (.inr (.inl q2))).symm⟩
  ·have q1 : i < f.length := by have := of_decide_eq_true hb; omega
   repeat first|apply wg|refine ss rfl ?_|apply nl
   exact ⟨rfl, rfl, rfl, rfl, rfl, rfl, rfl, congrArg Value.bool (decide_eq_true (.inl q1)).symm⟩
 clear e5 e6 e7 e8 e9
 rintro _ e T' ⟨rfl, hT, e5, e6, e7, e8, e9, e28⟩
 subst hT
 refine W.env6 e5 e6 e7 e8 e9 e28 ?_
 repeat first|apply wg|refine ss rfl ?_|apply nl
 refine W.ite rfl (fun h => ?_) (fun h => ?_)
 ·have hor := of_decide_eq_true h
  clear h
  repeat first|apply wg|refine ss rfl ?_|apply nl
  refine W.mono (R := fun x e' T'' => x = .nrm ∧ T'' = T' ∧ ∃ y : Nat, e' 5 = .slice b1 f.length d1 ∧ e' 6 = .slice b2 g.length d2 ∧ e' 7 = .slice a3 i c3 ∧ e' 9 = vi i ∧ e' 10 = .int .u64 ((cr + y : Nat) : Int) ∧ y < 4294967296 ∧ (f.length ≤ i → y = 0) ∧ hnum (f.take (i + 1)) = hnum (f.take i) + 2 ^ (32 * i) * y) ?_ ?_
  ·refine W.ite rfl (fun h => ?_) (fun h => ?_)
   ·have hin : i < f.length := by have := of_decide_eq_true h; omega
    clear h
    obtain ⟨x, hx⟩ : ∃ x, f[i]? = some x := ⟨_, List.getElem?_eq_getElem hin⟩
    have hxl := small32_get o1.1 hx
    repeat first|apply wg|refine ss rfl ?_|apply nl
    refine L.el (i1.cons hc).1 (k := i) rfl (wv_get hx) rfl rfl rfl rfl (fun _ => rfl) rfl (fun p => ?_)
    repeat first|apply wg|refine ss rfl ?_|apply nl
    exact ⟨rfl, rfl, x.toNat, rfl, rfl, rfl, rfl, (force_eq rfl).trans (congrArg (Value.int .u64) (uadd (by omega))), hxl, fun _ => by omega, hnum_take_succ hx⟩
   ·have hin : f.length ≤ i := by have := of_decide_eq_false h; omega
    clear h
    repeat first|apply wg|refine ss rfl ?_|apply nl
    exact ⟨rfl, rfl, 0, rfl, rfl, rfl, rfl, rfl, by decide, fun _ => rfl, by rw [htake_more hin]; omega⟩
  clear e5 e6 e7 e9
  rintro _ e T'' ⟨rfl, hT, y, e5, e6, e7, e9, e10, hyl, hyz, hty⟩
  subst hT
  rename Mem => T'
  refine W.env5 e5 e6 e7 e9 e10 ?_
  repeat first|apply wg|refine ss rfl ?_|apply nl
  refine W.mono (R := fun x e' T'' => x = .nrm ∧ T'' = T' ∧ ∃ z : Nat, e' 5 = .slice b1 f.length d1 ∧ e' 6 = .slice b2 g.length d2 ∧ e' 7 = .slice a3 i c3 ∧ e' 9 = vi i ∧ e' 10 = .int .u64 (((cr + y) + z : Nat) : Int) ∧ z < 4294967296 ∧ (g.length ≤ i → z = 0) ∧ hnum (g.take (i + 1)) = hnum (g.take i) + 2 ^ (32 * i) * z) ?_ ?_
  ·refine W.ite rfl (fun h => ?_) (fun h => ?_)
   ·have hin : i < g.length := by have := of_decide_eq_true h; omega
    clear h
    obtain ⟨x, hx⟩ : ∃ x, g[i]? = some x := ⟨_, List.getElem?_eq_getElem hin⟩
    have hxl := small32_get o2.1 hx
    repeat first|apply wg|refine ss rfl ?_|apply nl
    refine L.el (i2.cons hc).1 (k := i) rfl (wv_get hx) rfl rfl rfl rfl (fun _ => rfl) rfl (fun p => ?_)
    repeat first|apply wg|refine ss rfl ?_|apply nl
    exact ⟨rfl, rfl, x.toNat, rfl, rfl, rfl, rfl, (force_eq rfl).trans (congrArg (Value.int .u64) (uadd (by omega))), hxl, fun _ => by omega, hnum_take_succ hx⟩
   ·have hin : g.length ≤ i := by have := of_decide_eq_false h; omega
    clear h
    repeat first|apply wg|refine ss rfl ?_|apply nl
    exact ⟨rfl, rfl, 0, rfl, rfl, rfl, rfl, rfl, by decide, fun _ => rfl, by rw [htake_more hin]; omega⟩
  clear e5 e6 e7 e9
  rintro _ e T'' ⟨rfl, hT, z, e5, e6, e7, e9, e10, hzl, hzz, htz⟩
  subst hT
  rename Mem => T'
  refine W.env5 e5 e6 e7 e9 e10 ?_
  obtain ⟨s, hs⟩ : ∃ s, s = cr + y + z := ⟨_, rfl⟩
  rw [← hs]
  have hst := add_step32 (P := 2 ^ (32 * i)) hsum hs
  rw [← hty, ← htz] at hst
  obtain ⟨r, hr⟩ := word32 s
  rw [← hr] at hst
  repeat first|apply wg|refine ss rfl ?_|apply nl
  rw [andLo (by omega), ← hr]
  refine L.push1 (w := v64 r) rfl hc.len (.inl hg) rfl rfl rfl rfl rfl (by omega) rfl (fun _ => rfl) (fun p a4 c4 S2 h2 h3 h4 => ?_)
  repeat first|apply wg|refine ss rfl ?_|apply nl
  refine ⟨2 * (max f.length g.length - (i + 1)) + s / 4294967296, by omega, i + 1, o ++ [r], a4, c4, s / 4294967296, rfl, by omega, hc.trans' h4, rfl, rfl, rfl, (force_eq rfl).trans (congrArg (Value.int .u64) (shrHi s)), congrArg (Value.int .i64) (wrap64 (by omega) (by omega)), by rw [wv, List.map_append]; exact h2, by simp [hol], small32_snoc hso (by omega), by omega, fun _ => by omega, ?_⟩
  rw [hnum_snoc, hol, pow32_succ]
  exact hst
 ·have hor := of_decide_eq_false h
  clear h
  have hcr0 : cr = 0 := by omega
  subst hcr0
  rw [Nat.zero_mul, Nat.add_zero, List.take_of_length_le (show f.length ≤ i by omega), List.take_of_length_le (show g.length ≤ i by omega)] at hsum
  have hW : WIn T' a3 c3 o := grow_win (by rw [hol]; exact hg) (by omega)
  repeat first|apply wg|refine ss rfl ?_|apply nl
  refine L.cl (limbsN_C a3 c3 o T' hW hso (by omega)) rfl (by rw [hol]; rfl) ?_
  rintro _ S4 ⟨k4, b4, d4, rfl, i4⟩
  refine ⟨fun _ => k4, ?_⟩
  rw [hsum, e1, e2] at i4 ⊢
  repeat first|apply wg|refine ss rfl ?_|apply nl
  exact ⟨.inr rfl, _, rfl, (((k1.trans k2).trans hc).trans k4), b4, d4, rfl, i4⟩
theorem timesR_C (a1 a2 : Option Addr) (c1 c2 : Nat) (l1 l2 : WL) (S : Mem) (h1 : WIn S a1 c1 l1) (h2 : WIn S a2 c2 l2) (n1 : l1.length < 100000) (n2 : l2.length < 100000) :
  C Tryz.prog G Ext 91 [.slice a1 l1.length c1, .slice a2 l2.length c2] S fun v S' => RefW S S' v (toW (wnum l1 * wnum l2)) := by
 refine C.fn Tryz.func91 rfl (by kernel_rfl) rfl ?_
 repeat first|apply wg|refine ss rfl ?_|apply nl
 refine L.cl (halvesN_C a1 c1 l1 S h1 (by omega)) rfl rfl ?_
 rintro _ S1 ⟨f, ⟨k1, b1, d1, rfl, i1⟩, o1, e1, q1⟩
 refine ⟨fun _ => k1, ?_⟩
 repeat first|apply wg|refine ss rfl ?_|apply nl
 refine L.cl (halvesN_C a2 c2 l2 S1 (h2.cons k1) (by omega)) rfl rfl ?_
 rintro _ S2 ⟨g, ⟨k2, b2, d2, rfl, i2⟩, o2, e2, q2⟩
 refine ⟨fun _ => k2, ?_⟩
 replace i1 := i1.cons k2
 obtain ⟨sz, hsz⟩ : ∃ sz, sz = f.length + g.length := ⟨_, rfl⟩
 have hw1 : IntKind.i64.wrap ((f.length : Int) + (g.length : Int)) = ((sz : Nat) : Int) := by rw [wrap64 (by omega) (by omega), hsz]; rfl
 repeat first|apply wg|refine ss rfl ?_|apply nl
 refine L.mk (n := sz) (m := sz) (bytes := 8) (zv := v64 0#64) rfl rfl hw1 rfl hw1 (Nat.le_refl _) (by omega) rfl rfl ?_
 have hro : Mem.row? (S2 ++ [newR (List.replicate sz (v64 0#64)) 57]) S2.length = some (newR (wv (List.replicate sz 0#64)) 57) := by
  rw [row_push_new rfl]; simp [wv]
 have hk5 := Cons.push S2 (newR (List.replicate sz (v64 0#64)) 57)
 generalize S2 ++ [newR (List.replicate sz (v64 0#64)) 57] = S3 at *
 obtain ⟨ro, hro0⟩ : ∃ ro, ro = S2.length := ⟨_, rfl⟩
 rw [← hro0] at hro ⊢
 have hs0 : Small32 (List.replicate sz 0#64) := fun x hx => by rw [List.eq_of_mem_replicate hx]; decide
 repeat first|apply wg|refine ss rfl ?_|apply nl
 refine W.loop (fun j e T => ∃ (i : Nat) (o : WL), j = f.length - i ∧ i ≤ f.length ∧ e 5 = .slice b1 f.length d1 ∧ e 6 = .slice b2 g.length d2 ∧ e 7 = .slice (some ⟨ro, 0, none⟩) sz sz ∧ e 8 = vi i ∧ Cons S2 T ∧ T.row? ro = some (newR (wv o) 57) ∧ o.length = sz ∧ Small32 o ∧ hnum o = hnum (f.take i) * hnum g ∧ ∀ p, i + g.length ≤ p → p < sz → o[p]? = some 0#64) f.length
  ⟨0, List.replicate sz 0#64, by omega, by omega, rfl, rfl, rfl, rfl, hk5, hro, by simp, hs0, by rw [hnum_zeros]; simp [hnum], fun p _ hp => by simp [hp]⟩ ?_
 clear hro hk5 hs0
 rintro j e T ⟨i, o, rfl, hi, e5, e6, e7, e8, hkT, hro, hol, hso, hwo, hz⟩
 refine W.env4 e5 e6 e7 e8 ?_
 repeat first|apply wg|refine ss rfl ?_|apply nl
 refine W.ite rfl (fun h => ?_) (fun h => ?_)
 ·have hin : i < f.length := by have := of_decide_eq_true h; omega
  clear h
  obtain ⟨x, hx⟩ : ∃ x, f[i]? = some x := ⟨_, List.getElem?_eq_getElem hin⟩
  have hxl := small32_get o1.1 hx
  repeat first|apply wg|refine ss rfl ?_|apply nl
  refine W.loop (fun j e T => ∃ (k : Nat) (o : WL) (cr : Nat), j = g.length - k ∧ k ≤ g.length ∧ e 5 = .slice b1 f.length d1 ∧ e 6 = .slice b2 g.length d2 ∧ e 7 = .slice (some ⟨ro, 0, none⟩) sz sz ∧ e 8 = vi i ∧ e 9 = .int .u64 (cr : Int) ∧ e 10 = vi k ∧ Cons S2 T ∧ T.row? ro = some (newR (wv o) 57) ∧ o.length = sz ∧ Small32 o ∧ cr < 4294967296 ∧ hnum o + cr * 2 ^ (32 * (i + k)) = hnum (f.take i) * hnum g + x.toNat * hnum (g.take k) * 2 ^ (32 * i) ∧ ∀ p, i + g.length ≤ p → p < sz → o[p]? = some 0#64) g.length
   ⟨0, o, 0, by omega, by omega, rfl, rfl, rfl, rfl, rfl, rfl, hkT, hro, hol, hso, by decide, by rw [hwo]; simp [hnum], hz⟩ ?_
  clear hro hol hwo hz hkT e5 e6 e7 e8 hso
  clear o e T
  rintro j e T ⟨k, o, cr, rfl, hk, e5, e6, e7, e8, e9, e10, hkT, hro, hol, hso, hcr, hsum, hz⟩
  refine W.env6 e5 e6 e7 e8 e9 e10 ?_
  have hsl : Slv T 1 (.slice (some ⟨ro, 0, none⟩) sz sz) sz (wv o) := Slv.all hro rfl (by rw [wv_len, hol, Nat.mul_one])
  repeat first|apply wg|refine ss rfl ?_|apply nl
  refine W.ite rfl (fun h => ?_) (fun h => ?_)
  ·have hk2 : k < g.length := by have := of_decide_eq_true h; omega
   clear h
   obtain ⟨y, hy⟩ : ∃ y, g[k]? = some y := ⟨_, List.getElem?_eq_getElem hk2⟩
   obtain ⟨z, hzz⟩ : ∃ z, o[i + k]? = some z := ⟨_, List.getElem?_eq_getElem (by omega)⟩
   have hyl := small32_get o2.1 hy
   have hzl := small32_get hso hzz
   have hw2 : IntKind.i64.wrap ((i : Int) + (k : Int)) = ((i + k : Nat) : Int) := by rw [wrap64 (by omega) (by omega)]; rfl
   have hxy : x.toNat * y.toNat ≤ 4294967295 * 4294967295 := Nat.mul_le_mul (by omega) (by omega)
   obtain ⟨s, hs⟩ : ∃ s, s = z.toNat + x.toNat * y.toNat + cr := ⟨_, rfl⟩
   have hw3 : IntKind.u64.wrap (IntKind.u64.wrap ((z.toNat : Int) + IntKind.u64.wrap ((x.toNat : Int) * (y.toNat : Int))) + (cr : Int)) = (s : Int) := by
    rw [umul (by omega), uadd (by omega), uadd (by omega), hs]
   obtain ⟨r, hr⟩ := word32 s
   repeat first|apply wg|refine ss rfl ?_|apply nl
   rw [hw2]
   refine L.el hsl (k := i + k) rfl (wv_get hzz) rfl rfl rfl rfl (fun _ => rfl) rfl (fun p => ?_)
   repeat first|apply wg|refine ss rfl ?_|apply nl
   refine L.el (i1.cons hkT).1 (k := i) rfl (wv_get hx) rfl rfl rfl rfl (fun _ => rfl) rfl (fun p => ?_)
   repeat first|apply wg|refine ss rfl ?_|apply nl
   refine L.el (i2.cons hkT).1 (k := k) rfl (wv_get hy) rfl rfl rfl rfl (fun _ => rfl) rfl (fun p => ?_)
   repeat first|apply wg|refine ss rfl ?_|apply nl
   rw [hw3, hw2, andLo (by omega), ← hr]
   refine L.elst hro rfl (by show 0 + sz ≤ (wv o).length; rw [wv_len, hol]; omega) (k := i + k) rfl (by omega) rfl rfl rfl rfl (fun _ => rfl) (fun _ => rfl) rfl rfl rfl (fun p => ?_)
   have hr2 := row_set_w (k := i + k) (r := r) hro
   have hk6 := hkT.set ro { newR (wv o) 57 with cells := (newR (wv o) 57).cells.set (0 + (i + k)) (v64 r) } (by omega)
   have hws := hnum_set (y := r) hzz
   generalize List.set T ro _ = T6 at *
   repeat first|apply wg|refine ss rfl ?_|apply nl
   refine ⟨g.length - (k + 1), by omega, k + 1, o.set (i + k) r, s / 4294967296, rfl, by omega, rfl, rfl, rfl, rfl, (force_eq rfl).trans (congrArg (Value.int .u64) (shrHi s)), congrArg (Value.int .i64) (wrap64 (by omega) (by omega)), hk6, hr2, by simpa using hol, small32_set hso (by omega), by omega, ?_, fun p hp1 hp2 => ?_⟩
   ·rw [hnum_take_succ hy, show i + (k + 1) = i + k + 1 by omega, pow32_succ]
    have hP : 2 ^ (32 * i) * 2 ^ (32 * k) = 2 ^ (32 * (i + k)) := by rw [← Nat.pow_add]; congr 1; omega
    have e4 : x.toNat * (hnum (g.take k) + 2 ^ (32 * k) * y.toNat) * 2 ^ (32 * i) = x.toNat * hnum (g.take k) * 2 ^ (32 * i) + x.toNat * y.toNat * 2 ^ (32 * (i + k)) := by
     rw [← hP, Nat.mul_add, Nat.add_mul]; congr 1
     rw [Nat.mul_comm (2 ^ (32 * k)), Nat.mul_assoc, Nat.mul_assoc, Nat.mul_assoc, Nat.mul_comm (2 ^ (32 * k))]
    rw [e4]
    have e5 : r.toNat * 2 ^ (32 * (i + k)) + s / 4294967296 * (2 ^ (32 * (i + k)) * 4294967296) = s * 2 ^ (32 * (i + k)) := by
     rw [hr, Nat.mul_comm (2 ^ (32 * (i + k))) 4294967296, ← Nat.mul_assoc, ← Nat.add_mul]; congr 1; omega
    have e6 : s * 2 ^ (32 * (i + k)) = z.toNat * 2 ^ (32 * (i + k)) + x.toNat * y.toNat * 2 ^ (32 * (i + k)) + cr * 2 ^ (32 * (i + k)) := by rw [hs, Nat.add_mul, Nat.add_mul]
    omega
   ·rw [List.getElem?_set, if_neg (by omega)]; exact hz p hp1 hp2
  ·have hkk : k = g.length := by have := of_decide_eq_false h; omega
   subst hkk
   clear h
   rw [List.take_length] at hsum
   have hz0 := hz (i + g.length) (Nat.le_refl _) (by omega)
   have hw2 : IntKind.i64.wrap ((i : Int) + (g.length : Int)) = ((i + g.length : Nat) : Int) := by rw [wrap64 (by omega) (by omega)]; rfl
   obtain ⟨r, hr⟩ := word_of (n := cr) (by omega)
   rw [← hr] at hsum hcr ⊢
   repeat first|apply wg|refine ss rfl ?_|apply nl
   rw [hw2]
   refine L.elst hro rfl (by show 0 + sz ≤ (wv o).length; rw [wv_len, hol]; omega) (k := i + g.length) rfl (by omega) rfl rfl rfl rfl (fun _ => rfl) (fun _ => rfl) rfl rfl rfl (fun p => ?_)
   have hr2 := row_set_w (k := i + g.length) (r := r) hro
   have hk6 := hkT.set ro { newR (wv o) 57 with cells := (newR (wv o) 57).cells.set (0 + (i + g.length)) (v64 r) } (by omega)
   have hws := hnum_set (y := r) hz0
   generalize List.set T ro _ = T6 at *
   repeat first|apply wg|refine ss rfl ?_|apply nl
   refine ⟨f.length - (i + 1), by omega, i + 1, o.set (i + g.length) r, rfl, by omega, rfl, rfl, rfl, congrArg (Value.int .i64) (wrap64 (by omega) (by omega)), hk6, hr2, by simpa using hol, small32_set hso hcr, ?_, fun p hp1 hp2 => ?_⟩
   ·rw [hnum_take_succ hx, Nat.add_mul]
    have hz1 : (0#64 : BitVec 64).toNat * 2 ^ (32 * (i + g.length)) = 0 := Nat.zero_mul _
    rw [hz1] at hws
    rw [Nat.mul_comm (2 ^ (32 * i)), Nat.mul_right_comm]
    omega
   ·rw [List.getElem?_set, if_neg (by omega)]; exact hz p (by omega) hp2
 ·have hin : i = f.length := by have := of_decide_eq_false h; omega
  subst hin
  clear h
  rw [List.take_length] at hwo
  have hW : WIn T (some ⟨ro, 0, none⟩) sz o := (WOwn.row (N := 0) hro hol (Nat.zero_le _) (by omega)).1
  have hfo : HalfOk (fm o) := HalfOk.form hso
  have hfl : (fm o).length ≤ o.length := toW_len_le o
  repeat first|apply wg|refine ss rfl ?_|apply nl
  refine L.cl (strip_C (some ⟨ro, 0, none⟩) sz o T hW) rfl (by rw [hol]; rfl) ?_
  rintro _ _ ⟨rfl, rfl⟩
  refine ⟨fun _ => Cons.refl _, ?_⟩
  rename Mem => T
  repeat first|apply wg|refine ss rfl ?_|apply nl
  refine L.cl (limbsN_C (some ⟨ro, 0, none⟩) sz (fm o) T hW.form hfo.1 (by omega)) rfl rfl ?_
  rintro _ S4 ⟨k4, b4, d4, rfl, i4⟩
  refine ⟨fun _ => k4, ?_⟩
  rw [hnum_form, hwo, e1, e2] at i4 ⊢
  repeat first|apply wg|refine ss rfl ?_|apply nl
  exact ⟨.inr rfl, _, rfl, (((k1.trans k2).trans hkT).trans k4), b4, d4, rfl, i4⟩
end Go.Proofs.YtbiigbicgfchiaaGreatDoor

/- The document's quotient: walked. Conditions: none. -/
namespace Go.Proofs.YtbiigbicgfchiaaGreatDoor
open Go
variable {G : Nat} {Ext : FuncId → List Value → Mem → Outc → Mem → Prop}
theorem surely_C (a1 a2 : Option Addr) (c1 c2 : Nat) (f g : WL) (S : Mem) (h1 : WIn S a1 c1 f) (h2 : WIn S a2 c2 g) (k1 : HalfOk f) (k2 : HalfOk g) (hg0 : 0 < hnum g) (hge : hnum g ≤ hnum f) (hlt : hnum f < hnum g * 4294967296) (n1 : f.length < 1000000) :
  C Tryz.prog G Ext 111 [.slice a1 f.length c1, .slice a2 g.length c2] S fun v S' => ∃ n : Nat, v = .int .u64 (n : Int) ∧ S' = S ∧ 1 ≤ n ∧ n < 4294967296 ∧ n * hnum g ≤ hnum f := by
 obtain ⟨m, hm⟩ : ∃ m, g.length = m + 1 := by
  cases hg : g with
  | nil => rw [hg] at hg0; exact absurd hg0 (by decide)
  | cons x t => exact ⟨t.length, rfl⟩
 have hlf := half_len k2 k1 hge
 have hlf2 : f.length ≤ m + 2 := by
  refine Classical.byContradiction fun hc => ?_
  have q1 := half_ge k1 (by omega)
  have q2 := hnum_lt k2.1
  have q3 : 2 ^ (32 * (m + 2)) ≤ 2 ^ (32 * (f.length - 1)) := Nat.pow_le_pow_right (by decide) (by omega)
  rw [hm] at q2
  rw [pow32_succ (m + 1)] at q3
  have := Nat.mul_lt_mul_of_pos_right q2 (show 0 < 4294967296 by decide)
  omega
 obtain ⟨x, hx⟩ : ∃ x, f[m]? = some x := ⟨_, List.getElem?_eq_getElem (by omega)⟩
 obtain ⟨t, ht⟩ : ∃ t, g[m]? = some t := ⟨_, List.getElem?_eq_getElem (by omega)⟩
 have hxl := small32_get k1.1 hx
 have htl := small32_get k2.1 ht
 have hgv := hnum_take_succ ht
 rw [List.take_of_length_le (by omega)] at hgv
 have hgl := hnum_lt (small32_take k2.1 m)
 rw [List.length_take, Nat.min_eq_left (by omega)] at hgl
 have hn1 : IntKind.i64.wrap (((m + 1 : Nat) : Int) - 1) = (m : Int) := by rw [wrap64 (by omega) (by omega)]; omega
 have hw1 : IntKind.u64.wrap ((t.toNat : Int) + 1) = ((t.toNat + 1 : Nat) : Int) := wrapU64 (by omega) (by omega)
 have fin : ∀ top : Nat, hnum f = hnum (f.take m) + 2 ^ (32 * m) * top → 1 ≤ max 1 (top / (t.toNat + 1)) ∧ max 1 (top / (t.toNat + 1)) < 4294967296 ∧ max 1 (top / (t.toNat + 1)) * hnum g ≤ hnum f := fun top h => by
  have q1 := sure_le h hgv hgl
  have q2 : max 1 (top / (t.toNat + 1)) * hnum g ≤ hnum f := by
   rcases Nat.le_total (top / (t.toNat + 1)) 1 with q | q
   ·rw [Nat.max_eq_left q, Nat.one_mul]; exact hge
   ·rw [Nat.max_eq_right q]; exact q1
  refine ⟨Nat.le_max_left _ _, ?_, q2⟩
  refine Nat.lt_of_mul_lt_mul_right (a := hnum g) (Nat.lt_of_le_of_lt q2 ?_)
  rw [Nat.mul_comm 4294967296]; exact hlt
 have hgle : Value.slice a2 g.length c2 = .slice a2 (m + 1) c2 := by rw [hm]
 refine C.fn Tryz.func111 rfl (by kernel_rfl) rfl ?_
 rw [hgle]
 have h2' : Slv S 1 (.slice a2 (m + 1) c2) (m + 1) (wv g) := by have := h2.1; rwa [hm] at this
 repeat first|apply wg|refine ss rfl ?_|apply nl
 refine L.el h1.1 (k := m) hn1 (wv_get hx) rfl rfl rfl rfl (fun _ => rfl) rfl (fun p => ?_)
 repeat first|apply wg|refine ss rfl ?_|apply nl
 refine W.ite rfl (fun h => ?_) (fun h => ?_)
 ·have hlf3 : f.length = m + 2 := by have := of_decide_eq_true h; omega
  clear h
  obtain ⟨z, hz⟩ : ∃ z, f[m + 1]? = some z := ⟨_, List.getElem?_eq_getElem (by omega)⟩
  have hzl := small32_get k1.1 hz
  have hfv := hnum_take_succ hz
  rw [List.take_of_length_le (by omega), hnum_take_succ hx, pow32_succ] at hfv
  have hw2 : IntKind.u64.wrap ((BitVec.ofInt IntKind.u64.bits (x.toNat : Int) ||| BitVec.ofInt IntKind.u64.bits (IntKind.u64.wrap ((z.toNat : Int) * 2 ^ min (Int.toNat 32) IntKind.u64.bits))).toNat : Int) = ((z.toNat * 4294967296 + x.toNat : Nat) : Int) := by
   rw [show IntKind.u64.wrap ((z.toNat : Int) * 2 ^ min (Int.toNat 32) IntKind.u64.bits) = ((z.toNat * 2 ^ 32 % 18446744073709551616 : Nat) : Int) from shl_nat z.toNat 32, or_nat x.isLt (Nat.mod_lt _ (by decide))]
   have e : (2 : Nat) ^ 32 = 4294967296 := by decide
   rw [Nat.mod_eq_of_lt (by rw [e]; omega), Nat.or_comm, Nat.mul_comm z.toNat, ← Nat.two_pow_add_eq_or_of_lt (by rw [e]; exact hxl), e]
  repeat first|apply wg|refine ss rfl ?_|apply nl
  refine L.el h1.1 (k := m + 1) rfl (wv_get hz) rfl rfl rfl rfl (fun _ => rfl) rfl (fun p => ?_)
  repeat first|apply wg|refine ss rfl ?_|apply nl
  rw [hw2]
  refine L.el h2' (k := m) hn1 (wv_get ht) rfl rfl rfl rfl (fun _ => rfl) rfl (fun p => ?_)
  repeat first|apply wg|refine ss rfl ?_|apply nl
  rw [hw1]
  refine L.quo rfl rfl (by omega) rfl ?_
  rw [nquo (by omega)]
  repeat first|apply wg|refine ss rfl ?_|apply nl
  refine L.max (c := ((max 1 ((z.toNat * 4294967296 + x.toNat) / (t.toNat + 1)) : Nat) : Int)) rfl rfl rfl ?_ ?_
  ·generalize ((z.toNat * 4294967296 + x.toNat)) / (t.toNat + 1) = Q
   split <;> omega
  repeat first|apply wg|refine ss rfl ?_|apply nl
  refine ⟨.inr rfl, _, rfl, max 1 ((z.toNat * 4294967296 + x.toNat) / (t.toNat + 1)), rfl, rfl, fin (z.toNat * 4294967296 + x.toNat) ?_⟩
  ·rw [hfv, Nat.mul_add, Nat.mul_comm z.toNat, ← Nat.mul_assoc]; omega
 ·have hlf3 : f.length = m + 1 := by have := of_decide_eq_false h; omega
  clear h
  have hfv := hnum_take_succ hx
  rw [List.take_of_length_le (by omega)] at hfv
  repeat first|apply wg|refine ss rfl ?_|apply nl
  refine L.el h2' (k := m) hn1 (wv_get ht) rfl rfl rfl rfl (fun _ => rfl) rfl (fun p => ?_)
  repeat first|apply wg|refine ss rfl ?_|apply nl
  rw [hw1]
  refine L.quo rfl rfl (by omega) rfl ?_
  rw [nquo (by omega)]
  repeat first|apply wg|refine ss rfl ?_|apply nl
  refine L.max (c := ((max 1 (x.toNat / (t.toNat + 1)) : Nat) : Int)) rfl rfl rfl ?_ ?_
  ·generalize (x.toNat) / (t.toNat + 1) = Q
   split <;> omega
  repeat first|apply wg|refine ss rfl ?_|apply nl
  refine ⟨.inr rfl, _, rfl, max 1 (x.toNat / (t.toNat + 1)), rfl, rfl, fin x.toNat ?_⟩
  ·exact hfv
def OverR (S S' : Mem) (v : Value) (A B : Nat) : Prop := ∃ (a1 a2 : Option Addr) (c1 c2 : Nat), v = .tuple #[.slice a1 (toW (A / B)).length c1, .slice a2 (toW (A % B)).length c2] ∧ Cons S S' ∧ WIn S' a1 c1 (toW (A / B)) ∧ WIn S' a2 c2 (toW (A % B))
theorem over_C (a1 a2 : Option Addr) (c1 c2 : Nat) (l1 l2 : WL) (S : Mem) (h1 : WIn S a1 c1 l1) (h2 : WIn S a2 c2 l2) (n1 : l1.length < 100000) (n2 : l2.length < 100000) (hpos : 0 < wnum l2) :
  C Tryz.prog G Ext 77 [.slice a1 l1.length c1, .slice a2 l2.length c2] S fun v S' => OverR S S' v (wnum l1) (wnum l2) := by
 refine C.fn Tryz.func77 rfl (by kernel_rfl) rfl ?_
 repeat first|apply wg|refine ss rfl ?_|apply nl
 refine L.cl (halvesN_C a1 c1 l1 S h1 (by omega)) rfl rfl ?_
 rintro _ S1 ⟨f, ⟨k1, b1, d1, rfl, i1⟩, o1, e1, q1⟩
 refine ⟨fun _ => k1, ?_⟩
 repeat first|apply wg|refine ss rfl ?_|apply nl
 refine L.cl (halvesN_C a2 c2 l2 S1 (h2.cons k1) (by omega)) rfl rfl ?_
 rintro _ S2 ⟨g, ⟨k2, b2, d2, rfl, i2⟩, o2, e2, q2⟩
 refine ⟨fun _ => k2, ?_⟩
 replace i1 := i1.cons k2
 have kA := k1.trans k2
 rw [← e2] at hpos
 rw [← e1, ← e2]
 clear e1 e2 h1 h2 k1 k2
 have hgl : 0 < g.length := by
  cases hg : g with
  | nil => rw [hg] at hpos; exact absurd hpos (by decide)
  | cons x t => exact Nat.succ_pos _
 obtain ⟨tp, htp⟩ : ∃ tp, tp = f.length + 1 - g.length := ⟨_, rfl⟩
 have htl : tp ≤ f.length := by omega
 repeat first|apply wg|refine ss rfl ?_|apply nl
 refine L.mk (n := f.length) (m := f.length) (bytes := 8) (zv := v64 0#64) rfl rfl rfl rfl rfl (Nat.le_refl _) (by omega) rfl rfl ?_
 have hrq : Mem.row? (S2 ++ [newR (List.replicate f.length (v64 0#64)) 57]) S2.length = some (newR (wv (List.replicate f.length 0#64)) 57) := by
  rw [row_push_new rfl]; simp [wv]
 have hk5 := Cons.push S2 (newR (List.replicate f.length (v64 0#64)) 57)
 generalize S2 ++ [newR (List.replicate f.length (v64 0#64)) 57] = S3 at *
 obtain ⟨rq, hrq0⟩ : ∃ rq, rq = S2.length := ⟨_, rfl⟩
 rw [← hrq0] at hrq ⊢
 have hrqS := row_lt hrq
 have hs0 : Small32 (List.replicate f.length 0#64) := fun x hx => by rw [List.eq_of_mem_replicate hx]; decide
 repeat first|apply wg|refine ss rfl ?_|apply nl
 refine L.max (c := (tp : Int)) rfl rfl rfl ?_ ?_
 ·rw [wrap64 (x := (f.length : Int) - (g.length : Int)) (by omega) (by omega), wrap64 (by omega) (by omega)]
  split <;> omega
 repeat first|apply wg|refine ss rfl ?_|apply nl
 obtain ⟨a3, c3, p1, p2, p3, _⟩ := slv_part (lo := some (vi tp)) (hi := none) (k := tp) (h := f.length) (i1.cons hk5).1 (.inr ⟨.i64, rfl⟩) (.inl ⟨rfl, rfl⟩) htl (Nat.le_refl _) (Cut.of i1.2.1)
 rw [List.take_of_length_le (by rw [List.length_drop, wv_len]; omega)] at p2
 refine L.is (.slice a3 (f.length - tp) c3) ((slice_at0 rfl rfl rfl).trans p1) rfl ?_
 repeat first|apply wg|refine ss rfl ?_|apply nl
 refine L.app (N := S3.length) (n := 0) (bytes := 8) (l := []) rfl (Nat.le_refl _) (Grow.nil _ _ _ _) rfl rfl p2 (by rw [show (wv f).drop tp = wv (f.drop tp) by rw [wv, ← List.map_drop]; rfl]; exact wv_one _) (by omega) rfl rfl (fun a4 c4 S4 g1 g2 g3 => ?_)
 rw [Nat.zero_add, List.nil_append, show (wv f).drop tp = wv (f.drop tp) by rw [wv, ← List.map_drop]; rfl] at g1
 have hdl : (f.drop tp).length = f.length - tp := by rw [List.length_drop]
 have hW4 : WIn S4 a4 c4 (f.drop tp) := grow_win (by rw [hdl]; exact g1) (by omega)
 have hk6 : Cons S3 S4 := g3.cons
 have hnw := grow_new g1
 repeat first|apply wg|refine ss rfl ?_|apply nl
 refine L.cl (strip_C a4 c4 (f.drop tp) S4 hW4) rfl (by rw [hdl, Nat.zero_add]; rfl) ?_
 rintro _ _ ⟨rfl, rfl⟩
 refine ⟨fun _ => Cons.refl _, ?_⟩
 rename Mem => S4
 have hsd : Small32 (f.drop tp) := fun x hx => o1.1 x (List.mem_of_mem_drop hx)
 have hR0 : HalfOk (fm (f.drop tp)) := HalfOk.form hsd
 have hRn : hnum (fm (f.drop tp)) = hnum (f.drop tp) := hnum_form _
 have hRl : hnum (f.drop tp) < hnum g := by
  have q3 := hnum_lt hsd
  have q4 := half_ge o2 hgl
  have q5 : 2 ^ (32 * (f.drop tp).length) ≤ 2 ^ (32 * (g.length - 1)) := Nat.pow_le_pow_right (by decide) (by omega)
  omega
 have hsplit : hnum f = hnum (f.take tp) + 2 ^ (32 * tp) * hnum (f.drop tp) := by
  have := hnum_append (f.take tp) (f.drop tp)
  rw [List.take_append_drop, List.length_take, Nat.min_eq_left htl] at this
  exact this
 repeat first|apply wg|refine ss rfl ?_|apply nl
 refine W.loop (fun k e T => ∃ (q rest : WL) (ar : Option Addr) (cr : Nat), k ≤ tp ∧ Cons S2 T ∧ S3.length ≤ T.length ∧ e 6 = .slice b1 f.length d1 ∧ e 7 = .slice b2 g.length d2 ∧ e 8 = .slice (some ⟨rq, 0, none⟩) f.length f.length ∧ e 10 = .slice ar rest.length cr ∧ e 11 = .int .i64 ((k : Int) - 1) ∧ T.row? rq = some (newR (wv q) 57) ∧ q.length = f.length ∧ Small32 q ∧ WIn T ar cr rest ∧ (∀ x, ar = some x → S3.length ≤ x.block) ∧ HalfOk rest ∧ hnum rest < hnum g ∧
   hnum f = hnum q * hnum g + hnum rest * 2 ^ (32 * k) + hnum (f.take k) ∧ ∀ p, p < k → q[p]? = some 0#64) tp
  ⟨List.replicate f.length 0#64, fm (f.drop tp), a4, c4, Nat.le_refl _, hk5.trans hk6, hk6.len, rfl, rfl, rfl, rfl, congrArg (Value.int .i64) (wrap64 (by omega) (by omega)), hk6.row' hrq, by simp, hs0, hW4.form, hnw, hR0, by omega, by rw [hnum_zeros, hRn, Nat.mul_comm (hnum (f.drop tp))]; omega, fun p hp => by rw [List.getElem?_replicate, if_pos (by omega)]⟩ ?_
 clear hsplit hRl hRn hR0 hsd hnw hk6 hW4 g1 g2 g3 p1 p2 p3 hs0 hrq hk5 hdl
 rintro k e T ⟨q, rest, ar, cr, hk, kT, hTl, e6, e7, e8, e10, e11, hrq, hql, hsq, hrW, hnw, hrok, hrlt, hsum, hz⟩
 refine W.env5 e6 e7 e8 e10 e11 ?_
 repeat first|apply wg|refine ss rfl ?_|apply nl
 refine W.ite rfl (fun h => ?_) (fun h => ?_)
 ·have hk1 : 1 ≤ k := by have := of_decide_eq_true h; omega
  clear h
  obtain ⟨j, rfl⟩ : ∃ j, k = j + 1 := ⟨k - 1, by omega⟩
  have hm : (((j + 1 : Nat) : Int) - 1) = (j : Int) := by omega
  rw [hm]
  obtain ⟨x, hx⟩ : ∃ x, f[j]? = some x := ⟨_, List.getElem?_eq_getElem (by omega)⟩
  have hxl := small32_get o1.1 hx
  have hrll := half_len hrok o2 (by omega)
  repeat first|apply wg|refine ss rfl ?_|apply nl
  refine L.el (i1.cons kT).1 (k := j) rfl (wv_get hx) rfl rfl rfl rfl (fun _ => rfl) rfl (fun p => ?_)
  repeat first|apply wg|refine ss rfl ?_|apply nl
  refine L.push1 (w := v64 x) (N := T.length) (n := 0) (l := []) rfl (Nat.le_refl _) (.inl (Grow.nil _ _ _ _)) rfl rfl rfl rfl rfl (by omega) rfl (fun _ => rfl) (fun p a5 c5 T1 g1 g2 g3 => ?_)
  have hkT1 : Cons T T1 := g3.cons
  repeat first|apply wg|refine ss rfl ?_|apply nl
  refine L.app (N := T.length) (n := 1) (bytes := 8) (l := [v64 x]) rfl g2 g1 rfl rfl (hrW.cons hkT1).1 (wv_one _) (by omega) rfl rfl (fun a6 c6 T2 g4 g5 g6 => ?_)
  have hkT2 : Cons T T2 := hkT1.trans' g6
  have hnl : (x :: rest).length = 1 + rest.length := by rw [List.length_cons]; omega
  have hW6 : WIn T2 a6 c6 (x :: rest) := grow_win (by rw [hnl]; exact g4) (by omega)
  have hnw6 := grow_new g4
  have hs6 : Small32 (x :: rest) := fun y hy => by
   rcases List.mem_cons.1 hy with rfl | hy
   ·exact hxl
   ·exact hrok.1 y hy
  repeat first|apply wg|refine ss rfl ?_|apply nl
  refine L.cl (strip_C a6 c6 (x :: rest) T2 hW6) rfl (by rw [hnl]; rfl) ?_
  rintro _ _ ⟨rfl, rfl⟩
  refine ⟨fun _ => Cons.refl _, ?_⟩
  rename Mem => T2
  have hcur : hnum (fm (x :: rest)) = x.toNat + 4294967296 * hnum rest := by rw [hnum_form]; rfl
  have hz0 := hz j (by omega)
  rw [hnum_take_succ hx, pow32_succ] at hsum
  repeat first|apply wg|refine ss rfl ?_|apply nl
  refine W.mono (R := fun x' e' T' => x' = .exit 2 ∧ ∃ (q rest : WL) (ar : Option Addr) (cr : Nat), Cons S2 T' ∧ S3.length ≤ T'.length ∧ e' 6 = .slice b1 f.length d1 ∧ e' 7 = .slice b2 g.length d2 ∧ e' 8 = .slice (some ⟨rq, 0, none⟩) f.length f.length ∧ e' 10 = .slice ar rest.length cr ∧ e' 11 = vi j ∧ T'.row? rq = some (newR (wv q) 57) ∧ q.length = f.length ∧ Small32 q ∧ WIn T' ar cr rest ∧ (∀ x, ar = some x → S3.length ≤ x.block) ∧ HalfOk rest ∧ hnum rest < hnum g ∧
    hnum f = hnum q * hnum g + hnum rest * 2 ^ (32 * j) + hnum (f.take j) ∧ ∀ p, p < j → q[p]? = some 0#64) ?_ ?_
  ·refine W.loop (fun n e' T' => ∃ (q rest : WL) (w : BitVec 64) (ar : Option Addr) (cr : Nat), n = hnum rest ∧ Cons S2 T' ∧ S3.length ≤ T'.length ∧ e' 6 = .slice b1 f.length d1 ∧ e' 7 = .slice b2 g.length d2 ∧ e' 8 = .slice (some ⟨rq, 0, none⟩) f.length f.length ∧ e' 10 = .slice ar rest.length cr ∧ e' 11 = vi j ∧ T'.row? rq = some (newR (wv q) 57) ∧ q.length = f.length ∧ Small32 q ∧ q[j]? = some w ∧ w.toNat * hnum g + hnum rest < hnum g * 4294967296 ∧ WIn T' ar cr rest ∧ (∀ x, ar = some x → S3.length ≤ x.block) ∧ HalfOk rest ∧
     hnum f = hnum q * hnum g + hnum rest * 2 ^ (32 * j) + hnum (f.take j) ∧ ∀ p, p < j → q[p]? = some 0#64) (hnum (fm (x :: rest)))
    ⟨q, fm (x :: rest), 0#64, a6, c6, rfl, kT.trans hkT2, Nat.le_trans hTl hkT2.len, rfl, rfl, rfl, rfl, rfl, hkT2.row' hrq, hql, hsq, hz0, ?_, hW6.form, fun y hy => Nat.le_trans hTl (hnw6 y hy), HalfOk.form hs6, ?_, fun p hp => hz p (by omega)⟩ ?_
   ·rw [hcur, show (0#64 : BitVec 64).toNat * hnum g = 0 from Nat.zero_mul _]
    omega
   ·rw [hcur, hsum, Nat.add_mul, Nat.mul_comm 4294967296 (hnum rest), Nat.mul_assoc (hnum rest), Nat.mul_comm 4294967296 (2 ^ (32 * j)), Nat.mul_comm x.toNat]; omega
   clear hcur hsum hz0 hs6 hnw6 hW6 g1 g2 g3 g4 g5 g6 hkT1 hkT2 hz hrW hnw hrok hrlt hrll hsq hql hrq
   rintro n e' T' ⟨q, rest, w, ar, cr, rfl, kT, hTl, e6, e7, e8, e10, e11, hrq, hql, hsq, hw, hwb, hrW, hnw, hrok, hsum, hz⟩
   refine W.env5 e6 e7 e8 e10 e11 ?_
   have hwl := small32_get hsq hw
   repeat first|apply wg|refine ss rfl ?_|apply nl
   refine L.cs (compare_C ar b2 cr d2 rest g T' hrW (i2.cons kT) hrok o2) rfl rfl ?_
   repeat first|apply wg|refine ss rfl ?_|apply nl
   refine W.ite rfl (fun h => ?_) (fun h => ?_)
   ·have hge : hnum g ≤ hnum rest := by
     have h0 := of_decide_eq_true h
     unfold cmpI at h0
     split at h0 <;> omega
    clear h
    have hrl : hnum rest < hnum g * 4294967296 := by omega
    have hrlen : rest.length ≤ g.length + 1 := by
     refine Classical.byContradiction fun hc => ?_
     have q1 := half_ge hrok (by omega)
     have q2 := hnum_lt o2.1
     have q3 : 2 ^ (32 * (g.length + 1)) ≤ 2 ^ (32 * (rest.length - 1)) := Nat.pow_le_pow_right (by decide) (by omega)
     rw [pow32_succ] at q3
     have := Nat.mul_lt_mul_of_pos_right q2 (show 0 < 4294967296 by decide)
     omega
    repeat first|apply wg|refine ss rfl ?_|apply nl
    refine L.cl (surely_C ar b2 cr d2 rest g T' hrW (i2.cons kT) hrok o2 hpos hge hrl (by omega)) rfl rfl ?_
    rintro _ M2 ⟨n, rfl, hM2, hn1, hn2, hn3⟩
    have hM2 := hM2.symm
    subst hM2
    refine ⟨fun _ => Cons.refl _, ?_⟩
    repeat first|apply wg|refine ss rfl ?_|apply nl
    refine L.cl (little_C b2 d2 n g T' (i2.cons kT) o2.1 hn2 (by omega)) rfl rfl ?_
    rintro _ T3 ⟨y, ay, cy, kT3, rfl, iy, _, oy, ey⟩
    refine ⟨fun _ => kT3, ?_⟩
    repeat first|apply wg|refine ss rfl ?_|apply nl
    refine L.cl (minus_C ar ay cr cy rest y T3 (hrW.cons kT3) iy hrok oy (by rw [ey, Nat.mul_comm]; exact hn3) (by omega)) rfl rfl ?_
    rintro _ T4 ⟨r2, a7, c7, kT4, rfl, i7, n7, o7, e7'⟩
    refine ⟨fun _ => kT4, ?_⟩
    have kT34 := kT3.trans kT4
    have hrq4 := kT34.row' hrq
    have hsl : Slv T4 1 (.slice (some ⟨rq, 0, none⟩) f.length f.length) f.length (wv q) := Slv.all hrq4 rfl (by rw [wv_len, hql, Nat.mul_one])
    have hwn : w.toNat + n < 4294967296 := by
     have q1 : (w.toNat + n) * hnum g < 4294967296 * hnum g := by rw [Nat.add_mul, Nat.mul_comm 4294967296]; omega
     exact Nat.lt_of_mul_lt_mul_right q1
    obtain ⟨w2, hw2⟩ := word_of (n := w.toNat + n) (by omega)
    repeat first|apply wg|refine ss rfl ?_|apply nl
    refine L.el hsl (k := j) rfl (wv_get hw) rfl rfl rfl rfl (fun _ => rfl) rfl (fun p => ?_)
    repeat first|apply wg|refine ss rfl ?_|apply nl
    rw [uadd (a := w.toNat) (b := n) (by omega), ← hw2]
    refine L.elst hrq4 rfl (by show 0 + f.length ≤ (wv q).length; rw [wv_len, hql]; omega) (k := j) rfl (by omega) rfl rfl rfl rfl (fun _ => rfl) (fun _ => rfl) rfl rfl rfl (fun p => ?_)
    have hrq5 := row_set_w (k := j) (r := w2) hrq4
    have hk8 : Cons S2 (List.set T4 rq { newR (wv q) 57 with cells := (newR (wv q) 57).cells.set (0 + j) (v64 w2) }) := (kT.trans kT34).set rq _ (by omega)
    have i8 := i7.keepb (Keep.set rq T4 { newR (wv q) 57 with cells := (newR (wv q) 57).cells.set (0 + j) (v64 w2) }) (fun x hx => by have := n7 x hx; have := kT3.len; omega)
    have hl8 : S3.length ≤ (List.set T4 rq { newR (wv q) 57 with cells := (newR (wv q) 57).cells.set (0 + j) (v64 w2) }).length := by rw [List.length_set]; have := kT34.len; omega
    have hws := hnum_set (y := w2) hw
    generalize List.set T4 rq _ = T5 at *
    repeat first|apply wg|refine ss rfl ?_|apply nl
    have hcl : hnum r2 = hnum rest - n * hnum g := by rw [e7', ey, Nat.mul_comm n]
    have hpn : 0 < n * hnum g := Nat.mul_pos (by omega) hpos
    refine ⟨hnum r2, by omega, q.set j w2, r2, w2, a7, c7, rfl, hk8, hl8, rfl, rfl, rfl, rfl, rfl, hrq5, by simpa using hql, small32_set hsq (by omega), by rw [List.getElem?_set, if_pos rfl, if_pos (by omega)], ?_, i8, fun x hx => by have := n7 x hx; have := kT3.len; omega, o7, ?_, fun p hp => ?_⟩
    ·rw [hw2, hcl, Nat.add_mul]; omega
    ·rw [hw2] at hws
     have q1 : hnum (q.set j w2) = hnum q + n * 2 ^ (32 * j) := by rw [Nat.add_mul] at hws; omega
     have q2 : hnum rest * 2 ^ (32 * j) = hnum r2 * 2 ^ (32 * j) + n * hnum g * 2 ^ (32 * j) := by rw [← Nat.add_mul]; congr 1; omega
     rw [q1, Nat.add_mul, hsum, q2, Nat.mul_right_comm n]; omega
    ·rw [List.getElem?_set, if_neg (by omega)]; exact hz p hp
   ·have hlt : hnum rest < hnum g := by
     have h0 := of_decide_eq_false h
     refine Classical.byContradiction fun hc => h0 ?_
     unfold cmpI
     rw [if_neg (by omega)]
     split <;> omega
    clear h
    repeat first|apply wg|refine ss rfl ?_|apply nl
    exact ⟨rfl, q, rest, ar, cr, kT, hTl, rfl, rfl, rfl, rfl, rfl, hrq, hql, hsq, hrW, hnw, hrok, hlt, hsum, hz⟩
  clear hcur hsum hz0 hs6 hnw6 hW6 g1 g2 g3 g4 g5 g6 hkT1 hkT2 hz hrW hnw hrok hrlt hrll hsq hql hrq e6 e7 e8 e10 e11 hTl kT
  rintro _ e' T' ⟨rfl, q, rest, ar, cr, kT, hTl, e6, e7, e8, e10, e11, hrq, hql, hsq, hrW, hnw, hrok, hlt, hsum, hz⟩
  refine W.env5 e6 e7 e8 e10 e11 ?_
  repeat first|apply wg|refine ss rfl ?_|apply nl
  exact ⟨j, by omega, q, rest, ar, cr, by omega, kT, hTl, rfl, rfl, rfl, rfl, (force_eq rfl).trans (congrArg (Value.int .i64) (wrap64 (by omega) (by omega))), hrq, hql, hsq, hrW, hnw, hrok, hlt, hsum, hz⟩
 ·have hk0 : k = 0 := by have := of_decide_eq_false h; omega
  subst hk0
  clear h
  rw [Nat.mul_zero, Nat.pow_zero, Nat.mul_one, List.take_zero, show hnum [] = 0 from rfl, Nat.add_zero] at hsum
  have hdv : hnum q = hnum f / hnum g ∧ hnum rest = hnum f % hnum g := by
   rw [hsum, Nat.mul_comm]
   refine ⟨?_, ?_⟩
   ·rw [Nat.mul_add_div hpos, Nat.div_eq_of_lt hrlt, Nat.add_zero]
   ·rw [Nat.mul_add_mod, Nat.mod_eq_of_lt hrlt]
  have hWq : WIn T (some ⟨rq, 0, none⟩) f.length q := (WOwn.row (N := 0) hrq hql (Nat.zero_le _) (by omega)).1
  have hfq : (fm q).length ≤ q.length := toW_len_le q
  have hrll := half_len hrok o2 (by omega)
  repeat first|apply wg|refine ss rfl ?_|apply nl
  refine L.cl (strip_C (some ⟨rq, 0, none⟩) f.length q T hWq) rfl (by rw [hql]; rfl) ?_
  rintro _ _ ⟨rfl, rfl⟩
  refine ⟨fun _ => Cons.refl _, ?_⟩
  rename Mem => T
  repeat first|apply wg|refine ss rfl ?_|apply nl
  refine L.cl (limbsN_C (some ⟨rq, 0, none⟩) f.length (fm q) T hWq.form (small32_form hsq) (by omega)) rfl rfl ?_
  rintro _ T1 ⟨k4, b4, d4, rfl, i4⟩
  refine ⟨fun _ => k4, ?_⟩
  repeat first|apply wg|refine ss rfl ?_|apply nl
  refine L.cl (limbsN_C ar cr rest T1 (hrW.cons k4) hrok.1 (by omega)) rfl rfl ?_
  rintro _ T2 ⟨k5, b5, d5, rfl, i5⟩
  refine ⟨fun _ => k5, ?_⟩
  rw [hnum_form, hdv.1] at i4 ⊢
  rw [hdv.2] at i5 ⊢
  repeat first|apply wg|refine ss rfl ?_|apply nl
  exact ⟨.inr rfl, _, rfl, b4, b5, d4, d5, rfl, ((kA.trans kT).trans k4).trans k5, i4.cons k5, i5⟩
end Go.Proofs.YtbiigbicgfchiaaGreatDoor

/- The document's greatest common divisor: walked. Conditions: none. -/
namespace Go.Proofs.YtbiigbicgfchiaaGreatDoor
open Go
variable {G : Nat} {Ext : FuncId → List Value → Mem → Outc → Mem → Prop}
end Go.Proofs.YtbiigbicgfchiaaGreatDoor

/- Layer 2's references: forms, sums, products by definition. Conditions: none. -/
set_option exponentiation.threshold 20000
namespace Go.Proofs.YtbiigbicgfchiaaGreatDoor
open Go Ie
variable {Ext : FuncId → List Value → Mem → Outc → Mem → Prop} {S : Mem} {u v : Value} {x y : Int} {i j : Nat}
theorem WIn.kn {S S' : Mem} {a : Option Addr} {c b : Nat} {l : WL} {r : Row} (h : WIn S a c l) (k : Keep b S S') (hr : S.row? b = some r) (hn : ∀ x ∈ r.cells, ∀ y : BitVec 64, x ≠ v64 y) : WIn S' a c l := by
 obtain ⟨⟨h1, a', c', e, h2⟩, h3⟩ := h
 refine ⟨⟨h1, a', c', e, ?_⟩, h3⟩
 rcases h2 with h2 | ⟨b', o, r', ha, hr', hlen, hl, hro⟩
 ·exact .inl h2
 ·by_cases hb : b' = b
  ·subst hb
   rw [hr] at hr'
   cases hr'
   cases l with
   | nil => exact .inl (by simp)
   | cons y l =>
    exfalso
    have hm : v64 y ∈ (r.cells.drop o).take ((y :: l).length * 1) := by rw [hl]; simp [wv]
    exact hn _ (List.mem_of_mem_drop (List.mem_of_mem_take hm)) y rfl
  ·exact .inr ⟨b', o, r', ha, k.row hr' hb, hlen, hl, hro⟩
theorem noW {b : Bool} {a : Option Addr} {n c : Nat} {t : TypeId} : ∀ x ∈ (newR [.bool b, .slice a n c] t).cells, ∀ y : BitVec 64, x ≠ v64 y := fun x hx y e => by
 subst e
 simp [newR, v64] at hx
def ZIn (S : Mem) (u : Value) (z : Int) (k : Nat) : Prop := ∃ n a c l, u = .agg #[.bool n, .slice a l.length c] ∧ WIn S a c l ∧ l.length ≤ k ∧ zv n l = z
theorem ZIn.cons {S' : Mem} (h : ZIn S u x i) (k : Cons S S') : ZIn S' u x i := let ⟨n, a, c, l, e, w, hl, hv⟩ := h; ⟨n, a, c, l, e, w.cons k, hl, hv⟩
theorem ZIs.inn {k : Nat} (h : ZIs S u x) (hk : x.natAbs < 2 ^ (64 * k)) : ZIn S u x k := let ⟨a, c, e, w⟩ := h; ⟨_, a, c, _, e, w, (toW_len _ _).2 hk, zv_form x⟩
theorem ZIn.lt (h : ZIn S u x i) : x.natAbs < 2 ^ (64 * i) := by
 obtain ⟨n, a, c, l, _, _, hl, rfl⟩ := h
 rw [zv_abs]
 exact num_len hl
def zfz (z : Int) : Bool := decide (z.natAbs < 2 ^ 4096)
theorem zfit_zv (n : Bool) (l : WL) : zfit l = zfz (zv n l) := by unfold zfit zfz; rw [zv_abs]
theorem zfz_E (z : Int) : zE z = if zfz z then 0 else 3 := by
 unfold zE zfz
 by_cases h : z.natAbs < 2 ^ 4096
 ·rw [if_pos h, decide_eq_true h]; rfl
 ·rw [if_neg h, decide_eq_false h]; rfl
theorem sum_le {n m : Nat} (hi : n < 2 ^ (64 * i)) (hj : m < 2 ^ (64 * j)) : (toW (n + m)).length ≤ i + j + 1 := by
 refine (toW_len _ _).2 ?_
 have h1 : 2 ^ (64 * i) ≤ 2 ^ (64 * (i + j)) := Nat.pow_le_pow_right (by decide) (by omega)
 have h2 : 2 ^ (64 * j) ≤ 2 ^ (64 * (i + j)) := Nat.pow_le_pow_right (by decide) (by omega)
 have h3 : 2 ^ (64 * (i + j + 1)) = 2 ^ (64 * (i + j)) * 2 ^ 64 := by rw [← Nat.pow_add]; rfl
 omega
theorem mul_le {n m : Nat} (hi : n < 2 ^ (64 * i)) (hj : m < 2 ^ (64 * j)) : (toW (n * m)).length ≤ i + j := by
 refine (toW_len _ _).2 ?_
 have h3 : 2 ^ (64 * (i + j)) = 2 ^ (64 * i) * 2 ^ (64 * j) := by rw [← Nat.pow_add, Nat.mul_add]
 rw [h3]
 exact Nat.mul_lt_mul'' hi hj
theorem le_len {n k : Nat} (h : n < 2 ^ (64 * k)) {m : Nat} (hm : m ≤ n) : (toW m).length ≤ k := (toW_len _ _).2 (by omega)
theorem rzForm_C (hx : ZIn S u x i) (hi : i < 100000) : C Tryz.prog gN Ext 59 [u] S fun w S' => ZIs S' w x ∧ Cons S S' := by
 obtain ⟨n, a, c, l, rfl, h1, hl, rfl⟩ := hx
 refine C.fn Tryz.func59 rfl (by kernel_rfl) rfl ?_
 repeat first|apply wg|refine ss rfl ?_|apply nl
 refine L.nr [.bool n, .slice a l.length c] wT rfl rfl (fun b2 Tb2 gb2 kb2 rb2 => ?_)
 refine L.nr [.bool false, .slice none 0 0] wT rfl rfl (fun b4 Tb4 gb4 kb4 rb4 => ?_)
 have kM := kb2.trans kb4
 have g4 : S.length ≤ b4 := Nat.le_trans kb2.len gb4
 replace rb2 := Cons.row (h := kb4) rb2
 replace h1 := h1.cons kM
 have hc := Cons.refl Tb4
 clear kb2 kb4 gb2 gb4
 repeat first|apply wg|refine ss rfl ?_|apply nl
 refine L.zf (Cons.row (h := hc) rb2) rfl rfl rfl rfl rfl ?_
 repeat first|apply wg|refine ss rfl ?_|apply nl
 refine L.cl (form_C a c l _ (h1.cons hc) (by omega)) rfl rfl ?_
 rintro _ T' ⟨k', a9, c9, rfl, w9⟩
 refine ⟨fun _ => k', ?_⟩
 replace hc := hc.trans k'
 repeat first|apply wg|refine ss rfl ?_|apply nl
 rw [show fm l = toW (wnum l) from rfl] at w9 ⊢
 refine L.zf (Cons.row (h := hc) rb2) rfl rfl rfl rfl rfl ?_
 repeat first|apply wg|refine ss rfl ?_|apply nl
 have hs := zv_sgn n l
 have ha := zv_abs n l
 generalize zv n l = x at *
 rw [← ha] at hs w9 ⊢
 have hp : decide (((toW x.natAbs).length : Int) > 0) = decide (0 < x.natAbs) := by
  have := @toW_pos_len x.natAbs
  exact decide_eq_decide.2 (by omega)
 cases n
 ·have hz : decide (x < 0) = false := by rw [hs, Bool.false_and]
  repeat first|apply wg|refine ss rfl ?_|apply nl
  refine L.bd #[(.bool false), (.slice a9 (toW x.natAbs).length c9)] (pl := [(0, (.bool false)), (1, (.slice a9 (toW x.natAbs).length c9))]) (z := .agg #[.bool false, .slice none 0 0]) rfl rfl rfl (by kernel_rfl) rfl ?_
  repeat first|apply wg|refine ss rfl ?_|apply nl
  rw [← hz]
  refine L.st2 (Cons.row (h := hc) rb4) rfl rfl rfl rfl rfl rfl (fun T2 kk r2 => ?_)
  repeat first|apply wg|refine ss rfl ?_|apply nl
  exact ⟨.inr rfl, _, res1 rfl (load2 r2 rfl), ⟨a9, c9, rfl, w9.kn kk (Cons.row (h := hc) rb4) noW⟩, kk.mono (kM.trans hc) g4⟩
 ·have hz : decide (x < 0) = decide (((toW x.natAbs).length : Int) > 0) := by rw [hs, Bool.true_and, hp]
  repeat first|apply wg|refine ss rfl ?_|apply nl
  refine L.bd #[(.bool (decide (((toW x.natAbs).length : Int) > 0))), (.slice a9 (toW x.natAbs).length c9)] (pl := [(0, (.bool (decide (((toW x.natAbs).length : Int) > 0)))), (1, (.slice a9 (toW x.natAbs).length c9))]) (z := .agg #[.bool false, .slice none 0 0]) rfl rfl rfl (by kernel_rfl) rfl ?_
  repeat first|apply wg|refine ss rfl ?_|apply nl
  rw [← hz]
  refine L.st2 (Cons.row (h := hc) rb4) rfl rfl rfl rfl rfl rfl (fun T2 kk r2 => ?_)
  repeat first|apply wg|refine ss rfl ?_|apply nl
  exact ⟨.inr rfl, _, res1 rfl (load2 r2 rfl), ⟨a9, c9, rfl, w9.kn kk (Cons.row (h := hc) rb4) noW⟩, kk.mono (kM.trans hc) g4⟩
theorem rzFits_C (hx : ZIn S u x i) (hi : i < 100000) : C Tryz.prog gN Ext 58 [u] S fun w S' => w = .bool (zfz x) ∧ Cons S S' := by
 obtain ⟨n, a, c, l, rfl, h1, hl, rfl⟩ := hx
 refine C.fn Tryz.func58 rfl (by kernel_rfl) rfl ?_
 repeat first|apply wg|refine ss rfl ?_|apply nl
 refine L.nr [.bool n, .slice a l.length c] wT rfl rfl (fun b2 Tb2 gb2 kb2 rb2 => ?_)
 have hc := Cons.refl Tb2
 repeat first|apply wg|refine ss rfl ?_|apply nl
 refine L.zf (Cons.row (h := hc) rb2) rfl rfl rfl rfl rfl ?_
 repeat first|apply wg|refine ss rfl ?_|apply nl
 refine L.cv (length_C a c l _ (h1.cons (kb2.trans hc)) (by omega)) rfl rfl fun T' k' => ?_
 replace hc := hc.trans k'
 repeat first|apply wg|refine ss rfl ?_|apply nl
 refine ⟨.inr rfl, _, rfl, congrArg Value.bool ?_, kb2.trans hc⟩
 unfold zfz
 rw [zv_abs]
 refine decide_eq_decide.2 ?_
 have := @blen_le (wnum l) 4096
 omega
theorem rzTurned_C (hx : ZIn S u x i) (hi : i < 100000) : C Tryz.prog gN Ext 75 [u] S fun w S' => ZIs S' w (-x) ∧ Cons S S' := by
 obtain ⟨n, a, c, l, rfl, h1, hl, rfl⟩ := hx
 refine C.fn Tryz.func75 rfl (by kernel_rfl) rfl ?_
 repeat first|apply wg|refine ss rfl ?_|apply nl
 refine L.nr [.bool n, .slice a l.length c] wT rfl rfl (fun b2 Tb2 gb2 kb2 rb2 => ?_)
 refine L.nr [.bool false, .slice none 0 0] wT rfl rfl (fun b4 Tb4 gb4 kb4 rb4 => ?_)
 have kM := kb2.trans kb4
 have g4 : S.length ≤ b4 := Nat.le_trans kb2.len gb4
 replace rb2 := Cons.row (h := kb4) rb2
 replace h1 := h1.cons kM
 have hc := Cons.refl Tb4
 clear kb2 kb4 gb2 gb4
 repeat first|apply wg|refine ss rfl ?_|apply nl
 refine L.zf (Cons.row (h := hc) rb2) rfl rfl rfl rfl rfl ?_
 repeat first|apply wg|refine ss rfl ?_|apply nl
 refine L.zf (Cons.row (h := hc) rb2) rfl rfl rfl rfl rfl ?_
 repeat first|apply wg|refine ss rfl ?_|apply nl
 rw [← zv_not]
 refine L.bd #[(.bool (!n)), (.slice a l.length c)] (pl := [(0, (.bool (!n))), (1, (.slice a l.length c))]) (z := .agg #[.bool false, .slice none 0 0]) rfl rfl rfl (by kernel_rfl) rfl ?_
 repeat first|apply wg|refine ss rfl ?_|apply nl
 refine L.cl (rzForm_C ⟨!n, a, c, l, rfl, h1.cons hc, hl, rfl⟩ hi) rfl rfl ?_
 rintro _ T' ⟨⟨a9, c9, rfl, w9⟩, k'⟩
 refine ⟨fun _ => k', ?_⟩
 replace hc := hc.trans k'
 repeat first|apply wg|refine ss rfl ?_|apply nl
 refine L.st2 (Cons.row (h := hc) rb4) rfl rfl rfl rfl rfl rfl (fun T2 kk r2 => ?_)
 repeat first|apply wg|refine ss rfl ?_|apply nl
 exact ⟨.inr rfl, _, res1 rfl (load2 r2 rfl), ⟨a9, c9, rfl, w9.kn kk (Cons.row (h := hc) rb4) noW⟩, kk.mono (kM.trans hc) g4⟩
theorem rzTimes_C (hx : ZIn S u x i) (hy : ZIn S v y j) (hi : i < 10000) (hj : j < 10000) : C Tryz.prog gN Ext 61 [u, v] S fun w S' => ZIs S' w (x * y) ∧ Cons S S' := by
 obtain ⟨n, a1, c1, l, rfl, h1, hl, rfl⟩ := hx
 obtain ⟨m, a2, c2, k, rfl, h2, hk, rfl⟩ := hy
 refine C.fn Tryz.func61 rfl (by kernel_rfl) rfl ?_
 repeat first|apply wg|refine ss rfl ?_|apply nl
 refine L.nr [.bool n, .slice a1 l.length c1] wT rfl rfl (fun b2 Tb2 gb2 kb2 rb2 => ?_)
 refine L.nr [.bool m, .slice a2 k.length c2] wT rfl rfl (fun b3 Tb3 gb3 kb3 rb3 => ?_)
 refine L.nr [.bool false, .slice none 0 0] wT rfl rfl (fun b4 Tb4 gb4 kb4 rb4 => ?_)
 have kM := (kb2.trans kb3).trans kb4
 have g4 : S.length ≤ b4 := Nat.le_trans (kb2.trans kb3).len gb4
 replace rb2 := Cons.row (h := kb3.trans kb4) rb2
 replace rb3 := Cons.row (h := kb4) rb3
 replace h1 := h1.cons kM
 replace h2 := h2.cons kM
 have hc := Cons.refl Tb4
 clear kb2 kb3 kb4 gb2 gb3 gb4
 repeat first|apply wg|refine ss rfl ?_|apply nl
 refine L.zf (Cons.row (h := hc) rb2) rfl rfl rfl rfl rfl ?_
 repeat first|apply wg|refine ss rfl ?_|apply nl
 refine L.zf (Cons.row (h := hc) rb3) rfl rfl rfl rfl rfl ?_
 repeat first|apply wg|refine ss rfl ?_|apply nl
 refine L.zf (Cons.row (h := hc) rb2) rfl rfl rfl rfl rfl ?_
 repeat first|apply wg|refine ss rfl ?_|apply nl
 refine L.zf (Cons.row (h := hc) rb3) rfl rfl rfl rfl rfl ?_
 repeat first|apply wg|refine ss rfl ?_|apply nl
 refine L.cl (timesR_C _ _ _ _ l k _ (h1.cons hc) (h2.cons hc) (by omega) (by omega)) rfl rfl ?_
 rintro _ T' ⟨k', a8, c8, rfl, w8⟩
 refine ⟨fun _ => k', ?_⟩
 replace hc := hc.trans k'
 repeat first|apply wg|refine ss rfl ?_|apply nl
 rw [zmul]
 refine L.bd #[(.bool (n != m)), (.slice a8 (toW (wnum l * wnum k)).length c8)] (pl := [(0, (.bool (n != m))), (1, (.slice a8 (toW (wnum l * wnum k)).length c8))]) (z := .agg #[.bool false, .slice none 0 0]) rfl rfl rfl (by kernel_rfl) rfl ?_
 repeat first|apply wg|refine ss rfl ?_|apply nl
 refine L.cl (rzForm_C ⟨n != m, a8, c8, _, rfl, w8, mul_le (num_len hl) (num_len hk), rfl⟩ (by omega)) rfl rfl ?_
 rintro _ T' ⟨⟨a9, c9, rfl, w9⟩, k'⟩
 refine ⟨fun _ => k', ?_⟩
 replace hc := hc.trans k'
 repeat first|apply wg|refine ss rfl ?_|apply nl
 refine L.st2 (Cons.row (h := hc) rb4) rfl rfl rfl rfl rfl rfl (fun T2 kk r2 => ?_)
 repeat first|apply wg|refine ss rfl ?_|apply nl
 exact ⟨.inr rfl, _, res1 rfl (load2 r2 rfl), ⟨a9, c9, rfl, w9.kn kk (Cons.row (h := hc) rb4) noW⟩, kk.mono (kM.trans hc) g4⟩
theorem rzPlus_C (hx : ZIn S u x i) (hy : ZIn S v y j) (hi : i < 10000) (hj : j < 10000) : C Tryz.prog gN Ext 74 [u, v] S fun w S' => ZIs S' w (x + y) ∧ Cons S S' := by
 obtain ⟨n, a1, c1, l, rfl, h1, hl, rfl⟩ := hx
 obtain ⟨m, a2, c2, k, rfl, h2, hk, rfl⟩ := hy
 refine C.fn Tryz.func74 rfl (by kernel_rfl) rfl ?_
 repeat first|apply wg|refine ss rfl ?_|apply nl
 refine L.nr [.bool n, .slice a1 l.length c1] wT rfl rfl (fun b2 Tb2 gb2 kb2 rb2 => ?_)
 refine L.nr [.bool m, .slice a2 k.length c2] wT rfl rfl (fun b3 Tb3 gb3 kb3 rb3 => ?_)
 refine L.nr [.bool false, .slice none 0 0] wT rfl rfl (fun b4 Tb4 gb4 kb4 rb4 => ?_)
 have kM := (kb2.trans kb3).trans kb4
 have g4 : S.length ≤ b4 := Nat.le_trans (kb2.trans kb3).len gb4
 replace rb2 := Cons.row (h := kb3.trans kb4) rb2
 replace rb3 := Cons.row (h := kb4) rb3
 replace h1 := h1.cons kM
 replace h2 := h2.cons kM
 have hc := Cons.refl Tb4
 clear kb2 kb3 kb4 gb2 gb3 gb4
 repeat first|apply wg|refine ss rfl ?_|apply nl
 refine L.zf (Cons.row (h := hc) rb2) rfl rfl rfl rfl rfl ?_
 repeat first|apply wg|refine ss rfl ?_|apply nl
 refine L.zf (Cons.row (h := hc) rb3) rfl rfl rfl rfl rfl ?_
 repeat first|apply wg|refine ss rfl ?_|apply nl
 by_cases hnm : n = m
 ·subst hnm
  rw [show (n == n) = true from beq_self_eq_true n]
  repeat first|apply wg|refine ss rfl ?_|apply nl
  refine W.ite rfl (fun h => ?_) (fun h => ?_)
  rotate_left
  ·cases h
  clear h
  repeat first|apply wg|refine ss rfl ?_|apply nl
  refine L.zf (Cons.row (h := hc) rb2) rfl rfl rfl rfl rfl ?_
  repeat first|apply wg|refine ss rfl ?_|apply nl
  refine L.zf (Cons.row (h := hc) rb2) rfl rfl rfl rfl rfl ?_
  repeat first|apply wg|refine ss rfl ?_|apply nl
  refine L.zf (Cons.row (h := hc) rb3) rfl rfl rfl rfl rfl ?_
  repeat first|apply wg|refine ss rfl ?_|apply nl
  refine L.cl (plusR_C _ _ _ _ l k _ (h1.cons hc) (h2.cons hc) (by omega) (by omega)) rfl rfl ?_
  rintro _ T' ⟨k', a8, c8, rfl, w8⟩
  refine ⟨fun _ => k', ?_⟩
  replace hc := hc.trans k'
  repeat first|apply wg|refine ss rfl ?_|apply nl
  rw [zadd_same]
  refine L.bd #[(.bool n), (.slice a8 (toW (wnum l + wnum k)).length c8)] (pl := [(0, (.bool n)), (1, (.slice a8 (toW (wnum l + wnum k)).length c8))]) (z := .agg #[.bool false, .slice none 0 0]) rfl rfl rfl (by kernel_rfl) rfl ?_
  repeat first|apply wg|refine ss rfl ?_|apply nl
  refine L.cl (rzForm_C ⟨n, a8, c8, _, rfl, w8, sum_le (num_len hl) (num_len hk), rfl⟩ (by omega)) rfl rfl ?_
  rintro _ T' ⟨⟨a9, c9, rfl, w9⟩, k'⟩
  refine ⟨fun _ => k', ?_⟩
  replace hc := hc.trans k'
  repeat first|apply wg|refine ss rfl ?_|apply nl
  refine L.st2 (Cons.row (h := hc) rb4) rfl rfl rfl rfl rfl rfl (fun T2 kk r2 => ?_)
  repeat first|apply wg|refine ss rfl ?_|apply nl
  exact ⟨.inr rfl, _, res1 rfl (load2 r2 rfl), ⟨a9, c9, rfl, w9.kn kk (Cons.row (h := hc) rb4) noW⟩, kk.mono (kM.trans hc) g4⟩
 ·rw [show (n == m) = false from beq_eq_false_iff_ne.2 hnm]
  repeat first|apply wg|refine ss rfl ?_|apply nl
  refine W.ite rfl (fun h => ?_) (fun h => ?_)
  ·cases h
  clear h
  repeat first|apply wg|refine ss rfl ?_|apply nl
  refine L.zf (Cons.row (h := hc) rb2) rfl rfl rfl rfl rfl ?_
  repeat first|apply wg|refine ss rfl ?_|apply nl
  refine L.zf (Cons.row (h := hc) rb3) rfl rfl rfl rfl rfl ?_
  repeat first|apply wg|refine ss rfl ?_|apply nl
  refine L.cv (compareR_C _ _ _ _ l k _ (h1.cons hc) (h2.cons hc) (by omega) (by omega)) rfl rfl fun T' k' => ?_
  replace hc := hc.trans k'
  repeat first|apply wg|refine ss rfl ?_|apply nl
  refine W.ite rfl (fun h => ?_) (fun h => ?_)
  ·have hge : wnum k ≤ wnum l := by
    have := of_decide_eq_true h
    unfold cmpI at this
    split at this <;> omega
   clear h
   repeat first|apply wg|refine ss rfl ?_|apply nl
   refine L.zf (Cons.row (h := hc) rb2) rfl rfl rfl rfl rfl ?_
   repeat first|apply wg|refine ss rfl ?_|apply nl
   refine L.zf (Cons.row (h := hc) rb2) rfl rfl rfl rfl rfl ?_
   repeat first|apply wg|refine ss rfl ?_|apply nl
   refine L.zf (Cons.row (h := hc) rb3) rfl rfl rfl rfl rfl ?_
   repeat first|apply wg|refine ss rfl ?_|apply nl
   refine L.cl (minusR_C _ _ _ _ l k _ (h1.cons hc) (h2.cons hc) (by omega) (by omega) hge) rfl rfl ?_
   rintro _ T' ⟨k', a8, c8, rfl, w8⟩
   refine ⟨fun _ => k', ?_⟩
   replace hc := hc.trans k'
   repeat first|apply wg|refine ss rfl ?_|apply nl
   rw [zadd_ge hnm hge]
   refine L.bd #[(.bool n), (.slice a8 (toW (wnum l - wnum k)).length c8)] (pl := [(0, (.bool n)), (1, (.slice a8 (toW (wnum l - wnum k)).length c8))]) (z := .agg #[.bool false, .slice none 0 0]) rfl rfl rfl (by kernel_rfl) rfl ?_
   repeat first|apply wg|refine ss rfl ?_|apply nl
   refine L.cl (rzForm_C ⟨n, a8, c8, _, rfl, w8, le_len (num_len hl) (Nat.sub_le _ _), rfl⟩ (by omega)) rfl rfl ?_
   rintro _ T' ⟨⟨a9, c9, rfl, w9⟩, k'⟩
   refine ⟨fun _ => k', ?_⟩
   replace hc := hc.trans k'
   repeat first|apply wg|refine ss rfl ?_|apply nl
   refine L.st2 (Cons.row (h := hc) rb4) rfl rfl rfl rfl rfl rfl (fun T2 kk r2 => ?_)
   repeat first|apply wg|refine ss rfl ?_|apply nl
   exact ⟨.inr rfl, _, res1 rfl (load2 r2 rfl), ⟨a9, c9, rfl, w9.kn kk (Cons.row (h := hc) rb4) noW⟩, kk.mono (kM.trans hc) g4⟩
  ·have hge : wnum l ≤ wnum k := by
    have := of_decide_eq_false h
    unfold cmpI at this
    split at this <;> omega
   clear h
   repeat first|apply wg|refine ss rfl ?_|apply nl
   refine L.zf (Cons.row (h := hc) rb3) rfl rfl rfl rfl rfl ?_
   repeat first|apply wg|refine ss rfl ?_|apply nl
   refine L.zf (Cons.row (h := hc) rb3) rfl rfl rfl rfl rfl ?_
   repeat first|apply wg|refine ss rfl ?_|apply nl
   refine L.zf (Cons.row (h := hc) rb2) rfl rfl rfl rfl rfl ?_
   repeat first|apply wg|refine ss rfl ?_|apply nl
   refine L.cl (minusR_C _ _ _ _ k l _ (h2.cons hc) (h1.cons hc) (by omega) (by omega) hge) rfl rfl ?_
   rintro _ T' ⟨k', a8, c8, rfl, w8⟩
   refine ⟨fun _ => k', ?_⟩
   replace hc := hc.trans k'
   repeat first|apply wg|refine ss rfl ?_|apply nl
   rw [zadd_lt hnm hge]
   refine L.bd #[(.bool m), (.slice a8 (toW (wnum k - wnum l)).length c8)] (pl := [(0, (.bool m)), (1, (.slice a8 (toW (wnum k - wnum l)).length c8))]) (z := .agg #[.bool false, .slice none 0 0]) rfl rfl rfl (by kernel_rfl) rfl ?_
   repeat first|apply wg|refine ss rfl ?_|apply nl
   refine L.cl (rzForm_C ⟨m, a8, c8, _, rfl, w8, le_len (num_len hk) (Nat.sub_le _ _), rfl⟩ (by omega)) rfl rfl ?_
   rintro _ T' ⟨⟨a9, c9, rfl, w9⟩, k'⟩
   refine ⟨fun _ => k', ?_⟩
   replace hc := hc.trans k'
   repeat first|apply wg|refine ss rfl ?_|apply nl
   refine L.st2 (Cons.row (h := hc) rb4) rfl rfl rfl rfl rfl rfl (fun T2 kk r2 => ?_)
   repeat first|apply wg|refine ss rfl ?_|apply nl
   exact ⟨.inr rfl, _, res1 rfl (load2 r2 rfl), ⟨a9, c9, rfl, w9.kn kk (Cons.row (h := hc) rb4) noW⟩, kk.mono (kM.trans hc) g4⟩
theorem rzSign_C (hx : ZIn S u x i) (hi : i < 100000) : C Tryz.prog gN Ext 44 [u] S fun w S' => w = .int .i64 (cmpI x 0) ∧ Cons S S' := by
 obtain ⟨n, a, c, l, rfl, h1, hl, rfl⟩ := hx
 refine C.fn Tryz.func44 rfl (by kernel_rfl) rfl ?_
 repeat first|apply wg|refine ss rfl ?_|apply nl
 refine L.nr [.bool n, .slice a l.length c] wT rfl rfl (fun b2 Tb2 gb2 kb2 rb2 => ?_)
 have hc := Cons.refl Tb2
 repeat first|apply wg|refine ss rfl ?_|apply nl
 refine L.z2 (Cons.row (h := hc) rb2) rfl rfl rfl ?_
 repeat first|apply wg|refine ss rfl ?_|apply nl
 refine L.cl (rzForm_C ⟨n, a, c, l, rfl, h1.cons (kb2.trans hc), hl, rfl⟩ hi) rfl rfl ?_
 rintro _ T' ⟨⟨a9, c9, rfl, w9⟩, k'⟩
 refine ⟨fun _ => k', ?_⟩
 replace hc := hc.trans k'
 repeat first|apply wg|refine ss rfl ?_|apply nl
 generalize zv n l = x at *
 refine L.nr [.bool false, .slice none 0 0] wT rfl rfl (fun b5 T5 g5 k5 r5 => ?_)
 refine L.st2 r5 rfl rfl rfl rfl rfl rfl (fun T6 kk6 r6 => ?_)
 have hf := (kb2.trans hc).trans (kk6.mono k5 g5)
 repeat first|apply wg|refine ss rfl ?_|apply nl
 refine L.zf r6 rfl rfl rfl rfl rfl ?_
 repeat first|apply wg|refine ss rfl ?_|apply nl
 have hp := @toW_pos_len x.natAbs
 rcases Int.lt_trichotomy x 0 with hx | hx | hx
 ·refine W.ite rfl (fun h => ?_) (fun h => ?_)
  ·have : ((toW x.natAbs).length : Int) = 0 := of_decide_eq_true h
   omega
  clear h
  repeat first|apply wg|refine ss rfl ?_|apply nl
  refine L.zf r6 rfl rfl rfl rfl rfl ?_
  rw [decide_eq_true hx]
  repeat first|apply wg|refine ss rfl ?_|apply nl
  refine W.ite rfl (fun h => ?_) (fun h => ?_)
  rotate_left
  ·cases h
  clear h
  repeat first|apply wg|refine ss rfl ?_|apply nl
  exact ⟨.inr rfl, _, rfl, congrArg (Value.int .i64) (cmp_neg hx).symm, hf⟩
 ·subst hx
  refine W.ite rfl (fun h => ?_) (fun h => ?_)
  rotate_left
  ·have : ¬ ((toW (0 : Int).natAbs).length : Int) = 0 := of_decide_eq_false h
   exact absurd (by rw [show (0 : Int).natAbs = 0 from rfl, toW_zero]; rfl) this
  clear h
  repeat first|apply wg|refine ss rfl ?_|apply nl
  exact ⟨.inr rfl, _, rfl, rfl, hf⟩
 ·refine W.ite rfl (fun h => ?_) (fun h => ?_)
  ·have : ((toW x.natAbs).length : Int) = 0 := of_decide_eq_true h
   omega
  clear h
  repeat first|apply wg|refine ss rfl ?_|apply nl
  refine L.zf r6 rfl rfl rfl rfl rfl ?_
  rw [decide_eq_false (show ¬ x < 0 by omega)]
  repeat first|apply wg|refine ss rfl ?_|apply nl
  refine W.ite rfl (fun h => ?_) (fun h => ?_)
  ·cases h
  clear h
  repeat first|apply wg|refine ss rfl ?_|apply nl
  exact ⟨.inr rfl, _, rfl, congrArg (Value.int .i64) (cmp_pos hx).symm, hf⟩
end Go.Proofs.YtbiigbicgfchiaaGreatDoor

/- Layer 2's references: the calls by definition. Conditions: none. -/
namespace Go.Proofs.YtbiigbicgfchiaaGreatDoor
open Go Ie
variable {Ext : FuncId → List Value → Mem → Outc → Mem → Prop} {S : Mem} {u v : Value} {x y : Int} {i j : Nat}
def ZT (S S' : Mem) (w : Value) (E z : Int) : Prop := ∃ u, w = .tuple #[u, .int .i64 E] ∧ Cons S S' ∧ ZIs S' u (if E = 0 then z else 0)
theorem ZIs.z0 {S : Mem} {E z : Int} (h : E ≠ 0) : ZIs S (.agg #[.bool false, .slice none 0 0]) (if E = 0 then z else 0) := by rw [if_neg h]; exact ZIs.zero S
theorem zsum_lt (hx : x.natAbs < 2 ^ (64 * i)) (hy : y.natAbs < 2 ^ (64 * j)) : (x + y).natAbs < 2 ^ (64 * (i + j + 1)) := by
 have h1 : 2 ^ (64 * i) ≤ 2 ^ (64 * (i + j)) := Nat.pow_le_pow_right (by decide) (by omega)
 have h2 : 2 ^ (64 * j) ≤ 2 ^ (64 * (i + j)) := Nat.pow_le_pow_right (by decide) (by omega)
 have h3 : 2 ^ (64 * (i + j + 1)) = 2 ^ (64 * (i + j)) * 2 ^ 64 := by rw [← Nat.pow_add]; rfl
 omega
theorem zmul_lt (hx : x.natAbs < 2 ^ (64 * i)) (hy : y.natAbs < 2 ^ (64 * j)) : (x * y).natAbs < 2 ^ (64 * (i + j)) := by
 have h3 : 2 ^ (64 * (i + j)) = 2 ^ (64 * i) * 2 ^ (64 * j) := by rw [← Nat.pow_add, Nat.mul_add]
 rw [h3, Int.natAbs_mul]
 exact Nat.mul_lt_mul'' hx hy
theorem rzTold_C (hx : ZIn S u x i) (hi : i < 100000) : C Tryz.prog gN Ext 73 [u] S fun w S' => ZT S S' w (zE x) x := by
 obtain ⟨n, a, c, l, rfl, h1, hl, rfl⟩ := hx
 refine C.fn Tryz.func73 rfl (by kernel_rfl) rfl ?_
 repeat first|apply wg|refine ss rfl ?_|apply nl
 refine L.nr [.bool n, .slice a l.length c] wT rfl rfl (fun b2 Tb2 gb2 kb2 rb2 => ?_)
 refine L.nr [.bool false, .slice none 0 0] wT rfl rfl (fun b4 Tb4 gb4 kb4 rb4 => ?_)
 have kM := kb2.trans kb4
 have g4 : S.length ≤ b4 := Nat.le_trans kb2.len gb4
 replace rb2 := Cons.row (h := kb4) rb2
 replace h1 := h1.cons kM
 have hc := Cons.refl Tb4
 clear kb2 kb4 gb2 gb4
 repeat first|apply wg|refine ss rfl ?_|apply nl
 refine L.z2 (Cons.row (h := hc) rb2) rfl rfl rfl ?_
 repeat first|apply wg|refine ss rfl ?_|apply nl
 refine L.cv (rzFits_C ⟨n, a, c, l, rfl, h1.cons hc, hl, rfl⟩ hi) rfl rfl fun T' k' => ?_
 replace hc := hc.trans k'
 repeat first|apply wg|refine ss rfl ?_|apply nl
 rw [zfz_E]
 cases hz : zfz (zv n l)
 ·repeat first|apply wg|refine ss rfl ?_|apply nl
  refine W.ite rfl (fun h => ?_) (fun h => ?_)
  rotate_left
  ·cases h
  clear h
  repeat first|apply wg|refine ss rfl ?_|apply nl
  refine L.bd #[.bool false, .slice none 0 0] (pl := []) (z := .agg #[.bool false, .slice none 0 0]) rfl rfl rfl (by kernel_rfl) rfl ?_
  repeat first|apply wg|refine ss rfl ?_|apply nl
  refine L.st2 (Cons.row (h := hc) rb4) rfl rfl rfl rfl rfl rfl (fun T2 kk r2 => ?_)
  repeat first|apply wg|refine ss rfl ?_|apply nl
  exact ⟨.inr rfl, _, res2 rfl (load2 r2 rfl), _, rfl, kk.mono (kM.trans hc) g4, ZIs.z0 (by decide)⟩
 ·repeat first|apply wg|refine ss rfl ?_|apply nl
  refine W.ite rfl (fun h => ?_) (fun h => ?_)
  ·cases h
  clear h
  repeat first|apply wg|refine ss rfl ?_|apply nl
  refine L.z2 (Cons.row (h := hc) rb2) rfl rfl rfl ?_
  repeat first|apply wg|refine ss rfl ?_|apply nl
  refine L.cl (rzForm_C ⟨n, a, c, l, rfl, h1.cons hc, hl, rfl⟩ hi) rfl rfl ?_
  rintro _ T' ⟨⟨a9, c9, rfl, w9⟩, k'⟩
  refine ⟨fun _ => k', ?_⟩
  replace hc := hc.trans k'
  repeat first|apply wg|refine ss rfl ?_|apply nl
  refine L.st2 (Cons.row (h := hc) rb4) rfl rfl rfl rfl rfl rfl (fun T2 kk r2 => ?_)
  repeat first|apply wg|refine ss rfl ?_|apply nl
  exact ⟨.inr rfl, _, res2 rfl (load2 r2 rfl), _, rfl, kk.mono (kM.trans hc) g4, ⟨a9, c9, rfl, w9.kn kk (Cons.row (h := hc) rb4) noW⟩⟩
theorem rzMake_C (n : Bool) (a : Option Addr) (c : Nat) (l : WL) (h1 : WIn S a c l) (hl : l.length < 10000) : C Tryz.prog gN Ext 41 [.bool n, .slice a l.length c] S fun w S' => ZT S S' w (zE (zv n l)) (zv n l) := by
 refine C.fn Tryz.func41 rfl (by kernel_rfl) rfl ?_
 repeat first|apply wg|refine ss rfl ?_|apply nl
 refine L.nr [.bool false, .slice none 0 0] wT rfl rfl (fun b4 Tb4 gb4 kb4 rb4 => ?_)
 have kM := kb4
 have g4 := gb4
 replace h1 := h1.cons kM
 have hc := Cons.refl Tb4
 clear kb4 gb4
 repeat first|apply wg|refine ss rfl ?_|apply nl
 refine L.bd #[(.bool n), (.slice a l.length c)] (pl := [(0, (.bool n)), (1, (.slice a l.length c))]) (z := .agg #[.bool false, .slice none 0 0]) rfl rfl rfl (by kernel_rfl) rfl ?_
 repeat first|apply wg|refine ss rfl ?_|apply nl
 refine L.cl (rzTold_C (i := 10000) ⟨n, a, c, l, rfl, h1.cons hc, by omega, rfl⟩ (by decide)) rfl rfl ?_
 rintro _ T' ⟨_, rfl, k', a9, c9, rfl, w9⟩
 refine ⟨fun _ => k', ?_⟩
 replace hc := hc.trans k'
 repeat first|apply wg|refine ss rfl ?_|apply nl
 refine L.st2 (Cons.row (h := hc) rb4) rfl rfl rfl rfl rfl rfl (fun T2 kk r2 => ?_)
 repeat first|apply wg|refine ss rfl ?_|apply nl
 exact ⟨.inr rfl, _, res2 rfl (load2 r2 rfl), _, rfl, kk.mono (kM.trans hc) g4, ⟨a9, c9, rfl, w9.kn kk (Cons.row (h := hc) rb4) noW⟩⟩
theorem smallR_C (w : BitVec 64) (S : Mem) : C Tryz.prog gN Ext 84 [v64 w] S fun v S' => RefW S S' v (toW w.toNat) := by
 refine C.fn Tryz.func84 rfl (by kernel_rfl) rfl ?_
 unfold v64
 repeat first|apply wg|refine ss rfl ?_|apply nl
 refine W.ite rfl (fun h => ?_) (fun h => ?_)
 ·have h0 : (w.toNat : Int) = 0 := of_decide_eq_true h
  rw [show w.toNat = 0 by omega, toW_zero]
  repeat first|apply wg|refine ss rfl ?_|apply nl
  exact ⟨.inr rfl, _, rfl, Cons.refl S, none, 0, rfl, nilZ S⟩
 ·have h0 : ¬ (w.toNat : Int) = 0 := of_decide_eq_false h
  rw [toW_one (by omega) w.isLt]
  have e : BitVec.ofNat 64 w.toNat = w := by simp
  rw [e]
  repeat first|apply wg|refine ss rfl ?_|apply nl
  refine L.bsW [w] rfl rfl rfl rfl rfl rfl (fun bw Tw kw iw => ?_)
  repeat first|apply wg|refine ss rfl ?_|apply nl
  exact ⟨.inr rfl, _, rfl, kw, some ⟨bw, 0, none⟩, 1, rfl, iw⟩
theorem rzInt_C (z : Int) (S : Mem) (hz : -9223372036854775808 ≤ z ∧ z ≤ 9223372036854775807) : C Tryz.prog gN Ext 50 [.int .i64 z] S fun w S' => ZIs S' w z ∧ Cons S S' := by
 refine C.fn Tryz.func50 rfl (by kernel_rfl) rfl ?_
 repeat first|apply wg|refine ss rfl ?_|apply nl
 refine L.nr [.bool false, .slice none 0 0] wT rfl rfl (fun b4 Tb4 gb4 kb4 rb4 => ?_)
 have kM := kb4
 have g4 := gb4
 have hc := Cons.refl Tb4
 clear kb4 gb4
 repeat first|apply wg|refine ss rfl ?_|apply nl
 obtain ⟨w, hw⟩ : ∃ w : BitVec 64, w.toNat = z.natAbs := ⟨BitVec.ofNat 64 z.natAbs, by rw [BitVec.toNat_ofNat]; exact Nat.mod_eq_of_lt (by omega)⟩
 by_cases hzn : z < 0
 ·have e1 : IntKind.u64.wrap (0 - IntKind.u64.wrap z) = (w.toNat : Int) := by
   have : IntKind.u64.wrap z = z + 18446744073709551616 := by
    simp only [IntKind.wrap, IntKind.bits, IntKind.signed, Bool.false_and, Bool.false_eq_true, if_false]
    omega
   rw [this]
   simp only [IntKind.wrap, IntKind.bits, IntKind.signed, Bool.false_and, Bool.false_eq_true, if_false]
   omega
  rw [decide_eq_true hzn]
  repeat first|apply wg|refine ss rfl ?_|apply nl
  refine W.ite rfl (fun h => ?_) (fun h => ?_)
  rotate_left
  ·cases h
  clear h
  repeat first|apply wg|refine ss rfl ?_|apply nl
  rw [e1]
  refine L.cl (smallR_C w _) rfl rfl ?_
  rintro _ T' ⟨k', a9, c9, rfl, w9⟩
  refine ⟨fun _ => k', ?_⟩
  replace hc := hc.trans k'
  repeat first|apply wg|refine ss rfl ?_|apply nl
  rw [hw] at w9 ⊢
  rw [show decide (z < 0) = true from decide_eq_true hzn]
  refine L.bd #[(.bool true), (.slice a9 (toW z.natAbs).length c9)] (pl := [(0, (.bool true)), (1, (.slice a9 (toW z.natAbs).length c9))]) (z := .agg #[.bool false, .slice none 0 0]) rfl rfl rfl (by kernel_rfl) rfl ?_
  repeat first|apply wg|refine ss rfl ?_|apply nl
  rw [show true = decide (z < 0) from (decide_eq_true hzn).symm]
  refine L.st2 (Cons.row (h := hc) rb4) rfl rfl rfl rfl rfl rfl (fun T2 kk r2 => ?_)
  repeat first|apply wg|refine ss rfl ?_|apply nl
  exact ⟨.inr rfl, _, res1 rfl (load2 r2 rfl), ⟨a9, c9, rfl, w9.kn kk (Cons.row (h := hc) rb4) noW⟩, kk.mono (kM.trans hc) g4⟩
 ·have e1 : IntKind.u64.wrap z = (w.toNat : Int) := by rw [wrapU64 (by omega) (by omega)]; omega
  rw [decide_eq_false hzn]
  rw [e1]
  repeat first|apply wg|refine ss rfl ?_|apply nl
  refine W.ite rfl (fun h => ?_) (fun h => ?_)
  ·cases h
  clear h
  repeat first|apply wg|refine ss rfl ?_|apply nl
  refine L.cl (smallR_C w _) rfl rfl ?_
  rintro _ T' ⟨k', a9, c9, rfl, w9⟩
  refine ⟨fun _ => k', ?_⟩
  replace hc := hc.trans k'
  repeat first|apply wg|refine ss rfl ?_|apply nl
  rw [hw] at w9 ⊢
  rw [show decide (z < 0) = false from decide_eq_false hzn]
  refine L.bd #[(.bool false), (.slice a9 (toW z.natAbs).length c9)] (pl := [(0, (.bool false)), (1, (.slice a9 (toW z.natAbs).length c9))]) (z := .agg #[.bool false, .slice none 0 0]) rfl rfl rfl (by kernel_rfl) rfl ?_
  repeat first|apply wg|refine ss rfl ?_|apply nl
  rw [show false = decide (z < 0) from (decide_eq_false hzn).symm]
  refine L.st2 (Cons.row (h := hc) rb4) rfl rfl rfl rfl rfl rfl (fun T2 kk r2 => ?_)
  repeat first|apply wg|refine ss rfl ?_|apply nl
  exact ⟨.inr rfl, _, res1 rfl (load2 r2 rfl), ⟨a9, c9, rfl, w9.kn kk (Cons.row (h := hc) rb4) noW⟩, kk.mono (kM.trans hc) g4⟩
def zz2 (x y z : Int) : Int := if zfz x && zfz y then zE z else 3
theorem zE2_zv (n m : Bool) (l k : WL) (z : Int) : zE2 l k z = zz2 (zv n l) (zv m k) z := by unfold zE2 zz2; rw [zfit_zv n, zfit_zv m]
theorem rzAdd_C (hx : ZIn S u x i) (hy : ZIn S v y j) (hi : i < 1000) (hj : j < 1000) : C Tryz.prog gN Ext 35 [u, v] S fun w S' => ZT S S' w (zz2 x y (x + y)) (x + y) := by
 have bx := hx.lt
 have byy := hy.lt
 obtain ⟨n, a1, c1, l, rfl, h1, hl, rfl⟩ := hx
 obtain ⟨m, a2, c2, k, rfl, h2, hk, rfl⟩ := hy
 refine C.fn Tryz.func35 rfl (by kernel_rfl) rfl ?_
 repeat first|apply wg|refine ss rfl ?_|apply nl
 refine L.nr [.bool n, .slice a1 l.length c1] wT rfl rfl (fun b2 Tb2 gb2 kb2 rb2 => ?_)
 refine L.nr [.bool m, .slice a2 k.length c2] wT rfl rfl (fun b3 Tb3 gb3 kb3 rb3 => ?_)
 refine L.nr [.bool false, .slice none 0 0] wT rfl rfl (fun b4 Tb4 gb4 kb4 rb4 => ?_)
 have kM := (kb2.trans kb3).trans kb4
 have g4 : S.length ≤ b4 := Nat.le_trans (kb2.trans kb3).len gb4
 replace rb2 := Cons.row (h := kb3.trans kb4) rb2
 replace rb3 := Cons.row (h := kb4) rb3
 replace h1 := h1.cons kM
 replace h2 := h2.cons kM
 have hc := Cons.refl Tb4
 clear kb2 kb3 kb4 gb2 gb3 gb4
 repeat first|apply wg|refine ss rfl ?_|apply nl
 unfold zz2
 refine L.z2 (Cons.row (h := hc) rb2) rfl rfl rfl ?_
 repeat first|apply wg|refine ss rfl ?_|apply nl
 refine L.cv (rzFits_C ⟨n, a1, c1, l, rfl, h1.cons hc, hl, rfl⟩ (by omega)) rfl rfl fun T' k' => ?_
 replace hc := hc.trans k'
 repeat first|apply wg|refine ss rfl ?_|apply nl
 cases hfx : zfz (zv n l)
 ·rw [show (false && zfz (zv m k)) = false from rfl, if_neg Bool.false_ne_true]
  repeat first|apply wg|refine ss rfl ?_|apply nl
  refine W.ite rfl (fun h => ?_) (fun h => ?_)
  rotate_left
  ·cases h
  clear h
  repeat first|apply wg|refine ss rfl ?_|apply nl
  refine L.bd #[.bool false, .slice none 0 0] (pl := []) (z := .agg #[.bool false, .slice none 0 0]) rfl rfl rfl (by kernel_rfl) rfl ?_
  repeat first|apply wg|refine ss rfl ?_|apply nl
  refine L.st2 (Cons.row (h := hc) rb4) rfl rfl rfl rfl rfl rfl (fun T2 kk r2 => ?_)
  repeat first|apply wg|refine ss rfl ?_|apply nl
  exact ⟨.inr rfl, _, res2 rfl (load2 r2 rfl), _, rfl, kk.mono (kM.trans hc) g4, ZIs.z0 (by decide)⟩
 repeat first|apply wg|refine ss rfl ?_|apply nl
 refine L.z2 (Cons.row (h := hc) rb3) rfl rfl rfl ?_
 repeat first|apply wg|refine ss rfl ?_|apply nl
 refine L.cv (rzFits_C ⟨m, a2, c2, k, rfl, h2.cons hc, hk, rfl⟩ (by omega)) rfl rfl fun T' k' => ?_
 replace hc := hc.trans k'
 repeat first|apply wg|refine ss rfl ?_|apply nl
 cases hfy : zfz (zv m k)
 ·rw [show (true && false) = false from rfl, if_neg Bool.false_ne_true]
  repeat first|apply wg|refine ss rfl ?_|apply nl
  refine W.ite rfl (fun h => ?_) (fun h => ?_)
  rotate_left
  ·cases h
  clear h
  repeat first|apply wg|refine ss rfl ?_|apply nl
  refine L.bd #[.bool false, .slice none 0 0] (pl := []) (z := .agg #[.bool false, .slice none 0 0]) rfl rfl rfl (by kernel_rfl) rfl ?_
  repeat first|apply wg|refine ss rfl ?_|apply nl
  refine L.st2 (Cons.row (h := hc) rb4) rfl rfl rfl rfl rfl rfl (fun T2 kk r2 => ?_)
  repeat first|apply wg|refine ss rfl ?_|apply nl
  exact ⟨.inr rfl, _, res2 rfl (load2 r2 rfl), _, rfl, kk.mono (kM.trans hc) g4, ZIs.z0 (by decide)⟩
 repeat first|apply wg|refine ss rfl ?_|apply nl
 refine W.ite rfl (fun h => ?_) (fun h => ?_)
 ·cases h
 clear h
 rw [show (true && true) = true from rfl, if_pos rfl]
 repeat first|apply wg|refine ss rfl ?_|apply nl
 refine L.z2 (Cons.row (h := hc) rb2) rfl rfl rfl ?_
 repeat first|apply wg|refine ss rfl ?_|apply nl
 refine L.z2 (Cons.row (h := hc) rb3) rfl rfl rfl ?_
 repeat first|apply wg|refine ss rfl ?_|apply nl
 refine L.cl (rzPlus_C (i := i) (j := j) ⟨n, a1, c1, l, rfl, h1.cons hc, hl, rfl⟩ ⟨m, a2, c2, k, rfl, h2.cons hc, hk, rfl⟩ (by omega) (by omega)) rfl rfl ?_
 rintro u8 T' ⟨hu8, k'⟩
 refine ⟨fun _ => k', ?_⟩
 replace hc := hc.trans k'
 repeat first|apply wg|refine ss rfl ?_|apply nl
 refine L.cl (rzTold_C (hu8.inn (zsum_lt bx byy)) (by omega)) rfl rfl ?_
 rintro _ T' ⟨_, rfl, k', a9, c9, rfl, w9⟩
 refine ⟨fun _ => k', ?_⟩
 replace hc := hc.trans k'
 repeat first|apply wg|refine ss rfl ?_|apply nl
 refine L.st2 (Cons.row (h := hc) rb4) rfl rfl rfl rfl rfl rfl (fun T2 kk r2 => ?_)
 repeat first|apply wg|refine ss rfl ?_|apply nl
 exact ⟨.inr rfl, _, res2 rfl (load2 r2 rfl), _, rfl, kk.mono (kM.trans hc) g4, ⟨a9, c9, rfl, w9.kn kk (Cons.row (h := hc) rb4) noW⟩⟩
theorem rzSub_C (hx : ZIn S u x i) (hy : ZIn S v y j) (hi : i < 1000) (hj : j < 1000) : C Tryz.prog gN Ext 36 [u, v] S fun w S' => ZT S S' w (zz2 x y (x - y)) (x - y) := by
 have bx := hx.lt
 have byy := hy.lt
 obtain ⟨n, a1, c1, l, rfl, h1, hl, rfl⟩ := hx
 obtain ⟨m, a2, c2, k, rfl, h2, hk, rfl⟩ := hy
 refine C.fn Tryz.func36 rfl (by kernel_rfl) rfl ?_
 repeat first|apply wg|refine ss rfl ?_|apply nl
 refine L.nr [.bool n, .slice a1 l.length c1] wT rfl rfl (fun b2 Tb2 gb2 kb2 rb2 => ?_)
 refine L.nr [.bool m, .slice a2 k.length c2] wT rfl rfl (fun b3 Tb3 gb3 kb3 rb3 => ?_)
 refine L.nr [.bool false, .slice none 0 0] wT rfl rfl (fun b4 Tb4 gb4 kb4 rb4 => ?_)
 have kM := (kb2.trans kb3).trans kb4
 have g4 : S.length ≤ b4 := Nat.le_trans (kb2.trans kb3).len gb4
 replace rb2 := Cons.row (h := kb3.trans kb4) rb2
 replace rb3 := Cons.row (h := kb4) rb3
 replace h1 := h1.cons kM
 replace h2 := h2.cons kM
 have hc := Cons.refl Tb4
 clear kb2 kb3 kb4 gb2 gb3 gb4
 repeat first|apply wg|refine ss rfl ?_|apply nl
 unfold zz2
 refine L.z2 (Cons.row (h := hc) rb2) rfl rfl rfl ?_
 repeat first|apply wg|refine ss rfl ?_|apply nl
 refine L.cv (rzFits_C ⟨n, a1, c1, l, rfl, h1.cons hc, hl, rfl⟩ (by omega)) rfl rfl fun T' k' => ?_
 replace hc := hc.trans k'
 repeat first|apply wg|refine ss rfl ?_|apply nl
 cases hfx : zfz (zv n l)
 ·rw [show (false && zfz (zv m k)) = false from rfl, if_neg Bool.false_ne_true]
  repeat first|apply wg|refine ss rfl ?_|apply nl
  refine W.ite rfl (fun h => ?_) (fun h => ?_)
  rotate_left
  ·cases h
  clear h
  repeat first|apply wg|refine ss rfl ?_|apply nl
  refine L.bd #[.bool false, .slice none 0 0] (pl := []) (z := .agg #[.bool false, .slice none 0 0]) rfl rfl rfl (by kernel_rfl) rfl ?_
  repeat first|apply wg|refine ss rfl ?_|apply nl
  refine L.st2 (Cons.row (h := hc) rb4) rfl rfl rfl rfl rfl rfl (fun T2 kk r2 => ?_)
  repeat first|apply wg|refine ss rfl ?_|apply nl
  exact ⟨.inr rfl, _, res2 rfl (load2 r2 rfl), _, rfl, kk.mono (kM.trans hc) g4, ZIs.z0 (by decide)⟩
 repeat first|apply wg|refine ss rfl ?_|apply nl
 refine L.z2 (Cons.row (h := hc) rb3) rfl rfl rfl ?_
 repeat first|apply wg|refine ss rfl ?_|apply nl
 refine L.cv (rzFits_C ⟨m, a2, c2, k, rfl, h2.cons hc, hk, rfl⟩ (by omega)) rfl rfl fun T' k' => ?_
 replace hc := hc.trans k'
 repeat first|apply wg|refine ss rfl ?_|apply nl
 cases hfy : zfz (zv m k)
 ·rw [show (true && false) = false from rfl, if_neg Bool.false_ne_true]
  repeat first|apply wg|refine ss rfl ?_|apply nl
  refine W.ite rfl (fun h => ?_) (fun h => ?_)
  rotate_left
  ·cases h
  clear h
  repeat first|apply wg|refine ss rfl ?_|apply nl
  refine L.bd #[.bool false, .slice none 0 0] (pl := []) (z := .agg #[.bool false, .slice none 0 0]) rfl rfl rfl (by kernel_rfl) rfl ?_
  repeat first|apply wg|refine ss rfl ?_|apply nl
  refine L.st2 (Cons.row (h := hc) rb4) rfl rfl rfl rfl rfl rfl (fun T2 kk r2 => ?_)
  repeat first|apply wg|refine ss rfl ?_|apply nl
  exact ⟨.inr rfl, _, res2 rfl (load2 r2 rfl), _, rfl, kk.mono (kM.trans hc) g4, ZIs.z0 (by decide)⟩
 repeat first|apply wg|refine ss rfl ?_|apply nl
 refine W.ite rfl (fun h => ?_) (fun h => ?_)
 ·cases h
 clear h
 rw [show (true && true) = true from rfl, if_pos rfl]
 repeat first|apply wg|refine ss rfl ?_|apply nl
 refine L.z2 (Cons.row (h := hc) rb2) rfl rfl rfl ?_
 repeat first|apply wg|refine ss rfl ?_|apply nl
 refine L.z2 (Cons.row (h := hc) rb3) rfl rfl rfl ?_
 repeat first|apply wg|refine ss rfl ?_|apply nl
 refine L.cl (rzTurned_C (i := j) ⟨m, a2, c2, k, rfl, h2.cons hc, hk, rfl⟩ (by omega)) rfl rfl ?_
 rintro u7 T' ⟨hu7, k'⟩
 refine ⟨fun _ => k', ?_⟩
 replace hc := hc.trans k'
 repeat first|apply wg|refine ss rfl ?_|apply nl
 have bz : (-(zv m k)).natAbs < 2 ^ (64 * j) := by rw [Int.natAbs_neg]; exact byy
 refine L.cl (rzPlus_C (i := i) (j := j) ⟨n, a1, c1, l, rfl, h1.cons hc, hl, rfl⟩ (hu7.inn bz) (by omega) (by omega)) rfl rfl ?_
 rintro u8 T' ⟨hu8, k'⟩
 refine ⟨fun _ => k', ?_⟩
 replace hc := hc.trans k'
 repeat first|apply wg|refine ss rfl ?_|apply nl
 rw [show zv n l + -zv m k = zv n l - zv m k from rfl] at hu8
 have bs := zsum_lt bx bz
 rw [show zv n l + -zv m k = zv n l - zv m k from rfl] at bs
 refine L.cl (rzTold_C (hu8.inn bs) (by omega)) rfl rfl ?_
 rintro _ T' ⟨_, rfl, k', a9, c9, rfl, w9⟩
 refine ⟨fun _ => k', ?_⟩
 replace hc := hc.trans k'
 repeat first|apply wg|refine ss rfl ?_|apply nl
 refine L.st2 (Cons.row (h := hc) rb4) rfl rfl rfl rfl rfl rfl (fun T2 kk r2 => ?_)
 repeat first|apply wg|refine ss rfl ?_|apply nl
 exact ⟨.inr rfl, _, res2 rfl (load2 r2 rfl), _, rfl, kk.mono (kM.trans hc) g4, ⟨a9, c9, rfl, w9.kn kk (Cons.row (h := hc) rb4) noW⟩⟩
theorem rzMul_C (hx : ZIn S u x i) (hy : ZIn S v y j) (hi : i < 1000) (hj : j < 1000) : C Tryz.prog gN Ext 37 [u, v] S fun w S' => ZT S S' w (zz2 x y (x * y)) (x * y) := by
 have bx := hx.lt
 have byy := hy.lt
 obtain ⟨n, a1, c1, l, rfl, h1, hl, rfl⟩ := hx
 obtain ⟨m, a2, c2, k, rfl, h2, hk, rfl⟩ := hy
 refine C.fn Tryz.func37 rfl (by kernel_rfl) rfl ?_
 repeat first|apply wg|refine ss rfl ?_|apply nl
 refine L.nr [.bool n, .slice a1 l.length c1] wT rfl rfl (fun b2 Tb2 gb2 kb2 rb2 => ?_)
 refine L.nr [.bool m, .slice a2 k.length c2] wT rfl rfl (fun b3 Tb3 gb3 kb3 rb3 => ?_)
 refine L.nr [.bool false, .slice none 0 0] wT rfl rfl (fun b4 Tb4 gb4 kb4 rb4 => ?_)
 have kM := (kb2.trans kb3).trans kb4
 have g4 : S.length ≤ b4 := Nat.le_trans (kb2.trans kb3).len gb4
 replace rb2 := Cons.row (h := kb3.trans kb4) rb2
 replace rb3 := Cons.row (h := kb4) rb3
 replace h1 := h1.cons kM
 replace h2 := h2.cons kM
 have hc := Cons.refl Tb4
 clear kb2 kb3 kb4 gb2 gb3 gb4
 repeat first|apply wg|refine ss rfl ?_|apply nl
 unfold zz2
 refine L.z2 (Cons.row (h := hc) rb2) rfl rfl rfl ?_
 repeat first|apply wg|refine ss rfl ?_|apply nl
 refine L.cv (rzFits_C ⟨n, a1, c1, l, rfl, h1.cons hc, hl, rfl⟩ (by omega)) rfl rfl fun T' k' => ?_
 replace hc := hc.trans k'
 repeat first|apply wg|refine ss rfl ?_|apply nl
 cases hfx : zfz (zv n l)
 ·rw [show (false && zfz (zv m k)) = false from rfl, if_neg Bool.false_ne_true]
  repeat first|apply wg|refine ss rfl ?_|apply nl
  refine W.ite rfl (fun h => ?_) (fun h => ?_)
  rotate_left
  ·cases h
  clear h
  repeat first|apply wg|refine ss rfl ?_|apply nl
  refine L.bd #[.bool false, .slice none 0 0] (pl := []) (z := .agg #[.bool false, .slice none 0 0]) rfl rfl rfl (by kernel_rfl) rfl ?_
  repeat first|apply wg|refine ss rfl ?_|apply nl
  refine L.st2 (Cons.row (h := hc) rb4) rfl rfl rfl rfl rfl rfl (fun T2 kk r2 => ?_)
  repeat first|apply wg|refine ss rfl ?_|apply nl
  exact ⟨.inr rfl, _, res2 rfl (load2 r2 rfl), _, rfl, kk.mono (kM.trans hc) g4, ZIs.z0 (by decide)⟩
 repeat first|apply wg|refine ss rfl ?_|apply nl
 refine L.z2 (Cons.row (h := hc) rb3) rfl rfl rfl ?_
 repeat first|apply wg|refine ss rfl ?_|apply nl
 refine L.cv (rzFits_C ⟨m, a2, c2, k, rfl, h2.cons hc, hk, rfl⟩ (by omega)) rfl rfl fun T' k' => ?_
 replace hc := hc.trans k'
 repeat first|apply wg|refine ss rfl ?_|apply nl
 cases hfy : zfz (zv m k)
 ·rw [show (true && false) = false from rfl, if_neg Bool.false_ne_true]
  repeat first|apply wg|refine ss rfl ?_|apply nl
  refine W.ite rfl (fun h => ?_) (fun h => ?_)
  rotate_left
  ·cases h
  clear h
  repeat first|apply wg|refine ss rfl ?_|apply nl
  refine L.bd #[.bool false, .slice none 0 0] (pl := []) (z := .agg #[.bool false, .slice none 0 0]) rfl rfl rfl (by kernel_rfl) rfl ?_
  repeat first|apply wg|refine ss rfl ?_|apply nl
  refine L.st2 (Cons.row (h := hc) rb4) rfl rfl rfl rfl rfl rfl (fun T2 kk r2 => ?_)
  repeat first|apply wg|refine ss rfl ?_|apply nl
  exact ⟨.inr rfl, _, res2 rfl (load2 r2 rfl), _, rfl, kk.mono (kM.trans hc) g4, ZIs.z0 (by decide)⟩
 repeat first|apply wg|refine ss rfl ?_|apply nl
 refine W.ite rfl (fun h => ?_) (fun h => ?_)
 ·cases h
 clear h
 rw [show (true && true) = true from rfl, if_pos rfl]
 repeat first|apply wg|refine ss rfl ?_|apply nl
 refine L.z2 (Cons.row (h := hc) rb2) rfl rfl rfl ?_
 repeat first|apply wg|refine ss rfl ?_|apply nl
 refine L.z2 (Cons.row (h := hc) rb3) rfl rfl rfl ?_
 repeat first|apply wg|refine ss rfl ?_|apply nl
 refine L.cl (rzTimes_C (i := i) (j := j) ⟨n, a1, c1, l, rfl, h1.cons hc, hl, rfl⟩ ⟨m, a2, c2, k, rfl, h2.cons hc, hk, rfl⟩ (by omega) (by omega)) rfl rfl ?_
 rintro u8 T' ⟨hu8, k'⟩
 refine ⟨fun _ => k', ?_⟩
 replace hc := hc.trans k'
 repeat first|apply wg|refine ss rfl ?_|apply nl
 refine L.cl (rzTold_C (hu8.inn (zmul_lt bx byy)) (by omega)) rfl rfl ?_
 rintro _ T' ⟨_, rfl, k', a9, c9, rfl, w9⟩
 refine ⟨fun _ => k', ?_⟩
 replace hc := hc.trans k'
 repeat first|apply wg|refine ss rfl ?_|apply nl
 refine L.st2 (Cons.row (h := hc) rb4) rfl rfl rfl rfl rfl rfl (fun T2 kk r2 => ?_)
 repeat first|apply wg|refine ss rfl ?_|apply nl
 exact ⟨.inr rfl, _, res2 rfl (load2 r2 rfl), _, rfl, kk.mono (kM.trans hc) g4, ⟨a9, c9, rfl, w9.kn kk (Cons.row (h := hc) rb4) noW⟩⟩
theorem rzNeg_C (hx : ZIn S u x i) (hi : i < 1000) : C Tryz.prog gN Ext 40 [u] S fun w S' => ZT S S' w (zE (-x)) (-x) := by
 obtain ⟨n, a, c, l, rfl, h1, hl, rfl⟩ := hx
 refine C.fn Tryz.func40 rfl (by kernel_rfl) rfl ?_
 repeat first|apply wg|refine ss rfl ?_|apply nl
 refine L.nr [.bool n, .slice a l.length c] wT rfl rfl (fun b2 Tb2 gb2 kb2 rb2 => ?_)
 refine L.nr [.bool false, .slice none 0 0] wT rfl rfl (fun b4 Tb4 gb4 kb4 rb4 => ?_)
 have kM := kb2.trans kb4
 have g4 : S.length ≤ b4 := Nat.le_trans kb2.len gb4
 replace rb2 := Cons.row (h := kb4) rb2
 replace h1 := h1.cons kM
 have hc := Cons.refl Tb4
 clear kb2 kb4 gb2 gb4
 repeat first|apply wg|refine ss rfl ?_|apply nl
 refine L.z2 (Cons.row (h := hc) rb2) rfl rfl rfl ?_
 repeat first|apply wg|refine ss rfl ?_|apply nl
 refine L.cv (rzFits_C ⟨n, a, c, l, rfl, h1.cons hc, hl, rfl⟩ (by omega)) rfl rfl fun T' k' => ?_
 replace hc := hc.trans k'
 repeat first|apply wg|refine ss rfl ?_|apply nl
 rw [zfz_E, show zfz (-zv n l) = zfz (zv n l) by unfold zfz; rw [Int.natAbs_neg]]
 cases hz : zfz (zv n l)
 ·repeat first|apply wg|refine ss rfl ?_|apply nl
  refine W.ite rfl (fun h => ?_) (fun h => ?_)
  rotate_left
  ·cases h
  clear h
  repeat first|apply wg|refine ss rfl ?_|apply nl
  refine L.bd #[.bool false, .slice none 0 0] (pl := []) (z := .agg #[.bool false, .slice none 0 0]) rfl rfl rfl (by kernel_rfl) rfl ?_
  repeat first|apply wg|refine ss rfl ?_|apply nl
  refine L.st2 (Cons.row (h := hc) rb4) rfl rfl rfl rfl rfl rfl (fun T2 kk r2 => ?_)
  repeat first|apply wg|refine ss rfl ?_|apply nl
  exact ⟨.inr rfl, _, res2 rfl (load2 r2 rfl), _, rfl, kk.mono (kM.trans hc) g4, ZIs.z0 (by decide)⟩
 ·repeat first|apply wg|refine ss rfl ?_|apply nl
  refine W.ite rfl (fun h => ?_) (fun h => ?_)
  ·cases h
  clear h
  repeat first|apply wg|refine ss rfl ?_|apply nl
  refine L.z2 (Cons.row (h := hc) rb2) rfl rfl rfl ?_
  repeat first|apply wg|refine ss rfl ?_|apply nl
  refine L.cl (rzTurned_C ⟨n, a, c, l, rfl, h1.cons hc, hl, rfl⟩ (by omega)) rfl rfl ?_
  rintro _ T' ⟨⟨a9, c9, rfl, w9⟩, k'⟩
  refine ⟨fun _ => k', ?_⟩
  replace hc := hc.trans k'
  repeat first|apply wg|refine ss rfl ?_|apply nl
  refine L.st2 (Cons.row (h := hc) rb4) rfl rfl rfl rfl rfl rfl (fun T2 kk r2 => ?_)
  repeat first|apply wg|refine ss rfl ?_|apply nl
  exact ⟨.inr rfl, _, res2 rfl (load2 r2 rfl), _, rfl, kk.mono (kM.trans hc) g4, ⟨a9, c9, rfl, w9.kn kk (Cons.row (h := hc) rb4) noW⟩⟩
def zzD (x y : Int) : Int := if zfz x && zfz y then (if y = 0 then 11 else 0) else 3
theorem zDE_zv (n m : Bool) (l k : WL) : zDE l k = zzD (zv n l) (zv m k) := by
 unfold zDE zzD
 rw [zfit_zv n, zfit_zv m]
 have := zv_abs m k
 by_cases h : wnum k = 0
 ·rw [if_pos h, if_pos (c := zv m k = 0) (by omega)]
 ·rw [if_neg h, if_neg (c := zv m k = 0) (by omega)]
theorem rzQuo_C (hx : ZIn S u x i) (hy : ZIn S v y j) (hi : i < 1000) (hj : j < 1000) : C Tryz.prog gN Ext 38 [u, v] S fun w S' => ZT S S' w (zzD x y) (x.tdiv y) := by
 have bx := hx.lt
 have byy := hy.lt
 obtain ⟨n, a1, c1, l, rfl, h1, hl, rfl⟩ := hx
 obtain ⟨m, a2, c2, k, rfl, h2, hk, rfl⟩ := hy
 refine C.fn Tryz.func38 rfl (by kernel_rfl) rfl ?_
 repeat first|apply wg|refine ss rfl ?_|apply nl
 refine L.nr [.bool n, .slice a1 l.length c1] wT rfl rfl (fun b2 Tb2 gb2 kb2 rb2 => ?_)
 refine L.nr [.bool m, .slice a2 k.length c2] wT rfl rfl (fun b3 Tb3 gb3 kb3 rb3 => ?_)
 refine L.nr [.bool false, .slice none 0 0] wT rfl rfl (fun b4 Tb4 gb4 kb4 rb4 => ?_)
 have kM := (kb2.trans kb3).trans kb4
 have g4 : S.length ≤ b4 := Nat.le_trans (kb2.trans kb3).len gb4
 replace rb2 := Cons.row (h := kb3.trans kb4) rb2
 replace rb3 := Cons.row (h := kb4) rb3
 replace h1 := h1.cons kM
 replace h2 := h2.cons kM
 have hc := Cons.refl Tb4
 clear kb2 kb3 kb4 gb2 gb3 gb4
 repeat first|apply wg|refine ss rfl ?_|apply nl
 unfold zzD
 refine L.z2 (Cons.row (h := hc) rb2) rfl rfl rfl ?_
 repeat first|apply wg|refine ss rfl ?_|apply nl
 refine L.cv (rzFits_C ⟨n, a1, c1, l, rfl, h1.cons hc, hl, rfl⟩ (by omega)) rfl rfl fun T' k' => ?_
 replace hc := hc.trans k'
 repeat first|apply wg|refine ss rfl ?_|apply nl
 cases hfx : zfz (zv n l)
 ·rw [show (false && zfz (zv m k)) = false from rfl, if_neg Bool.false_ne_true]
  repeat first|apply wg|refine ss rfl ?_|apply nl
  refine W.ite rfl (fun h => ?_) (fun h => ?_)
  rotate_left
  ·cases h
  clear h
  repeat first|apply wg|refine ss rfl ?_|apply nl
  refine L.bd #[.bool false, .slice none 0 0] (pl := []) (z := .agg #[.bool false, .slice none 0 0]) rfl rfl rfl (by kernel_rfl) rfl ?_
  repeat first|apply wg|refine ss rfl ?_|apply nl
  refine L.st2 (Cons.row (h := hc) rb4) rfl rfl rfl rfl rfl rfl (fun T2 kk r2 => ?_)
  repeat first|apply wg|refine ss rfl ?_|apply nl
  exact ⟨.inr rfl, _, res2 rfl (load2 r2 rfl), _, rfl, kk.mono (kM.trans hc) g4, ZIs.z0 (by decide)⟩
 repeat first|apply wg|refine ss rfl ?_|apply nl
 refine L.z2 (Cons.row (h := hc) rb3) rfl rfl rfl ?_
 repeat first|apply wg|refine ss rfl ?_|apply nl
 refine L.cv (rzFits_C ⟨m, a2, c2, k, rfl, h2.cons hc, hk, rfl⟩ (by omega)) rfl rfl fun T' k' => ?_
 replace hc := hc.trans k'
 repeat first|apply wg|refine ss rfl ?_|apply nl
 cases hfy : zfz (zv m k)
 ·rw [show (true && false) = false from rfl, if_neg Bool.false_ne_true]
  repeat first|apply wg|refine ss rfl ?_|apply nl
  refine W.ite rfl (fun h => ?_) (fun h => ?_)
  rotate_left
  ·cases h
  clear h
  repeat first|apply wg|refine ss rfl ?_|apply nl
  refine L.bd #[.bool false, .slice none 0 0] (pl := []) (z := .agg #[.bool false, .slice none 0 0]) rfl rfl rfl (by kernel_rfl) rfl ?_
  repeat first|apply wg|refine ss rfl ?_|apply nl
  refine L.st2 (Cons.row (h := hc) rb4) rfl rfl rfl rfl rfl rfl (fun T2 kk r2 => ?_)
  repeat first|apply wg|refine ss rfl ?_|apply nl
  exact ⟨.inr rfl, _, res2 rfl (load2 r2 rfl), _, rfl, kk.mono (kM.trans hc) g4, ZIs.z0 (by decide)⟩
 repeat first|apply wg|refine ss rfl ?_|apply nl
 refine W.ite rfl (fun h => ?_) (fun h => ?_)
 ·cases h
 clear h
 rw [show (true && true) = true from rfl, if_pos rfl]
 repeat first|apply wg|refine ss rfl ?_|apply nl
 refine L.zf (Cons.row (h := hc) rb3) rfl rfl rfl rfl rfl ?_
 repeat first|apply wg|refine ss rfl ?_|apply nl
 refine L.cl (form_C a2 c2 k _ (h2.cons hc) (by omega)) rfl rfl ?_
 rintro _ T' ⟨k', a8, c8, rfl, w8⟩
 refine ⟨fun _ => k', ?_⟩
 replace hc := hc.trans k'
 repeat first|apply wg|refine ss rfl ?_|apply nl
 rw [show fm k = toW (wnum k) from rfl] at w8 ⊢
 have hp := @toW_pos_len (wnum k)
 have hab := zv_abs m k
 refine W.ite rfl (fun h => ?_) (fun h => ?_)
 ·have h0 : ((toW (wnum k)).length : Int) = 0 := of_decide_eq_true h
  clear h
  rw [if_pos (by omega)]
  repeat first|apply wg|refine ss rfl ?_|apply nl
  refine L.bd #[.bool false, .slice none 0 0] (pl := []) (z := .agg #[.bool false, .slice none 0 0]) rfl rfl rfl (by kernel_rfl) rfl ?_
  repeat first|apply wg|refine ss rfl ?_|apply nl
  refine L.st2 (Cons.row (h := hc) rb4) rfl rfl rfl rfl rfl rfl (fun T2 kk r2 => ?_)
  repeat first|apply wg|refine ss rfl ?_|apply nl
  exact ⟨.inr rfl, _, res2 rfl (load2 r2 rfl), _, rfl, kk.mono (kM.trans hc) g4, ZIs.z0 (by decide)⟩
 ·have h0 : ¬ ((toW (wnum k)).length : Int) = 0 := of_decide_eq_false h
  clear h
  rw [if_neg (by omega)]
  repeat first|apply wg|refine ss rfl ?_|apply nl
  refine L.zf (Cons.row (h := hc) rb2) rfl rfl rfl rfl rfl ?_
  repeat first|apply wg|refine ss rfl ?_|apply nl
  refine L.zf (Cons.row (h := hc) rb3) rfl rfl rfl rfl rfl ?_
  repeat first|apply wg|refine ss rfl ?_|apply nl
  refine L.cl (over_C _ _ _ _ l k _ (h1.cons hc) (h2.cons hc) (by omega) (by omega) (by omega)) rfl rfl ?_
  rintro _ T' ⟨a6, a7, c6, c7, rfl, k', w6, w7⟩
  refine ⟨fun _ => k', ?_⟩
  replace hc := hc.trans k'
  repeat first|apply wg|refine ss rfl ?_|apply nl
  refine L.zf (Cons.row (h := hc) rb2) rfl rfl rfl rfl rfl ?_
  repeat first|apply wg|refine ss rfl ?_|apply nl
  refine L.zf (Cons.row (h := hc) rb3) rfl rfl rfl rfl rfl ?_
  repeat first|apply wg|refine ss rfl ?_|apply nl
  rw [zdiv]
  refine L.bd #[(.bool (n != m)), (.slice a6 (toW (wnum l / wnum k)).length c6)] (pl := [(0, (.bool (n != m))), (1, (.slice a6 (toW (wnum l / wnum k)).length c6))]) (z := .agg #[.bool false, .slice none 0 0]) rfl rfl rfl (by kernel_rfl) rfl ?_
  repeat first|apply wg|refine ss rfl ?_|apply nl
  refine L.cl (rzForm_C ⟨n != m, a6, c6, _, rfl, w6, le_len (num_len hl) (Nat.div_le_self _ _), rfl⟩ (by omega)) rfl rfl ?_
  rintro _ T' ⟨⟨a9, c9, rfl, w9⟩, k'⟩
  refine ⟨fun _ => k', ?_⟩
  replace hc := hc.trans k'
  repeat first|apply wg|refine ss rfl ?_|apply nl
  refine L.st2 (Cons.row (h := hc) rb4) rfl rfl rfl rfl rfl rfl (fun T2 kk r2 => ?_)
  repeat first|apply wg|refine ss rfl ?_|apply nl
  exact ⟨.inr rfl, _, res2 rfl (load2 r2 rfl), _, rfl, kk.mono (kM.trans hc) g4, ⟨a9, c9, rfl, w9.kn kk (Cons.row (h := hc) rb4) noW⟩⟩
theorem rzRem_C (hx : ZIn S u x i) (hy : ZIn S v y j) (hi : i < 1000) (hj : j < 1000) : C Tryz.prog gN Ext 39 [u, v] S fun w S' => ZT S S' w (zzD x y) (x.tmod y) := by
 have bx := hx.lt
 have byy := hy.lt
 obtain ⟨n, a1, c1, l, rfl, h1, hl, rfl⟩ := hx
 obtain ⟨m, a2, c2, k, rfl, h2, hk, rfl⟩ := hy
 refine C.fn Tryz.func39 rfl (by kernel_rfl) rfl ?_
 repeat first|apply wg|refine ss rfl ?_|apply nl
 refine L.nr [.bool n, .slice a1 l.length c1] wT rfl rfl (fun b2 Tb2 gb2 kb2 rb2 => ?_)
 refine L.nr [.bool m, .slice a2 k.length c2] wT rfl rfl (fun b3 Tb3 gb3 kb3 rb3 => ?_)
 refine L.nr [.bool false, .slice none 0 0] wT rfl rfl (fun b4 Tb4 gb4 kb4 rb4 => ?_)
 have kM := (kb2.trans kb3).trans kb4
 have g4 : S.length ≤ b4 := Nat.le_trans (kb2.trans kb3).len gb4
 replace rb2 := Cons.row (h := kb3.trans kb4) rb2
 replace rb3 := Cons.row (h := kb4) rb3
 replace h1 := h1.cons kM
 replace h2 := h2.cons kM
 have hc := Cons.refl Tb4
 clear kb2 kb3 kb4 gb2 gb3 gb4
 repeat first|apply wg|refine ss rfl ?_|apply nl
 refine L.z2 (Cons.row (h := hc) rb2) rfl rfl rfl ?_
 repeat first|apply wg|refine ss rfl ?_|apply nl
 refine L.z2 (Cons.row (h := hc) rb3) rfl rfl rfl ?_
 repeat first|apply wg|refine ss rfl ?_|apply nl
 refine L.cl (rzQuo_C (i := i) (j := j) ⟨n, a1, c1, l, rfl, h1.cons hc, hl, rfl⟩ ⟨m, a2, c2, k, rfl, h2.cons hc, hk, rfl⟩ hi hj) rfl rfl ?_
 rintro _ T' ⟨_, rfl, k', hz8⟩
 refine ⟨fun _ => k', ?_⟩
 replace hc := hc.trans k'
 obtain ⟨a8, c8, rfl, w8⟩ := hz8
 repeat first|apply wg|refine ss rfl ?_|apply nl
 refine L.nr [.bool false, .slice none 0 0] wT rfl rfl (fun b6 T6 g6 k6 r6 => ?_)
 refine L.st2 r6 rfl rfl rfl rfl rfl rfl (fun T7 kk7 r7 => ?_)
 have k7 := kk7.mono k6 g6
 replace w8 := w8.cons k7
 replace hc := hc.trans k7
 repeat first|apply wg|refine ss rfl ?_|apply nl
 by_cases hE : zzD (zv n l) (zv m k) = 0
 ·rw [hE] at w8 r7 ⊢
  rw [if_pos rfl] at w8 r7
  repeat first|apply wg|refine ss rfl ?_|apply nl
  refine W.ite rfl (fun h => ?_) (fun h => ?_)
  ·cases h
  clear h
  repeat first|apply wg|refine ss rfl ?_|apply nl
  refine L.z2 (Cons.row (h := hc) rb2) rfl rfl rfl ?_
  repeat first|apply wg|refine ss rfl ?_|apply nl
  refine L.z2 (Cons.row (h := hc) rb3) rfl rfl rfl ?_
  repeat first|apply wg|refine ss rfl ?_|apply nl
  generalize hX : zv n l = x at *
  generalize hY : zv m k = y at *
  have h8 : ZIs T7 (.agg #[.bool (decide (x.tdiv y < 0)), .slice a8 (toW (x.tdiv y).natAbs).length c8]) (x.tdiv y) := ⟨a8, c8, rfl, w8⟩
  have b8 : (x.tdiv y).natAbs < 2 ^ (64 * i) := by rw [Int.natAbs_tdiv]; exact Nat.lt_of_le_of_lt (Nat.div_le_self _ _) bx
  refine L.z2 r7 rfl rfl rfl ?_
  repeat first|apply wg|refine ss rfl ?_|apply nl
  refine L.cl (rzTimes_C (i := j) (j := i) ⟨m, a2, c2, k, rfl, h2.cons hc, hk, hY⟩ (h8.inn b8) (by omega) (by omega)) rfl rfl ?_
  rintro u9 T' ⟨hu9, k'⟩
  refine ⟨fun _ => k', ?_⟩
  replace hc := hc.trans k'
  repeat first|apply wg|refine ss rfl ?_|apply nl
  have b9 := zmul_lt byy b8
  refine L.cl (rzTurned_C (hu9.inn b9) (by omega)) rfl rfl ?_
  rintro u10 T' ⟨hu10, k'⟩
  refine ⟨fun _ => k', ?_⟩
  replace hc := hc.trans k'
  repeat first|apply wg|refine ss rfl ?_|apply nl
  have b10 : (-(y * x.tdiv y)).natAbs < 2 ^ (64 * (j + i)) := by rw [Int.natAbs_neg]; exact b9
  have e : x + -(y * x.tdiv y) = x.tmod y := by have := Int.mul_tdiv_add_tmod x y; omega
  have hp := rzPlus_C (Ext := Ext) (i := i) (j := j + i) (S := T') (u := .agg #[.bool n, .slice a1 l.length c1]) (x := x) ⟨n, a1, c1, l, rfl, h1.cons hc, hl, hX⟩ (hu10.inn b10) (by omega) (by omega)
  rw [e] at hp
  refine L.cl (hp) rfl rfl ?_
  rintro _ T' ⟨⟨a9, c9, rfl, w9⟩, k'⟩
  refine ⟨fun _ => k', ?_⟩
  replace hc := hc.trans k'
  repeat first|apply wg|refine ss rfl ?_|apply nl
  refine L.st2 (Cons.row (h := hc) rb4) rfl rfl rfl rfl rfl rfl (fun T2 kk r2 => ?_)
  repeat first|apply wg|refine ss rfl ?_|apply nl
  exact ⟨.inr rfl, _, res2 rfl (load2 r2 rfl), _, rfl, kk.mono (kM.trans hc) g4, ⟨a9, c9, rfl, w9.kn kk (Cons.row (h := hc) rb4) noW⟩⟩
 ·rw [show (zzD (zv n l) (zv m k) != (0 : Int)) = true from bne_iff_ne.2 hE]
  refine W.ite rfl (fun h => ?_) (fun h => ?_)
  rotate_left
  ·cases h
  clear h
  repeat first|apply wg|refine ss rfl ?_|apply nl
  refine L.bd #[.bool false, .slice none 0 0] (pl := []) (z := .agg #[.bool false, .slice none 0 0]) rfl rfl rfl (by kernel_rfl) rfl ?_
  repeat first|apply wg|refine ss rfl ?_|apply nl
  refine L.st2 (Cons.row (h := hc) rb4) rfl rfl rfl rfl rfl rfl (fun T2 kk r2 => ?_)
  repeat first|apply wg|refine ss rfl ?_|apply nl
  exact ⟨.inr rfl, _, res2 rfl (load2 r2 rfl), _, rfl, kk.mono (kM.trans hc) g4, ZIs.z0 hE⟩
theorem rzCmp_C (hx : ZIn S u x i) (hy : ZIn S v y j) (hi : i < 1000) (hj : j < 1000) : C Tryz.prog gN Ext 43 [u, v] S fun w S' => w = .int .i64 (cmpI x y) ∧ Cons S S' := by
 have bx := hx.lt
 have byy := hy.lt
 obtain ⟨n, a1, c1, l, rfl, h1, hl, rfl⟩ := hx
 obtain ⟨m, a2, c2, k, rfl, h2, hk, rfl⟩ := hy
 refine C.fn Tryz.func43 rfl (by kernel_rfl) rfl ?_
 repeat first|apply wg|refine ss rfl ?_|apply nl
 refine L.nr [.bool n, .slice a1 l.length c1] wT rfl rfl (fun b2 Tb2 gb2 kb2 rb2 => ?_)
 refine L.nr [.bool m, .slice a2 k.length c2] wT rfl rfl (fun b3 Tb3 gb3 kb3 rb3 => ?_)
 have kM := kb2.trans kb3
 replace rb2 := Cons.row (h := kb3) rb2
 replace h1 := h1.cons kM
 replace h2 := h2.cons kM
 have hc := Cons.refl Tb3
 clear kb2 kb3 gb2 gb3
 repeat first|apply wg|refine ss rfl ?_|apply nl
 refine L.z2 (Cons.row (h := hc) rb2) rfl rfl rfl ?_
 repeat first|apply wg|refine ss rfl ?_|apply nl
 refine L.z2 (Cons.row (h := hc) rb3) rfl rfl rfl ?_
 repeat first|apply wg|refine ss rfl ?_|apply nl
 refine L.cl (rzTurned_C (i := j) ⟨m, a2, c2, k, rfl, h2.cons hc, hk, rfl⟩ (by omega)) rfl rfl ?_
 rintro u7 T' ⟨hu7, k'⟩
 refine ⟨fun _ => k', ?_⟩
 replace hc := hc.trans k'
 repeat first|apply wg|refine ss rfl ?_|apply nl
 have bz : (-(zv m k)).natAbs < 2 ^ (64 * j) := by rw [Int.natAbs_neg]; exact byy
 refine L.cl (rzPlus_C (i := i) (j := j) ⟨n, a1, c1, l, rfl, h1.cons hc, hl, rfl⟩ (hu7.inn bz) (by omega) (by omega)) rfl rfl ?_
 rintro u8 T' ⟨hu8, k'⟩
 refine ⟨fun _ => k', ?_⟩
 replace hc := hc.trans k'
 repeat first|apply wg|refine ss rfl ?_|apply nl
 rw [cmp_sub]
 refine L.cv (rzSign_C (hu8.inn (zsum_lt bx bz)) (by omega)) rfl rfl fun T' k' => ?_
 replace hc := hc.trans k'
 repeat first|apply wg|refine ss rfl ?_|apply nl
 exact ⟨.inr rfl, _, rfl, rfl, kM.trans hc⟩
end Go.Proofs.YtbiigbicgfchiaaGreatDoor

/- Layer 2: texts, the short calls. Conditions: the tables lie in memory. -/
namespace Go.Proofs.YtbiigbicgfchiaaGreatDoor
open Go Ie
variable {Ext : FuncId → List Value → Mem → Outc → Mem → Prop} {S : Mem} {u v : Value} {x y : Int}
def zText (x : Int) : BL := if x < 0 then 45#8 :: dec x.natAbs else dec x.natAbs
theorem dec_short {x : Int} (fx : zok x) : (dec x.natAbs).length ≤ 2467 := dec_bound (up4 fx)
theorem nText_C (hx : ZIs S u x) (fx : zok x) (hP : PowOk S) : C Tryz.prog gN Ext 45 [u] S fun w S' => w = .tuple #[.string (strB (zText x)), .int .i64 0] ∧ Cons S S' := by
 refine C.fn Tryz.func45 rfl (by kernel_rfl) rfl ?_
 obtain ⟨a1, c1, rfl, h1⟩ := hx
 repeat first|apply wg|refine ss rfl ?_|apply nl
 refine L.nr [.bool (decide (x < 0)), .slice a1 (toW x.natAbs).length c1] wT rfl rfl (fun b2 Tb2 gb2 kb2 rb2 => ?_)
 have hc := Cons.refl Tb2
 repeat first|apply wg|refine ss rfl ?_|apply nl
 refine L.z2 (Cons.row (h := hc) rb2) rfl rfl rfl ?_
 repeat first|apply wg|refine ss rfl ?_|apply nl
 refine L.bz [(decide (x < 0), ⟨a1, c1, toW x.natAbs⟩)] rfl rfl rfl rfl rfl (fun bs Ts gs ks rs => ?_)
 replace hc := hc.trans ks
 repeat first|apply wg|refine ss rfl ?_|apply nl
 refine L.cl (zFit_C bs [(decide (x < 0), ⟨a1, c1, toW x.natAbs⟩)] Ts rs (fun z hz => by
  simp only [List.mem_cons, List.not_mem_nil, or_false] at hz
  rcases hz with rfl
  exact h1.cons (kb2.trans hc)) (by simp)) rfl rfl ?_
 rintro _ Tf ⟨rfl, kf⟩
 refine ⟨fun _ => kf, ?_⟩
 replace hc := hc.trans kf
 rw [show (([(decide (x < 0), WS.mk a1 c1 (toW x.natAbs))] : List ZW).all fun z => zfit z.2.l) = true by simp [zok_fit fx]]
 repeat first|apply wg|refine ss rfl ?_|apply nl
 refine W.ite rfl (fun h => ?_) (fun h => ?_)
 ·cases h
 clear h
 repeat first|apply wg|refine ss rfl ?_|apply nl
 refine L.zf (Cons.row (h := hc) rb2) rfl rfl rfl rfl rfl ?_
 repeat first|apply wg|refine ss rfl ?_|apply nl
 have hsm : small (toW x.natAbs) = true := small_of (by rw [wnum_toW]; exact up4 fx)
 refine L.cv (natText_C a1 c1 (toW x.natAbs) _ (h1.cons (kb2.trans hc)) (hP.cons (kb2.trans hc))) rfl rfl fun Tt kt => ?_
 replace hc := hc.trans kt
 rw [show textL (toW x.natAbs) = dec x.natAbs by unfold textL; rw [hsm, if_pos rfl, wnum_toW], show textE (toW x.natAbs) = 0 by unfold textE; rw [hsm]; rfl]
 repeat first|apply wg|refine ss rfl ?_|apply nl
 refine L.z2 (Cons.row (h := hc) rb2) rfl rfl rfl ?_
 repeat first|apply wg|refine ss rfl ?_|apply nl
 refine L.cv (nSign_C (x := x) ⟨a1, c1, rfl, h1.cons (kb2.trans hc)⟩) rfl rfl fun Tg kg => ?_
 replace hc := hc.trans kg
 have hd := dec_short fx
 unfold zText
 by_cases hneg : x < 0
 ·rw [if_pos hneg, cmp_neg hneg]
  repeat first|apply wg|refine ss rfl ?_|apply nl
  refine W.ite rfl (fun h => ?_) (fun h => ?_)
  rotate_left
  ·cases h
  clear h
  repeat first|apply wg|refine ss rfl ?_|apply nl
  refine L.tadd (a := [45#8]) (b := dec x.natAbs) rfl rfl (by simp; omega) rfl ?_
  repeat first|apply wg|refine ss rfl ?_|apply nl
  exact ⟨.inr rfl, _, rfl, rfl, kb2.trans hc⟩
 ·rw [if_neg hneg]
  repeat first|apply wg|refine ss rfl ?_|apply nl
  rw [show decide (cmpI x 0 < 0) = false from decide_eq_false (by rcases cmpI_vals x 0 with h | h | h <;> first | omega | (exact absurd (cz1 h) hneg))]
  repeat first|apply wg|refine ss rfl ?_|apply nl
  refine W.ite rfl (fun h => ?_) (fun h => ?_)
  ·cases h
  clear h
  repeat first|apply wg|refine ss rfl ?_|apply nl
  exact ⟨.inr rfl, _, rfl, rfl, kb2.trans hc⟩
theorem zok_small {z : Int} (h : z.natAbs < 18446744073709551616) : zok z := Nat.lt_of_lt_of_le h (by
 have : (2 : Nat) ^ 64 ≤ 2 ^ 4096 := Nat.pow_le_pow_right (by decide) (by decide)
 omega)
theorem works_C (S : Mem) (hS : SinOk S) (hP : PowOk S) (hG : gN ≤ S.length) : C Tryz.prog gN Ext 18 [] S fun v S' => v = .bool true ∧ Cons S S' := by
 refine C.fn Tryz.func18 rfl (by kernel_rfl) rfl ?_
 have hZ := Zs.nil S
 have hc := Cons.refl S
 repeat first|apply wg|refine ss rfl ?_|apply nl
 refine L.cl (nInt_C (-7) (by decide)) rfl rfl ?_
 rintro _ T' ⟨⟨a0, c0, rfl, w0⟩, k', hf0⟩
 refine ⟨fun _ => k', ?_⟩
 replace hZ := hZ.cons k'
 replace hc := hc.trans k'
 repeat first|apply wg|refine ss rfl ?_|apply nl
 refine L.cl (nInt_C 2 (by decide)) rfl rfl ?_
 rintro _ T' ⟨⟨a1, c1, rfl, w1⟩, k', hf1⟩
 refine ⟨fun _ => k', ?_⟩
 replace hZ := hZ.cons k'
 replace hc := hc.trans k'
 repeat first|apply wg|refine ss rfl ?_|apply nl
 replace w0 := w0.cons k'
 refine L.nr [.bool false, .slice none 0 0] wT rfl rfl (fun b0 T1' g1' k1' r1' => ?_)
 refine L.nr [.bool false, .slice none 0 0] wT rfl rfl (fun b1 T2' g2' k2' r2' => ?_)
 have n12 : b1 ≠ b0 := by have := row_lt r1'; omega
 replace r1' := Cons.row (h := k2') r1'
 refine L.st2 r1' rfl rfl rfl rfl rfl rfl (fun T3' kk1 s1' => ?_)
 refine L.st2 (kk1.row r2' n12) rfl rfl rfl rfl rfl rfl (fun T' kk2 s2' => ?_)
 replace s1' := kk2.row s1' (Ne.symm n12)
 have kx := kk2.mono (kk1.mono (k1'.trans k2') g1') (Nat.le_trans k1'.len g2')
 replace hZ := ((hZ.cons kx).add ⟨a0, c0, s1', w0.cons kx⟩).add ⟨a1, c1, s2', w1.cons kx⟩
 replace hc := hc.trans kx
 clear kx kk1 kk2 s1' s2' r1' r2' k1' k2' g1' g2' n12
 repeat first|apply wg|refine ss rfl ?_|apply nl
 refine L.zl (hZ.at 0 rfl) rfl rfl rfl (fun u2 hu2 => ?_)
 repeat first|apply wg|refine ss rfl ?_|apply nl
 refine L.zl (hZ.at 1 rfl) rfl rfl rfl (fun u3 hu3 => ?_)
 repeat first|apply wg|refine ss rfl ?_|apply nl
 refine L.cl (nQuo_C hu2 hu3 (zok_small (by decide)) (zok_small (by decide))) rfl rfl ?_
 rintro _ T' hr
 refine ⟨fun _ => let ⟨_, _, k, _⟩ := hr; k, ?_⟩
 obtain ⟨_, rfl, k', ⟨a4, c4, rfl, w4⟩, hf4⟩ := hr.ok (rfl)
 clear hr
 replace hZ := hZ.cons k'
 replace hc := hc.trans k'
 repeat first|apply wg|refine ss rfl ?_|apply nl
 refine L.nr [.bool false, .slice none 0 0] wT rfl rfl (fun b4 T' g' k' r' => ?_)
 refine L.st2 r' rfl rfl rfl rfl rfl rfl (fun T' kk' r'' => ?_)
 have kx := kk'.mono k' g'
 replace hZ := (hZ.cons kx).add ⟨a4, c4, r'', w4.cons kx⟩
 replace hc := hc.trans kx
 clear kx kk' r'' r' k' g' w4
 repeat first|apply wg|refine ss rfl ?_|apply nl
 refine L.zl (hZ.at 0 rfl) rfl rfl rfl (fun u5 hu5 => ?_)
 repeat first|apply wg|refine ss rfl ?_|apply nl
 refine L.zl (hZ.at 1 rfl) rfl rfl rfl (fun u6 hu6 => ?_)
 repeat first|apply wg|refine ss rfl ?_|apply nl
 refine L.cl (nRem_C hu5 hu6 (zok_small (by decide)) (zok_small (by decide))) rfl rfl ?_
 rintro _ T' hr
 refine ⟨fun _ => let ⟨_, _, k, _⟩ := hr; k, ?_⟩
 obtain ⟨_, rfl, k', ⟨a7, c7, rfl, w7⟩, hf7⟩ := hr.ok (rfl)
 clear hr
 replace hZ := hZ.cons k'
 replace hc := hc.trans k'
 repeat first|apply wg|refine ss rfl ?_|apply nl
 refine L.nr [.bool false, .slice none 0 0] wT rfl rfl (fun b7 T' g' k' r' => ?_)
 refine L.st2 r' rfl rfl rfl rfl rfl rfl (fun T' kk' r'' => ?_)
 have kx := kk'.mono k' g'
 replace hZ := (hZ.cons kx).add ⟨a7, c7, r'', w7.cons kx⟩
 replace hc := hc.trans kx
 clear kx kk' r'' r' k' g' w7
 repeat first|apply wg|refine ss rfl ?_|apply nl
 refine L.cl (nInt_C (-2) (by decide)) rfl rfl ?_
 rintro _ T' ⟨⟨a8, c8, rfl, w8⟩, k', hf8⟩
 refine ⟨fun _ => k', ?_⟩
 replace hZ := hZ.cons k'
 replace hc := hc.trans k'
 repeat first|apply wg|refine ss rfl ?_|apply nl
 refine L.cl (nInt_C 3 (by decide)) rfl rfl ?_
 rintro _ T' ⟨⟨a9, c9, rfl, w9⟩, k', hf9⟩
 refine ⟨fun _ => k', ?_⟩
 replace hZ := hZ.cons k'
 replace hc := hc.trans k'
 repeat first|apply wg|refine ss rfl ?_|apply nl
 replace w8 := w8.cons k'
 refine L.cl (nPow_C ⟨a8, c8, rfl, w8⟩ ⟨a9, c9, rfl, w9⟩ (zok_small (by decide)) (zok_small (by decide)) (hS.cons hc) (Nat.le_trans hG hc.len)) rfl rfl ?_
 rintro _ T' hr
 refine ⟨fun _ => let ⟨_, _, k, _⟩ := hr; k, ?_⟩
 obtain ⟨_, rfl, k', ⟨a10, c10, rfl, w10⟩, hf10⟩ := hr.ok ((if_neg (by decide)).trans (zok_E (zok_small (z := (-2) ^ (3 : Int).toNat) (by decide))))
 clear hr
 replace hZ := hZ.cons k'
 replace hc := hc.trans k'
 repeat first|apply wg|refine ss rfl ?_|apply nl
 refine L.nr [.bool false, .slice none 0 0] wT rfl rfl (fun b10 T' g' k' r' => ?_)
 refine L.st2 r' rfl rfl rfl rfl rfl rfl (fun T' kk' r'' => ?_)
 have kx := kk'.mono k' g'
 replace hZ := (hZ.cons kx).add ⟨a10, c10, r'', w10.cons kx⟩
 replace hc := hc.trans kx
 clear kx kk' r'' r' k' g' w10
 repeat first|apply wg|refine ss rfl ?_|apply nl
 refine L.zl (hZ.at 4 rfl) rfl rfl rfl (fun u11 hu11 => ?_)
 repeat first|apply wg|refine ss rfl ?_|apply nl
 refine L.cv (nText_C hu11 (zok_small (by decide)) (hP.cons hc)) rfl rfl fun T' k' => ?_
 replace hZ := hZ.cons k'
 replace hc := hc.trans k'
 repeat first|apply wg|refine ss rfl ?_|apply nl
 refine L.zl (hZ.at 0 rfl) rfl rfl rfl (fun u12 hu12 => ?_)
 repeat first|apply wg|refine ss rfl ?_|apply nl
 refine L.bd #[.bool false, .slice none 0 0] (pl := []) (z := .agg #[.bool false, .slice none 0 0]) rfl rfl rfl (by kernel_rfl) rfl ?_
 repeat first|apply wg|refine ss rfl ?_|apply nl
 refine L.cl (nQuo_C hu12 (ZIs.zero _) (zok_small (by decide)) (zok_small (by decide))) rfl rfl ?_
 rintro _ T' ⟨_, rfl, k', ⟨a13, c13, rfl, w13⟩, hf13⟩
 refine ⟨fun _ => k', ?_⟩
 replace hZ := hZ.cons k'
 replace hc := hc.trans k'
 repeat first|apply wg|refine ss rfl ?_|apply nl
 refine L.nr [.bool false, .slice none 0 0] wT rfl rfl (fun b13 T' g' k' r' => ?_)
 refine L.st2 r' rfl rfl rfl rfl rfl rfl (fun T' kk' r'' => ?_)
 have kx := kk'.mono k' g'
 replace hZ := (hZ.cons kx).add ⟨a13, c13, r'', w13.cons kx⟩
 replace hc := hc.trans kx
 clear kx kk' r'' r' k' g' w13
 repeat first|apply wg|refine ss rfl ?_|apply nl
 refine L.zl (hZ.at 2 rfl) rfl rfl rfl (fun u14 hu14 => ?_)
 repeat first|apply wg|refine ss rfl ?_|apply nl
 refine L.cv (nInt64_C hu14) rfl rfl fun T' k' => ?_
 replace hZ := hZ.cons k'
 replace hc := hc.trans k'
 repeat first|apply wg|refine ss rfl ?_|apply nl
 refine L.zl (hZ.at 3 rfl) rfl rfl rfl (fun u15 hu15 => ?_)
 repeat first|apply wg|refine ss rfl ?_|apply nl
 refine L.cv (nInt64_C hu15) rfl rfl fun T' k' => ?_
 replace hZ := hZ.cons k'
 replace hc := hc.trans k'
 repeat first|apply wg|refine ss rfl ?_|apply nl
 rw [show zText ((-2) ^ (3 : Int).toNat) = [45#8, 56#8] by
  rw [show ((-2 : Int) ^ (3 : Int).toNat) = -8 from rfl]
  unfold zText
  rw [if_pos (by decide), show (-8 : Int).natAbs = 8 from rfl, dec_small (by decide)]; rfl]
 repeat first|apply wg|refine ss rfl ?_|apply nl
 refine ⟨.inr rfl, _, rfl, (force_eq rfl).trans (congrArg Value.bool ?_), hc⟩
 exact beq_self_eq_true (strB [45#8, 56#8]).toList
end Go.Proofs.YtbiigbicgfchiaaGreatDoor

/- Layer 2's references: powers, numbers of the language. Conditions: none. -/
namespace Go.Proofs.YtbiigbicgfchiaaGreatDoor
open Go Ie
variable {Ext : FuncId → List Value → Mem → Outc → Mem → Prop} {S : Mem} {u v : Value} {x y : Int} {i j : Nat}
theorem toW_big {N : Nat} (h : ¬ N < 18446744073709551616) : 2 ≤ (toW N).length := by
 have := (toW_len N 1).1
 rw [show (2 : Nat) ^ (64 * 1) = 18446744073709551616 by decide] at this
 exact Nat.lt_of_not_le fun hc => h (this hc)
theorem rzInt64_C (hx : ZIn S u x i) (hi : i < 100000) : C Tryz.prog gN Ext 42 [u] S fun w S' => w = .tuple #[.int .i64 (if i64ok x then x else 0), .bool (i64ok x)] ∧ Cons S S' := by
 obtain ⟨n, a, c, l, rfl, h1, hl, rfl⟩ := hx
 refine C.fn Tryz.func42 rfl (by kernel_rfl) rfl ?_
 repeat first|apply wg|refine ss rfl ?_|apply nl
 refine L.nr [.bool n, .slice a l.length c] wT rfl rfl (fun b2 Tb2 gb2 kb2 rb2 => ?_)
 have hc := Cons.refl Tb2
 repeat first|apply wg|refine ss rfl ?_|apply nl
 refine L.z2 (Cons.row (h := hc) rb2) rfl rfl rfl ?_
 repeat first|apply wg|refine ss rfl ?_|apply nl
 refine L.cl (rzForm_C ⟨n, a, c, l, rfl, h1.cons (kb2.trans hc), hl, rfl⟩ hi) rfl rfl ?_
 rintro _ T' ⟨⟨a9, c9, rfl, w9⟩, k'⟩
 refine ⟨fun _ => k', ?_⟩
 replace hc := hc.trans k'
 repeat first|apply wg|refine ss rfl ?_|apply nl
 generalize zv n l = z at *
 refine L.nr [.bool false, .slice none 0 0] wT rfl rfl (fun b6 T5 g5 k5 r5 => ?_)
 refine L.st2 r5 rfl rfl rfl rfl rfl rfl (fun T8 kk6 r8 => ?_)
 have k9 := kk6.mono k5 g5
 have hcS := (kb2.trans hc).trans k9
 have w8 := w9.cons k9
 clear hc
 have hc := Cons.refl T8
 repeat first|apply wg|refine ss rfl ?_|apply nl
 refine L.zf (Cons.row (h := hc) r8) rfl rfl rfl rfl rfl ?_
 repeat first|apply wg|refine ss rfl ?_|apply nl
 by_cases h0 : z.natAbs = 0
 ·have hz0 : z = 0 := by omega
  rw [show (((toW z.natAbs).length : Int) == 0) = true by rw [h0, toW_zero]; rfl]
  repeat first|apply wg|refine ss rfl ?_|apply nl
  refine W.ite rfl (fun h => ?_) (fun h => ?_)
  rotate_left
  ·cases h
  clear h
  repeat first|apply wg|refine ss rfl ?_|apply nl
  refine ⟨.inr rfl, _, rfl, ?_, hcS⟩
  rw [hz0]; rfl
 by_cases hsm : z.natAbs < 18446744073709551616
 rotate_left
 ·have hl2 := toW_big hsm
  rw [show (((toW z.natAbs).length : Int) == 0) = false from decide_eq_false (by omega)]
  repeat first|apply wg|refine ss rfl ?_|apply nl
  refine W.ite rfl (fun h => ?_) (fun h => ?_)
  ·cases h
  clear h
  repeat first|apply wg|refine ss rfl ?_|apply nl
  refine L.zf (Cons.row (h := hc) r8) rfl rfl rfl rfl rfl ?_
  repeat first|apply wg|refine ss rfl ?_|apply nl
  rw [show decide (((toW z.natAbs).length : Int) > 1) = true from decide_eq_true (by omega)]
  repeat first|apply wg|refine ss rfl ?_|apply nl
  refine W.ite rfl (fun h => ?_) (fun h => ?_)
  rotate_left
  ·cases h
  clear h
  have hn : i64ok z = false := by unfold i64ok; exact decide_eq_false (by omega)
  rw [hn]
  repeat first|apply wg|refine ss rfl ?_|apply nl
  exact ⟨.inr rfl, _, rfl, rfl, hcS⟩
 have h1w := toW_one h0 hsm
 have hlen : (toW z.natAbs).length = 1 := by rw [h1w]; rfl
 have hx : (toW z.natAbs)[0]? = some (BitVec.ofNat 64 z.natAbs) := by rw [h1w]; rfl
 have hxn : (BitVec.ofNat 64 z.natAbs).toNat = z.natAbs := by rw [BitVec.toNat_ofNat]; exact Nat.mod_eq_of_lt hsm
 have hxv : v64 (BitVec.ofNat 64 z.natAbs) = .int .u64 ((z.natAbs : Nat) : Int) := congrArg (fun n : Nat => Value.int .u64 (n : Int)) hxn
 rw [show (((toW z.natAbs).length : Int) == 0) = false by rw [hlen]; rfl]
 repeat first|apply wg|refine ss rfl ?_|apply nl
 refine W.ite rfl (fun h => ?_) (fun h => ?_)
 ·cases h
 clear h
 repeat first|apply wg|refine ss rfl ?_|apply nl
 refine L.zf (Cons.row (h := hc) r8) rfl rfl rfl rfl rfl ?_
 repeat first|apply wg|refine ss rfl ?_|apply nl
 rw [show decide (((toW z.natAbs).length : Int) > 1) = false from decide_eq_false (by omega)]
 repeat first|apply wg|refine ss rfl ?_|apply nl
 refine L.zf (Cons.row (h := hc) r8) rfl rfl rfl rfl rfl ?_
 repeat first|apply wg|refine ss rfl ?_|apply nl
 by_cases hneg : z < 0
 ·rw [show decide (z < 0) = true from decide_eq_true hneg]
  repeat first|apply wg|refine ss rfl ?_|apply nl
  refine L.zf (Cons.row (h := hc) r8) rfl rfl rfl rfl rfl ?_
  repeat first|apply wg|refine ss rfl ?_|apply nl
  refine L.el w8.1 (k := 0) rfl (wv_get hx) rfl rfl rfl rfl (fun _ => rfl) rfl (fun p => ?_)
  rw [hxv]
  repeat first|apply wg|refine ss rfl ?_|apply nl
  refine W.ite rfl (fun h => ?_) (fun h => ?_)
  ·have := of_decide_eq_true h
   have hn : i64ok z = false := by unfold i64ok; exact decide_eq_false (by omega)
   rw [hn]
   repeat first|apply wg|refine ss rfl ?_|apply nl
   exact ⟨.inr rfl, _, rfl, rfl, hcS⟩
  ·have := of_decide_eq_false h
   clear h
   have hn : i64ok z = true := by unfold i64ok; exact decide_eq_true (by omega)
   rw [hn]
   repeat first|apply wg|refine ss rfl ?_|apply nl
   refine L.zf (Cons.row (h := hc) r8) rfl rfl rfl rfl rfl ?_
   repeat first|apply wg|refine ss rfl ?_|apply nl
   rw [show decide (z < 0) = true from decide_eq_true hneg]
   repeat first|apply wg|refine ss rfl ?_|apply nl
   refine W.ite rfl (fun h => ?_) (fun h => ?_)
   rotate_left
   ·cases h
   clear h
   repeat first|apply wg|refine ss rfl ?_|apply nl
   refine L.zf (Cons.row (h := hc) r8) rfl rfl rfl rfl rfl ?_
   repeat first|apply wg|refine ss rfl ?_|apply nl
   refine L.el w8.1 (k := 0) rfl (wv_get hx) rfl rfl rfl rfl (fun _ => rfl) rfl (fun p => ?_)
   rw [hxv]
   repeat first|apply wg|refine ss rfl ?_|apply nl
   refine ⟨.inr rfl, _, rfl, ?_, hcS⟩
   have e : IntKind.i64.wrap (IntKind.u64.wrap (0 - ((z.natAbs : Nat) : Int))) = z := by
    simp only [IntKind.wrap, IntKind.bits, IntKind.signed, Bool.false_and, Bool.true_and, Bool.false_eq_true, if_false, decide_eq_true_eq, ge_iff_le]
    split <;> omega
   show Value.tuple #[.int .i64 (IntKind.i64.wrap (IntKind.u64.wrap (0 - ((z.natAbs : Nat) : Int)))), .bool true] = _
   rw [e]; rfl
 ·rw [show decide (z < 0) = false from decide_eq_false hneg]
  repeat first|apply wg|refine ss rfl ?_|apply nl
  refine L.zf (Cons.row (h := hc) r8) rfl rfl rfl rfl rfl ?_
  repeat first|apply wg|refine ss rfl ?_|apply nl
  refine L.el w8.1 (k := 0) rfl (wv_get hx) rfl rfl rfl rfl (fun _ => rfl) rfl (fun p => ?_)
  rw [hxv]
  repeat first|apply wg|refine ss rfl ?_|apply nl
  cases hle : decide (((z.natAbs : Nat) : Int) > 9223372036854775807)
  ·have := of_decide_eq_false hle
   have hn : i64ok z = true := by unfold i64ok; exact decide_eq_true (by omega)
   rw [hn]
   repeat first|apply wg|refine ss rfl ?_|apply nl
   refine L.zf (Cons.row (h := hc) r8) rfl rfl rfl rfl rfl ?_
   repeat first|apply wg|refine ss rfl ?_|apply nl
   refine L.el w8.1 (k := 0) rfl (wv_get hx) rfl rfl rfl rfl (fun _ => rfl) rfl (fun p => ?_)
   rw [hxv]
   repeat first|apply wg|refine ss rfl ?_|apply nl
   refine W.ite rfl (fun h => ?_) (fun h => ?_)
   ·have := of_decide_eq_true h
    omega
   clear h
   repeat first|apply wg|refine ss rfl ?_|apply nl
   refine L.zf (Cons.row (h := hc) r8) rfl rfl rfl rfl rfl ?_
   repeat first|apply wg|refine ss rfl ?_|apply nl
   rw [show decide (z < 0) = false from decide_eq_false hneg]
   repeat first|apply wg|refine ss rfl ?_|apply nl
   refine W.ite rfl (fun h => ?_) (fun h => ?_)
   ·cases h
   clear h
   repeat first|apply wg|refine ss rfl ?_|apply nl
   refine L.zf (Cons.row (h := hc) r8) rfl rfl rfl rfl rfl ?_
   repeat first|apply wg|refine ss rfl ?_|apply nl
   refine L.el w8.1 (k := 0) rfl (wv_get hx) rfl rfl rfl rfl (fun _ => rfl) rfl (fun p => ?_)
   rw [hxv]
   repeat first|apply wg|refine ss rfl ?_|apply nl
   refine ⟨.inr rfl, _, rfl, ?_, hcS⟩
   have e : IntKind.i64.wrap ((z.natAbs : Nat) : Int) = z := by rw [wrap64 (by omega) (by omega)]; omega
   show Value.tuple #[.int .i64 (IntKind.i64.wrap ((z.natAbs : Nat) : Int)), .bool true] = _
   rw [e]; rfl
  ·have := of_decide_eq_true hle
   have hn : i64ok z = false := by unfold i64ok; exact decide_eq_false (by omega)
   rw [hn]
   repeat first|apply wg|refine ss rfl ?_|apply nl
   refine W.ite rfl (fun h => ?_) (fun h => ?_)
   rotate_left
   ·cases h
   clear h
   repeat first|apply wg|refine ss rfl ?_|apply nl
   exact ⟨.inr rfl, _, rfl, rfl, hcS⟩
def zzP (x y : Int) : Int := if zfz x && zfz y then (if y < 0 then 20 else zE (x ^ y.toNat)) else 3
theorem zPE_zv (n m : Bool) (l k : WL) : zPE n m l k = zzP (zv n l) (zv m k) := by unfold zPE zzP; rw [zfit_zv n, zfit_zv m]
theorem zfz_lt (h : zfz x = true) : x.natAbs < 2 ^ (64 * 64) := of_decide_eq_true h
theorem one_zpow (b : Bool) (K : Nat) : (if b then (-1 : Int) else 1) ^ K = if b && decide (K % 2 = 1) then -1 else 1 := by
 cases b
 ·exact Int.one_pow
 ·induction K with
  | zero => rfl
  | succ K ih =>
   rw [Int.pow_succ, ih]
   by_cases h : K % 2 = 1
   ·simp [h, show (K + 1) % 2 = 0 by omega]
   ·simp [h, show (K + 1) % 2 = 1 by omega]
theorem rzPow_C (hx : ZIn S u x i) (hy : ZIn S v y j) (hi : i < 1000) (hj : j < 1000) : C Tryz.prog gN Ext 13 [u, v] S fun w S' => ZT S S' w (zzP x y) (x ^ y.toNat) := by
 have bx := hx.lt
 have byy := hy.lt
 obtain ⟨n, a1, c1, l, rfl, h1, hl, rfl⟩ := hx
 obtain ⟨m, a2, c2, k, rfl, h2, hk, rfl⟩ := hy
 refine C.fn Tryz.func13 rfl (by kernel_rfl) rfl ?_
 repeat first|apply wg|refine ss rfl ?_|apply nl
 refine L.nr [.bool n, .slice a1 l.length c1] wT rfl rfl (fun b2 Tb2 gb2 kb2 rb2 => ?_)
 refine L.nr [.bool m, .slice a2 k.length c2] wT rfl rfl (fun b3 Tb3 gb3 kb3 rb3 => ?_)
 refine L.nr [.bool false, .slice none 0 0] wT rfl rfl (fun b4 Tb4 gb4 kb4 rb4 => ?_)
 have kM := (kb2.trans kb3).trans kb4
 have g4 : S.length ≤ b4 := Nat.le_trans (kb2.trans kb3).len gb4
 replace rb2 := Cons.row (h := kb3.trans kb4) rb2
 replace rb3 := Cons.row (h := kb4) rb3
 replace h1 := h1.cons kM
 replace h2 := h2.cons kM
 have hc := Cons.refl Tb4
 clear kb2 kb3 kb4 gb2 gb3 gb4
 repeat first|apply wg|refine ss rfl ?_|apply nl
 unfold zzP
 refine L.z2 (Cons.row (h := hc) rb2) rfl rfl rfl ?_
 repeat first|apply wg|refine ss rfl ?_|apply nl
 refine L.cv (rzFits_C ⟨n, a1, c1, l, rfl, h1.cons hc, hl, rfl⟩ (by omega)) rfl rfl fun T' k' => ?_
 replace hc := hc.trans k'
 repeat first|apply wg|refine ss rfl ?_|apply nl
 cases hfx : zfz (zv n l)
 ·rw [show (false && zfz (zv m k)) = false from rfl, if_neg Bool.false_ne_true]
  repeat first|apply wg|refine ss rfl ?_|apply nl
  refine W.ite rfl (fun h => ?_) (fun h => ?_)
  rotate_left
  ·cases h
  clear h
  repeat first|apply wg|refine ss rfl ?_|apply nl
  refine L.bd #[.bool false, .slice none 0 0] (pl := []) (z := .agg #[.bool false, .slice none 0 0]) rfl rfl rfl (by kernel_rfl) rfl ?_
  repeat first|apply wg|refine ss rfl ?_|apply nl
  refine L.st2 (Cons.row (h := hc) rb4) rfl rfl rfl rfl rfl rfl (fun T2 kk r2 => ?_)
  repeat first|apply wg|refine ss rfl ?_|apply nl
  exact ⟨.inr rfl, _, res2 rfl (load2 r2 rfl), _, rfl, kk.mono (kM.trans hc) g4, ZIs.z0 (by decide)⟩
 repeat first|apply wg|refine ss rfl ?_|apply nl
 refine L.z2 (Cons.row (h := hc) rb3) rfl rfl rfl ?_
 repeat first|apply wg|refine ss rfl ?_|apply nl
 refine L.cv (rzFits_C ⟨m, a2, c2, k, rfl, h2.cons hc, hk, rfl⟩ (by omega)) rfl rfl fun T' k' => ?_
 replace hc := hc.trans k'
 repeat first|apply wg|refine ss rfl ?_|apply nl
 cases hfy : zfz (zv m k)
 ·rw [show (true && false) = false from rfl, if_neg Bool.false_ne_true]
  repeat first|apply wg|refine ss rfl ?_|apply nl
  refine W.ite rfl (fun h => ?_) (fun h => ?_)
  rotate_left
  ·cases h
  clear h
  repeat first|apply wg|refine ss rfl ?_|apply nl
  refine L.bd #[.bool false, .slice none 0 0] (pl := []) (z := .agg #[.bool false, .slice none 0 0]) rfl rfl rfl (by kernel_rfl) rfl ?_
  repeat first|apply wg|refine ss rfl ?_|apply nl
  refine L.st2 (Cons.row (h := hc) rb4) rfl rfl rfl rfl rfl rfl (fun T2 kk r2 => ?_)
  repeat first|apply wg|refine ss rfl ?_|apply nl
  exact ⟨.inr rfl, _, res2 rfl (load2 r2 rfl), _, rfl, kk.mono (kM.trans hc) g4, ZIs.z0 (by decide)⟩
 repeat first|apply wg|refine ss rfl ?_|apply nl
 refine W.ite rfl (fun h => ?_) (fun h => ?_)
 ·cases h
 clear h
 rw [show (true && true) = true from rfl, if_pos rfl]
 repeat first|apply wg|refine ss rfl ?_|apply nl
 refine L.z2 (Cons.row (h := hc) rb2) rfl rfl rfl ?_
 repeat first|apply wg|refine ss rfl ?_|apply nl
 refine L.cl (rzForm_C ⟨n, a1, c1, l, rfl, h1.cons hc, hl, rfl⟩ (by omega)) rfl rfl ?_
 rintro _ T' ⟨⟨a6, c6, rfl, w6⟩, k'⟩
 refine ⟨fun _ => k', ?_⟩
 replace hc := hc.trans k'
 repeat first|apply wg|refine ss rfl ?_|apply nl
 refine L.z2 (Cons.row (h := hc) rb3) rfl rfl rfl ?_
 repeat first|apply wg|refine ss rfl ?_|apply nl
 refine L.cl (rzForm_C ⟨m, a2, c2, k, rfl, h2.cons hc, hk, rfl⟩ (by omega)) rfl rfl ?_
 rintro _ T' ⟨⟨a7, c7, rfl, w7⟩, k'⟩
 refine ⟨fun _ => k', ?_⟩
 replace hc := hc.trans k'
 repeat first|apply wg|refine ss rfl ?_|apply nl
 replace w6 := w6.cons k'
 generalize hX : zv n l = x at *
 generalize hY : zv m k = y at *
 refine L.nr [.bool false, .slice none 0 0] wT rfl rfl (fun b6 T1' g1' k1' r1' => ?_)
 refine L.nr [.bool false, .slice none 0 0] wT rfl rfl (fun b7 T2' g2' k2' r2' => ?_)
 have n12 : b7 ≠ b6 := by have := row_lt r1'; omega
 replace r1' := Cons.row (h := k2') r1'
 refine L.st2 r1' rfl rfl rfl rfl rfl rfl (fun T3' kk1 s1' => ?_)
 refine L.st2 (kk1.row r2' n12) rfl rfl rfl rfl rfl rfl (fun T4' kk2 r7 => ?_)
 have r6 := kk2.row s1' (Ne.symm n12)
 have kx := kk2.mono (kk1.mono (k1'.trans k2') g1') (Nat.le_trans k1'.len g2')
 replace hc := hc.trans kx
 replace w6 := w6.cons kx
 replace w7 := w7.cons kx
 replace rb4 := Cons.row (h := hc) rb4
 have kM := kM.trans hc
 clear kx kk1 kk2 s1' r1' r2' k1' k2' g1' g2' n12 rb2 rb3 h1 h2 hc
 have hc := Cons.refl T4'
 repeat first|apply wg|refine ss rfl ?_|apply nl
 refine L.zf (Cons.row (h := hc) r7) rfl rfl rfl rfl rfl ?_
 repeat first|apply wg|refine ss rfl ?_|apply nl
 by_cases hy0 : y < 0
 ·rw [show decide (y < 0) = true from decide_eq_true hy0, if_pos hy0]
  refine W.ite rfl (fun h => ?_) (fun h => ?_)
  rotate_left
  ·cases h
  clear h
  repeat first|apply wg|refine ss rfl ?_|apply nl
  refine L.bd #[.bool false, .slice none 0 0] (pl := []) (z := .agg #[.bool false, .slice none 0 0]) rfl rfl rfl (by kernel_rfl) rfl ?_
  repeat first|apply wg|refine ss rfl ?_|apply nl
  refine L.st2 (Cons.row (h := hc) rb4) rfl rfl rfl rfl rfl rfl (fun T2 kk r2 => ?_)
  repeat first|apply wg|refine ss rfl ?_|apply nl
  exact ⟨.inr rfl, _, res2 rfl (load2 r2 rfl), _, rfl, kk.mono (kM.trans hc) g4, ZIs.z0 (by decide)⟩
 rw [show decide (y < 0) = false from decide_eq_false hy0, if_neg hy0]
 obtain ⟨K, hK⟩ : ∃ K, K = y.natAbs := ⟨_, rfl⟩
 have hyK : y.toNat = K := by omega
 rw [hyK]
 rw [← hK] at w7 r7
 refine W.ite rfl (fun h => ?_) (fun h => ?_)
 ·cases h
 clear h
 repeat first|apply wg|refine ss rfl ?_|apply nl
 refine L.zf (Cons.row (h := hc) r7) rfl rfl rfl rfl rfl ?_
 repeat first|apply wg|refine ss rfl ?_|apply nl
 have hpk := @toW_pos_len K
 by_cases hK0 : K = 0
 ·subst hK0
  rw [show (((toW 0).length : Int) == 0) = true by rw [toW_zero]; rfl, Int.pow_zero]
  repeat first|apply wg|refine ss rfl ?_|apply nl
  refine W.ite rfl (fun h => ?_) (fun h => ?_)
  rotate_left
  ·cases h
  clear h
  repeat first|apply wg|refine ss rfl ?_|apply nl
  refine L.cl (rzInt_C 1 _ (by decide)) rfl rfl ?_
  rintro _ T' ⟨⟨a9, c9, rfl, w9⟩, k'⟩
  refine ⟨fun _ => k', ?_⟩
  replace hc := hc.trans k'
  repeat first|apply wg|refine ss rfl ?_|apply nl
  rw [show zE 1 = 0 from zok_E (zok_small (by decide))]
  refine L.st2 (Cons.row (h := hc) rb4) rfl rfl rfl rfl rfl rfl (fun T2 kk r2 => ?_)
  repeat first|apply wg|refine ss rfl ?_|apply nl
  exact ⟨.inr rfl, _, res2 rfl (load2 r2 rfl), _, rfl, kk.mono (kM.trans hc) g4, ⟨a9, c9, rfl, w9.kn kk (Cons.row (h := hc) rb4) noW⟩⟩
 rw [show (((toW K).length : Int) == 0) = false from decide_eq_false (by omega)]
 refine W.ite rfl (fun h => ?_) (fun h => ?_)
 ·cases h
 clear h
 repeat first|apply wg|refine ss rfl ?_|apply nl
 refine L.zf (Cons.row (h := hc) r6) rfl rfl rfl rfl rfl ?_
 repeat first|apply wg|refine ss rfl ?_|apply nl
 have hpx := @toW_pos_len x.natAbs
 by_cases hx0 : x = 0
 ·subst hx0
  rw [show (((toW (0 : Int).natAbs).length : Int) == 0) = true by rw [show (0 : Int).natAbs = 0 from rfl, toW_zero]; rfl]
  rw [show (0 : Int) ^ K = 0 from Int.zero_pow hK0, show zE 0 = 0 from zok_E (zok_small (by decide))]
  repeat first|apply wg|refine ss rfl ?_|apply nl
  refine W.ite rfl (fun h => ?_) (fun h => ?_)
  rotate_left
  ·cases h
  clear h
  repeat first|apply wg|refine ss rfl ?_|apply nl
  refine L.z2 (Cons.row (h := hc) r6) rfl rfl rfl ?_
  repeat first|apply wg|refine ss rfl ?_|apply nl
  have w9 := w6.cons hc
  refine L.st2 (Cons.row (h := hc) rb4) rfl rfl rfl rfl rfl rfl (fun T2 kk r2 => ?_)
  repeat first|apply wg|refine ss rfl ?_|apply nl
  exact ⟨.inr rfl, _, res2 rfl (load2 r2 rfl), _, rfl, kk.mono (kM.trans hc) g4, ⟨a6, c6, rfl, w9.kn kk (Cons.row (h := hc) rb4) noW⟩⟩
 rw [show (((toW x.natAbs).length : Int) == 0) = false from decide_eq_false (by omega)]
 refine W.ite rfl (fun h => ?_) (fun h => ?_)
 ·cases h
 clear h
 repeat first|apply wg|refine ss rfl ?_|apply nl
 refine L.zf (Cons.row (h := hc) r6) rfl rfl rfl rfl rfl ?_
 repeat first|apply wg|refine ss rfl ?_|apply nl
 have hl6 : (toW x.natAbs).length ≤ 64 := (toW_len _ _).2 (zfz_lt hfx)
 have hl7 : (toW K).length ≤ 64 := (toW_len _ _).2 (by rw [hK]; exact zfz_lt hfy)
 refine L.cv (length_C a6 c6 (toW x.natAbs) _ (w6.cons hc) (by omega)) rfl rfl fun T' k' => ?_
 replace hc := hc.trans k'
 repeat first|apply wg|refine ss rfl ?_|apply nl
 rw [wnum_toW]
 by_cases hx1 : x.natAbs = 1
 ·rw [show (((blen x.natAbs : Nat) : Int) == 1) = true by rw [hx1]; rfl]
  refine W.ite rfl (fun h => ?_) (fun h => ?_)
  rotate_left
  ·cases h
  clear h
  have hx2 : x = if decide (x < 0) then -1 else 1 := by
   by_cases h : x < 0
   ·rw [decide_eq_true h, if_pos rfl]; omega
   ·rw [decide_eq_false h]; simp only [Bool.false_eq_true, if_false]; omega
  have hpw : x ^ K = if decide (x < 0) && decide (K % 2 = 1) then -1 else 1 := by rw [← one_zpow, ← hx2]
  have hE1 : zE (x ^ K) = 0 := by rw [hpw]; exact zok_E (zok_small (by split <;> decide))
  have hab : (x ^ K).natAbs = x.natAbs := by rw [hpw, hx1]; split <;> rfl
  have hsg : decide (x ^ K < 0) = (decide (x < 0) && decide (K % 2 = 1)) := by
   rw [hpw]
   cases decide (x < 0) && decide (K % 2 = 1) <;> rfl
  rw [hE1]
  repeat first|apply wg|refine ss rfl ?_|apply nl
  refine L.zf (Cons.row (h := hc) r6) rfl rfl rfl rfl rfl ?_
  repeat first|apply wg|refine ss rfl ?_|apply nl
  have w9 := w6.cons hc
  by_cases hneg : x < 0
  ·rw [show decide (x < 0) = true from decide_eq_true hneg]
   repeat first|apply wg|refine ss rfl ?_|apply nl
   refine L.zf (Cons.row (h := hc) r7) rfl rfl rfl rfl rfl ?_
   repeat first|apply wg|refine ss rfl ?_|apply nl
   have hk1 : (toW K)[0]? = some (BitVec.ofNat 64 K) := by rw [toW_pos hK0]; rfl
   refine L.el (w7.cons hc).1 (k := 0) rfl (wv_get hk1) rfl rfl rfl rfl (fun _ => rfl) rfl (fun p => ?_)
   repeat first|apply wg|refine ss rfl ?_|apply nl
   have hmod : (Int.tmod ((BitVec.ofNat 64 K).toNat : Int) 2 == 1) = decide (K % 2 = 1) := by
    have e : (BitVec.ofNat 64 K).toNat = K % 18446744073709551616 := BitVec.toNat_ofNat ..
    rw [e]
    have : Int.tmod ((K % 18446744073709551616 : Nat) : Int) 2 = ((K % 2 : Nat) : Int) := by
     rw [show (2 : Int) = ((2 : Nat) : Int) from rfl, ← Int.ofNat_tmod]
     congr 1
     omega
    rw [this]
    exact decide_eq_decide.2 (by omega)
   rw [hmod]
   refine L.zf (Cons.row (h := hc) r6) rfl rfl rfl rfl rfl ?_
   repeat first|apply wg|refine ss rfl ?_|apply nl
   refine L.bd #[(.bool (decide (K % 2 = 1))), (.slice a6 (toW x.natAbs).length c6)] (pl := [(0, (.bool (decide (K % 2 = 1)))), (1, (.slice a6 (toW x.natAbs).length c6))]) (z := .agg #[.bool false, .slice none 0 0]) rfl rfl rfl (by kernel_rfl) rfl ?_
   repeat first|apply wg|refine ss rfl ?_|apply nl
   rw [decide_eq_true hneg, Bool.true_and] at hsg
   rw [← hsg]
   refine L.st2 (Cons.row (h := hc) rb4) rfl rfl rfl rfl rfl rfl (fun T2 kk r2 => ?_)
   repeat first|apply wg|refine ss rfl ?_|apply nl
   exact ⟨.inr rfl, _, res2 rfl (load2 r2 rfl), _, rfl, kk.mono (kM.trans hc) g4, ⟨a6, c6, by rw [if_pos rfl, hab], by rw [if_pos rfl, hab]; exact w9.kn kk (Cons.row (h := hc) rb4) noW⟩⟩
  ·rw [show decide (x < 0) = false from decide_eq_false hneg]
   repeat first|apply wg|refine ss rfl ?_|apply nl
   refine L.zf (Cons.row (h := hc) r6) rfl rfl rfl rfl rfl ?_
   repeat first|apply wg|refine ss rfl ?_|apply nl
   refine L.bd #[(.bool false), (.slice a6 (toW x.natAbs).length c6)] (pl := [(0, (.bool false)), (1, (.slice a6 (toW x.natAbs).length c6))]) (z := .agg #[.bool false, .slice none 0 0]) rfl rfl rfl (by kernel_rfl) rfl ?_
   repeat first|apply wg|refine ss rfl ?_|apply nl
   rw [decide_eq_false hneg, Bool.false_and] at hsg
   rw [← hsg]
   refine L.st2 (Cons.row (h := hc) rb4) rfl rfl rfl rfl rfl rfl (fun T2 kk r2 => ?_)
   repeat first|apply wg|refine ss rfl ?_|apply nl
   exact ⟨.inr rfl, _, res2 rfl (load2 r2 rfl), _, rfl, kk.mono (kM.trans hc) g4, ⟨a6, c6, by rw [if_pos rfl, hab], by rw [if_pos rfl, hab]; exact w9.kn kk (Cons.row (h := hc) rb4) noW⟩⟩
 have hbl : ((blen x.natAbs : Nat) : Int) ≠ 1 := by
  have h1 := @blen_le x.natAbs 1
  omega
 rw [show (((blen x.natAbs : Nat) : Int) == 1) = false from decide_eq_false hbl]
 refine W.ite rfl (fun h => ?_) (fun h => ?_)
 ·cases h
 clear h
 have hx2 : 2 ≤ x.natAbs := by omega
 repeat first|apply wg|refine ss rfl ?_|apply nl
 refine L.zf (Cons.row (h := hc) r7) rfl rfl rfl rfl rfl ?_
 repeat first|apply wg|refine ss rfl ?_|apply nl
 by_cases hsm : K < 18446744073709551616
 rotate_left
 ·have hl2 := toW_big hsm
  rw [show decide (((toW K).length : Int) > 1) = true from decide_eq_true (by omega)]
  repeat first|apply wg|refine ss rfl ?_|apply nl
  refine W.ite rfl (fun h => ?_) (fun h => ?_)
  rotate_left
  ·cases h
  clear h
  repeat first|apply wg|refine ss rfl ?_|apply nl
  rw [zE_big hx2 (by omega)]
  refine L.bd #[.bool false, .slice none 0 0] (pl := []) (z := .agg #[.bool false, .slice none 0 0]) rfl rfl rfl (by kernel_rfl) rfl ?_
  repeat first|apply wg|refine ss rfl ?_|apply nl
  refine L.st2 (Cons.row (h := hc) rb4) rfl rfl rfl rfl rfl rfl (fun T2 kk r2 => ?_)
  repeat first|apply wg|refine ss rfl ?_|apply nl
  exact ⟨.inr rfl, _, res2 rfl (load2 r2 rfl), _, rfl, kk.mono (kM.trans hc) g4, ZIs.z0 (by decide)⟩
 have h1w := toW_one hK0 hsm
 have hlen : (toW K).length = 1 := by rw [h1w]; rfl
 have hk1 : (toW K)[0]? = some (BitVec.ofNat 64 K) := by rw [h1w]; rfl
 have hkn : (BitVec.ofNat 64 K).toNat = K := by rw [BitVec.toNat_ofNat]; exact Nat.mod_eq_of_lt hsm
 have hkv : v64 (BitVec.ofNat 64 K) = .int .u64 (K : Int) := congrArg (fun n : Nat => Value.int .u64 (n : Int)) hkn
 rw [show decide (((toW K).length : Int) > 1) = false from decide_eq_false (by omega)]
 repeat first|apply wg|refine ss rfl ?_|apply nl
 refine L.zf (Cons.row (h := hc) r7) rfl rfl rfl rfl rfl ?_
 repeat first|apply wg|refine ss rfl ?_|apply nl
 refine L.el (w7.cons hc).1 (k := 0) rfl (wv_get hk1) rfl rfl rfl rfl (fun _ => rfl) rfl (fun p => ?_)
 rw [hkv]
 repeat first|apply wg|refine ss rfl ?_|apply nl
 refine W.ite rfl (fun h => ?_) (fun h => ?_)
 ·have := of_decide_eq_true h
  clear h
  repeat first|apply wg|refine ss rfl ?_|apply nl
  rw [zE_big hx2 (by omega)]
  refine L.bd #[.bool false, .slice none 0 0] (pl := []) (z := .agg #[.bool false, .slice none 0 0]) rfl rfl rfl (by kernel_rfl) rfl ?_
  repeat first|apply wg|refine ss rfl ?_|apply nl
  refine L.st2 (Cons.row (h := hc) rb4) rfl rfl rfl rfl rfl rfl (fun T2 kk r2 => ?_)
  repeat first|apply wg|refine ss rfl ?_|apply nl
  exact ⟨.inr rfl, _, res2 rfl (load2 r2 rfl), _, rfl, kk.mono (kM.trans hc) g4, ZIs.z0 (by decide)⟩
 have hK4 : K ≤ 4096 := by have := of_decide_eq_false h; omega
 clear h
 repeat first|apply wg|refine ss rfl ?_|apply nl
 refine L.cl (rzInt_C 1 _ (by decide)) rfl rfl ?_
 rintro _ T' ⟨⟨a9, c9, rfl, w9⟩, k'⟩
 refine ⟨fun _ => k', ?_⟩
 replace hc := hc.trans k'
 repeat first|apply wg|refine ss rfl ?_|apply nl
 refine L.nr [.bool false, .slice none 0 0] wT rfl rfl (fun b8 T5 g5 k5 r5 => ?_)
 have hM8 : T4'.length ≤ b8 := Nat.le_trans hc.len g5
 refine L.st2 r5 rfl rfl rfl rfl rfl rfl (fun T6 kk6 r8 => ?_)
 have k9 := kk6.mono k5 g5
 replace w9 := w9.cons k9
 replace hc := hc.trans k9
 clear kk6 k5 g5 r5 k' k9
 repeat first|apply wg|refine ss rfl ?_|apply nl
 refine W.mono (R := fun q e T => (q = .exit 0 ∧ Cons T4' T ∧ e 4 = .pointer (some ⟨b4, 0, none⟩) ∧ e 8 = .pointer (some ⟨b8, 0, none⟩) ∧ ZCell T b8 (x ^ K) ∧ zE (x ^ K) = 0) ∨ (q = .ret ∧ zE (x ^ K) = 3 ∧ ∃ T0, Cons T4' T0 ∧ Keep b4 T0 T ∧ T.row? b4 = some (newR [.bool false, .slice none 0 0] wT) ∧ e 4 = .pointer (some ⟨b4, 0, none⟩) ∧ e 5 = .int .i64 3)) ?_ ?_
 ·refine W.loop (fun j e T => ∃ s : Nat, j = K - s ∧ s ≤ K ∧ Cons T4' T ∧ e 4 = .pointer (some ⟨b4, 0, none⟩) ∧ e 6 = .pointer (some ⟨b6, 0, none⟩) ∧ e 7 = .pointer (some ⟨b7, 0, none⟩) ∧ e 8 = .pointer (some ⟨b8, 0, none⟩) ∧ e 9 = .int .u64 (s : Int) ∧ ZCell T b8 (x ^ s) ∧ zE (x ^ s) = 0) K
   ⟨0, rfl, Nat.zero_le _, hc, rfl, rfl, rfl, rfl, rfl, by rw [Int.pow_zero]; exact ⟨a9, c9, r8, w9⟩, by rw [Int.pow_zero]; exact zok_E (zok_small (by decide))⟩ ?_
  clear hc w9 r8
  rintro q e T ⟨s, rfl, hs, hc, e4, e6, e7, e8, e9, hz8, hE⟩
  refine W.env5 e4 e6 e7 e8 e9 ?_
  clear e4 e6 e7 e8 e9
  repeat first|apply wg|refine ss rfl ?_|apply nl
  refine L.zf (Cons.row (h := hc) r7) rfl rfl rfl rfl rfl ?_
  repeat first|apply wg|refine ss rfl ?_|apply nl
  refine L.el (w7.cons hc).1 (k := 0) rfl (wv_get hk1) rfl rfl rfl rfl (fun _ => rfl) rfl (fun p => ?_)
  rw [hkv]
  repeat first|apply wg|refine ss rfl ?_|apply nl
  refine W.ite rfl (fun h => ?_) (fun h => ?_)
  ·have hsK : s < K := by have := of_decide_eq_true h; omega
   clear h
   repeat first|apply wg|refine ss rfl ?_|apply nl
   obtain ⟨a8, c8, r8, w8⟩ := hz8
   have b8l := row_lt r8
   refine L.z2 r8 rfl rfl rfl ?_
   repeat first|apply wg|refine ss rfl ?_|apply nl
   refine L.z2 (Cons.row (h := hc) r6) rfl rfl rfl ?_
   repeat first|apply wg|refine ss rfl ?_|apply nl
   have hb8 : (x ^ s).natAbs < 2 ^ (64 * 64) := by
    unfold zE at hE
    split at hE
    ·assumption
    ·cases hE
   have h8 : ZIs T (.agg #[.bool (decide (x ^ s < 0)), .slice a8 (toW (x ^ s).natAbs).length c8]) (x ^ s) := ⟨a8, c8, rfl, w8⟩
   have h6 : ZIs T (.agg #[.bool (decide (x < 0)), .slice a6 (toW x.natAbs).length c6]) x := ⟨a6, c6, rfl, w6.cons hc⟩
   refine L.cl (rzTimes_C (h8.inn hb8) (h6.inn (zfz_lt hfx)) (by omega) (by omega)) rfl rfl ?_
   rintro _ T' ⟨⟨a9, c9, rfl, w9⟩, k'⟩
   refine ⟨fun _ => k', ?_⟩
   have hbm := zmul_lt hb8 (zfz_lt hfx)
   rw [← Int.pow_succ] at w9 hbm ⊢
   repeat first|apply wg|refine ss rfl ?_|apply nl
   have rr := Cons.row (h := k') r8
   refine L.st2 rr rfl rfl rfl rfl rfl rfl (fun T6 kk6 r6' => ?_)
   replace hc := kk6.mono (hc.trans k') hM8
   replace w9 := w9.kn kk6 rr noW
   clear kk6 rr k' r8 w8 h8 h6
   repeat first|apply wg|refine ss rfl ?_|apply nl
   refine L.ldA (a := ⟨b8, 0, none⟩) (n := 2) (l := [.bool (decide (x ^ (s + 1) < 0)), .slice a9 (toW (x ^ (s + 1)).natAbs).length c9]) (cellsAt_of (o := 0) (n := 2) r6' (Nat.le_refl 2)) rfl rfl rfl ?_
   repeat first|apply wg|refine ss rfl ?_|apply nl
   have h9 : ZIs T6 (.agg #[.bool (decide (x ^ (s + 1) < 0)), .slice a9 (toW (x ^ (s + 1)).natAbs).length c9]) (x ^ (s + 1)) := ⟨a9, c9, rfl, w9⟩
   have hz9 : ZCell T6 b8 (x ^ (s + 1)) := ⟨a9, c9, r6', w9⟩
   refine L.cv (rzFits_C (h9.inn hbm) (by omega)) rfl rfl fun T' k' => ?_
   replace hc := hc.trans k'
   replace hz9 := hz9.cons k'
   repeat first|apply wg|refine ss rfl ?_|apply nl
   cases hf9 : zfz (x ^ (s + 1))
   ·have hfin : zE (x ^ K) = 3 := zE_up (i := s + 1) (by omega) (by omega) (by rw [zfz_E, hf9]; rfl)
    repeat first|apply wg|refine ss rfl ?_|apply nl
    refine W.ite rfl (fun h => ?_) (fun h => ?_)
    rotate_left
    ·cases h
    clear h
    repeat first|apply wg|refine ss rfl ?_|apply nl
    refine L.bd #[.bool false, .slice none 0 0] (pl := []) (z := .agg #[.bool false, .slice none 0 0]) rfl rfl rfl (by kernel_rfl) rfl ?_
    repeat first|apply wg|refine ss rfl ?_|apply nl
    refine L.st2 (Cons.row (h := hc) rb4) rfl rfl rfl rfl rfl rfl (fun T2 kk r2 => ?_)
    repeat first|apply wg|refine ss rfl ?_|apply nl
    exact .inr ⟨rfl, hfin, _, hc, kk, r2, rfl, rfl⟩
   ·repeat first|apply wg|refine ss rfl ?_|apply nl
    refine W.ite rfl (fun h => ?_) (fun h => ?_)
    ·cases h
    clear h
    repeat first|apply wg|refine ss rfl ?_|apply nl
    refine ⟨K - (s + 1), by omega, s + 1, rfl, by omega, hc, rfl, rfl, rfl, rfl, ?_, hz9, by rw [zfz_E, hf9]; rfl⟩
    exact congrArg (Value.int .u64) (wrapU64 (by omega) (by omega))
  ·have hsK : s = K := by have := of_decide_eq_false h; omega
   subst hsK
   clear h
   repeat first|apply wg|refine ss rfl ?_|apply nl
   exact .inl ⟨rfl, hc, rfl, rfl, hz8, hE⟩
 clear hc w9 r8
 rintro q e T (⟨rfl, hc, e4, e8, ⟨a9, c9, r9, w9⟩, hE⟩ | ⟨rfl, hE, T0, hc, kk, r2, e4, e5⟩)
 ·refine W.env2 e4 e8 ?_
  clear e4 e8
  rw [hE]
  repeat first|apply wg|refine ss rfl ?_|apply nl
  refine L.z2 r9 rfl rfl rfl ?_
  repeat first|apply wg|refine ss rfl ?_|apply nl
  refine L.st2 (Cons.row (h := hc) rb4) rfl rfl rfl rfl rfl rfl (fun T2 kk r2 => ?_)
  repeat first|apply wg|refine ss rfl ?_|apply nl
  exact ⟨.inr rfl, _, res2 rfl (load2 r2 rfl), _, rfl, kk.mono (kM.trans hc) g4, ⟨a9, c9, rfl, w9.kn kk (Cons.row (h := hc) rb4) noW⟩⟩
 ·rw [hE]
  refine ⟨.inr rfl, _, res2 rfl (by rw [e4]; exact load2 r2 rfl), _, by rw [e5], kk.mono (kM.trans hc) g4, ZIs.z0 (by decide)⟩
end Go.Proofs.YtbiigbicgfchiaaGreatDoor

/- Lists of words made after M0, ahead of the book that they are put into. Conditions: none. -/
namespace Go.Proofs.YtbiigbicgfchiaaGreatDoor
open Go
def PK (M0 T : Mem) (ds : List Hd) : Prop := Cons M0 T ∧ Alive T 57 ds ∧ Own ds ∧ ∀ b ∈ blks ds, M0.length ≤ b
theorem PK.nil (M0 : Mem) : PK M0 M0 [] := ⟨Cons.refl _, .nil _ _, .nil, fun b hb => by simp [blks] at hb⟩
theorem PK.cons {M0 T T' : Mem} {ds : List Hd} (h : PK M0 T ds) (k : Cons T T') : PK M0 T' ds := by
 obtain ⟨hc, hA, hO, hD⟩ := h
 exact ⟨hc.trans k, hA.keep (k.keepL []) (by simp), hO, hD⟩
theorem PK.add {M0 T T' : Mem} {ds : List Hd} {d : Hd} {l : WL} (h : PK M0 T ds) (r : RetW T T' d l) (hl : l.length ≤ 1000000000000) : PK M0 T' (ds ++ [d]) := by
 have h' := h.cons r.1
 obtain ⟨hc, hA, hO, hD⟩ := h
 obtain ⟨_, hA', _, _⟩ := h'
 have hlt : ∀ b ∈ blks ds, b < T.length := fun b hb => hA.lt hb
 have hn : d.n = l.length := by have := r.2.2.1.len; rw [wv_len] at this; omega
 refine ⟨hc.trans r.1, ?_, ?_, ?_⟩
 ·intro i x hi
  rw [List.getElem?_append] at hi
  split at hi
  ·exact hA' i x hi
  ·rw [List.getElem?_singleton] at hi
   split at hi
   ·cases hi
    exact ⟨by omega, _, r.2.2.1⟩
   ·cases hi
 ·intro i j x y b hi hj ex ey
  rw [List.getElem?_append] at hi hj
  split at hi <;> split at hj
  ·exact hO i j x y b hi hj ex ey
  ·rw [List.getElem?_singleton] at hj
   split at hj
   ·cases hj
    have h1 := hlt b (blks_mem hi ex)
    have h2 := r.2.2.2 b ey
    omega
   ·cases hj
  ·rw [List.getElem?_singleton] at hi
   split at hi
   ·cases hi
    have h1 := hlt b (blks_mem hj ey)
    have h2 := r.2.2.2 b ex
    omega
   ·cases hi
  ·rw [List.getElem?_singleton] at hi hj
   split at hi
   ·split at hj
    ·omega
    ·cases hj
   ·cases hi
 ·intro b hb
  rcases mem_blks'.1 hb with hb | hb
  ·exact hD b hb
  ·exact Nat.le_trans hc.len (r.2.2.2 b hb)
end Go.Proofs.YtbiigbicgfchiaaGreatDoor

/- Answers of the calls, and the statements' same. Conditions: none. -/
namespace Go.Proofs.YtbiigbicgfchiaaGreatDoor
open Go Ie
variable {Ext : FuncId → List Value → Mem → Outc → Mem → Prop}
theorem lent_win {S : Mem} {b : Nat} {l : WL} (h : S.row? b = some (grownR (wv (l ++ marksW 16)) 57 1)) (hl : l.length < 4294967296) : WIn S (some ⟨b, 0, none⟩) (UNK + (l.length + 16)) l := by
 refine ⟨?_, by rw [knownCap_unk]; omega, nofun, by omega⟩
 have := Slv.of (sz := 1) (n := l.length) (o := 0) (c := UNK + (l.length + 16)) h (by simp [grownR, wv]) (.inl rfl)
 rwa [List.drop_zero, show ((grownR (wv (l ++ marksW 16)) 57 1).cells.take (l.length * 1)) = wv l by simp [grownR, wv]] at this
end Go.Proofs.YtbiigbicgfchiaaGreatDoor

/- Layer 2: what the laws by the document's answer share. Conditions: none. -/
namespace Go.Proofs.YtbiigbicgfchiaaGreatDoor
open Go Ie
variable {Ext : FuncId → List Value → Mem → Outc → Mem → Prop} {S : Mem} {u v : Value} {x y : Int} {i j : Nat}
def zcE (E z : Int) : Int := if E = 0 then z else 0
theorem ZAns.both {S' : Mem} {w : Value} {E z : Int} (h : ZAns S S' w E z) : ∃ d : Hd, w = .tuple #[.agg #[.bool (decide (zcE E z < 0)), .slice d.ad (toW (zcE E z).natAbs).length d.c], .int .i64 E] ∧ RetW S S' d (toW (zcE E z).natAbs) := by
 obtain ⟨d, rfl, r⟩ := h
 unfold zcE
 by_cases hE : E = 0
 ·subst hE
  rw [if_pos rfl]
  have e : zL 0 z = toW z.natAbs := if_pos rfl
  rw [e] at r
  refine ⟨d, ?_, r⟩
  rw [r.val]
  rfl
 ·rw [if_neg hE]
  have e : zL E z = [] := if_neg hE
  have e2 : zN E z = false := if_neg hE
  have e3 : toW (0 : Int).natAbs = [] := toW_zero
  rw [e] at r
  refine ⟨d, ?_, by rw [e3]; exact r⟩
  rw [r.val, e2, e3]
  rfl
theorem zcE_len {z : Int} (h : zok z) : (toW z.natAbs).length ≤ 1000000000000 := Nat.le_trans ((toW_len _ 64).2 h) (by decide)
theorem zok_zero : zok 0 := zok_small (by decide)
theorem zcE_ok {E z : Int} (h : E = 0 → zok z) : zok (zcE E z) := by
 unfold zcE
 split
 ·rename_i h0; exact h h0
 ·exact zok_zero
theorem zE_zok {z : Int} (h : zE z = 0) : zok z := by
 unfold zE at h
 split at h
 ·assumption
 ·cases h
theorem zz2_ok {x y z : Int} : zok (zcE (zz2 x y z) z) := zcE_ok fun h => by
 unfold zz2 at h
 split at h
 ·exact zE_zok h
 ·cases h
theorem zE_ok {z : Int} : zok (zcE (zE z) z) := zcE_ok fun h => zE_zok h
theorem zzP_ok {x y : Int} : zok (zcE (zzP x y) (x ^ y.toNat)) := zcE_ok fun h => by
 unfold zzP at h
 split at h
 ·split at h
  ·cases h
  ·exact zE_zok h
 ·cases h
theorem zzD_fit {x y : Int} (h : zzD x y = 0) : zok x := by
 unfold zzD at h
 split at h
 ·rename_i h1
  rw [Bool.and_eq_true] at h1
  exact of_decide_eq_true (p := x.natAbs < 2 ^ 4096) h1.1
 ·cases h
theorem zzQ_ok {x y : Int} : zok (zcE (zzD x y) (x.tdiv y)) := zcE_ok fun h => by
 have := zzD_fit h
 unfold zok at *
 rw [Int.natAbs_tdiv]
 exact Nat.lt_of_le_of_lt (Nat.div_le_self _ _) this
theorem zzR_ok {x y : Int} : zok (zcE (zzD x y) (x.tmod y)) := zcE_ok fun h => by
 have := zzD_fit h
 unfold zok at *
 rw [Int.natAbs_tmod]
 exact Nat.lt_of_le_of_lt (Nat.mod_le _ _) this
theorem iAdd_C (hx : ZIn S u x i) (hy : ZIn S v y j) : C Tryz.prog gN Ext 30 [u, v] S fun w S' => ZAns S S' w (zz2 x y (x + y)) (x + y) := by
 obtain ⟨n, a1, c1, l, rfl, h1, hl, rfl⟩ := hx
 obtain ⟨m, a2, c2, k, rfl, h2, hk, rfl⟩ := hy
 rw [← zE2_zv]
 exact zAdd_C n m a1 a2 c1 c2 l k S h1 h2
theorem iSub_C (hx : ZIn S u x i) (hy : ZIn S v y j) : C Tryz.prog gN Ext 31 [u, v] S fun w S' => ZAns S S' w (zz2 x y (x - y)) (x - y) := by
 obtain ⟨n, a1, c1, l, rfl, h1, hl, rfl⟩ := hx
 obtain ⟨m, a2, c2, k, rfl, h2, hk, rfl⟩ := hy
 rw [← zE2_zv]
 exact zSub_C n m a1 a2 c1 c2 l k S h1 h2
theorem iMul_C (hx : ZIn S u x i) (hy : ZIn S v y j) (hS : SinOk S) (hG : gN ≤ S.length) : C Tryz.prog gN Ext 24 [u, v] S fun w S' => ZAns S S' w (zz2 x y (x * y)) (x * y) := by
 obtain ⟨n, a1, c1, l, rfl, h1, hl, rfl⟩ := hx
 obtain ⟨m, a2, c2, k, rfl, h2, hk, rfl⟩ := hy
 rw [← zE2_zv]
 exact zMul_C n m a1 a2 c1 c2 l k S h1 h2 hS hG
theorem iNeg_C (hx : ZIn S u x i) : C Tryz.prog gN Ext 32 [u] S fun w S' => ZAns S S' w (zE (-x)) (-x) := by
 obtain ⟨n, a1, c1, l, rfl, h1, hl, rfl⟩ := hx
 exact zNeg_C n a1 c1 l S h1
theorem iQuo_C (hx : ZIn S u x i) (hy : ZIn S v y j) : C Tryz.prog gN Ext 26 [u, v] S fun w S' => ZAns S S' w (zzD x y) (x.tdiv y) := by
 obtain ⟨n, a1, c1, l, rfl, h1, hl, rfl⟩ := hx
 obtain ⟨m, a2, c2, k, rfl, h2, hk, rfl⟩ := hy
 rw [← zDE_zv]
 exact zQuo_C n m a1 a2 c1 c2 l k S h1 h2
theorem iRem_C (hx : ZIn S u x i) (hy : ZIn S v y j) : C Tryz.prog gN Ext 27 [u, v] S fun w S' => ZAns S S' w (zzD x y) (x.tmod y) := by
 obtain ⟨n, a1, c1, l, rfl, h1, hl, rfl⟩ := hx
 obtain ⟨m, a2, c2, k, rfl, h2, hk, rfl⟩ := hy
 rw [← zDE_zv]
 exact zRem_C n m a1 a2 c1 c2 l k S h1 h2
theorem iInt64_C (hx : ZIn S u x i) : C Tryz.prog gN Ext 34 [u] S fun w S' => w = .tuple #[.int .i64 (if i64ok x then x else 0), .bool (i64ok x)] ∧ Cons S S' := by
 obtain ⟨n, a1, c1, l, rfl, h1, hl, rfl⟩ := hx
 exact zInt64_C n a1 c1 l S h1
theorem iCmp_C (hx : ZIn S u x i) (hy : ZIn S v y j) : C Tryz.prog gN Ext 29 [u, v] S fun w S' => w = .int .i64 (cmpI x y) ∧ Cons S S' := by
 obtain ⟨n, a1, c1, l, rfl, h1, hl, rfl⟩ := hx
 obtain ⟨m, a2, c2, k, rfl, h2, hk, rfl⟩ := hy
 exact zCmp_C n m a1 a2 c1 c2 l k S h1 h2
theorem iSign_C (hx : ZIn S u x i) : C Tryz.prog gN Ext 28 [u] S fun w S' => w = .int .i64 (cmpI x 0) ∧ Cons S S' := by
 obtain ⟨n, a1, c1, l, rfl, h1, hl, rfl⟩ := hx
 exact zSign_C n a1 c1 l S h1
theorem iPow_C (hx : ZIn S u x i) (hy : ZIn S v y j) (hS : SinOk S) (hG : gN ≤ S.length) : C Tryz.prog gN Ext 12 [u, v] S fun w S' => ZAns S S' w (zzP x y) (x ^ y.toNat) := by
 obtain ⟨n, a1, c1, l, rfl, h1, hl, rfl⟩ := hx
 obtain ⟨m, a2, c2, k, rfl, h2, hk, rfl⟩ := hy
 rw [← zPE_zv]
 exact zPow_C n m a1 a2 c1 c2 l k S h1 h2 hS hG
theorem lentZ_C (n : Bool) (a : Option Addr) (c : Nat) (l : WL) (S : Mem) (h1 : WIn S a c l) (hl : l.length < 4294967296) :
  C Tryz.prog gN Ext 11 [.agg #[.bool n, .slice a l.length c]] S fun v S' => Cons S S' ∧ ∃ b, S.length ≤ b ∧ v = .agg #[.bool n, .slice (some ⟨b, 0, none⟩) l.length (UNK + (l.length + 16))] ∧ S'.row? b = some (grownR (wv (l ++ marksW 16)) 57 1) := by
 refine C.fn Tryz.func11 rfl (by kernel_rfl) rfl ?_
 repeat first|apply wg|refine ss rfl ?_|apply nl
 refine L.nr [.bool n, .slice a l.length c] wT rfl rfl (fun b2 Tb2 gb2 kb2 rb2 => ?_)
 refine L.nr [.bool false, .slice none 0 0] wT rfl rfl (fun b4 Tb4 gb4 kb4 rb4 => ?_)
 have kM := kb2.trans kb4
 have g4 : S.length ≤ b4 := Nat.le_trans kb2.len gb4
 replace rb2 := Cons.row (h := kb4) rb2
 replace h1 := h1.cons kM
 have hc := Cons.refl Tb4
 clear kb2 kb4 gb2 gb4
 repeat first|apply wg|refine ss rfl ?_|apply nl
 refine L.zf (Cons.row (h := hc) rb2) rfl rfl rfl rfl rfl ?_
 repeat first|apply wg|refine ss rfl ?_|apply nl
 refine L.zf (Cons.row (h := hc) rb2) rfl rfl rfl rfl rfl ?_
 repeat first|apply wg|refine ss rfl ?_|apply nl
 refine L.cl (lentW_C _ l Tb4 h1.1 hl) rfl rfl ?_
 rintro _ S1 ⟨k1, x, hx, rfl, hr0⟩
 refine ⟨fun _ => k1, ?_⟩
 replace hc := hc.trans k1
 repeat first|apply wg|refine ss rfl ?_|apply nl
 refine L.bd #[(.bool n), (.slice (some ⟨x, 0, none⟩) l.length (UNK + (l.length + 16)))] (pl := [(0, (.bool n)), (1, (.slice (some ⟨x, 0, none⟩) l.length (UNK + (l.length + 16))))]) (z := .agg #[.bool false, .slice none 0 0]) rfl rfl rfl (by kernel_rfl) rfl ?_
 repeat first|apply wg|refine ss rfl ?_|apply nl
 refine L.st2 (Cons.row (h := hc) rb4) rfl rfl rfl rfl rfl rfl (fun T2 kk r2 => ?_)
 repeat first|apply wg|refine ss rfl ?_|apply nl
 have h4 := row_lt rb4
 exact ⟨.inr rfl, _, res1 rfl (load2 r2 rfl), kk.mono (kM.trans hc) g4, x, Nat.le_trans kM.len hx, rfl, kk.row hr0 (by omega)⟩
theorem keptZ_C (n : Bool) (a : Option Addr) (b c : Nat) (l : WL) (S : Mem) (hr : S.row? b = some (grownR (wv (l ++ marksW 16)) 57 1)) (h1 : WIn S a c l) (hl : l.length < 4294967296) :
  C Tryz.prog gN Ext 17 [.agg #[.bool n, .slice (some ⟨b, 0, none⟩) l.length (UNK + (l.length + 16))], .agg #[.bool n, .slice a l.length c]] S fun v S' => v = .bool true ∧ Cons S S' := by
 refine C.fn Tryz.func17 rfl (by kernel_rfl) rfl ?_
 repeat first|apply wg|refine ss rfl ?_|apply nl
 refine L.nr [.bool n, .slice (some ⟨b, 0, none⟩) l.length (UNK + (l.length + 16))] wT rfl rfl (fun b2 Tb2 gb2 kb2 rb2 => ?_)
 refine L.nr [.bool n, .slice a l.length c] wT rfl rfl (fun b3 Tb3 gb3 kb3 rb3 => ?_)
 have kM := kb2.trans kb3
 replace rb2 := Cons.row (h := kb3) rb2
 replace h1 := h1.cons kM
 have hc := Cons.refl Tb3
 clear kb2 kb3 gb2 gb3
 repeat first|apply wg|refine ss rfl ?_|apply nl
 refine L.zf (Cons.row (h := hc) rb2) rfl rfl rfl rfl rfl ?_
 repeat first|apply wg|refine ss rfl ?_|apply nl
 refine L.zf (Cons.row (h := hc) rb3) rfl rfl rfl rfl rfl ?_
 repeat first|apply wg|refine ss rfl ?_|apply nl
 rw [show (n == n) = true from beq_self_eq_true n]
 repeat first|apply wg|refine ss rfl ?_|apply nl
 refine L.zf (Cons.row (h := hc) rb2) rfl rfl rfl rfl rfl ?_
 repeat first|apply wg|refine ss rfl ?_|apply nl
 refine L.zf (Cons.row (h := hc) rb3) rfl rfl rfl rfl rfl ?_
 repeat first|apply wg|refine ss rfl ?_|apply nl
 refine L.cs (keptW_C _ l b _ _ (Cons.row (h := kM) hr) rfl rfl h1.1 hl) rfl rfl ?_
 repeat first|apply wg|refine ss rfl ?_|apply nl
 exact ⟨.inr rfl, _, rfl, rfl, kM⟩
theorem zsame_C (E : Int) (hx : ZIs S u x) (hy : ZIs S v x) : C Tryz.prog gN Ext 14 [u, .int .i64 E, v, .int .i64 E] S fun w S' => w = .bool true ∧ Cons S S' := by
 refine C.fn Tryz.func14 rfl (by kernel_rfl) rfl ?_
 have hZ := Zs.nil S
 have hc := Cons.refl S
 repeat first|apply wg|refine ss rfl ?_|apply nl
 obtain ⟨aa, cc, rfl, ww⟩ := hx
 refine L.nr [.bool _, .slice aa _ cc] wT rfl rfl (fun b2 T' k' g' r' => ?_)
 replace hZ := (hZ.cons g').add ⟨aa, cc, r', ww.cons g'⟩
 replace hc := hc.trans g'
 clear g' k' r' ww
 replace hy := hy.cons hc
 obtain ⟨aa, cc, rfl, ww⟩ := hy
 refine L.nr [.bool _, .slice aa _ cc] wT rfl rfl (fun b3 T' k' g' r' => ?_)
 replace hZ := (hZ.cons g').add ⟨aa, cc, r', ww.cons g'⟩
 replace hc := hc.trans g'
 clear g' k' r' ww
 repeat first|apply wg|refine ss rfl ?_|apply nl
 rw [show (E == E) = true from beq_self_eq_true E]
 repeat first|apply wg|refine ss rfl ?_|apply nl
 refine L.zl (hZ.at 0 rfl) rfl rfl rfl (fun u1 hu1 => ?_)
 repeat first|apply wg|refine ss rfl ?_|apply nl
 refine L.zl (hZ.at 1 rfl) rfl rfl rfl (fun u2 hu2 => ?_)
 repeat first|apply wg|refine ss rfl ?_|apply nl
 refine L.cv (nSame_C hu1 hu2) rfl rfl fun T' k' => ?_
 replace hZ := hZ.cons k'
 replace hc := hc.trans k'
 repeat first|apply wg|refine ss rfl ?_|apply nl
 exact ⟨.inr rfl, _, rfl, congrArg Value.bool (decide_eq_true rfl), hc⟩
def BkT (T0 T : Mem) (rb : Nat) (ws ds : List Hd) : Prop := Cons T0 T ∧ ∃ ps, Book T rb ws [] ps ∧ (∀ r ∈ ps, T0.length ≤ r ∧ r < T.length) ∧ Alive T 57 (ws ++ ds) ∧ Own (ws ++ ds) ∧ ∀ b ∈ blks (ws ++ ds), b < T0.length
theorem BkT.cons {T0 T T' : Mem} {rb : Nat} {ws ds : List Hd} (h : BkT T0 T rb ws ds) (k : Cons T T') : BkT T0 T' rb ws ds := by
 obtain ⟨hc, ps, hB, hp, hA, hO, hD⟩ := h
 exact ⟨hc.trans k, ps, hB.cons k, fun r hm => ⟨(hp r hm).1, Nat.lt_of_lt_of_le (hp r hm).2 k.len⟩, hA.keep (k.keepL []) (by simp), hO, hD⟩
theorem PK.bookT {M0 T : Mem} {ds : List Hd} (h : PK M0 T ds) : BkT T (T ++ [newR [.slice none 0 0, .slice none 0 0] 33]) T.length [] ds := by
 obtain ⟨hc, hA, hO, hD⟩ := h
 have k : Cons T (T ++ [newR [.slice none 0 0, .slice none 0 0] 33]) := Cons.push _ _
 refine ⟨k, [T.length], Book.new T, fun r hm => ?_, by rw [List.nil_append]; exact hA.keep (k.keepL []) (by simp), by rw [List.nil_append]; exact hO, fun b hb => ?_⟩
 ·simp at hm
  subst hm
  exact ⟨Nat.le_refl _, by simp⟩
 ·rw [List.nil_append] at hb
  exact hA.lt hb
theorem words_BkT {T0 T : Mem} {rb : Nat} {ws ds : List Hd} {d : Hd} (hK : BkT T0 T rb ws (d :: ds)) (hn : ws.length < 1000000) : C Tryz.prog gN Ext 62 [.pointer (some ⟨rb, 0, none⟩), d.v] T fun v T' => BkT T0 T' rb (ws ++ [d]) ds := by
 obtain ⟨hc, ps, hB, hp, hA, hO, hD⟩ := hK
 obtain ⟨v, S', h1, ps', q1, q2, q3⟩ := words_C (G := gN) (Ext := Ext) T d rb ws [] ps hB hn
 have e : (ws ++ [d]) ++ ds = ws ++ d :: ds := by simp
 refine ⟨v, S', h1, q3.cons0 hc (fun r hm => (hp r hm).1), _, q1.trim, fun r hm => ?_, ?_, by rw [e]; exact hO, ?_⟩
 ·obtain ⟨m1, m2⟩ := List.mem_filter.1 hm
  exact ⟨(q2 r m1).elim (fun h => (hp r h).1) (fun h => Nat.le_trans hc.len h), of_decide_eq_true m2⟩
 ·rw [e]
  exact hA.keep q3 (fun b hb hm => by have := hD b hm; have := (hp b hb).1; omega)
 ·rw [e]
  exact hD
theorem apart_BkT {M0 T0 T : Mem} {rb : Nat} {ws : List Hd} (hK : BkT T0 T rb ws []) (hM : Cons M0 T0) (hL : ∀ b ∈ blks ws, M0.length ≤ b) (hn : ws.length < 1000000) : C Tryz.prog gN Ext 16 [.pointer (some ⟨rb, 0, none⟩)] T fun v T' => v = .bool true ∧ Cons M0 T' := by
 obtain ⟨hc, ps, hB, hp, hA, hO, hD⟩ := hK
 rw [List.append_nil] at hA hO hD
 obtain ⟨v, S', h1, h2, h3⟩ := apart_C (G := gN) (Ext := Ext) T rb ws [] ps hB ⟨hn, by decide⟩ hA (.nil _ _) hO .nil (fun b hb hm => by have := hD b hb; have := (hp b hm).1; omega) (by simp [blks]) (by simp [blks])
 refine ⟨v, S', h1, h2, h3.cons0 (hM.trans hc) (fun b hm => ?_)⟩
 rw [blks_nil, List.append_nil] at hm
 exact hL b hm
theorem zBook_C {T0 T : Mem} {rb : Nat} {ws ds : List Hd} {d : Hd} (b : Bool) (n : Nat) (hv : d.v = .slice d.ad n d.c) (hK : BkT T0 T rb ws (d :: ds)) (hn : ws.length < 1000000) :
  C Tryz.prog gN Ext 15 [.pointer (some ⟨rb, 0, none⟩), .agg #[.bool b, .slice d.ad n d.c]] T fun v T' => BkT T0 T' rb (ws ++ [d]) ds := by
 refine C.fn Tryz.func15 rfl (by kernel_rfl) rfl ?_
 repeat first|apply wg|refine ss rfl ?_|apply nl
 refine L.nr [.bool b, .slice d.ad n d.c] wT rfl rfl (fun b2 Tb2 gb2 kb2 rb2 => ?_)
 have hc := Cons.refl Tb2
 repeat first|apply wg|refine ss rfl ?_|apply nl
 refine L.zf (Cons.row (h := hc) rb2) rfl rfl rfl rfl rfl ?_
 repeat first|apply wg|refine ss rfl ?_|apply nl
 rw [← hv]
 refine L.cl (words_BkT (hK.cons kb2) hn) rfl rfl ?_
 rintro _ T' hB'
 refine ⟨nofun, ?_⟩
 repeat first|apply wg|refine ss rfl ?_|apply nl
 exact ⟨.inl rfl, _, rfl, hB'⟩
def QCell (T : Mem) (b : Nat) (d : Hd) (z : Int) : Prop := T.row? b = some (newR [.bool (decide (z < 0)), .slice d.ad (toW z.natAbs).length d.c] wT) ∧ WIn T d.ad d.c (toW z.natAbs)
def Qs (T : Mem) (L : List (Nat × Hd × Int)) : Prop := ∀ p ∈ L, QCell T p.1 p.2.1 p.2.2
theorem Qs.nil (T : Mem) : Qs T [] := fun p hp => by simp at hp
theorem Qs.cons {T T' : Mem} {L : List (Nat × Hd × Int)} (h : Qs T L) (k : Cons T T') : Qs T' L := fun p hp => ⟨Cons.row (h := k) (h p hp).1, (h p hp).2.cons k⟩
theorem Qs.add {T : Mem} {L : List (Nat × Hd × Int)} {b : Nat} {d : Hd} {z : Int} (h : Qs T L) (w : QCell T b d z) : Qs T (L ++ [(b, d, z)]) := fun p hp => by
 rcases List.mem_append.1 hp with hp | hp
 ·exact h p hp
 ·obtain rfl : p = (b, d, z) := by simpa using hp
  exact w
theorem Qs.at {T : Mem} {L : List (Nat × Hd × Int)} {b : Nat} {d : Hd} {z : Int} (h : Qs T L) (i : Nat) (e : L[i]? = some (b, d, z)) : QCell T b d z := h _ (List.mem_of_getElem? e)
theorem QCell.zis {T : Mem} {b : Nat} {d : Hd} {z : Int} (h : QCell T b d z) : ZIs T (.agg #[.bool (decide (z < 0)), .slice d.ad (toW z.natAbs).length d.c]) z := ⟨_, _, rfl, h.2⟩
section
variable {P : Program} {G : Nat} {e : Env} {fl : Bool} {ops : Array Oper} {K : Kont}
variable {rest : List Oper} {dst : Option Tmp} {ty : TypeId} {pos : String} {af : Array Edge} {gd : Option (Nat × Bool)}
theorem L.ql {t : TypeId} {x : Operand} {b : Nat} {d : Hd} {z : Int} (hc : QCell S b d z) (hw : awanted ops ⟨dst, .load t x, ty, pos, af, gd⟩ e = true) (hx : e.eval x = .pointer (some ⟨b, 0, none⟩)) (hl : aggSize P t = some 2)
  (h : L P G Ext fl ops rest (e.put dst (.agg #[.bool (decide (z < 0)), .slice d.ad (toW z.natAbs).length d.c])) S K) : L P G Ext fl ops (⟨dst, .load t x, ty, pos, af, gd⟩ :: rest) e S K :=
 L.ldA (a := ⟨b, 0, none⟩) (n := 2) (cellsAt_of (o := 0) (n := 2) hc.1 (Nat.le_refl 2)) hw hx hl h
end
end Go.Proofs.YtbiigbicgfchiaaGreatDoor

/- Arguments that came in, on the abstract memory of the world in which a call begins. Conditions: none. -/
namespace Go.Proofs.YtbiigbicgfchiaaGreatDoor
open Go
def IsRow (k : IntKind) (w : World) (a : Option Addr) (len cap : Nat) (zs : List Int) : Prop :=
 (a = none ∧ len = 0 ∧ cap = 0 ∧ zs = []) ∨
 ∃ x, a = some x ∧ len ≤ cap ∧ cap ≤ maxLen ∧ zs.length = cap ∧ (∀ i, i < zs.length → w.cell? (x.add i) = some (.int k (zs.getD i 0))) ∧ ∀ n ∈ zs, (Lit.int k n).wf = true
theorem row_cap {k : IntKind} {W : World} {a : Option Addr} {len cap : Nat} {zs : List Int} (h : IsRow k W a len cap zs) : cap < UNK ∧ len ≤ cap := by
 rcases h with ⟨rfl, rfl, rfl, rfl⟩ | ⟨x, rfl, hlc, hm, hz, hcell, hwf⟩
 ·exact ⟨by decide, by decide⟩
 ·exact ⟨by unfold maxLen at hm; unfold UNK; omega, hlc⟩
theorem world_ints {k : IntKind} {W : World} {N : Nat} {a : Option Addr} {len cap : Nat} {zs : List Int} (h : IsRow k W a len cap zs) (hb : ∀ x, a = some x → x.block < W.heap.size + N) :
  Slv (mem0 W N) 1 (.slice a len cap) len ((zs.take len).map (Value.int k)) ∧ VR (rho0 W N) (.slice a len cap) (.slice a len cap) ∧ (zs.take len).length = len ∧ Cut len cap ∧ (∀ n ∈ zs, (Lit.int k n).wf = true) := by
 rcases h with ⟨rfl, rfl, rfl, rfl⟩ | ⟨x, rfl, hlc, hm, hz, hcell, hwf⟩
 ·exact ⟨Slv.nil _ _ _ _, .slNil _ _, rfl, .inl ⟨by decide, by decide⟩, nofun⟩
 ·have hcu : cap < UNK := by unfold maxLen at hm; unfold UNK; omega
  have hlen : (zs.take len).length = len := by rw [List.length_take]; omega
  refine ⟨?_, (fixed_slice (N := N) (hb x rfl) hcu).1, hlen, .inl ⟨hcu, hlc⟩, hwf⟩
  rcases Nat.eq_zero_or_pos len with rfl | hpos
  ·rw [List.take_zero]; exact Slv.nil _ _ _ _
  have h0 := hcell 0 (by omega)
  have hx0 : x.add 0 = x := rfl
  rw [hx0] at h0
  unfold World.cell? at h0
  split at h0
  ·rename_i c el fz hh
   split at h0
   ·cases h0
   ·rename_i hsp
    have hsp' : x.spot = none := by cases hxs : x.spot <;> simp_all
    obtain ⟨r, hr, hrl, hrc⟩ := mem0_live (N := N) hh
    have hxa : x = ⟨x.block, x.off, none⟩ := by cases x; simp at hsp'; subst hsp'; rfl
    have hci : ∀ i, i < cap → r.cells[x.off + i]? = some (.int k (zs.getD i 0)) := by
     intro i hi
     have h1 := hcell i (by omega)
     have hadd : x.add i = ⟨x.block, x.off + i, none⟩ := by
      unfold Addr.add
      split
      ·rename_i h9; rw [h9]; exact hxa
      ·rfl
     rw [hadd] at h1
     simp only [World.cell?, hh] at h1
     exact hrc _ _ (by simpa using h1) (fixed_scalar W N rfl)
    have hbound : x.off + len * 1 ≤ r.cells.length := by
     have := (List.getElem?_eq_some_iff.1 (hci (len - 1) (by omega))).1
     omega
    have hseg : (r.cells.drop x.off).take (len * 1) = (zs.take len).map (Value.int k) := by
     apply List.ext_getElem?
     intro i
     rw [List.getElem?_take, Nat.mul_one]
     split
     ·rename_i hi
      rw [List.getElem?_drop, hci i (by omega), List.getElem?_map, List.getElem?_take, if_pos hi, List.getD_eq_getElem?_getD, List.getElem?_eq_getElem (by omega)]
      rfl
     ·rename_i hi
      rw [List.getElem?_eq_none (by rw [List.length_map, hlen]; omega)]
    have := Slv.of (sz := 1) (n := len) (c := cap) hr hbound (.inr (by rw [hseg, List.all_map, List.all_eq_true]; intro n _; rfl))
    rw [hseg, ← hxa] at this
    exact this
  ·cases h0
end Go.Proofs.YtbiigbicgfchiaaGreatDoor

/- Lists of words that came in within a struct, on the abstract memory of the world in which a call begins. Conditions: none. -/
namespace Go.Proofs.YtbiigbicgfchiaaGreatDoor
open Go Go.ChangeShapes Go.WideShapes
theorem words_in (zs : List Int) (len : Nat) (hwf : ∀ n ∈ zs, (Lit.int .u64 n).wf = true) (hl : (zs.take len).length = len) : ∃ l : WL, l.length = len ∧ wv l = (zs.take len).map (Value.int .u64) := by
 refine ⟨(zs.take len).map (BitVec.ofInt 64), by rw [List.length_map, hl], ?_⟩
 unfold wv
 rw [List.map_map]
 refine List.map_congr_left fun n hn => ?_
 have h := hwf n (List.mem_of_mem_take hn)
 have hx : 0 ≤ n ∧ n ≤ 18446744073709551615 := by simpa [Lit.wf, IntKind.min, IntKind.max, IntKind.signed, IntKind.bits] using h
 show v64 (BitVec.ofInt 64 n) = _
 rw [v64, ← wrap_u64, wrapU64 (by omega) (by omega)]
def WordsAt (W : World) (N0 : Nat) (v : Value) (l : WL) : Prop := ∃ a c, v = .slice a l.length c ∧ l.length ≤ knownCap c ∧ (a = none → c = 0) ∧ c < UNK ∧ ∀ N, N0 ≤ N → Slv (mem0 W N) 1 (.slice a l.length c) l.length (wv l) ∧ VR (rho0 W N) (.slice a l.length c) (.slice a l.length c) ∧ ∀ x, a = some x → x.block < (mem0 W N).length
theorem words_at {W : World} {a : Option Addr} {n c : Nat} {zs : List Int} (h : IsRow .u64 W a n c zs) : ∃ N l, WordsAt W N (.slice a n c) l := by
 obtain ⟨N, hN⟩ : ∃ N, ∀ x, a = some x → x.block < W.heap.size + N := by
  cases a with
  | none => exact ⟨0, nofun⟩
  | some x => exact ⟨x.block + 1, by rintro y ⟨⟩; omega⟩
 obtain ⟨hs, hv, hl, hc, hwf⟩ := world_ints (N := N) h hN
 have hcap := row_cap h
 obtain ⟨l, rfl, hb⟩ := words_in zs n hwf hl
 refine ⟨N, l, a, c, rfl, by unfold knownCap; rw [if_pos hcap.1]; exact hcap.2, ?_, hcap.1, fun M hM => ?_⟩
 ·rintro rfl
  rcases h with ⟨_, _, e, _⟩ | ⟨x, e, _⟩
  ·exact e
  ·cases e
 ·have hM' : ∀ x, a = some x → x.block < W.heap.size + M := fun x hx => by have := hN x hx; omega
  obtain ⟨hs, hv, _⟩ := world_ints (N := M) h hM'
  rw [← hb] at hs
  exact ⟨hs, hv, fun x hx => by rw [mem0_len]; exact hM' x hx⟩
theorem VR.agg2 {ρ : Nat → Option Loc} {u v u' v' : Value} (h : VR ρ u u') (k : VR ρ v v') : VR ρ (.agg #[u, v]) (.agg #[u', v']) := .agg _ _ rfl fun i x y hx hy => by
 match i with
 | 0 => cases hx; cases hy; exact h
 | 1 => cases hx; cases hy; exact k
 | i + 2 => simp at hx
theorem words_open {H : Type} {enc : TypeId × Value → H} {W : World} {fuel : Nat} {cs : List Value} {x : DataW H × List MemPlace} (h : DataW.trod enc Tryz.prog W 0 (fun _ => true) true fuel 22 cs = some x) : ∃ v N l, cs = [v] ∧ WordsAt W N v l := by
 rcases open_ints Tryz.underlying22 Tryz.underlying57 (by kernel_rfl) h with ⟨hcs, _⟩ | ⟨x, l, c, zs, hcs, _, hl, hm, hz, _, hcell, hwz⟩
 ·obtain ⟨N, w, hw⟩ := words_at (W := W) (a := none) (n := 0) (c := 0) (zs := []) (.inl ⟨rfl, rfl, rfl, rfl⟩)
  exact ⟨_, N, w, hcs, hw⟩
 ·obtain ⟨N, w, hw⟩ := words_at (W := W) (a := some x) (n := l) (c := c) (zs := zs) (.inr ⟨_, rfl, hl, hm, by simpa using hz, hcell, hwz⟩)
  exact ⟨_, N, w, hcs, hw⟩
end Go.Proofs.YtbiigbicgfchiaaGreatDoor

/- Whole numbers that came in, on the abstract memory of the world in which a call begins. Conditions: none. -/
namespace Go.Proofs.YtbiigbicgfchiaaGreatDoor
open Go Go.ChangeShapes Go.WideShapes
def WholeAt (W : World) (N0 : Nat) (v : Value) (b : Bool) (l : WL) : Prop := ∃ u, v = .agg #[.bool b, u] ∧ WordsAt W N0 u l
theorem whole_open {H : Type} {enc : TypeId × Value → H} {W : World} {fuel : Nat} {cs : List Value} {x : DataW H × List MemPlace} (h : DataW.trod enc Tryz.prog W 0 (fun _ => true) true fuel 24 cs = some x) : ∃ b u N l, cs = [.bool b, u] ∧ WordsAt W N u l := by
 obtain ⟨y0, y1, n, _, hl, h0, h1⟩ := trod_struct2 Tryz.underlying24 h
 obtain ⟨b, e1, _⟩ := DataW.trod_bool Tryz.underlying4 h0
 obtain ⟨u2, N2, l2, e2, k2⟩ := words_open h1
 have c1 : Tryz.prog.cellsOf 4 = 1 := by kernel_rfl
 have c2 : Tryz.prog.cellsOf 22 = 1 := by kernel_rfl
 have c3 : Tryz.prog.cellsOf 24 = 2 := by kernel_rfl
 rw [c3] at hl
 match cs, hl with
 | [x, y], _ =>
  have e3 : x = .bool b := by simpa [c1] using e1
  have e4 : y = u2 := by simpa [c1, c2] using e2
  rw [e3, e4]
  exact ⟨b, u2, N2, l2, rfl, k2⟩
theorem whole_world {H : Type} {enc : TypeId × Value → H} {W : World} {v : Value} {d : DataW H} {p : List MemPlace} (hw : ∃ cs, v = .agg cs ∧ cs.size = 2) (h : DataW.Trod enc Tryz.prog W 0 (fun _ => true) true 24 v d p) :
  ∃ N b l, WholeAt W N v b l := by
 obtain ⟨cs, rfl, hcs⟩ := hw
 obtain ⟨fuel, hf⟩ := h
 obtain ⟨x, y, rfl⟩ : ∃ x y, cs = #[x, y] := by
  obtain ⟨l⟩ := cs
  match l, hcs with
  | [x, y], _ => exact ⟨x, y, rfl⟩
 obtain ⟨b, u, N, l, e, k⟩ := whole_open hf
 obtain ⟨rfl, rfl⟩ : x = .bool b ∧ y = u := by simpa [Value.cells] using e
 exact ⟨N, b, l, _, rfl, k⟩
end Go.Proofs.YtbiigbicgfchiaaGreatDoor

/- What listed variables read as, in the abstract memory. Conditions: none. -/
namespace Go.Proofs.YtbiigbicgfchiaaGreatDoor
open Go Go.RowKit Ie
open Go.ChangeShapes Go.WideShapes Go.ChangeAt
section
variable {H : Type} {enc : TypeId × Value → H} {P : Program} {w : World} {base : Nat} {spare : Nat → Bool} {held : Bool} {fuel : Nat} {t : TypeId} {cs : List Value} {x : DataW H × List MemPlace}
theorem trod_float {k : FloatKind} (ht : P.underlying t = some (.float k)) (h : DataW.trod enc P w base spare held fuel t cs = some x) : ∃ b, cs = [.float k b] ∧ x = (.lit (.float k b), []) := by
 cases fuel with
 | zero => simp [DataW.trod] at h
 | succ n =>
  unfold DataW.trod at h
  rw [ht] at h
  split at h <;> simp_all
theorem arr_cells {n : Nat} {e : TypeId} {vs : List Value} {ls : List (DataW H)} {p : List MemPlace} (ht : P.underlying t = some (.array n e)) (c1 : P.cellsOf e = 1) (ct : P.cellsOf t = n) (hl : ls.length = n) (hvl : vs.length = n)
  (hel : ∀ (m i : Nat) (c : List Value) (y : DataW H × List MemPlace) (d : DataW H) (v : Value), DataW.trod enc P w base spare held m e c = some y → y.1 = d → ls[i]? = some d → vs[i]? = some v → c = [v])
  (h : DataW.trod enc P w base spare held fuel t cs = some (.agg ls, p)) : cs = vs := by
 obtain ⟨xs, m, rfl, hx, hlen, hn, hels⟩ := DataW.trod_array ht h
 simp only [Prod.mk.injEq, DataW.agg.injEq] at hx
 rw [ct] at hlen
 apply List.ext_getElem?
 intro i
 by_cases hi : i < n
 ·have h1 := hels i hi
  rw [c1, Nat.mul_one] at h1
  obtain ⟨y, hy⟩ : ∃ y, xs[i]? = some y := ⟨_, List.getElem?_eq_getElem (by omega)⟩
  obtain ⟨v, hv⟩ : ∃ v, vs[i]? = some v := ⟨_, List.getElem?_eq_getElem (by omega)⟩
  rw [hy] at h1
  have hd : ls[i]? = some y.1 := by rw [hx.1, List.getElem?_map, hy]; rfl
  have h2 := hel m i _ y y.1 v h1 rfl hd hv
  have h3 : ((cs.drop i).take 1)[0]? = some v := by rw [h2]; rfl
  rw [List.getElem?_take, if_pos (by decide), List.getElem?_drop, Nat.add_zero] at h3
  rw [h3, hv]
 ·rw [List.getElem?_eq_none (by omega), List.getElem?_eq_none (by omega)]
theorem arr_ints {n : Nat} {e : TypeId} {k : IntKind} {zs : List Int} {p : List MemPlace} (ht : P.underlying t = some (.array n e)) (he : P.underlying e = some (.int k)) (c1 : P.cellsOf e = 1) (ct : P.cellsOf t = n) (hl : zs.length = n)
  (h : DataW.trod enc P w base spare held fuel t cs = some (.agg (zs.map fun z => .lit (.int k z)), p)) : cs = zs.map (Value.int k) := by
 refine arr_cells ht c1 ct (by rw [List.length_map, hl]) (by rw [List.length_map, hl]) (fun m i c y d v h1 h2 h3 h4 => ?_) h
 obtain ⟨z, rfl, rfl, _⟩ := DataW.trod_int he h1
 dsimp only at h2
 subst h2
 rw [List.getElem?_map, Option.map_eq_some_iff] at h3 h4
 obtain ⟨z1, q1, q2⟩ := h3
 obtain ⟨z2, q3, rfl⟩ := h4
 rw [q1] at q3
 cases q3
 cases q2
 rfl
theorem arr_floats {n : Nat} {e : TypeId} {k : FloatKind} {zs : List Nat} {p : List MemPlace} (ht : P.underlying t = some (.array n e)) (he : P.underlying e = some (.float k)) (c1 : P.cellsOf e = 1) (ct : P.cellsOf t = n) (hl : zs.length = n)
  (h : DataW.trod enc P w base spare held fuel t cs = some (.agg (zs.map fun z => .lit (.float k z)), p)) : cs = zs.map (Value.float k) := by
 refine arr_cells ht c1 ct (by rw [List.length_map, hl]) (by rw [List.length_map, hl]) (fun m i c y d v h1 h2 h3 h4 => ?_) h
 obtain ⟨z, rfl, rfl⟩ := trod_float he h1
 dsimp only at h2
 subst h2
 rw [List.getElem?_map, Option.map_eq_some_iff] at h3 h4
 obtain ⟨z1, q1, q2⟩ := h3
 obtain ⟨z2, q3, rfl⟩ := h4
 rw [q1] at q3
 cases q3
 cases q2
 rfl
theorem laid_var {laid : List (String × DataW Unit)} {n : String} {d : DataW Unit} {ps : List MemPlace} (hm : (n, d) ∈ laid) (h : DataW.LaidVars P w laid ps) :
  ∃ g t cs fuel p, P.globalNamed n = some g ∧ (P.globals[g]?).map (·.type) = some t ∧ w.var? P n = some cs ∧ DataW.trod (fun _ => ()) P w 0 (fun _ => true) false fuel t cs.toList = some (d, p) := by
 induction laid generalizing ps with
 | nil => simp at hm
 | cons y l ih =>
  obtain ⟨n', d'⟩ := y
  obtain ⟨g, t, cs, fuel, p, q, h1, h2, h3, h4, h5, _⟩ := h
  rcases List.mem_cons.1 hm with h6 | h6
  ·cases h6
   exact ⟨g, t, cs, fuel, p, h1, h2, h3, h4⟩
  ·exact ih h6 h5
end
theorem var_row {W : World} {n : String} {g : Nat} {cs : Array Value} {vs : List Value} (hg : Tryz.prog.globalNamed n = some g) (hv : W.var? Tryz.prog n = some cs) (hcs : cs.toList = vs) (hs : vs.all scalar = true) :
  g < W.heap.size ∧ ∀ N, RowIs (mem0 W N) g vs := by
 simp only [World.var?, hg, Option.bind_some] at hv
 split at hv
 ·rename_i c e fz hh
  obtain rfl : c = cs := by simpa using hv
  refine ⟨(Array.getElem?_eq_some_iff.1 hh).1, fun N => ?_⟩
  obtain ⟨rw', hr, hrl, hrc⟩ := mem0_live (N := N) hh
  refine ⟨rw', hr, List.ext_getElem? fun k => ?_⟩
  rw [List.getElem?_take]
  split
  ·rename_i hk
   obtain ⟨v, hv⟩ : ∃ v, vs[k]? = some v := ⟨_, List.getElem?_eq_getElem hk⟩
   rw [hv]
   refine hrc k _ ?_ (fixed_scalar W N ?_)
   ·rw [← Array.getElem?_toList, hcs]; exact hv
   ·exact List.all_eq_true.1 hs _ (List.mem_of_getElem? hv)
  ·rename_i hk
   rw [List.getElem?_eq_none (by omega)]
 ·cases hv
end Go.Proofs.YtbiigbicgfchiaaGreatDoor

/- What the listed variables of layer 1 read as, in the abstract memory. Conditions: none. -/
namespace Go.Proofs.YtbiigbicgfchiaaGreatDoor
open Go Go.RowKit Ie
open Go.ChangeShapes Go.WideShapes Go.ChangeAt
abbrev laidL : List (String × DataW Unit) := [("math/bits.deBruijn32tab", Rows.laid_math_bits_deBruijn32tab), ("math/bits.deBruijn64tab", Rows.laid_math_bits_deBruijn64tab), ("internal/strconv.uint64pow10", Rows.laid_internal_strconv_uint64pow10), ("math._sin", Rows.laid_math_sin), ("math._cos", Rows.laid_math_cos), ("math.mPi4", Rows.laid_math_mPi4)]
theorem of_laid {W : World} (h : laidMetH Tryz.prog laidL W) : gN ≤ W.heap.size ∧ ∀ N, SinOk (mem0 W N) ∧ PowOk (mem0 W N) := by
 rw [MakeChecks.laidMetH_plain _ _ _ (by kernel_rfl)] at h
 obtain ⟨ps, hv, _, _⟩ := h
 obtain ⟨g1, t1, cs1, f1, p1, a1, b1, c1, d1⟩ := laid_var (n := "internal/strconv.uint64pow10") (d := Rows.laid_internal_strconv_uint64pow10) (by simp) hv
 obtain ⟨g2, t2, cs2, f2, p2, a2, b2, c2, d2⟩ := laid_var (n := "math._sin") (d := Rows.laid_math_sin) (by simp) hv
 obtain ⟨g3, t3, cs3, f3, p3, a3, b3, c3, d3⟩ := laid_var (n := "math._cos") (d := Rows.laid_math_cos) (by simp) hv
 obtain ⟨g4, t4, cs4, f4, p4, a4, b4, c4, d4⟩ := laid_var (n := "math/bits.deBruijn64tab") (d := Rows.laid_math_bits_deBruijn64tab) (by simp) hv
 obtain rfl := Option.some.inj ((show Tryz.prog.globalNamed "internal/strconv.uint64pow10" = some 5 by kernel_rfl).symm.trans a1)
 obtain rfl := Option.some.inj ((show Tryz.prog.globalNamed "math._sin" = some 4 by kernel_rfl).symm.trans a2)
 obtain rfl := Option.some.inj ((show Tryz.prog.globalNamed "math._cos" = some 3 by kernel_rfl).symm.trans a3)
 obtain rfl := Option.some.inj ((show Tryz.prog.globalNamed "math/bits.deBruijn64tab" = some 13 by kernel_rfl).symm.trans a4)
 obtain rfl := Option.some.inj ((show (Tryz.prog.globals[5]?).map (·.type) = some 171 by kernel_rfl).symm.trans b1)
 obtain rfl := Option.some.inj ((show (Tryz.prog.globals[4]?).map (·.type) = some 169 by kernel_rfl).symm.trans b2)
 obtain rfl := Option.some.inj ((show (Tryz.prog.globals[3]?).map (·.type) = some 169 by kernel_rfl).symm.trans b3)
 have e1 : cs1.toList = powT := arr_ints (k := .u64) (zs := (List.range 20).map fun i => ((10 ^ i : Nat) : Int)) Tryz.underlying171 Tryz.underlying57 (by kernel_rfl) (by kernel_rfl) rfl d1
 have e2 : cs2.toList = sinT.map vf := arr_floats (k := .f64) (zs := sinT) Tryz.underlying169 Tryz.underlying117 (by kernel_rfl) (by kernel_rfl) rfl d2
 have e3 : cs3.toList = cosT.map vf := arr_floats (k := .f64) (zs := cosT) Tryz.underlying169 Tryz.underlying117 (by kernel_rfl) (by kernel_rfl) rfl d3
 have r1 := var_row a1 c1 e1 rfl
 have r2 := var_row a2 c2 e2 rfl
 have r3 := var_row a3 c3 e3 rfl
 have hlt : 13 < W.heap.size := by
  simp only [World.var?, a4, Option.bind_some] at c4
  split at c4
  ·rename_i c e fz hh
   exact (Array.getElem?_eq_some_iff.1 hh).1
  ·cases c4
 have hgN : gN ≤ 13 + 1 := Nat.le_of_ble_eq_true (by kernel_rfl)
 exact ⟨by omega, fun N => ⟨⟨r3.2 N, r2.2 N⟩, r1.2 N⟩⟩
theorem door_met (os : Os) (args : Array Value) : laidMetH Tryz.prog laidL ((World.doorLaid Tryz.prog 400 os).forCall (fun _ _ => 0) ⟨#[], args, []⟩).memory :=
 laidMetH_of_parts3 (fuel := 8) (laidMet_of_run' 8 (by kernel_rfl) (by kernel_rfl)) (by kernel_rfl) (by kernel_rfl)
end Go.Proofs.YtbiigbicgfchiaaGreatDoor
