/- The proof of the statement on items. Conditions: none. -/
import Derived.Test.YtccdlijohkljcaaLibE
import Derived.WalkKit
import Derived.ProofKit
import Derived.OpenShut
import Derived.ShutString
import Derived.ChangeOld
import Derived.Below
import Derived.Test.YtccdlijohkljcaaRows

/- The law of reading, walked. Conditions: none. -/
set_option linter.unusedSimpArgs false
set_option linter.unusedVariables false
set_option maxRecDepth 100000
set_option maxHeartbeats 4000000
namespace Go.Proofs.Ytccdlijohkljcaa
open Go
variable {G : Nat}

/-- what is read, where an error reads nothing -/
def keyN (b : BL) : WL × WL := match keyS b with
  | .error _ => ([], [])
  | .ok p => p
def keyE (b : BL) : Int := match keyS b with
  | .error e => e
  | .ok _ => 0
theorem KeyR.two {S S' : Mem} {b : BL} {v : Value} (h : KeyR S b v S') : ∃ d1 d2 : Hd, v = .tuple #[.agg #[d1.v, d2.v], .int .i64 (keyE b)] ∧ RetW S S' d1 (keyN b).1 ∧ RetW S S' d2 (keyN b).2 ∧ Apart2 d1 d2 := by
  unfold KeyR at h
  cases hk : keyS b with
  | error e =>
    rw [hk] at h
    obtain ⟨rfl, hc⟩ := h
    refine ⟨Hd0, Hd0, by unfold keyE; rw [hk]; rfl, ?_, ?_, nofun⟩ <;> (unfold keyN; rw [hk]; exact RetW.nil hc)
  | ok p =>
    obtain ⟨l1, l2⟩ := p
    rw [hk] at h
    obtain ⟨d1, d2, rfl, h1, h2, h3⟩ := h
    refine ⟨d1, d2, by unfold keyE; rw [hk], ?_, ?_, h3⟩ <;> (unfold keyN; rw [hk]; assumption)
theorem RefKey.two {S S' : Mem} {b : BL} {v : Value} (h : RefKey S b v S') : ∃ a1 c1 a2 c2, v = .tuple #[.agg #[.slice a1 (keyN b).1.length c1, .slice a2 (keyN b).2.length c2], .int .i64 (keyE b)] ∧ Cons S S' ∧ WIn S' a1 c1 (keyN b).1 ∧ WIn S' a2 c2 (keyN b).2 := by
  unfold RefKey at h
  cases hk : keyS b with
  | error e =>
    rw [hk] at h
    obtain ⟨rfl, hc⟩ := h
    refine ⟨none, 0, none, 0, by unfold keyE keyN; rw [hk]; rfl, hc, ?_, ?_⟩ <;> (unfold keyN; rw [hk]; exact WIn.nil _)
  | ok p =>
    obtain ⟨l1, l2⟩ := p
    rw [hk] at h
    obtain ⟨a1, c1, a2, c2, rfl, h0, h1, h2⟩ := h
    refine ⟨a1, c1, a2, c2, by unfold keyE keyN; rw [hk], h0, ?_, ?_⟩ <;> (unfold keyN; rw [hk]; assumption)
theorem toW_le {n k : Nat} (h : blen n ≤ 64 * k) : (toW n).length ≤ k := (toW_len n k).2 (blen_le.1 h)
theorem numS_len {b : BL} {l : WL} (h : numS b = .ok l) : l.length ≤ 64 := by
  unfold numS at h
  split at h
  · cases h
  · split at h
    · cases h
    · rename_i h1
      cases h
      exact toW_le (by omega)
theorem partS_len {b r : BL} {l : WL} (h : partS b = .ok (l, r)) : l.length ≤ 64 := by
  unfold partS at h
  split at h
  · cases h
  · split at h
    · cases h
    · split at h
      · cases h
      · rename_i hn; cases h; exact numS_len hn
theorem keyS_len {b : BL} {l1 l2 : WL} (h : keyS b = .ok (l1, l2)) : l1.length ≤ 64 ∧ l2.length ≤ 64 := by
  unfold keyS at h
  split at h
  · cases h
  · split at h
    · cases h
    · split at h
      · cases h
      · unfold keyT at h
        split at h
        · cases h
        · rename_i h1
          split at h
          · cases h
          · rename_i h2
            split at h
            · cases h
            · cases h; exact ⟨partS_len h1, partS_len h2⟩
theorem keyN_len (b : BL) : (keyN b).1.length ≤ 64 ∧ (keyN b).2.length ≤ 64 := by
  unfold keyN
  split
  · exact ⟨Nat.zero_le _, Nat.zero_le _⟩
  · rename_i p h; exact keyS_len h
theorem RetW.hd {S S' T : Mem} {d : Hd} {l : WL} (h : RetW S S' d l) (k : Cons S' T) : Slv T 1 (.slice d.ad d.n d.c) d.n (wv l) ∧ d.n < 1099511627776 := by
  have hh := h.2.2.1.cons k
  have hn := hh.len
  rw [wv_len] at hn
  exact ⟨hh.slv, hn ▸ h.2.1⟩
theorem keq (k : WL × WL) : (k.1 == k.1 && k.2 == k.2) = true := by simp
theorem reads_C (a : Option Addr) (c : Nat) (l : BL) (S : Mem) (hs : Slv S 1 (.slice a l.length c) l.length (bv l)) (hcut : Cut l.length c) : C Try.prog G (Known Try.prog G) 3 [.slice a l.length c] S fun v S' => v = .bool true ∧ Cons S S' := by
  refine C.fn Try.func3 rfl (by kernel_rfl) rfl ?_
  repeat (first | refine W.seq ?_ | refine W.block ?_ | refine W.reg ?_ | refine W.skip ?_ | refine W.exit ?_ | refine W.ret ?_ | refine L.nil ?_ | refine L.p rfl rfl ?_ | refine L.skip rfl ?_)
  refine W.ite rfl (fun h => ?_) (fun h => ?_)
  · repeat (first | refine W.seq ?_ | refine W.block ?_ | refine W.reg ?_ | refine W.skip ?_ | refine W.exit ?_ | refine W.ret ?_ | refine L.nil ?_ | refine L.p rfl rfl ?_ | refine L.skip rfl ?_)
    exact ⟨.inr rfl, _, rfl, rfl, Cons.refl _⟩
  have hl : l.length ≤ 4096 := by simp at h; omega
  have hI : BIn S a c l := ⟨hs, hcut, by omega⟩
  clear h
  repeat (first | refine W.seq ?_ | refine W.block ?_ | refine W.reg ?_ | refine W.skip ?_ | refine W.exit ?_ | refine W.ret ?_ | refine L.nil ?_ | refine L.p rfl rfl ?_ | refine L.skip rfl ?_)
  refine L.cl (lent_C _ l S hI.1 (by omega)) rfl rfl ?_
  rintro _ M1 ⟨hc1, b, hb, rfl, hr1⟩
  refine ⟨nofun, ?_⟩
  have hI1 := BIn.lent hr1 (by simp [marks]) (by omega)
  have hbl := row_lt hr1
  repeat (first | refine W.seq ?_ | refine W.block ?_ | refine W.reg ?_ | refine W.skip ?_ | refine W.exit ?_ | refine W.ret ?_ | refine L.nil ?_ | refine L.p rfl rfl ?_ | refine L.skip rfl ?_)
  refine L.cl (decode_C _ _ l M1 hI1) rfl rfl ?_
  rintro _ M2 hR
  obtain ⟨d1, d2, rfl, r1, r2, hap1⟩ := hR.two
  refine ⟨nofun, ?_⟩
  have hc2 := r1.1
  repeat (first | refine W.seq ?_ | refine W.block ?_ | refine W.reg ?_ | refine W.skip ?_ | refine W.exit ?_ | refine W.ret ?_ | refine L.nil ?_ | refine L.p rfl rfl ?_ | refine L.skip rfl ?_)
  refine L.eff (v := .pointer (some ⟨List.length M2, 0, none⟩)) (S1 := M2 ++ [newR [nilV, nilV] 26]) rfl rfl ?_
  refine L.st (ad := ⟨List.length M2, 0, none⟩) (vs := [d1.v, d2.v]) (key_write M2 _ _ rfl rfl) rfl rfl rfl rfl ?_
  have hr3 : Mem.row? (M2 ++ [keyR d1.v d2.v]) M2.length = some (keyR d1.v d2.v) := row_push_new rfl
  have hk3 : Cons M2 (M2 ++ [keyR d1.v d2.v]) := Cons.push _ _
  generalize M2 ++ [keyR d1.v d2.v] = M3 at *
  generalize M2.length = q1 at *
  repeat (first | refine W.seq ?_ | refine W.block ?_ | refine W.reg ?_ | refine W.skip ?_ | refine W.exit ?_ | refine W.ret ?_ | refine L.nil ?_ | refine L.p rfl rfl ?_ | refine L.skip rfl ?_)
  refine L.cl (decode_C _ _ l M3 (hI1.cons (hc2.trans hk3))) rfl rfl ?_
  rintro _ M4 hR
  obtain ⟨d3, d4, rfl, r3, r4, hap2⟩ := hR.two
  refine ⟨nofun, ?_⟩
  have hc4 := r3.1
  repeat (first | refine W.seq ?_ | refine W.block ?_ | refine W.reg ?_ | refine W.skip ?_ | refine W.exit ?_ | refine W.ret ?_ | refine L.nil ?_ | refine L.p rfl rfl ?_ | refine L.skip rfl ?_)
  refine L.eff (v := .pointer (some ⟨List.length M4, 0, none⟩)) (S1 := M4 ++ [newR [nilV, nilV] 26]) rfl rfl ?_
  refine L.st (ad := ⟨List.length M4, 0, none⟩) (vs := [d3.v, d4.v]) (key_write M4 _ _ rfl rfl) rfl rfl rfl rfl ?_
  have hr5 : Mem.row? (M4 ++ [keyR d3.v d4.v]) M4.length = some (keyR d3.v d4.v) := row_push_new rfl
  have hk5 : Cons M4 (M4 ++ [keyR d3.v d4.v]) := Cons.push _ _
  generalize M4 ++ [keyR d3.v d4.v] = M5 at *
  generalize M4.length = q2 at *
  repeat (first | refine W.seq ?_ | refine W.block ?_ | refine W.reg ?_ | refine W.skip ?_ | refine W.exit ?_ | refine W.ret ?_ | refine L.nil ?_ | refine L.p rfl rfl ?_ | refine L.skip rfl ?_)
  have hc15 := ((hc2.trans hk3).trans hc4).trans hk5
  refine L.cl (refDecode_C _ _ l M5 (hI.cons (hc1.trans hc15))) rfl rfl ?_
  rintro _ M6 hR
  obtain ⟨a6, c6, a7, c7, rfl, hc6, w6, w7⟩ := hR.two
  refine ⟨nofun, ?_⟩
  repeat (first | refine W.seq ?_ | refine W.block ?_ | refine W.reg ?_ | refine W.skip ?_ | refine W.exit ?_ | refine W.ret ?_ | refine L.nil ?_ | refine L.p rfl rfl ?_ | refine L.skip rfl ?_)
  refine L.eff (v := .pointer (some ⟨List.length M6, 0, none⟩)) (S1 := M6 ++ [newR [nilV, nilV] 26]) rfl rfl ?_
  refine L.st (ad := ⟨List.length M6, 0, none⟩) (vs := [(.slice a6 (keyN l).1.length c6), (.slice a7 (keyN l).2.length c7)]) (key_write M6 _ _ rfl rfl) rfl rfl rfl rfl ?_
  have hr7 : Mem.row? (M6 ++ [keyR (.slice a6 (keyN l).1.length c6) (.slice a7 (keyN l).2.length c7)]) M6.length = some (keyR (.slice a6 (keyN l).1.length c6) (.slice a7 (keyN l).2.length c7)) := row_push_new rfl
  have hk7 : Cons M6 (M6 ++ [keyR (.slice a6 (keyN l).1.length c6) (.slice a7 (keyN l).2.length c7)]) := Cons.push _ _
  generalize M6 ++ [keyR (.slice a6 (keyN l).1.length c6) (.slice a7 (keyN l).2.length c7)] = M7 at *
  generalize M6.length = q3 at *
  repeat (first | refine W.seq ?_ | refine W.block ?_ | refine W.reg ?_ | refine W.skip ?_ | refine W.exit ?_ | refine W.ret ?_ | refine L.nil ?_ | refine L.p rfl rfl ?_ | refine L.skip rfl ?_)
  rw [show (keyE l != keyE l) = false from bne_self_eq_false _]
  repeat (first | refine W.seq ?_ | refine W.block ?_ | refine W.reg ?_ | refine W.skip ?_ | refine W.exit ?_ | refine W.ret ?_ | refine L.nil ?_ | refine L.p rfl rfl ?_ | refine L.skip rfl ?_)
  rw [show (keyE l != keyE l) = false from bne_self_eq_false _]
  have hc57 := hc6.trans hk7
  have hc37 := (hc4.trans hk5).trans hc57
  have hr37 := hc37.row' hr3
  have hr57 := hc57.row' hr5
  have s1 := r1.hd (hk3.trans hc37)
  have s2 := r2.hd (hk3.trans hc37)
  have s3 := r3.hd (hk5.trans hc57)
  have s4 := r4.hd (hk5.trans hc57)
  have s6 := w6.cons hk7
  have s7 := w7.cons hk7
  repeat (first | refine W.seq ?_ | refine W.block ?_ | refine W.reg ?_ | refine W.skip ?_ | refine W.exit ?_ | refine W.ret ?_ | refine L.nil ?_ | refine L.p rfl rfl ?_ | refine L.skip rfl ?_)
  refine L.ldA (a := ⟨q1, 0, none⟩) (key_load hr37) rfl rfl rfl ?_
  refine L.ldA (a := ⟨q3, 0, none⟩) (key_load hr7) rfl rfl rfl ?_
  refine L.cl (sameKey_C d1.ad d2.ad a6 a7 d1.n d2.n _ _ d1.c d2.c c6 c7 (keyN l).1 (keyN l).2 (keyN l).1 (keyN l).2 M7 s1.1 s2.1 s6.1 s7.1 s1.2 s2.2 s6.2.2.2 s7.2.2.2) rfl rfl ?_
  rintro _ M8 ⟨rfl, hc8⟩
  refine ⟨nofun, ?_⟩
  rw [keq]
  repeat (first | refine W.seq ?_ | refine W.block ?_ | refine W.reg ?_ | refine W.skip ?_ | refine W.exit ?_ | refine W.ret ?_ | refine L.nil ?_ | refine L.p rfl rfl ?_ | refine L.skip rfl ?_)
  refine L.ldA (a := ⟨q2, 0, none⟩) (key_load (hc8.row' hr57)) rfl rfl rfl ?_
  refine L.ldA (a := ⟨q3, 0, none⟩) (key_load (hc8.row' hr7)) rfl rfl rfl ?_
  refine L.cl (sameKey_C d3.ad d4.ad a6 a7 d3.n d4.n _ _ d3.c d4.c c6 c7 (keyN l).1 (keyN l).2 (keyN l).1 (keyN l).2 M8 (s3.1.cons hc8) (s4.1.cons hc8) (s6.1.cons hc8) (s7.1.cons hc8) s3.2 s4.2 s6.2.2.2 s7.2.2.2) rfl rfl ?_
  rintro _ M9 ⟨rfl, hc9⟩
  refine ⟨nofun, ?_⟩
  rw [keq]
  repeat (first | refine W.seq ?_ | refine W.block ?_ | refine W.reg ?_ | refine W.skip ?_ | refine W.exit ?_ | refine W.ret ?_ | refine L.nil ?_ | refine L.p rfl rfl ?_ | refine L.skip rfl ?_)
  refine W.ite rfl (fun h => ?_) (fun h => ?_)
  · cases h
  clear h
  have hk9 := hc8.trans hc9
  have hr39 := hk9.row' hr37
  have hr59 := hk9.row' hr57
  have hk29 := (hk3.trans hc37).trans hk9
  have hk49 := (hk5.trans hc57).trans hk9
  have hk19 := hc2.trans hk29
  have hS9 := hc1.trans hk19
  have hr19 := hk19.row' hr1
  have hl2 := hk3.len
  repeat (first | refine W.seq ?_ | refine W.block ?_ | refine W.reg ?_ | refine W.skip ?_ | refine W.exit ?_ | refine W.ret ?_ | refine L.nil ?_ | refine L.p rfl rfl ?_ | refine L.skip rfl ?_)
  refine L.eff (v := .pointer (some ⟨M9.length, 0, none⟩)) (S1 := M9 ++ [newR [.slice none 0 0, .slice none 0 0] 34]) rfl rfl ?_
  have hB0 := BK.new M9
  generalize M9 ++ [newR [.slice none 0 0, .slice none 0 0] 34] = N0 at *
  obtain ⟨rb, hrb⟩ : ∃ rb, rb = M9.length := ⟨_, rfl⟩
  rw [← hrb] at hB0 ⊢
  repeat (first | refine W.seq ?_ | refine W.block ?_ | refine W.reg ?_ | refine W.skip ?_ | refine W.exit ?_ | refine W.ret ?_ | refine L.nil ?_ | refine L.p rfl rfl ?_ | refine L.skip rfl ?_)
  refine L.ldA (a := ⟨q1, 0, none⟩) (key_load (hB0.1.row' hr39)) rfl rfl rfl ?_
  refine L.cl (key_BK d1 d2 hB0 (by decide)) rfl rfl ?_
  rintro _ N1 hB1
  refine ⟨nofun, ?_⟩
  repeat (first | refine W.seq ?_ | refine W.block ?_ | refine W.reg ?_ | refine W.skip ?_ | refine W.exit ?_ | refine W.ret ?_ | refine L.nil ?_ | refine L.p rfl rfl ?_ | refine L.skip rfl ?_)
  refine L.ldA (a := ⟨q2, 0, none⟩) (key_load (hB1.1.row' hr59)) rfl rfl rfl ?_
  refine L.cl (key_BK d3 d4 hB1 (by simp)) rfl rfl ?_
  rintro _ N2 hB2
  refine ⟨nofun, ?_⟩
  repeat (first | refine W.seq ?_ | refine W.block ?_ | refine W.reg ?_ | refine W.skip ?_ | refine W.exit ?_ | refine W.ret ?_ | refine L.nil ?_ | refine L.p rfl rfl ?_ | refine L.skip rfl ?_)
  have t1 := r1.2.2.1.cons hk29
  have t2 := r2.2.2.1.cons hk29
  have t3 := r3.2.2.1.cons hk49
  have t4 := r4.2.2.1.cons hk49
  have z1 : ∀ x, d1.a = some x → M1.length ≤ x ∧ x < M2.length := fun x e => ⟨r1.2.2.2 x e, r1.2.2.1.lt e⟩
  have z2 : ∀ x, d2.a = some x → M1.length ≤ x ∧ x < M2.length := fun x e => ⟨r2.2.2.2 x e, r2.2.2.1.lt e⟩
  have z3 : ∀ x, d3.a = some x → M3.length ≤ x := r3.2.2.2
  have z4 : ∀ x, d4.a = some x → M3.length ≤ x := r4.2.2.2
  have hlen1 := (keyN_len l).1
  have hlen2 := (keyN_len l).2
  have wl : ∀ {x : WL}, x.length ≤ 64 → (wv x).length ≤ 1000000000000 := fun h => by rw [wv_len]; omega
  have hlM := hc2.len
  refine L.cl (apart_BK hB2 ⟨by simp, by simp⟩ (.add t1 (wl hlen1) (.add t2 (wl hlen2) (.add t3 (wl hlen1) (.add t4 (wl hlen2) (.nil _ _))))) (.nil _ _) (.add (fun x e hm => ?_) (.add (fun x e hm => ?_) (.add (fun x e hm => ?_) (.add (fun x e hm => by simp [blks] at hm) .nil)))) .nil (by simp [blks])) rfl rfl ?_
  · have hm : x ∈ blks [d2, d3, d4] := hm
    simp only [mem_blks, blks_nil, List.not_mem_nil, or_false] at hm
    rcases hm with hm | hm | hm
    · exact hap1 x e hm
    · have := z3 x hm; have := z1 x e; omega
    · have := z4 x hm; have := z1 x e; omega
  · have hm : x ∈ blks [d3, d4] := hm
    simp only [mem_blks, blks_nil, List.not_mem_nil, or_false] at hm
    rcases hm with hm | hm
    · have := z3 x hm; have := z2 x e; omega
    · have := z4 x hm; have := z2 x e; omega
  · have hm : x ∈ blks [d4] := hm
    simp only [mem_blks, blks_nil, List.not_mem_nil, or_false] at hm
    exact hap2 x e hm
  rintro _ N3 ⟨rfl, hk⟩
  refine ⟨nofun, ?_⟩
  have hbk : ∀ x ∈ blks ([d1, d2, d3, d4] : List Hd) ++ blks [], M1.length ≤ x := fun x hm => by
    simp only [blks_nil, List.append_nil, mem_blks, List.not_mem_nil, or_false] at hm
    rcases hm with hm | hm | hm | hm
    · exact (z1 x hm).1
    · exact (z2 x hm).1
    · have := z3 x hm; omega
    · have := z4 x hm; omega
  have hN3 : Cons M1 N3 := hk.cons0 hk19 hbk
  repeat (first | refine W.seq ?_ | refine W.block ?_ | refine W.reg ?_ | refine W.skip ?_ | refine W.exit ?_ | refine W.ret ?_ | refine L.nil ?_ | refine L.p rfl rfl ?_ | refine L.skip rfl ?_)
  refine L.cl (kept_C _ l b _ N3 (hN3.row' hr1) rfl rfl (hI.1.cons (hc1.trans hN3)) (by omega)) rfl rfl ?_
  rintro _ _ ⟨rfl, rfl⟩
  refine ⟨fun _ => Cons.refl _, ?_⟩
  repeat (first | refine W.seq ?_ | refine W.block ?_ | refine W.reg ?_ | refine W.skip ?_ | refine W.exit ?_ | refine W.ret ?_ | refine L.nil ?_ | refine L.p rfl rfl ?_ | refine L.skip rfl ?_)
  refine L.cl (works_C _) rfl rfl ?_
  rintro _ N4 ⟨rfl, hc⟩
  refine ⟨fun _ => hc, ?_⟩
  repeat (first | refine W.seq ?_ | refine W.block ?_ | refine W.reg ?_ | refine W.skip ?_ | refine W.exit ?_ | refine W.ret ?_ | refine L.nil ?_ | refine L.p rfl rfl ?_ | refine L.skip rfl ?_)
  exact ⟨.inr rfl, _, rfl, rfl, (hc1.trans hN3).trans hc⟩
end Go.Proofs.Ytccdlijohkljcaa

/- The law of items, walked. Conditions: none. -/
set_option linter.unusedSimpArgs false
set_option linter.unusedVariables false
set_option maxRecDepth 100000
set_option maxHeartbeats 4000000
namespace Go.Proofs.Ytccdlijohkljcaa
open Go
variable {G : Nat}

theorem itemV_four (b : BL) (i : Int) : ∃ t f o e : Int, itemV b i = .tuple #[.int .u8 t, .int .i64 f, .int .i64 o, .int .i64 e] := by
  unfold itemV
  split
  · exact ⟨_, _, _, _, rfl⟩
  · split
    · exact ⟨_, _, _, _, rfl⟩
    · exact ⟨_, _, _, _, rfl⟩
theorem intL_len (b : BL) : (intL b).length ≤ 64 := by
  unfold intL
  split
  · rename_i h; exact numS_len h
  · exact Nat.zero_le _
theorem items_C (a : Option Addr) (c : Nat) (l : BL) (i : Int) (S : Mem) (hs : Slv S 1 (.slice a l.length c) l.length (bv l)) (hcut : Cut l.length c) (hi : -9223372036854775808 ≤ i ∧ i ≤ 9223372036854775807) :
    C Try.prog G (Known Try.prog G) 7 [.slice a l.length c, .int .i64 i] S fun v S' => v = .bool true ∧ Cons S S' := by
  refine C.fn Try.func7 rfl (by kernel_rfl) rfl ?_
  repeat (first | refine W.seq ?_ | refine W.block ?_ | refine W.reg ?_ | refine W.skip ?_ | refine W.exit ?_ | refine W.ret ?_ | refine L.nil ?_ | refine L.p rfl rfl ?_ | refine L.skip rfl ?_)
  refine W.ite rfl (fun h => ?_) (fun h => ?_)
  · repeat (first | refine W.seq ?_ | refine W.block ?_ | refine W.reg ?_ | refine W.skip ?_ | refine W.exit ?_ | refine W.ret ?_ | refine L.nil ?_ | refine L.p rfl rfl ?_ | refine L.skip rfl ?_)
    exact ⟨.inr rfl, _, rfl, rfl, Cons.refl _⟩
  have hl : l.length ≤ 4096 := by simp at h; omega
  have hI : BIn S a c l := ⟨hs, hcut, by omega⟩
  clear h
  obtain ⟨t, f, o, e, hit⟩ := itemV_four l i
  have hil := intL_len l
  repeat (first | refine W.seq ?_ | refine W.block ?_ | refine W.reg ?_ | refine W.skip ?_ | refine W.exit ?_ | refine W.ret ?_ | refine L.nil ?_ | refine L.p rfl rfl ?_ | refine L.skip rfl ?_)
  refine L.cl (lent_C _ l S hI.1 (by omega)) rfl rfl ?_
  rintro _ M1 ⟨hc1, b, hb, rfl, hr1⟩
  refine ⟨nofun, ?_⟩
  have hI1 := BIn.lent hr1 (by simp [marks]) (by omega)
  have hbl := row_lt hr1
  repeat (first | refine W.seq ?_ | refine W.block ?_ | refine W.reg ?_ | refine W.skip ?_ | refine W.exit ?_ | refine W.ret ?_ | refine L.nil ?_ | refine L.p rfl rfl ?_ | refine L.skip rfl ?_)
  refine L.cl (itemPub_C _ _ l i M1 hI1 hi.1 hi.2) rfl rfl ?_
  rintro _ M2 ⟨rfl, hc2⟩
  refine ⟨nofun, ?_⟩
  rw [hit]
  repeat (first | refine W.seq ?_ | refine W.block ?_ | refine W.reg ?_ | refine W.skip ?_ | refine W.exit ?_ | refine W.ret ?_ | refine L.nil ?_ | refine L.p rfl rfl ?_ | refine L.skip rfl ?_)
  refine L.cl (integer_C _ _ l M2 (hI1.cons hc2)) rfl rfl ?_
  rintro _ M3 ⟨d, rfl, q⟩
  refine ⟨nofun, ?_⟩
  have hc3 := q.1
  have hc13 := hc2.trans hc3
  repeat (first | refine W.seq ?_ | refine W.block ?_ | refine W.reg ?_ | refine W.skip ?_ | refine W.exit ?_ | refine W.ret ?_ | refine L.nil ?_ | refine L.p rfl rfl ?_ | refine L.skip rfl ?_)
  refine L.cl (refItem_C a c l i M3 (hI.cons (hc1.trans hc13)) hi.1 hi.2) rfl rfl ?_
  rintro _ _ ⟨rfl, rfl⟩
  refine ⟨nofun, ?_⟩
  rw [hit]
  repeat (first | refine W.seq ?_ | refine W.block ?_ | refine W.reg ?_ | refine W.skip ?_ | refine W.exit ?_ | refine W.ret ?_ | refine L.nil ?_ | refine L.p rfl rfl ?_ | refine L.skip rfl ?_)
  refine L.cl (refInteger_C a c l _ (hI.cons (hc1.trans hc13))) rfl rfl ?_
  rintro _ M4 ⟨a4, c4, rfl, hc4, w4⟩
  refine ⟨nofun, ?_⟩
  repeat (first | refine W.seq ?_ | refine W.block ?_ | refine W.reg ?_ | refine W.skip ?_ | refine W.exit ?_ | refine W.ret ?_ | refine L.nil ?_ | refine L.p rfl rfl ?_ | refine L.skip rfl ?_)
  rw [show (t != t) = false from bne_self_eq_false _]
  repeat (first | refine W.seq ?_ | refine W.block ?_ | refine W.reg ?_ | refine W.skip ?_ | refine W.exit ?_ | refine W.ret ?_ | refine L.nil ?_ | refine L.p rfl rfl ?_ | refine L.skip rfl ?_)
  rw [show (f != f) = false from bne_self_eq_false _]
  repeat (first | refine W.seq ?_ | refine W.block ?_ | refine W.reg ?_ | refine W.skip ?_ | refine W.exit ?_ | refine W.ret ?_ | refine L.nil ?_ | refine L.p rfl rfl ?_ | refine L.skip rfl ?_)
  rw [show (o != o) = false from bne_self_eq_false _]
  repeat (first | refine W.seq ?_ | refine W.block ?_ | refine W.reg ?_ | refine W.skip ?_ | refine W.exit ?_ | refine W.ret ?_ | refine L.nil ?_ | refine L.p rfl rfl ?_ | refine L.skip rfl ?_)
  rw [show (e != e) = false from bne_self_eq_false _]
  repeat (first | refine W.seq ?_ | refine W.block ?_ | refine W.reg ?_ | refine W.skip ?_ | refine W.exit ?_ | refine W.ret ?_ | refine L.nil ?_ | refine L.p rfl rfl ?_ | refine L.skip rfl ?_)
  rw [show (intE l != intE l) = false from bne_self_eq_false _]
  repeat (first | refine W.seq ?_ | refine W.block ?_ | refine W.reg ?_ | refine W.skip ?_ | refine W.exit ?_ | refine W.ret ?_ | refine L.nil ?_ | refine L.p rfl rfl ?_ | refine L.skip rfl ?_)
  have s1 := q.hd hc4
  refine L.cl (sameW_C _ _ (intL l) (intL l) d.n _ M4 s1.1 w4.1 s1.2 w4.2.2.2) rfl rfl ?_
  rintro _ M5 ⟨rfl, hS⟩
  have hS := hS.symm
  subst hS
  refine ⟨nofun, ?_⟩
  rw [show (intL l == intL l) = true from beq_self_eq_true _]
  repeat (first | refine W.seq ?_ | refine W.block ?_ | refine W.reg ?_ | refine W.skip ?_ | refine W.exit ?_ | refine W.ret ?_ | refine L.nil ?_ | refine L.p rfl rfl ?_ | refine L.skip rfl ?_)
  refine W.ite rfl (fun h => ?_) (fun h => ?_)
  · cases h
  clear h
  repeat (first | refine W.seq ?_ | refine W.block ?_ | refine W.reg ?_ | refine W.skip ?_ | refine W.exit ?_ | refine W.ret ?_ | refine L.nil ?_ | refine L.p rfl rfl ?_ | refine L.skip rfl ?_)
  have hk35 := hc4
  have hk15 := hc13.trans hk35
  have hl2 := hc2.len
  refine L.eff (v := .pointer (some ⟨M4.length, 0, none⟩)) (S1 := M4 ++ [newR [.slice none 0 0, .slice none 0 0] 34]) rfl rfl ?_
  have hB0 := BK.new M4
  generalize M4 ++ [newR [.slice none 0 0, .slice none 0 0] 34] = N0 at *
  obtain ⟨rb, hrb⟩ : ∃ rb, rb = M4.length := ⟨_, rfl⟩
  rw [← hrb] at hB0 ⊢
  repeat (first | refine W.seq ?_ | refine W.block ?_ | refine W.reg ?_ | refine W.skip ?_ | refine W.exit ?_ | refine W.ret ?_ | refine L.nil ?_ | refine L.p rfl rfl ?_ | refine L.skip rfl ?_)
  refine L.cl (words_BK d hB0 (by decide)) rfl rfl ?_
  rintro _ N1 hB1
  refine ⟨nofun, ?_⟩
  repeat (first | refine W.seq ?_ | refine W.block ?_ | refine W.reg ?_ | refine W.skip ?_ | refine W.exit ?_ | refine W.ret ?_ | refine L.nil ?_ | refine L.p rfl rfl ?_ | refine L.skip rfl ?_)
  have u := q.2.2.1.cons hk35
  have z : ∀ x, d.a = some x → M2.length ≤ x := q.2.2.2
  have wl : (wv (intL l)).length ≤ 1000000000000 := by rw [wv_len]; omega
  refine L.cl (apart_BK hB1 ⟨by simp, by simp⟩ (.add u wl (.nil _ _)) (.nil _ _) (.add (fun x e hm => by simp [blks] at hm) .nil) .nil (by simp [blks])) rfl rfl ?_
  rintro _ N2 ⟨rfl, hk⟩
  refine ⟨nofun, ?_⟩
  have hN2 : Cons M1 N2 := hk.cons0 hk15 (fun x hm => by
    have hm : x ∈ blks [d] ++ blks [] := hm
    simp only [blks_nil, List.append_nil, mem_blks, List.not_mem_nil, or_false] at hm
    have := z x hm; omega)
  repeat (first | refine W.seq ?_ | refine W.block ?_ | refine W.reg ?_ | refine W.skip ?_ | refine W.exit ?_ | refine W.ret ?_ | refine L.nil ?_ | refine L.p rfl rfl ?_ | refine L.skip rfl ?_)
  refine L.cl (kept_C _ l b _ N2 (hN2.row' hr1) rfl rfl (hI.1.cons (hc1.trans hN2)) (by omega)) rfl rfl ?_
  rintro _ _ ⟨rfl, rfl⟩
  refine ⟨fun _ => Cons.refl _, ?_⟩
  repeat (first | refine W.seq ?_ | refine W.block ?_ | refine W.reg ?_ | refine W.skip ?_ | refine W.exit ?_ | refine W.ret ?_ | refine L.nil ?_ | refine L.p rfl rfl ?_ | refine L.skip rfl ?_)
  refine L.cl (works_C _) rfl rfl ?_
  rintro _ N3 ⟨rfl, hc⟩
  refine ⟨fun _ => hc, ?_⟩
  repeat (first | refine W.seq ?_ | refine W.block ?_ | refine W.reg ?_ | refine W.skip ?_ | refine W.exit ?_ | refine W.ret ?_ | refine L.nil ?_ | refine L.p rfl rfl ?_ | refine L.skip rfl ?_)
  exact ⟨.inr rfl, _, rfl, rfl, (hc1.trans hN2).trans hc⟩
end Go.Proofs.Ytccdlijohkljcaa

/- Arguments that came in, on the abstract memory of the world in which a call begins. Conditions: none. -/
set_option linter.unusedSimpArgs false
set_option linter.unusedVariables false
namespace Go.Proofs.Ytccdlijohkljcaa
open Go

/-- a slice of whole numbers that came in: none; or it leads to a row of cap cells, the numbers zs -/
def IsRow (k : IntKind) (w : World) (a : Option Addr) (len cap : Nat) (zs : List Int) : Prop :=
  (a = none ∧ len = 0 ∧ cap = 0 ∧ zs = []) ∨
  ∃ x, a = some x ∧ len ≤ cap ∧ cap ≤ maxLen ∧ zs.length = cap ∧ (∀ i, i < zs.length → w.cell? (x.add i) = some (.int k (zs.getD i 0))) ∧ ∀ n ∈ zs, (Lit.int k n).wf = true
theorem okWide_block {P : Program} {W : World} {base : Nat} {t e : TypeId} {a : Addr} {len cap : Nat} (hu : P.underlying t = some (.slice e)) (h : Value.okWide P W .any base t (.slice (some a) len cap)) : a.block < W.heap.size := by
  unfold Value.okWide at h
  simp only [hu] at h
  unfold Cell.okWide at h
  simp only [hu] at h
  unfold Cell.ok at h
  simp only [hu] at h
  obtain ⟨_, _, _, _, row, cells, hs, _⟩ := h
  unfold World.shape? at hs
  split at hs
  · rename_i c el fz hh
    exact (Array.getElem?_eq_some_iff.1 hh).1
  · cases hs
theorem row_cap {k : IntKind} {W : World} {a : Option Addr} {len cap : Nat} {zs : List Int} (h : IsRow k W a len cap zs) : cap < UNK ∧ len ≤ cap := by
  rcases h with ⟨rfl, rfl, rfl, rfl⟩ | ⟨x, rfl, hlc, hm, hz, hcell, hwf⟩
  · exact ⟨by decide, by decide⟩
  · exact ⟨by unfold maxLen at hm; unfold UNK; omega, hlc⟩
theorem world_ints {k : IntKind} {W : World} {N : Nat} {a : Option Addr} {len cap : Nat} {zs : List Int} (h : IsRow k W a len cap zs) (hb : ∀ x, a = some x → x.block < W.heap.size + N) :
    Slv (mem0 W N) 1 (.slice a len cap) len ((zs.take len).map (Value.int k)) ∧ VR (rho0 W N) (.slice a len cap) (.slice a len cap) ∧ (zs.take len).length = len ∧ Cut len cap ∧ (∀ n ∈ zs, (Lit.int k n).wf = true) := by
  rcases h with ⟨rfl, rfl, rfl, rfl⟩ | ⟨x, rfl, hlc, hm, hz, hcell, hwf⟩
  · exact ⟨Slv.nil _ _ _ _, .slNil _ _, rfl, .inl ⟨by decide, by decide⟩, nofun⟩
  · have hcu : cap < UNK := by unfold maxLen at hm; unfold UNK; omega
    have hlen : (zs.take len).length = len := by rw [List.length_take]; omega
    refine ⟨?_, (fixed_slice (N := N) (hb x rfl) hcu).1, hlen, .inl ⟨hcu, hlc⟩, hwf⟩
    rcases Nat.eq_zero_or_pos len with rfl | hpos
    · rw [List.take_zero]; exact Slv.nil _ _ _ _
    have h0 := hcell 0 (by omega)
    have hx0 : x.add 0 = x := rfl
    rw [hx0] at h0
    unfold World.cell? at h0
    split at h0
    · rename_i c el fz hh
      split at h0
      · cases h0
      · rename_i hsp
        have hsp' : x.spot = none := by cases hxs : x.spot <;> simp_all
        obtain ⟨r, hr, hrl, hrc⟩ := mem0_live (N := N) hh
        have hxa : x = ⟨x.block, x.off, none⟩ := by cases x; simp at hsp'; subst hsp'; rfl
        have hci : ∀ i, i < cap → r.cells[x.off + i]? = some (.int k (zs.getD i 0)) := by
          intro i hi
          have h1 := hcell i (by omega)
          have hadd : x.add i = ⟨x.block, x.off + i, none⟩ := by
            unfold Addr.add
            split
            · rename_i h9; rw [h9]; exact hxa
            · rfl
          rw [hadd] at h1
          simp only [World.cell?, hh] at h1
          exact hrc _ _ (by simpa using h1) (fixed_scalar W N rfl)
        have hbound : x.off + len * 1 ≤ r.cells.length := by
          have := (List.getElem?_eq_some_iff.1 (hci (len - 1) (by omega))).1
          omega
        have hseg : (r.cells.drop x.off).take (len * 1) = (zs.take len).map (Value.int k) := by
          apply List.ext_getElem?
          intro i
          rw [List.getElem?_take, Nat.mul_one]
          split
          · rename_i hi
            rw [List.getElem?_drop, hci i (by omega), List.getElem?_map, List.getElem?_take, if_pos hi, List.getD_eq_getElem?_getD, List.getElem?_eq_getElem (by omega)]
            rfl
          · rename_i hi
            rw [List.getElem?_eq_none (by rw [List.length_map, hlen]; omega)]
        have := Slv.of (sz := 1) (n := len) (c := cap) hr hbound (.inr (by rw [hseg, List.all_map, List.all_eq_true]; intro n _; rfl))
        rw [hseg, ← hxa] at this
        exact this
    · cases h0
theorem bound_of (f : Nat → Nat) (n : Nat) : ∃ N, ∀ i, i < n → f i < N := by
  induction n with
  | zero => exact ⟨0, nofun⟩
  | succ n ih =>
    obtain ⟨N, h⟩ := ih
    refine ⟨max N (f n + 1), fun i hi => ?_⟩
    rcases Nat.lt_or_eq_of_le (Nat.le_of_lt_succ hi) with h1 | rfl
    · have := h i h1; omega
    · omega
theorem cell_row {W : World} {N : Nat} {x : Addr} {v : Value} (h : W.cell? x = some v) (hf : Fixed W N v) : x = ⟨x.block, x.off, none⟩ ∧ x.block < W.heap.size ∧ ∃ r, (mem0 W N).row? x.block = some r ∧ r.cells[x.off]? = some v := by
  unfold World.cell? at h
  split at h
  · rename_i c el fz hh
    split at h
    · cases h
    · rename_i hsp
      have hsp' : x.spot = none := by cases hxs : x.spot <;> simp_all
      obtain ⟨r, hr, hrl, hrc⟩ := mem0_live (N := N) hh
      refine ⟨by cases x; simp at hsp'; subst hsp'; rfl, (Array.getElem?_eq_some_iff.1 hh).1, r, hr, hrc _ _ (by simpa using h) hf⟩
  · cases h
end Go.Proofs.Ytccdlijohkljcaa

/- The proof of the statement on items. Conditions: none. -/
namespace Go.Proofs.Ytccdlijohkljcaa.derItems
open Go.ChangeShapes Go.WideShapes Go.ChangeAt Go.RowKit
open Go.ChangeMaps (open_string shut_string)
set_option linter.unusedVariables false

theorem own : ownKnob Try.prog.godebug = none := by kernel_rfl
theorem laidOut : laidOutB Try.prog = true := by kernel_rfl

theorem walk (a0 : Option Addr) (len0 cap0 : Nat) (z0 : List Int) (a1 : Int) (w : World) (w0 : IsRow .u8 w a0 len0 cap0 z0) (hb0 : ∀ x, a0 = some x → x.block < w.heap.size) (w1 : (Lit.int .i64 a1).wf = true) :
    Calls Try.prog 7 #[.slice a0 len0 cap0, .int .i64 a1] w fun e w' => e = .returned (.bool true) ∧ Below w.heap.size w w' := by
  obtain ⟨hs0, hv0, hl0, hc0, hwf0⟩ := world_ints (N := 0) w0 (by simpa using hb0)
  have hcc0 := row_cap w0
  have hf0 : ∀ x, a0 = some x → x.block < (mem0 w).length := fun x hx => by rw [mem0_len]; have := hb0 x hx; omega
  obtain ⟨l0, hll0, hbl0⟩ := bytes_of z0 len0 hwf0 hl0
  rw [← hbl0] at hs0
  subst hll0
  have hx1 : -9223372036854775808 ≤ a1 ∧ a1 ≤ 9223372036854775807 := by simpa [Lit.wf, IntKind.min, IntKind.max, IntKind.signed, IntKind.bits] using w1
  obtain ⟨v, S', hE, rfl, hcons⟩ := items_C (G := 0) a0 cap0 l0 a1 (mem0 w) hs0 (.inl hcc0) hx1
  refine top_true (Checked.mixed Try.checked) (fun _ _ _ _ _ h => h) (Nat.zero_le _) (fun a ha => ?_) hE hcons
  simp only [List.mem_cons, List.not_mem_nil, or_false] at ha
  rcases ha with rfl | rfl
  · exact hv0
  · exact scalar_VR _ rfl

set_option maxRecDepth 100000 in
theorem lifted (os : Os) (started : os.Started) (H : Type) (enc : TypeId × Value → H) :
    ReturnsInHanded {} Try.checked os 7 .any (Rows.derItemsSpec.pre6 enc Try.prog Try.f7 Rows.derItemsRow.domain false) (Rows.derItemsSpec.post enc Try.prog Try.f7 false true false false) := by
  refine returnsInHanded_of_change (C := Try.checked) own started (by kernel_rfl) Try.func7
    (ChangeSpec.witness6 (enc := enc) (C := Try.checked) false ⟨#[], #[.slice none 0 0, .int .i64 0], []⟩ 8 (by kernel_rfl) (by kernel_rfl) (by kernel_rfl) (by kernel_rfl)) ?_
  intro W base args ds gs before hval0 hW hcnd _
  have hval : ∀ (j : Nat) t v, Try.f7.params[j]? = some t → args[j]? = some v → Value.okWide Try.prog W .any base t v := hval0
  have hW' := hW
  obtain ⟨p, q, hA0, hV, rfl, hfz, hnd⟩ := hW
  have hA : DataW.TrodAll enc Try.prog W 0 (fun _ => true) true Try.f7.params.toList args.toList ds p := hA0
  rw [Try.params7] at hA hval
  obtain ⟨v0, vs0, d0, ds0, p0, q0, hargs, rfl, rfl, h0, r0⟩ := trodAll_cons hA
  obtain ⟨v1, vs1, d1, ds1, p1, q1, rfl, rfl, rfl, h1, r1⟩ := trodAll_cons r0
  obtain ⟨rfl, rfl, rfl⟩ := trodAll_nil r1
  obtain rfl : args = #[v0, v1] := by cases args; simp_all
  obtain ⟨rfl, rfl⟩ := trodVars_none hV
  obtain ⟨a0, len0, cap0, rfl⟩ := okWide_slice Try.underlying22 (hval 0 22 v0 rfl rfl)
  have hb0 : ∀ x, a0 = some x → x.block < W.heap.size := by rintro x rfl; exact okWide_block Try.underlying22 (hval 0 22 _ rfl rfl)
  have k0 := h0
  have lt0 : ∀ x ∈ p0, x.block < W.heap.size := by obtain ⟨m, hm⟩ := k0; exact DataW.trod_lt m _ _ _ hm
  obtain ⟨z0, w0⟩ : ∃ zs, IsRow .u8 W a0 len0 cap0 zs := by
    obtain ⟨fuel, hf⟩ := h0
    rcases open_ints Try.underlying22 Try.underlying5 (by kernel_rfl) hf with ⟨hcs, _⟩ | ⟨x, l, c, zs, hcs, _, hl, hm, hz, _, hcell, hwz⟩
    · simp [Value.cells] at hcs
      obtain ⟨rfl, rfl, rfl⟩ := hcs
      exact ⟨[], .inl ⟨rfl, rfl, rfl, rfl⟩⟩
    · simp [Value.cells] at hcs
      obtain ⟨rfl, rfl, rfl⟩ := hcs
      exact ⟨zs, .inr ⟨_, rfl, hl, hm, by simpa using hz, hcell, hwz⟩⟩
  obtain ⟨a1, rfl, rfl, rfl, w1⟩ := open_int Try.underlying3 (hval 1 3 v1 rfl rfl) h1
  clear hA0 hval0
  refine (walk a0 len0 cap0 z0 a1 W w0 hb0 w1).mono fun e W' ⟨he, bel⟩ => ?_
  subst he
  exact ⟨_, rfl, _, _, _, [], _, [], hW', trodAll_mk1 (shut_bool Try.underlying4 _), (trodAll_cons_mk (Below.trod laidOut (by kernel_rfl) (of_decide_eq_true (by kernel_rfl)) k0 bel lt0) (trodAll_cons_mk (shut_int Try.underlying3 w1) trodAll_mk0)), rfl, bel.frame _, fun h => by cases h⟩

theorem over : Rows.derItemsRow.holds Try.pinned (OpenSpec.ofChange Rows.derItemsSpec) :=
  OpenClaim.holds_of_wide 7 Try.f7 rfl rfl rfl rfl rfl rfl rfl ⟨rfl, rfl, rfl, rfl, rfl⟩ rfl rfl rfl rfl rfl (by kernel_rfl) Try.func7 (by kernel_rfl)
    (of_decide_eq_true (by kernel_rfl)) (by unfold Func.isWrapper; first | (rw [if_pos (by decide +kernel)]; kernel_rfl) | (rw [if_neg (by decide +kernel)]; exact ⟨rfl, rfl⟩))
    (fun os started H enc _ => lifted os started H enc)

theorem proved : Rows.DerItemsSaid := over
end Go.Proofs.Ytccdlijohkljcaa.derItems
