/- The proof of the statement on the one form. Conditions: none. -/
import Derived.Test.YtccdlijohkljcaaLibE
import Derived.WalkKit
import Derived.ProofKit
import Derived.OpenShut
import Derived.ShutString
import Derived.ChangeOld
import Derived.Below
import Derived.Test.YtccdlijohkljcaaRows

/- The law of reading, walked. Conditions: none. -/
set_option linter.unusedSimpArgs false
set_option linter.unusedVariables false
set_option maxRecDepth 100000
set_option maxHeartbeats 4000000
namespace Go.Proofs.Ytccdlijohkljcaa
open Go
variable {G : Nat}

/-- what is read, where an error reads nothing -/
def keyN (b : BL) : WL × WL := match keyS b with
  | .error _ => ([], [])
  | .ok p => p
def keyE (b : BL) : Int := match keyS b with
  | .error e => e
  | .ok _ => 0
theorem KeyR.two {S S' : Mem} {b : BL} {v : Value} (h : KeyR S b v S') : ∃ d1 d2 : Hd, v = .tuple #[.agg #[d1.v, d2.v], .int .i64 (keyE b)] ∧ RetW S S' d1 (keyN b).1 ∧ RetW S S' d2 (keyN b).2 ∧ Apart2 d1 d2 := by
  unfold KeyR at h
  cases hk : keyS b with
  | error e =>
    rw [hk] at h
    obtain ⟨rfl, hc⟩ := h
    refine ⟨Hd0, Hd0, by unfold keyE; rw [hk]; rfl, ?_, ?_, nofun⟩ <;> (unfold keyN; rw [hk]; exact RetW.nil hc)
  | ok p =>
    obtain ⟨l1, l2⟩ := p
    rw [hk] at h
    obtain ⟨d1, d2, rfl, h1, h2, h3⟩ := h
    refine ⟨d1, d2, by unfold keyE; rw [hk], ?_, ?_, h3⟩ <;> (unfold keyN; rw [hk]; assumption)
theorem RefKey.two {S S' : Mem} {b : BL} {v : Value} (h : RefKey S b v S') : ∃ a1 c1 a2 c2, v = .tuple #[.agg #[.slice a1 (keyN b).1.length c1, .slice a2 (keyN b).2.length c2], .int .i64 (keyE b)] ∧ Cons S S' ∧ WIn S' a1 c1 (keyN b).1 ∧ WIn S' a2 c2 (keyN b).2 := by
  unfold RefKey at h
  cases hk : keyS b with
  | error e =>
    rw [hk] at h
    obtain ⟨rfl, hc⟩ := h
    refine ⟨none, 0, none, 0, by unfold keyE keyN; rw [hk]; rfl, hc, ?_, ?_⟩ <;> (unfold keyN; rw [hk]; exact WIn.nil _)
  | ok p =>
    obtain ⟨l1, l2⟩ := p
    rw [hk] at h
    obtain ⟨a1, c1, a2, c2, rfl, h0, h1, h2⟩ := h
    refine ⟨a1, c1, a2, c2, by unfold keyE keyN; rw [hk], h0, ?_, ?_⟩ <;> (unfold keyN; rw [hk]; assumption)
theorem toW_le {n k : Nat} (h : blen n ≤ 64 * k) : (toW n).length ≤ k := (toW_len n k).2 (blen_le.1 h)
theorem numS_len {b : BL} {l : WL} (h : numS b = .ok l) : l.length ≤ 64 := by
  unfold numS at h
  split at h
  · cases h
  · split at h
    · cases h
    · rename_i h1
      cases h
      exact toW_le (by omega)
theorem partS_len {b r : BL} {l : WL} (h : partS b = .ok (l, r)) : l.length ≤ 64 := by
  unfold partS at h
  split at h
  · cases h
  · split at h
    · cases h
    · split at h
      · cases h
      · rename_i hn; cases h; exact numS_len hn
theorem keyS_len {b : BL} {l1 l2 : WL} (h : keyS b = .ok (l1, l2)) : l1.length ≤ 64 ∧ l2.length ≤ 64 := by
  unfold keyS at h
  split at h
  · cases h
  · split at h
    · cases h
    · split at h
      · cases h
      · unfold keyT at h
        split at h
        · cases h
        · rename_i h1
          split at h
          · cases h
          · rename_i h2
            split at h
            · cases h
            · cases h; exact ⟨partS_len h1, partS_len h2⟩
theorem keyN_len (b : BL) : (keyN b).1.length ≤ 64 ∧ (keyN b).2.length ≤ 64 := by
  unfold keyN
  split
  · exact ⟨Nat.zero_le _, Nat.zero_le _⟩
  · rename_i p h; exact keyS_len h
theorem RetW.hd {S S' T : Mem} {d : Hd} {l : WL} (h : RetW S S' d l) (k : Cons S' T) : Slv T 1 (.slice d.ad d.n d.c) d.n (wv l) ∧ d.n < 1099511627776 := by
  have hh := h.2.2.1.cons k
  have hn := hh.len
  rw [wv_len] at hn
  exact ⟨hh.slv, hn ▸ h.2.1⟩
theorem keq (k : WL × WL) : (k.1 == k.1 && k.2 == k.2) = true := by simp
theorem reads_C (a : Option Addr) (c : Nat) (l : BL) (S : Mem) (hs : Slv S 1 (.slice a l.length c) l.length (bv l)) (hcut : Cut l.length c) : C Try.prog G (Known Try.prog G) 3 [.slice a l.length c] S fun v S' => v = .bool true ∧ Cons S S' := by
  refine C.fn Try.func3 rfl (by kernel_rfl) rfl ?_
  repeat (first | refine W.seq ?_ | refine W.block ?_ | refine W.reg ?_ | refine W.skip ?_ | refine W.exit ?_ | refine W.ret ?_ | refine L.nil ?_ | refine L.p rfl rfl ?_ | refine L.skip rfl ?_)
  refine W.ite rfl (fun h => ?_) (fun h => ?_)
  · repeat (first | refine W.seq ?_ | refine W.block ?_ | refine W.reg ?_ | refine W.skip ?_ | refine W.exit ?_ | refine W.ret ?_ | refine L.nil ?_ | refine L.p rfl rfl ?_ | refine L.skip rfl ?_)
    exact ⟨.inr rfl, _, rfl, rfl, Cons.refl _⟩
  have hl : l.length ≤ 4096 := by simp at h; omega
  have hI : BIn S a c l := ⟨hs, hcut, by omega⟩
  clear h
  repeat (first | refine W.seq ?_ | refine W.block ?_ | refine W.reg ?_ | refine W.skip ?_ | refine W.exit ?_ | refine W.ret ?_ | refine L.nil ?_ | refine L.p rfl rfl ?_ | refine L.skip rfl ?_)
  refine L.cl (lent_C _ l S hI.1 (by omega)) rfl rfl ?_
  rintro _ M1 ⟨hc1, b, hb, rfl, hr1⟩
  refine ⟨nofun, ?_⟩
  have hI1 := BIn.lent hr1 (by simp [marks]) (by omega)
  have hbl := row_lt hr1
  repeat (first | refine W.seq ?_ | refine W.block ?_ | refine W.reg ?_ | refine W.skip ?_ | refine W.exit ?_ | refine W.ret ?_ | refine L.nil ?_ | refine L.p rfl rfl ?_ | refine L.skip rfl ?_)
  refine L.cl (decode_C _ _ l M1 hI1) rfl rfl ?_
  rintro _ M2 hR
  obtain ⟨d1, d2, rfl, r1, r2, hap1⟩ := hR.two
  refine ⟨nofun, ?_⟩
  have hc2 := r1.1
  repeat (first | refine W.seq ?_ | refine W.block ?_ | refine W.reg ?_ | refine W.skip ?_ | refine W.exit ?_ | refine W.ret ?_ | refine L.nil ?_ | refine L.p rfl rfl ?_ | refine L.skip rfl ?_)
  refine L.eff (v := .pointer (some ⟨List.length M2, 0, none⟩)) (S1 := M2 ++ [newR [nilV, nilV] 26]) rfl rfl ?_
  refine L.st (ad := ⟨List.length M2, 0, none⟩) (vs := [d1.v, d2.v]) (key_write M2 _ _ rfl rfl) rfl rfl rfl rfl ?_
  have hr3 : Mem.row? (M2 ++ [keyR d1.v d2.v]) M2.length = some (keyR d1.v d2.v) := row_push_new rfl
  have hk3 : Cons M2 (M2 ++ [keyR d1.v d2.v]) := Cons.push _ _
  generalize M2 ++ [keyR d1.v d2.v] = M3 at *
  generalize M2.length = q1 at *
  repeat (first | refine W.seq ?_ | refine W.block ?_ | refine W.reg ?_ | refine W.skip ?_ | refine W.exit ?_ | refine W.ret ?_ | refine L.nil ?_ | refine L.p rfl rfl ?_ | refine L.skip rfl ?_)
  refine L.cl (decode_C _ _ l M3 (hI1.cons (hc2.trans hk3))) rfl rfl ?_
  rintro _ M4 hR
  obtain ⟨d3, d4, rfl, r3, r4, hap2⟩ := hR.two
  refine ⟨nofun, ?_⟩
  have hc4 := r3.1
  repeat (first | refine W.seq ?_ | refine W.block ?_ | refine W.reg ?_ | refine W.skip ?_ | refine W.exit ?_ | refine W.ret ?_ | refine L.nil ?_ | refine L.p rfl rfl ?_ | refine L.skip rfl ?_)
  refine L.eff (v := .pointer (some ⟨List.length M4, 0, none⟩)) (S1 := M4 ++ [newR [nilV, nilV] 26]) rfl rfl ?_
  refine L.st (ad := ⟨List.length M4, 0, none⟩) (vs := [d3.v, d4.v]) (key_write M4 _ _ rfl rfl) rfl rfl rfl rfl ?_
  have hr5 : Mem.row? (M4 ++ [keyR d3.v d4.v]) M4.length = some (keyR d3.v d4.v) := row_push_new rfl
  have hk5 : Cons M4 (M4 ++ [keyR d3.v d4.v]) := Cons.push _ _
  generalize M4 ++ [keyR d3.v d4.v] = M5 at *
  generalize M4.length = q2 at *
  repeat (first | refine W.seq ?_ | refine W.block ?_ | refine W.reg ?_ | refine W.skip ?_ | refine W.exit ?_ | refine W.ret ?_ | refine L.nil ?_ | refine L.p rfl rfl ?_ | refine L.skip rfl ?_)
  have hc15 := ((hc2.trans hk3).trans hc4).trans hk5
  refine L.cl (refDecode_C _ _ l M5 (hI.cons (hc1.trans hc15))) rfl rfl ?_
  rintro _ M6 hR
  obtain ⟨a6, c6, a7, c7, rfl, hc6, w6, w7⟩ := hR.two
  refine ⟨nofun, ?_⟩
  repeat (first | refine W.seq ?_ | refine W.block ?_ | refine W.reg ?_ | refine W.skip ?_ | refine W.exit ?_ | refine W.ret ?_ | refine L.nil ?_ | refine L.p rfl rfl ?_ | refine L.skip rfl ?_)
  refine L.eff (v := .pointer (some ⟨List.length M6, 0, none⟩)) (S1 := M6 ++ [newR [nilV, nilV] 26]) rfl rfl ?_
  refine L.st (ad := ⟨List.length M6, 0, none⟩) (vs := [(.slice a6 (keyN l).1.length c6), (.slice a7 (keyN l).2.length c7)]) (key_write M6 _ _ rfl rfl) rfl rfl rfl rfl ?_
  have hr7 : Mem.row? (M6 ++ [keyR (.slice a6 (keyN l).1.length c6) (.slice a7 (keyN l).2.length c7)]) M6.length = some (keyR (.slice a6 (keyN l).1.length c6) (.slice a7 (keyN l).2.length c7)) := row_push_new rfl
  have hk7 : Cons M6 (M6 ++ [keyR (.slice a6 (keyN l).1.length c6) (.slice a7 (keyN l).2.length c7)]) := Cons.push _ _
  generalize M6 ++ [keyR (.slice a6 (keyN l).1.length c6) (.slice a7 (keyN l).2.length c7)] = M7 at *
  generalize M6.length = q3 at *
  repeat (first | refine W.seq ?_ | refine W.block ?_ | refine W.reg ?_ | refine W.skip ?_ | refine W.exit ?_ | refine W.ret ?_ | refine L.nil ?_ | refine L.p rfl rfl ?_ | refine L.skip rfl ?_)
  rw [show (keyE l != keyE l) = false from bne_self_eq_false _]
  repeat (first | refine W.seq ?_ | refine W.block ?_ | refine W.reg ?_ | refine W.skip ?_ | refine W.exit ?_ | refine W.ret ?_ | refine L.nil ?_ | refine L.p rfl rfl ?_ | refine L.skip rfl ?_)
  rw [show (keyE l != keyE l) = false from bne_self_eq_false _]
  have hc57 := hc6.trans hk7
  have hc37 := (hc4.trans hk5).trans hc57
  have hr37 := hc37.row' hr3
  have hr57 := hc57.row' hr5
  have s1 := r1.hd (hk3.trans hc37)
  have s2 := r2.hd (hk3.trans hc37)
  have s3 := r3.hd (hk5.trans hc57)
  have s4 := r4.hd (hk5.trans hc57)
  have s6 := w6.cons hk7
  have s7 := w7.cons hk7
  repeat (first | refine W.seq ?_ | refine W.block ?_ | refine W.reg ?_ | refine W.skip ?_ | refine W.exit ?_ | refine W.ret ?_ | refine L.nil ?_ | refine L.p rfl rfl ?_ | refine L.skip rfl ?_)
  refine L.ldA (a := ⟨q1, 0, none⟩) (key_load hr37) rfl rfl rfl ?_
  refine L.ldA (a := ⟨q3, 0, none⟩) (key_load hr7) rfl rfl rfl ?_
  refine L.cl (sameKey_C d1.ad d2.ad a6 a7 d1.n d2.n _ _ d1.c d2.c c6 c7 (keyN l).1 (keyN l).2 (keyN l).1 (keyN l).2 M7 s1.1 s2.1 s6.1 s7.1 s1.2 s2.2 s6.2.2.2 s7.2.2.2) rfl rfl ?_
  rintro _ M8 ⟨rfl, hc8⟩
  refine ⟨nofun, ?_⟩
  rw [keq]
  repeat (first | refine W.seq ?_ | refine W.block ?_ | refine W.reg ?_ | refine W.skip ?_ | refine W.exit ?_ | refine W.ret ?_ | refine L.nil ?_ | refine L.p rfl rfl ?_ | refine L.skip rfl ?_)
  refine L.ldA (a := ⟨q2, 0, none⟩) (key_load (hc8.row' hr57)) rfl rfl rfl ?_
  refine L.ldA (a := ⟨q3, 0, none⟩) (key_load (hc8.row' hr7)) rfl rfl rfl ?_
  refine L.cl (sameKey_C d3.ad d4.ad a6 a7 d3.n d4.n _ _ d3.c d4.c c6 c7 (keyN l).1 (keyN l).2 (keyN l).1 (keyN l).2 M8 (s3.1.cons hc8) (s4.1.cons hc8) (s6.1.cons hc8) (s7.1.cons hc8) s3.2 s4.2 s6.2.2.2 s7.2.2.2) rfl rfl ?_
  rintro _ M9 ⟨rfl, hc9⟩
  refine ⟨nofun, ?_⟩
  rw [keq]
  repeat (first | refine W.seq ?_ | refine W.block ?_ | refine W.reg ?_ | refine W.skip ?_ | refine W.exit ?_ | refine W.ret ?_ | refine L.nil ?_ | refine L.p rfl rfl ?_ | refine L.skip rfl ?_)
  refine W.ite rfl (fun h => ?_) (fun h => ?_)
  · cases h
  clear h
  have hk9 := hc8.trans hc9
  have hr39 := hk9.row' hr37
  have hr59 := hk9.row' hr57
  have hk29 := (hk3.trans hc37).trans hk9
  have hk49 := (hk5.trans hc57).trans hk9
  have hk19 := hc2.trans hk29
  have hS9 := hc1.trans hk19
  have hr19 := hk19.row' hr1
  have hl2 := hk3.len
  repeat (first | refine W.seq ?_ | refine W.block ?_ | refine W.reg ?_ | refine W.skip ?_ | refine W.exit ?_ | refine W.ret ?_ | refine L.nil ?_ | refine L.p rfl rfl ?_ | refine L.skip rfl ?_)
  refine L.eff (v := .pointer (some ⟨M9.length, 0, none⟩)) (S1 := M9 ++ [newR [.slice none 0 0, .slice none 0 0] 34]) rfl rfl ?_
  have hB0 := BK.new M9
  generalize M9 ++ [newR [.slice none 0 0, .slice none 0 0] 34] = N0 at *
  obtain ⟨rb, hrb⟩ : ∃ rb, rb = M9.length := ⟨_, rfl⟩
  rw [← hrb] at hB0 ⊢
  repeat (first | refine W.seq ?_ | refine W.block ?_ | refine W.reg ?_ | refine W.skip ?_ | refine W.exit ?_ | refine W.ret ?_ | refine L.nil ?_ | refine L.p rfl rfl ?_ | refine L.skip rfl ?_)
  refine L.ldA (a := ⟨q1, 0, none⟩) (key_load (hB0.1.row' hr39)) rfl rfl rfl ?_
  refine L.cl (key_BK d1 d2 hB0 (by decide)) rfl rfl ?_
  rintro _ N1 hB1
  refine ⟨nofun, ?_⟩
  repeat (first | refine W.seq ?_ | refine W.block ?_ | refine W.reg ?_ | refine W.skip ?_ | refine W.exit ?_ | refine W.ret ?_ | refine L.nil ?_ | refine L.p rfl rfl ?_ | refine L.skip rfl ?_)
  refine L.ldA (a := ⟨q2, 0, none⟩) (key_load (hB1.1.row' hr59)) rfl rfl rfl ?_
  refine L.cl (key_BK d3 d4 hB1 (by simp)) rfl rfl ?_
  rintro _ N2 hB2
  refine ⟨nofun, ?_⟩
  repeat (first | refine W.seq ?_ | refine W.block ?_ | refine W.reg ?_ | refine W.skip ?_ | refine W.exit ?_ | refine W.ret ?_ | refine L.nil ?_ | refine L.p rfl rfl ?_ | refine L.skip rfl ?_)
  have t1 := r1.2.2.1.cons hk29
  have t2 := r2.2.2.1.cons hk29
  have t3 := r3.2.2.1.cons hk49
  have t4 := r4.2.2.1.cons hk49
  have z1 : ∀ x, d1.a = some x → M1.length ≤ x ∧ x < M2.length := fun x e => ⟨r1.2.2.2 x e, r1.2.2.1.lt e⟩
  have z2 : ∀ x, d2.a = some x → M1.length ≤ x ∧ x < M2.length := fun x e => ⟨r2.2.2.2 x e, r2.2.2.1.lt e⟩
  have z3 : ∀ x, d3.a = some x → M3.length ≤ x := r3.2.2.2
  have z4 : ∀ x, d4.a = some x → M3.length ≤ x := r4.2.2.2
  have hlen1 := (keyN_len l).1
  have hlen2 := (keyN_len l).2
  have wl : ∀ {x : WL}, x.length ≤ 64 → (wv x).length ≤ 1000000000000 := fun h => by rw [wv_len]; omega
  have hlM := hc2.len
  refine L.cl (apart_BK hB2 ⟨by simp, by simp⟩ (.add t1 (wl hlen1) (.add t2 (wl hlen2) (.add t3 (wl hlen1) (.add t4 (wl hlen2) (.nil _ _))))) (.nil _ _) (.add (fun x e hm => ?_) (.add (fun x e hm => ?_) (.add (fun x e hm => ?_) (.add (fun x e hm => by simp [blks] at hm) .nil)))) .nil (by simp [blks])) rfl rfl ?_
  · have hm : x ∈ blks [d2, d3, d4] := hm
    simp only [mem_blks, blks_nil, List.not_mem_nil, or_false] at hm
    rcases hm with hm | hm | hm
    · exact hap1 x e hm
    · have := z3 x hm; have := z1 x e; omega
    · have := z4 x hm; have := z1 x e; omega
  · have hm : x ∈ blks [d3, d4] := hm
    simp only [mem_blks, blks_nil, List.not_mem_nil, or_false] at hm
    rcases hm with hm | hm
    · have := z3 x hm; have := z2 x e; omega
    · have := z4 x hm; have := z2 x e; omega
  · have hm : x ∈ blks [d4] := hm
    simp only [mem_blks, blks_nil, List.not_mem_nil, or_false] at hm
    exact hap2 x e hm
  rintro _ N3 ⟨rfl, hk⟩
  refine ⟨nofun, ?_⟩
  have hbk : ∀ x ∈ blks ([d1, d2, d3, d4] : List Hd) ++ blks [], M1.length ≤ x := fun x hm => by
    simp only [blks_nil, List.append_nil, mem_blks, List.not_mem_nil, or_false] at hm
    rcases hm with hm | hm | hm | hm
    · exact (z1 x hm).1
    · exact (z2 x hm).1
    · have := z3 x hm; omega
    · have := z4 x hm; omega
  have hN3 : Cons M1 N3 := hk.cons0 hk19 hbk
  repeat (first | refine W.seq ?_ | refine W.block ?_ | refine W.reg ?_ | refine W.skip ?_ | refine W.exit ?_ | refine W.ret ?_ | refine L.nil ?_ | refine L.p rfl rfl ?_ | refine L.skip rfl ?_)
  refine L.cl (kept_C _ l b _ N3 (hN3.row' hr1) rfl rfl (hI.1.cons (hc1.trans hN3)) (by omega)) rfl rfl ?_
  rintro _ _ ⟨rfl, rfl⟩
  refine ⟨fun _ => Cons.refl _, ?_⟩
  repeat (first | refine W.seq ?_ | refine W.block ?_ | refine W.reg ?_ | refine W.skip ?_ | refine W.exit ?_ | refine W.ret ?_ | refine L.nil ?_ | refine L.p rfl rfl ?_ | refine L.skip rfl ?_)
  refine L.cl (works_C _) rfl rfl ?_
  rintro _ N4 ⟨rfl, hc⟩
  refine ⟨fun _ => hc, ?_⟩
  repeat (first | refine W.seq ?_ | refine W.block ?_ | refine W.reg ?_ | refine W.skip ?_ | refine W.exit ?_ | refine W.ret ?_ | refine L.nil ?_ | refine L.p rfl rfl ?_ | refine L.skip rfl ?_)
  exact ⟨.inr rfl, _, rfl, rfl, (hc1.trans hN3).trans hc⟩
end Go.Proofs.Ytccdlijohkljcaa

/- Layer 7, plainly: a key's bytes and what is read out of them. Conditions: none. -/
set_option linter.unusedSimpArgs false
set_option linter.unusedVariables false
namespace Go.Proofs.Ytccdlijohkljcaa
open Go

theorem bsz_le {n k : Nat} : bsz n ≤ k ↔ n < 256 ^ k := by
  rw [p256, ← blen_le]; unfold bsz; omega
theorem bnum_inj : ∀ {l m : BL}, l.length = m.length → bnum l = bnum m → l = m
  | [], [], _, _ => rfl
  | [], _ :: _, h, _ => by cases h
  | _ :: _, [], h, _ => by cases h
  | x :: l, y :: m, h, e => by
    have hl : l.length = m.length := by simpa using h
    simp only [bnum, hl] at e
    have h1 := bnum_lt l
    have h2 := bnum_lt m
    rw [hl] at h1
    have hp : 0 < 256 ^ m.length := Nat.pow_pos (by decide)
    have hx : x.toNat = y.toNat := by
      have d1 : (x.toNat * 256 ^ m.length + bnum l) / 256 ^ m.length = x.toNat := by
        rw [Nat.mul_comm, Nat.mul_add_div hp, Nat.div_eq_of_lt h1, Nat.add_zero]
      have d2 : (y.toNat * 256 ^ m.length + bnum m) / 256 ^ m.length = y.toNat := by
        rw [Nat.mul_comm, Nat.mul_add_div hp, Nat.div_eq_of_lt h2, Nat.add_zero]
      rw [← d1, e, d2]
    rw [hx] at e
    rw [BitVec.eq_of_toNat_eq hx, bnum_inj hl (by omega)]
theorem bsz_bnum {x : BitVec 8} {m : BL} (hx : x ≠ 0#8) : bsz (bnum (x :: m)) = m.length + 1 := by
  have h1 := bnum_lt (x :: m)
  have h2 := bsz_le.2 h1
  rw [List.length_cons] at h2
  have hx0 : x.toNat ≠ 0 := fun h => hx (BitVec.eq_of_toNat_eq (by simpa using h))
  have h3 : ¬ bsz (bnum (x :: m)) ≤ m.length := fun h => by
    have := bsz_le.1 h
    rw [bnum] at this
    have : 1 * 256 ^ m.length ≤ x.toNat * 256 ^ m.length := Nat.mul_le_mul_right _ (by omega)
    omega
  omega
/-- bytes that do not begin with 0 are their number's -/
theorem toB_bnum {d : BL} (h : ∀ x m, d = x :: m → x ≠ 0#8) : toB (bnum d) = d := by
  refine bnum_inj ?_ (bnum_toB _)
  rw [toB_len]
  cases d with
  | nil => rfl
  | cons x m => exact bsz_bnum (h x m rfl)
theorem toB_head {n : Nat} {x : BitVec 8} {m : BL} (h : toB n = x :: m) : x ≠ 0#8 := by
  have hp : 0 < bsz n := by have := congrArg List.length h; rw [toB_len] at this; simp at this; omega
  have hx : (toB n)[0]? = some x := by rw [h]; rfl
  unfold toB at hx
  rw [List.getElem?_map, List.getElem?_range hp] at hx
  simp only [Option.map_some, Nat.sub_zero, Option.some.injEq] at hx
  rw [← hx]
  exact byte_top hp
theorem ofNat8 {n : Nat} (h : n < 256) : (BitVec.ofNat 8 n).toNat = n := by rw [BitVec.toNat_ofNat]; exact Nat.mod_eq_of_lt h
theorem bat_cons_succ (x : BitVec 8) (l : BL) (i : Nat) : bat (x :: l) (i + 1) = bat l i := by unfold bat; rw [List.getElem?_cons_succ]
theorem bat_cons_zero (x : BitVec 8) (l : BL) : bat (x :: l) 0 = x.toNat := rfl
theorem bat_take {b : BL} {k i : Nat} (h : i < k) : bat (b.take k) i = bat b i := by unfold bat; rw [List.getElem?_take, if_pos h]
theorem bat_app {l m : BL} {i : Nat} (h : i < l.length) : bat (l ++ m) i = bat l i := by unfold bat; rw [List.getElem?_append_left h]
theorem bsz_pos {n : Nat} (h : n ≠ 0) : 0 < bsz n := by
  rcases Nat.eq_zero_or_pos (bsz n) with h0 | h0
  · have := bsz_le.1 (Nat.le_of_eq h0); simp at this; omega
  · exact h0
theorem toB_bat {n : Nat} (h : n ≠ 0) : bat (toB n) 0 ≠ 0 := by
  cases hq : toB n with
  | nil => have h1 := congrArg List.length hq; rw [toB_len] at h1; have h2 := bsz_pos h; simp at h1; omega
  | cons x m =>
    rw [bat_cons_zero]
    exact fun h => toB_head hq (BitVec.eq_of_toNat_eq (by simpa using h))
/-- an item's first bytes, whatever stands behind -/
theorem item_cut (t : BitVec 8) (c r : BL) (k : Nat) (hn : c.length < 4294967296) (hk : k ≤ (t :: (lenB c.length ++ (c ++ r))).length) :
    itemS ((t :: (lenB c.length ++ (c ++ r))).take k) = if k < 1 + (lenB c.length).length + c.length then .error 70 else .ok (1 + (lenB c.length).length, c.length) := by
  obtain ⟨b, hb⟩ : ∃ b, b = (t :: (lenB c.length ++ (c ++ r))).take k := ⟨_, rfl⟩
  have hl : b.length = k := by rw [hb, List.length_take]; omega
  rw [← hb]
  obtain ⟨n, hcn⟩ : ∃ n, n = c.length := ⟨_, rfl⟩
  rw [← hcn] at hb hn hk ⊢
  unfold itemS
  rw [hl]
  by_cases h2 : k < 2
  · rw [if_pos h2, if_pos]
    unfold lenB; split <;> simp <;> omega
  rw [if_neg h2]
  have g1 : bat b 1 = bat (lenB n ++ (c ++ r)) 0 := by rw [hb, bat_take (by omega), bat_cons_succ]
  by_cases h3 : n < 128
  · have hL : lenB n = [BitVec.ofNat 8 n] := by unfold lenB; rw [if_pos h3]
    rw [hL] at g1 ⊢
    have g1 : bat b 1 = n := by rw [g1, List.cons_append, bat_cons_zero, ofNat8 (by omega)]
    rw [g1, if_neg (by omega), if_pos h3]
    by_cases h4 : k - 2 < n
    · rw [if_pos h4, if_pos (by simp; omega)]
    · rw [if_neg h4, if_neg (by simp; omega)]
      rfl
  · obtain ⟨q, hq⟩ : ∃ q, q = (toB n).length := ⟨_, rfl⟩
    have hL : lenB n = BitVec.ofNat 8 (128 + q) :: toB n := by unfold lenB; rw [if_neg h3, hq]
    have hq1 : 0 < q := by rw [hq, toB_len]; exact bsz_pos (by omega)
    have hq2 : q ≤ 4 := by rw [hq, toB_len]; exact bsz_le.2 (by omega)
    have hLl : (lenB n).length = 1 + q := by rw [hL, hq]; simp; omega
    rw [hLl]
    rw [hL] at g1
    have g1 : bat b 1 = 128 + q := by rw [g1, List.cons_append, bat_cons_zero, ofNat8 (by omega)]
    rw [g1, if_neg (by omega), if_neg (by omega), Nat.add_sub_cancel_left]
    by_cases h4 : k - 2 < q
    · rw [if_pos h4, if_pos (by omega)]
    rw [if_neg h4]
    have hbd : (b.drop 2).take q = toB n := by
      rw [hb, hL, List.drop_take, List.take_take, Nat.min_eq_left (by omega)]
      simp only [List.cons_append, List.drop_succ_cons, List.drop_zero]
      rw [List.take_append_of_le_length (by omega), hq, List.take_length]
    have g2 : bat b 2 ≠ 0 := by
      have : bat b 2 = bat (toB n) 0 := by rw [← hbd, bat_take (by omega), bat_drop]
      rw [this]; exact toB_bat (by omega)
    have g3 : lenN b = n := by unfold lenN; rw [g1, Nat.add_sub_cancel_left, hbd, bnum_toB]
    rw [g3, if_neg (by omega)]
    by_cases h5 : k - 2 - q < n
    · rw [if_pos h5, if_pos (by omega)]
    · rw [if_neg h5, if_neg (by omega)]
      simp only [Except.ok.injEq, Prod.mk.injEq, and_true]; omega
theorem item_of (t : BitVec 8) (c r : BL) (hn : c.length < 4294967296) : itemS (t :: (lenB c.length ++ (c ++ r))) = .ok (1 + (lenB c.length).length, c.length) := by
  have := item_cut t c r _ hn (Nat.le_refl _)
  rw [List.take_length, if_neg (by simp; omega)] at this
  exact this
/-- an item that is read has the one form -/
theorem item_form {b : BL} {h n : Nat} (e : itemS b = .ok (h, n)) : ∃ t c r, b = t :: (lenB c.length ++ (c ++ r)) ∧ c.length = n ∧ h = 1 + (lenB c.length).length ∧ n < 4294967296 := by
  have hok := itemS_ok e
  obtain ⟨t, x, rest, rfl⟩ : ∃ t x rest, b = t :: x :: rest := by
    match b, hok with
    | t :: x :: rest, _ => exact ⟨t, x, rest, rfl⟩
    | [], h => simp at h; omega
    | [_], h => simp at h; omega
  have hx := x.isLt
  have b1 : bat (t :: x :: rest) 1 = x.toNat := rfl
  unfold itemS at e
  rw [if_neg (by simp), b1] at e
  have hlen : (t :: x :: rest).length - 2 = rest.length := by simp
  rw [hlen] at e
  by_cases h2 : x.toNat = 128 ∨ 132 < x.toNat
  · rw [if_pos h2] at e; cases e
  rw [if_neg h2] at e
  by_cases h3 : x.toNat < 128
  · rw [if_pos h3] at e
    by_cases h4 : rest.length < x.toNat
    · rw [if_pos h4] at e; cases e
    rw [if_neg h4] at e
    simp only [Except.ok.injEq, Prod.mk.injEq] at e
    obtain ⟨rfl, rfl⟩ := e
    have hc : (rest.take x.toNat).length = x.toNat := by rw [List.length_take]; omega
    have hL : lenB x.toNat = [x] := by unfold lenB; rw [if_pos h3]; simp
    refine ⟨t, rest.take x.toNat, rest.drop x.toNat, ?_, hc, ?_, by omega⟩
    · rw [hc, hL, List.take_append_drop]; rfl
    · rw [hc, hL]; rfl
  rw [if_neg h3] at e
  by_cases h4 : rest.length < x.toNat - 128
  · rw [if_pos h4] at e; cases e
  rw [if_neg h4] at e
  by_cases h5 : bat (t :: x :: rest) 2 = 0 ∨ lenN (t :: x :: rest) < 128
  · rw [if_pos h5] at e; cases e
  rw [if_neg h5] at e
  by_cases h6 : rest.length - (x.toNat - 128) < lenN (t :: x :: rest)
  · rw [if_pos h6] at e; cases e
  rw [if_neg h6] at e
  simp only [Except.ok.injEq, Prod.mk.injEq] at e
  have hlt := lenN_lt (b := t :: x :: rest) (by rw [b1]; omega)
  obtain ⟨q, hq⟩ : ∃ q, q = x.toNat - 128 := ⟨_, rfl⟩
  obtain ⟨d, hd⟩ : ∃ d, d = rest.take q := ⟨_, rfl⟩
  have hdl : d.length = q := by rw [hd, List.length_take]; omega
  have hN : lenN (t :: x :: rest) = bnum d := by unfold lenN; rw [b1, ← hq, hd]; rfl
  rw [hN, ← hq] at e h6
  rw [hN] at hlt h5
  obtain ⟨rfl, rfl⟩ := e
  have hdz : ∀ y m, d = y :: m → y ≠ 0#8 := fun y m hy h0 => by
    have : bat (t :: x :: rest) 2 = y.toNat := by
      show bat rest 0 = _
      rw [← bat_take (b := rest) (k := q) (by omega), ← hd, hy]; rfl
    rw [h0] at this
    exact h5 (.inl (by rw [this]; rfl))
  have hc : ((rest.drop q).take (bnum d)).length = bnum d := by rw [List.length_take, List.length_drop]; omega
  have hL : lenB (bnum d) = x :: d := by
    unfold lenB
    rw [if_neg (by omega), toB_bnum hdz, hdl, hq, show 128 + (x.toNat - 128) = x.toNat by omega]
    simp
  refine ⟨t, (rest.drop q).take (bnum d), (rest.drop q).drop (bnum d), ?_, hc, ?_, by omega⟩
  · rw [hc, hL, List.take_append_drop, List.cons_append, hd, List.take_append_drop]
  · rw [hc, hL]; simp; omega
/-- an integer's content that is read has the one form -/
theorem num_form {c : BL} {l : WL} (h : numS c = .ok l) : contS l = c ∧ ¬ 4096 < blen (wnum l) ∧ fm l = l := by
  unfold numS at h
  split at h
  · cases h
  rename_i hbad
  split at h
  · cases h
  rename_i hl
  simp only [Except.ok.injEq] at h
  subst h
  simp only [badInt, not_or, not_and] at hbad
  obtain ⟨h0, h1, h2⟩ := hbad
  rw [wnum_toW]
  refine ⟨?_, by omega, by unfold fm; rw [wnum_toW]⟩
  unfold contS
  rw [wnum_toW]
  cases c with
  | nil => exact absurd rfl h0
  | cons x m =>
    rw [bat_cons_zero] at h1 h2
    by_cases hx : x = 0#8
    · subst hx
      have hb : bnum (0#8 :: m) = bnum m := by simp [bnum]
      have hm : toB (bnum m) = m := toB_bnum fun y k hy hy0 => by
        subst hy hy0
        exact h2 (by simp) rfl (by rw [bat_cons_succ, bat_cons_zero]; decide)
      rw [hb, hm, if_pos]
      cases m with
      | nil => exact .inl rfl
      | cons y k =>
        right
        have := h2 (by simp) rfl
        rw [bat_cons_succ] at this
        omega
    · rw [toB_bnum (fun y k hy => by simp only [List.cons.injEq] at hy; rw [← hy.1]; exact hx), if_neg]
      rw [bat_cons_zero]
      simp only [List.length_cons, not_or]
      omega
theorem num_of {l : WL} (h : ¬ 4096 < blen (wnum l)) : numS (contS l) = .ok (fm l) := by
  have hlen := cont_len h
  have hb : bnum (contS l) = wnum l := by
    unfold contS; split
    · simp [bnum, bnum_toB]
    · exact bnum_toB _
  have hgood : ¬ badInt (contS l) := by
    unfold badInt contS
    cases hq : toB (wnum l) with
    | nil => simp [bat]
    | cons x m =>
      have hx := toB_head hq
      have hx0 : x.toNat ≠ 0 := fun h => hx (BitVec.eq_of_toNat_eq (by simpa using h))
      rw [bat_cons_zero]
      by_cases h8 : 128 ≤ x.toNat
      · rw [if_pos (.inr h8), bat_cons_zero, bat_cons_succ, bat_cons_zero]
        simp; omega
      · rw [if_neg (by simp; omega), bat_cons_zero]
        simp; omega
  have hfe : fromE (contS l) = 0 := by
    unfold fromE
    rw [if_pos]
    have : (strip0 (contS l)).length ≤ (contS l).length := by unfold strip0; exact (List.dropWhile_sublist _).length_le
    omega
  unfold numS
  rw [if_neg hgood, hb, hfe, if_neg (by simp; omega)]
theorem item_parts {t : BitVec 8} {c r : BL} {h : Nat} (hh : h = 1 + (lenB c.length).length) : ((t :: (lenB c.length ++ (c ++ r))).drop h).take c.length = c ∧ (t :: (lenB c.length ++ (c ++ r))).drop (h + c.length) = r := by
  have e : t :: (lenB c.length ++ (c ++ r)) = (t :: lenB c.length) ++ (c ++ r) := rfl
  have hl : (t :: lenB c.length).length = h := by rw [hh, List.length_cons, Nat.add_comm]
  constructor
  · rw [e, List.drop_append_of_le_length (by omega), ← hl, List.drop_length, List.nil_append, List.take_append_of_le_length (Nat.le_refl _), List.take_length]
  · rw [e, ← List.drop_drop, List.drop_append_of_le_length (by omega), ← hl, List.drop_length, List.nil_append, List.drop_append_of_le_length (Nat.le_refl _), List.drop_length, List.nil_append]
theorem laid_app (t : BitVec 8) (c r : BL) : laidS t c ++ r = t :: (lenB c.length ++ (c ++ r)) := by rw [laidS_eq]; simp
theorem part_form {m r : BL} {l : WL} (h : partS m = .ok (l, r)) : m = laidS 2#8 (contS l) ++ r ∧ ¬ 4096 < blen (wnum l) ∧ fm l = l := by
  unfold partS at h
  split at h
  · cases h
  rename_i hd n hi
  obtain ⟨t, c, r', rfl, rfl, rfl, _⟩ := item_form hi
  obtain ⟨p1, p2⟩ := item_parts (t := t) (c := c) (r := r') rfl
  split at h
  · cases h
  rename_i ht
  rw [bat_cons_zero] at ht
  have ht : t = 2#8 := BitVec.eq_of_toNat_eq (by simpa using ht)
  subst ht
  rw [p1] at h
  split at h
  · cases h
  rename_i l' hn
  rw [p2] at h
  simp only [Except.ok.injEq, Prod.mk.injEq] at h
  obtain ⟨rfl, rfl⟩ := h
  obtain ⟨h1, h2, h3⟩ := num_form hn
  rw [h1, laid_app]
  exact ⟨rfl, h2, h3⟩
theorem part_of {l : WL} (r : BL) (h : ¬ 4096 < blen (wnum l)) : partS (laidS 2#8 (contS l) ++ r) = .ok (fm l, r) := by
  have hlen := (cont_len h).2
  rw [laid_app]
  unfold partS
  rw [item_of _ _ _ (by omega)]
  obtain ⟨p1, p2⟩ := item_parts (t := 2#8) (c := contS l) (r := r) rfl
  dsimp only
  rw [bat_cons_zero, if_neg (by decide), p1, num_of h, p2]
/-- what is read is the one form -/
theorem key_form {b : BL} {l1 l2 : WL} (h : keyS b = .ok (l1, l2)) : encL l1 l2 = b ∧ ¬ encBad l1 l2 ∧ fm l1 = l1 ∧ fm l2 = l2 := by
  unfold keyS at h
  split at h
  · cases h
  rename_i hd n hi
  obtain ⟨t, c, r, rfl, rfl, rfl, _⟩ := item_form hi
  obtain ⟨p1, p2⟩ := item_parts (t := t) (c := c) (r := r) rfl
  split at h
  · cases h
  rename_i ht
  rw [bat_cons_zero] at ht
  have ht : t = 48#8 := BitVec.eq_of_toNat_eq (by simpa using ht)
  subst ht
  split at h
  · cases h
  rename_i hlong
  have hr : r = [] := by
    cases r with
    | nil => rfl
    | cons x m => simp at hlong; omega
  subst hr
  rw [p1] at h
  unfold keyT at h
  split at h
  · cases h
  rename_i k1 r1 h1
  split at h
  · cases h
  rename_i k2 r2 h2
  split at h
  · cases h
  rename_i hr2
  simp only [Except.ok.injEq, Prod.mk.injEq] at h
  obtain ⟨rfl, rfl⟩ := h
  obtain ⟨e1, b1, f1⟩ := part_form h1
  obtain ⟨e2, b2, f2⟩ := part_form h2
  have hr0 : r2 = [] := by
    cases r2 with
    | nil => rfl
    | cons x m => simp at hr2
  subst hr0
  rw [List.append_nil] at e2
  subst e2
  refine ⟨?_, by unfold encBad; omega, f1, f2⟩
  unfold encL
  rw [← e1, laidS_eq, List.append_nil]
theorem body_len {l1 l2 : WL} (h : ¬ encBad l1 l2) : (laidS 2#8 (contS l1) ++ laidS 2#8 (contS l2)).length < 4294967296 := by
  simp only [encBad, not_or] at h
  have h1 := (cont_len h.1).2
  have h2 := (cont_len h.2).2
  have h3 := laidS_len 2#8 (contS l1)
  have h4 := laidS_len 2#8 (contS l2)
  have h5 := toB_lt (n := (contS l1).length) (by omega)
  have h6 := toB_lt (n := (contS l2).length) (by omega)
  rw [List.length_append]; omega
theorem enc_app (l1 l2 : WL) (r : BL) : encL l1 l2 ++ r = 48#8 :: (lenB (laidS 2#8 (contS l1) ++ laidS 2#8 (contS l2)).length ++ ((laidS 2#8 (contS l1) ++ laidS 2#8 (contS l2)) ++ r)) := by unfold encL; rw [laid_app]
theorem enc_more {l1 l2 : WL} (r : BL) (h : ¬ encBad l1 l2) : keyS (encL l1 l2 ++ r) = if 0 < r.length then .error 74 else .ok (fm l1, fm l2) := by
  rw [enc_app]
  unfold keyS
  rw [item_of _ _ _ (body_len h)]
  obtain ⟨p1, p2⟩ := item_parts (t := 48#8) (c := laidS 2#8 (contS l1) ++ laidS 2#8 (contS l2)) (r := r) rfl
  dsimp only
  rw [bat_cons_zero, if_neg (by decide), p1]
  by_cases hr : 0 < r.length
  · rw [if_pos hr, if_pos (by simp; omega)]
  rw [if_neg hr, if_neg (by simp; omega)]
  simp only [encBad, not_or] at h
  unfold keyT
  rw [part_of _ h.1]
  dsimp only
  have := part_of [] h.2
  rw [List.append_nil] at this
  rw [this]
  rfl
theorem enc_back {l1 l2 : WL} (h : ¬ encBad l1 l2) : keyS (encL l1 l2) = .ok (fm l1, fm l2) := by
  have := enc_more [] h
  rw [List.append_nil] at this
  exact this
theorem enc_short {l1 l2 : WL} {k : Nat} (h : ¬ encBad l1 l2) (hk : k < (encL l1 l2).length) : keyS ((encL l1 l2).take k) = .error 70 := by
  have e := enc_app l1 l2 []
  rw [List.append_nil] at e
  rw [e] at hk ⊢
  have := item_cut 48#8 _ [] k (body_len h) (Nat.le_of_lt hk)
  unfold keyS
  rw [this, if_pos (by simp at hk; simp; omega)]
end Go.Proofs.Ytccdlijohkljcaa

/- The law of the one form, walked. Conditions: none. -/
set_option linter.unusedSimpArgs false
set_option linter.unusedVariables false
set_option maxRecDepth 100000
set_option maxHeartbeats 4000000
namespace Go.Proofs.Ytccdlijohkljcaa
open Go
variable {G : Nat}

theorem partS_ne {b : BL} {e : Int} (h : partS b = .error e) : e ≠ 0 := by
  unfold partS at h
  split at h
  · rename_i h1; cases h; exact itemS_ne h1
  · split at h
    · cases h; decide
    · split at h
      · rename_i h1; cases h; exact numS_ne h1
      · cases h
theorem keyS_ne {b : BL} {e : Int} (h : keyS b = .error e) : e ≠ 0 := by
  unfold keyS at h
  split at h
  · rename_i h1; cases h; exact itemS_ne h1
  · split at h
    · cases h; decide
    · split at h
      · cases h; decide
      · unfold keyT at h
        split at h
        · rename_i h1; cases h; exact partS_ne h1
        · split at h
          · rename_i h1; cases h; exact partS_ne h1
          · split at h
            · cases h; decide
            · cases h
theorem once_C (a : Option Addr) (c : Nat) (l : BL) (S : Mem) (hs : Slv S 1 (.slice a l.length c) l.length (bv l)) (hcut : Cut l.length c) : C Try.prog G (Known Try.prog G) 5 [.slice a l.length c] S fun v S' => v = .bool true ∧ Cons S S' := by
  refine C.fn Try.func5 rfl (by kernel_rfl) rfl ?_
  repeat (first | refine W.seq ?_ | refine W.block ?_ | refine W.reg ?_ | refine W.skip ?_ | refine W.exit ?_ | refine W.ret ?_ | refine L.nil ?_ | refine L.p rfl rfl ?_ | refine L.skip rfl ?_)
  refine W.ite rfl (fun h => ?_) (fun h => ?_)
  · repeat (first | refine W.seq ?_ | refine W.block ?_ | refine W.reg ?_ | refine W.skip ?_ | refine W.exit ?_ | refine W.ret ?_ | refine L.nil ?_ | refine L.p rfl rfl ?_ | refine L.skip rfl ?_)
    exact ⟨.inr rfl, _, rfl, rfl, Cons.refl _⟩
  have hl : l.length ≤ 4096 := by simp at h; omega
  have hI : BIn S a c l := ⟨hs, hcut, by omega⟩
  clear h
  repeat (first | refine W.seq ?_ | refine W.block ?_ | refine W.reg ?_ | refine W.skip ?_ | refine W.exit ?_ | refine W.ret ?_ | refine L.nil ?_ | refine L.p rfl rfl ?_ | refine L.skip rfl ?_)
  refine L.cl (decode_C _ _ l S hI) rfl rfl ?_
  rintro _ M1 hR
  refine ⟨nofun, ?_⟩
  unfold KeyR at hR
  cases hk : keyS l with
  | error e =>
    rw [hk] at hR
    obtain ⟨rfl, hc1⟩ := hR
    have hne := keyS_ne hk
    repeat (first | refine W.seq ?_ | refine W.block ?_ | refine W.reg ?_ | refine W.skip ?_ | refine W.exit ?_ | refine W.ret ?_ | refine L.nil ?_ | refine L.p rfl rfl ?_ | refine L.skip rfl ?_)
    refine L.eff (v := .pointer (some ⟨List.length M1, 0, none⟩)) (S1 := M1 ++ [newR [nilV, nilV] 26]) rfl rfl ?_
    refine L.st (ad := ⟨List.length M1, 0, none⟩) (vs := [nilV, nilV]) (key_write M1 _ _ rfl rfl) rfl rfl rfl rfl ?_
    have hr2 : Mem.row? (M1 ++ [keyR nilV nilV]) M1.length = some (keyR nilV nilV) := row_push_new rfl
    have hc2 := hc1.pushr (keyR nilV nilV)
    generalize M1 ++ [keyR nilV nilV] = M2 at *
    generalize M1.length = q1 at *
    repeat (first | refine W.seq ?_ | refine W.block ?_ | refine W.reg ?_ | refine W.skip ?_ | refine W.exit ?_ | refine W.ret ?_ | refine L.nil ?_ | refine L.p rfl rfl ?_ | refine L.skip rfl ?_)
    refine W.ite rfl (fun h => ?_) (fun h => ?_)
    rotate_left
    · simp at h; exact absurd h hne
    clear h
    repeat (first | refine W.seq ?_ | refine W.block ?_ | refine W.reg ?_ | refine W.skip ?_ | refine W.exit ?_ | refine W.ret ?_ | refine L.nil ?_ | refine L.p rfl rfl ?_ | refine L.skip rfl ?_)
    refine L.ld (a := ⟨q1, 0, none⟩) (cell_of (o := 0) hr2 rfl (.inl rfl)) rfl rfl rfl ?_
    repeat (first | refine W.seq ?_ | refine W.block ?_ | refine W.reg ?_ | refine W.skip ?_ | refine W.exit ?_ | refine W.ret ?_ | refine L.nil ?_ | refine L.p rfl rfl ?_ | refine L.skip rfl ?_)
    refine L.ld (a := ⟨q1, 1, none⟩) (cell_of (o := 1) hr2 rfl (.inl rfl)) rfl rfl rfl ?_
    repeat (first | refine W.seq ?_ | refine W.block ?_ | refine W.reg ?_ | refine W.skip ?_ | refine W.exit ?_ | refine W.ret ?_ | refine L.nil ?_ | refine L.p rfl rfl ?_ | refine L.skip rfl ?_)
    refine L.cl (works_C _) rfl rfl ?_
    rintro _ M3 ⟨rfl, hc3⟩
    refine ⟨nofun, ?_⟩
    repeat (first | refine W.seq ?_ | refine W.block ?_ | refine W.reg ?_ | refine W.skip ?_ | refine W.exit ?_ | refine W.ret ?_ | refine L.nil ?_ | refine L.p rfl rfl ?_ | refine L.skip rfl ?_)
    exact ⟨.inr rfl, _, rfl, rfl, hc2.trans hc3⟩
  | ok p =>
    obtain ⟨l1, l2⟩ := p
    rw [hk] at hR
    obtain ⟨d1, d2, rfl, r1, r2, hap⟩ := hR
    obtain ⟨k1, k2, _, _⟩ := key_form hk
    have hc1 := r1.1
    have e1 := r1.own.2
    have e2 := r2.own.2
    have w1 := r1.win
    have w2 := r2.win
    rw [e1, e2]
    repeat (first | refine W.seq ?_ | refine W.block ?_ | refine W.reg ?_ | refine W.skip ?_ | refine W.exit ?_ | refine W.ret ?_ | refine L.nil ?_ | refine L.p rfl rfl ?_ | refine L.skip rfl ?_)
    refine L.eff (v := .pointer (some ⟨List.length M1, 0, none⟩)) (S1 := M1 ++ [newR [nilV, nilV] 26]) rfl rfl ?_
    refine L.st (ad := ⟨List.length M1, 0, none⟩) (vs := [(.slice d1.ad l1.length d1.c), (.slice d2.ad l2.length d2.c)]) (key_write M1 _ _ rfl rfl) rfl rfl rfl rfl ?_
    have hr2 : Mem.row? (M1 ++ [keyR (.slice d1.ad l1.length d1.c) (.slice d2.ad l2.length d2.c)]) M1.length = some (keyR (.slice d1.ad l1.length d1.c) (.slice d2.ad l2.length d2.c)) := row_push_new rfl
    have hk2 : Cons M1 (M1 ++ [keyR (.slice d1.ad l1.length d1.c) (.slice d2.ad l2.length d2.c)]) := Cons.push _ _
    generalize M1 ++ [keyR (.slice d1.ad l1.length d1.c) (.slice d2.ad l2.length d2.c)] = M2 at *
    generalize M1.length = q1 at *
    repeat (first | refine W.seq ?_ | refine W.block ?_ | refine W.reg ?_ | refine W.skip ?_ | refine W.exit ?_ | refine W.ret ?_ | refine L.nil ?_ | refine L.p rfl rfl ?_ | refine L.skip rfl ?_)
    refine W.ite rfl (fun h => ?_) (fun h => ?_)
    · cases h
    clear h
    repeat (first | refine W.seq ?_ | refine W.block ?_ | refine W.reg ?_ | refine W.skip ?_ | refine W.exit ?_ | refine W.ret ?_ | refine L.nil ?_ | refine L.p rfl rfl ?_ | refine L.skip rfl ?_)
    refine L.ldA (a := ⟨q1, 0, none⟩) (key_load hr2) rfl rfl rfl ?_
    refine L.cl (encode_C d1.ad d2.ad d1.c d2.c l1 l2 M2 (w1.cons hk2) (w2.cons hk2)) rfl rfl ?_
    rintro _ M3 hR
    unfold EncR at hR
    rw [if_neg k2, k1] at hR
    obtain ⟨d, rfl, q⟩ := hR
    refine ⟨nofun, ?_⟩
    repeat (first | refine W.seq ?_ | refine W.block ?_ | refine W.reg ?_ | refine W.skip ?_ | refine W.exit ?_ | refine W.ret ?_ | refine L.nil ?_ | refine L.p rfl rfl ?_ | refine L.skip rfl ?_)
    have hd := q.2.2.1.slv
    have hdn := q.2.2.1.len
    rw [bv_len] at hdn
    have hcc := (hc1.trans hk2).trans q.1
    refine L.cl (same_C _ _ l l l.length d.n M3 (hs.cons hcc) hd (by omega) (by omega)) rfl rfl ?_
    rintro _ _ ⟨rfl, rfl⟩
    refine ⟨nofun, ?_⟩
    rw [show (l == l) = true from beq_self_eq_true _]
    repeat (first | refine W.seq ?_ | refine W.block ?_ | refine W.reg ?_ | refine W.skip ?_ | refine W.exit ?_ | refine W.ret ?_ | refine L.nil ?_ | refine L.p rfl rfl ?_ | refine L.skip rfl ?_)
    refine L.cl (works_C _) rfl rfl ?_
    rintro _ M4 ⟨rfl, hc4⟩
    refine ⟨nofun, ?_⟩
    repeat (first | refine W.seq ?_ | refine W.block ?_ | refine W.reg ?_ | refine W.skip ?_ | refine W.exit ?_ | refine W.ret ?_ | refine L.nil ?_ | refine L.p rfl rfl ?_ | refine L.skip rfl ?_)
    exact ⟨.inr rfl, _, rfl, rfl, hcc.trans hc4⟩
end Go.Proofs.Ytccdlijohkljcaa

/- Arguments that came in, on the abstract memory of the world in which a call begins. Conditions: none. -/
set_option linter.unusedSimpArgs false
set_option linter.unusedVariables false
namespace Go.Proofs.Ytccdlijohkljcaa
open Go

/-- a slice of whole numbers that came in: none; or it leads to a row of cap cells, the numbers zs -/
def IsRow (k : IntKind) (w : World) (a : Option Addr) (len cap : Nat) (zs : List Int) : Prop :=
  (a = none ∧ len = 0 ∧ cap = 0 ∧ zs = []) ∨
  ∃ x, a = some x ∧ len ≤ cap ∧ cap ≤ maxLen ∧ zs.length = cap ∧ (∀ i, i < zs.length → w.cell? (x.add i) = some (.int k (zs.getD i 0))) ∧ ∀ n ∈ zs, (Lit.int k n).wf = true
theorem okWide_block {P : Program} {W : World} {base : Nat} {t e : TypeId} {a : Addr} {len cap : Nat} (hu : P.underlying t = some (.slice e)) (h : Value.okWide P W .any base t (.slice (some a) len cap)) : a.block < W.heap.size := by
  unfold Value.okWide at h
  simp only [hu] at h
  unfold Cell.okWide at h
  simp only [hu] at h
  unfold Cell.ok at h
  simp only [hu] at h
  obtain ⟨_, _, _, _, row, cells, hs, _⟩ := h
  unfold World.shape? at hs
  split at hs
  · rename_i c el fz hh
    exact (Array.getElem?_eq_some_iff.1 hh).1
  · cases hs
theorem row_cap {k : IntKind} {W : World} {a : Option Addr} {len cap : Nat} {zs : List Int} (h : IsRow k W a len cap zs) : cap < UNK ∧ len ≤ cap := by
  rcases h with ⟨rfl, rfl, rfl, rfl⟩ | ⟨x, rfl, hlc, hm, hz, hcell, hwf⟩
  · exact ⟨by decide, by decide⟩
  · exact ⟨by unfold maxLen at hm; unfold UNK; omega, hlc⟩
theorem world_ints {k : IntKind} {W : World} {N : Nat} {a : Option Addr} {len cap : Nat} {zs : List Int} (h : IsRow k W a len cap zs) (hb : ∀ x, a = some x → x.block < W.heap.size + N) :
    Slv (mem0 W N) 1 (.slice a len cap) len ((zs.take len).map (Value.int k)) ∧ VR (rho0 W N) (.slice a len cap) (.slice a len cap) ∧ (zs.take len).length = len ∧ Cut len cap ∧ (∀ n ∈ zs, (Lit.int k n).wf = true) := by
  rcases h with ⟨rfl, rfl, rfl, rfl⟩ | ⟨x, rfl, hlc, hm, hz, hcell, hwf⟩
  · exact ⟨Slv.nil _ _ _ _, .slNil _ _, rfl, .inl ⟨by decide, by decide⟩, nofun⟩
  · have hcu : cap < UNK := by unfold maxLen at hm; unfold UNK; omega
    have hlen : (zs.take len).length = len := by rw [List.length_take]; omega
    refine ⟨?_, (fixed_slice (N := N) (hb x rfl) hcu).1, hlen, .inl ⟨hcu, hlc⟩, hwf⟩
    rcases Nat.eq_zero_or_pos len with rfl | hpos
    · rw [List.take_zero]; exact Slv.nil _ _ _ _
    have h0 := hcell 0 (by omega)
    have hx0 : x.add 0 = x := rfl
    rw [hx0] at h0
    unfold World.cell? at h0
    split at h0
    · rename_i c el fz hh
      split at h0
      · cases h0
      · rename_i hsp
        have hsp' : x.spot = none := by cases hxs : x.spot <;> simp_all
        obtain ⟨r, hr, hrl, hrc⟩ := mem0_live (N := N) hh
        have hxa : x = ⟨x.block, x.off, none⟩ := by cases x; simp at hsp'; subst hsp'; rfl
        have hci : ∀ i, i < cap → r.cells[x.off + i]? = some (.int k (zs.getD i 0)) := by
          intro i hi
          have h1 := hcell i (by omega)
          have hadd : x.add i = ⟨x.block, x.off + i, none⟩ := by
            unfold Addr.add
            split
            · rename_i h9; rw [h9]; exact hxa
            · rfl
          rw [hadd] at h1
          simp only [World.cell?, hh] at h1
          exact hrc _ _ (by simpa using h1) (fixed_scalar W N rfl)
        have hbound : x.off + len * 1 ≤ r.cells.length := by
          have := (List.getElem?_eq_some_iff.1 (hci (len - 1) (by omega))).1
          omega
        have hseg : (r.cells.drop x.off).take (len * 1) = (zs.take len).map (Value.int k) := by
          apply List.ext_getElem?
          intro i
          rw [List.getElem?_take, Nat.mul_one]
          split
          · rename_i hi
            rw [List.getElem?_drop, hci i (by omega), List.getElem?_map, List.getElem?_take, if_pos hi, List.getD_eq_getElem?_getD, List.getElem?_eq_getElem (by omega)]
            rfl
          · rename_i hi
            rw [List.getElem?_eq_none (by rw [List.length_map, hlen]; omega)]
        have := Slv.of (sz := 1) (n := len) (c := cap) hr hbound (.inr (by rw [hseg, List.all_map, List.all_eq_true]; intro n _; rfl))
        rw [hseg, ← hxa] at this
        exact this
    · cases h0
theorem bound_of (f : Nat → Nat) (n : Nat) : ∃ N, ∀ i, i < n → f i < N := by
  induction n with
  | zero => exact ⟨0, nofun⟩
  | succ n ih =>
    obtain ⟨N, h⟩ := ih
    refine ⟨max N (f n + 1), fun i hi => ?_⟩
    rcases Nat.lt_or_eq_of_le (Nat.le_of_lt_succ hi) with h1 | rfl
    · have := h i h1; omega
    · omega
theorem cell_row {W : World} {N : Nat} {x : Addr} {v : Value} (h : W.cell? x = some v) (hf : Fixed W N v) : x = ⟨x.block, x.off, none⟩ ∧ x.block < W.heap.size ∧ ∃ r, (mem0 W N).row? x.block = some r ∧ r.cells[x.off]? = some v := by
  unfold World.cell? at h
  split at h
  · rename_i c el fz hh
    split at h
    · cases h
    · rename_i hsp
      have hsp' : x.spot = none := by cases hxs : x.spot <;> simp_all
      obtain ⟨r, hr, hrl, hrc⟩ := mem0_live (N := N) hh
      refine ⟨by cases x; simp at hsp'; subst hsp'; rfl, (Array.getElem?_eq_some_iff.1 hh).1, r, hr, hrc _ _ (by simpa using h) hf⟩
  · cases h
end Go.Proofs.Ytccdlijohkljcaa

/- The proof of the statement on the one form. Conditions: none. -/
namespace Go.Proofs.Ytccdlijohkljcaa.derOnce
open Go.ChangeShapes Go.WideShapes Go.ChangeAt Go.RowKit
open Go.ChangeMaps (open_string shut_string)
set_option linter.unusedVariables false

theorem own : ownKnob Try.prog.godebug = none := by kernel_rfl
theorem laidOut : laidOutB Try.prog = true := by kernel_rfl

theorem walk (a0 : Option Addr) (len0 cap0 : Nat) (z0 : List Int) (w : World) (w0 : IsRow .u8 w a0 len0 cap0 z0) (hb0 : ∀ x, a0 = some x → x.block < w.heap.size) :
    Calls Try.prog 5 #[.slice a0 len0 cap0] w fun e w' => e = .returned (.bool true) ∧ Below w.heap.size w w' := by
  obtain ⟨hs0, hv0, hl0, hc0, hwf0⟩ := world_ints (N := 0) w0 (by simpa using hb0)
  have hcc0 := row_cap w0
  have hf0 : ∀ x, a0 = some x → x.block < (mem0 w).length := fun x hx => by rw [mem0_len]; have := hb0 x hx; omega
  obtain ⟨l0, hll0, hbl0⟩ := bytes_of z0 len0 hwf0 hl0
  rw [← hbl0] at hs0
  subst hll0
  obtain ⟨v, S', hE, rfl, hcons⟩ := once_C (G := 0) a0 cap0 l0 (mem0 w) hs0 (.inl hcc0)
  refine top_true (Checked.mixed Try.checked) (fun _ _ _ _ _ h => h) (Nat.zero_le _) (fun a ha => ?_) hE hcons
  obtain rfl : a = .slice a0 l0.length cap0 := by simpa using ha
  exact hv0

set_option maxRecDepth 100000 in
theorem lifted (os : Os) (started : os.Started) (H : Type) (enc : TypeId × Value → H) :
    ReturnsInHanded {} Try.checked os 5 .any (Rows.derOnceSpec.pre6 enc Try.prog Try.f5 Rows.derOnceRow.domain false) (Rows.derOnceSpec.post enc Try.prog Try.f5 false true false false) := by
  refine returnsInHanded_of_change (C := Try.checked) own started (by kernel_rfl) Try.func5
    (ChangeSpec.witness6 (enc := enc) (C := Try.checked) false ⟨#[], #[.slice none 0 0], []⟩ 8 (by kernel_rfl) (by kernel_rfl) (by kernel_rfl) (by kernel_rfl)) ?_
  intro W base args ds gs before hval0 hW hcnd _
  have hval : ∀ (j : Nat) t v, Try.f5.params[j]? = some t → args[j]? = some v → Value.okWide Try.prog W .any base t v := hval0
  have hW' := hW
  obtain ⟨p, q, hA0, hV, rfl, hfz, hnd⟩ := hW
  have hA : DataW.TrodAll enc Try.prog W 0 (fun _ => true) true Try.f5.params.toList args.toList ds p := hA0
  rw [Try.params5] at hA hval
  obtain ⟨v0, vs0, d0, ds0, p0, q0, hargs, rfl, rfl, h0, r0⟩ := trodAll_cons hA
  obtain ⟨rfl, rfl, rfl⟩ := trodAll_nil r0
  obtain rfl : args = #[v0] := by cases args; simp_all
  obtain ⟨rfl, rfl⟩ := trodVars_none hV
  obtain ⟨a0, len0, cap0, rfl⟩ := okWide_slice Try.underlying22 (hval 0 22 v0 rfl rfl)
  have hb0 : ∀ x, a0 = some x → x.block < W.heap.size := by rintro x rfl; exact okWide_block Try.underlying22 (hval 0 22 _ rfl rfl)
  have k0 := h0
  have lt0 : ∀ x ∈ p0, x.block < W.heap.size := by obtain ⟨m, hm⟩ := k0; exact DataW.trod_lt m _ _ _ hm
  obtain ⟨z0, w0⟩ : ∃ zs, IsRow .u8 W a0 len0 cap0 zs := by
    obtain ⟨fuel, hf⟩ := h0
    rcases open_ints Try.underlying22 Try.underlying5 (by kernel_rfl) hf with ⟨hcs, _⟩ | ⟨x, l, c, zs, hcs, _, hl, hm, hz, _, hcell, hwz⟩
    · simp [Value.cells] at hcs
      obtain ⟨rfl, rfl, rfl⟩ := hcs
      exact ⟨[], .inl ⟨rfl, rfl, rfl, rfl⟩⟩
    · simp [Value.cells] at hcs
      obtain ⟨rfl, rfl, rfl⟩ := hcs
      exact ⟨zs, .inr ⟨_, rfl, hl, hm, by simpa using hz, hcell, hwz⟩⟩
  clear hA0 hval0
  refine (walk a0 len0 cap0 z0 W w0 hb0).mono fun e W' ⟨he, bel⟩ => ?_
  subst he
  exact ⟨_, rfl, _, _, _, [], _, [], hW', trodAll_mk1 (shut_bool Try.underlying4 _), (trodAll_cons_mk (Below.trod laidOut (by kernel_rfl) (of_decide_eq_true (by kernel_rfl)) k0 bel lt0) trodAll_mk0), rfl, bel.frame _, fun h => by cases h⟩

theorem over : Rows.derOnceRow.holds Try.pinned (OpenSpec.ofChange Rows.derOnceSpec) :=
  OpenClaim.holds_of_wide 5 Try.f5 rfl rfl rfl rfl rfl rfl rfl ⟨rfl, rfl, rfl, rfl, rfl⟩ rfl rfl rfl rfl rfl (by kernel_rfl) Try.func5 (by kernel_rfl)
    (of_decide_eq_true (by kernel_rfl)) (by unfold Func.isWrapper; first | (rw [if_pos (by decide +kernel)]; kernel_rfl) | (rw [if_neg (by decide +kernel)]; exact ⟨rfl, rfl⟩))
    (fun os started H enc _ => lifted os started H enc)

theorem proved : Rows.DerOnceSaid := over
end Go.Proofs.Ytccdlijohkljcaa.derOnce
