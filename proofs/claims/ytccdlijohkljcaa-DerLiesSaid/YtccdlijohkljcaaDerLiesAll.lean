/- The proof of the statement on where an item lies. Conditions: none. -/
import Derived.Test.YtccdlijohkljcaaLibE
import Derived.WalkKit
import Derived.ProofKit
import Derived.OpenShut
import Derived.ShutString
import Derived.ChangeOld
import Derived.Below
import Derived.Test.YtccdlijohkljcaaRows

/- The law of reading, walked. Conditions: none. -/
set_option linter.unusedSimpArgs false
set_option linter.unusedVariables false
set_option maxRecDepth 100000
set_option maxHeartbeats 4000000
namespace Go.Proofs.Ytccdlijohkljcaa
open Go
variable {G : Nat}

/-- what is read, where an error reads nothing -/
def keyN (b : BL) : WL × WL := match keyS b with
  | .error _ => ([], [])
  | .ok p => p
def keyE (b : BL) : Int := match keyS b with
  | .error e => e
  | .ok _ => 0
theorem KeyR.two {S S' : Mem} {b : BL} {v : Value} (h : KeyR S b v S') : ∃ d1 d2 : Hd, v = .tuple #[.agg #[d1.v, d2.v], .int .i64 (keyE b)] ∧ RetW S S' d1 (keyN b).1 ∧ RetW S S' d2 (keyN b).2 ∧ Apart2 d1 d2 := by
  unfold KeyR at h
  cases hk : keyS b with
  | error e =>
    rw [hk] at h
    obtain ⟨rfl, hc⟩ := h
    refine ⟨Hd0, Hd0, by unfold keyE; rw [hk]; rfl, ?_, ?_, nofun⟩ <;> (unfold keyN; rw [hk]; exact RetW.nil hc)
  | ok p =>
    obtain ⟨l1, l2⟩ := p
    rw [hk] at h
    obtain ⟨d1, d2, rfl, h1, h2, h3⟩ := h
    refine ⟨d1, d2, by unfold keyE; rw [hk], ?_, ?_, h3⟩ <;> (unfold keyN; rw [hk]; assumption)
theorem RefKey.two {S S' : Mem} {b : BL} {v : Value} (h : RefKey S b v S') : ∃ a1 c1 a2 c2, v = .tuple #[.agg #[.slice a1 (keyN b).1.length c1, .slice a2 (keyN b).2.length c2], .int .i64 (keyE b)] ∧ Cons S S' ∧ WIn S' a1 c1 (keyN b).1 ∧ WIn S' a2 c2 (keyN b).2 := by
  unfold RefKey at h
  cases hk : keyS b with
  | error e =>
    rw [hk] at h
    obtain ⟨rfl, hc⟩ := h
    refine ⟨none, 0, none, 0, by unfold keyE keyN; rw [hk]; rfl, hc, ?_, ?_⟩ <;> (unfold keyN; rw [hk]; exact WIn.nil _)
  | ok p =>
    obtain ⟨l1, l2⟩ := p
    rw [hk] at h
    obtain ⟨a1, c1, a2, c2, rfl, h0, h1, h2⟩ := h
    refine ⟨a1, c1, a2, c2, by unfold keyE keyN; rw [hk], h0, ?_, ?_⟩ <;> (unfold keyN; rw [hk]; assumption)
theorem toW_le {n k : Nat} (h : blen n ≤ 64 * k) : (toW n).length ≤ k := (toW_len n k).2 (blen_le.1 h)
theorem numS_len {b : BL} {l : WL} (h : numS b = .ok l) : l.length ≤ 64 := by
  unfold numS at h
  split at h
  · cases h
  · split at h
    · cases h
    · rename_i h1
      cases h
      exact toW_le (by omega)
theorem partS_len {b r : BL} {l : WL} (h : partS b = .ok (l, r)) : l.length ≤ 64 := by
  unfold partS at h
  split at h
  · cases h
  · split at h
    · cases h
    · split at h
      · cases h
      · rename_i hn; cases h; exact numS_len hn
theorem keyS_len {b : BL} {l1 l2 : WL} (h : keyS b = .ok (l1, l2)) : l1.length ≤ 64 ∧ l2.length ≤ 64 := by
  unfold keyS at h
  split at h
  · cases h
  · split at h
    · cases h
    · split at h
      · cases h
      · unfold keyT at h
        split at h
        · cases h
        · rename_i h1
          split at h
          · cases h
          · rename_i h2
            split at h
            · cases h
            · cases h; exact ⟨partS_len h1, partS_len h2⟩
theorem keyN_len (b : BL) : (keyN b).1.length ≤ 64 ∧ (keyN b).2.length ≤ 64 := by
  unfold keyN
  split
  · exact ⟨Nat.zero_le _, Nat.zero_le _⟩
  · rename_i p h; exact keyS_len h
theorem RetW.hd {S S' T : Mem} {d : Hd} {l : WL} (h : RetW S S' d l) (k : Cons S' T) : Slv T 1 (.slice d.ad d.n d.c) d.n (wv l) ∧ d.n < 1099511627776 := by
  have hh := h.2.2.1.cons k
  have hn := hh.len
  rw [wv_len] at hn
  exact ⟨hh.slv, hn ▸ h.2.1⟩
theorem keq (k : WL × WL) : (k.1 == k.1 && k.2 == k.2) = true := by simp
theorem reads_C (a : Option Addr) (c : Nat) (l : BL) (S : Mem) (hs : Slv S 1 (.slice a l.length c) l.length (bv l)) (hcut : Cut l.length c) : C Try.prog G (Known Try.prog G) 3 [.slice a l.length c] S fun v S' => v = .bool true ∧ Cons S S' := by
  refine C.fn Try.func3 rfl (by kernel_rfl) rfl ?_
  repeat (first | refine W.seq ?_ | refine W.block ?_ | refine W.reg ?_ | refine W.skip ?_ | refine W.exit ?_ | refine W.ret ?_ | refine L.nil ?_ | refine L.p rfl rfl ?_ | refine L.skip rfl ?_)
  refine W.ite rfl (fun h => ?_) (fun h => ?_)
  · repeat (first | refine W.seq ?_ | refine W.block ?_ | refine W.reg ?_ | refine W.skip ?_ | refine W.exit ?_ | refine W.ret ?_ | refine L.nil ?_ | refine L.p rfl rfl ?_ | refine L.skip rfl ?_)
    exact ⟨.inr rfl, _, rfl, rfl, Cons.refl _⟩
  have hl : l.length ≤ 4096 := by simp at h; omega
  have hI : BIn S a c l := ⟨hs, hcut, by omega⟩
  clear h
  repeat (first | refine W.seq ?_ | refine W.block ?_ | refine W.reg ?_ | refine W.skip ?_ | refine W.exit ?_ | refine W.ret ?_ | refine L.nil ?_ | refine L.p rfl rfl ?_ | refine L.skip rfl ?_)
  refine L.cl (lent_C _ l S hI.1 (by omega)) rfl rfl ?_
  rintro _ M1 ⟨hc1, b, hb, rfl, hr1⟩
  refine ⟨nofun, ?_⟩
  have hI1 := BIn.lent hr1 (by simp [marks]) (by omega)
  have hbl := row_lt hr1
  repeat (first | refine W.seq ?_ | refine W.block ?_ | refine W.reg ?_ | refine W.skip ?_ | refine W.exit ?_ | refine W.ret ?_ | refine L.nil ?_ | refine L.p rfl rfl ?_ | refine L.skip rfl ?_)
  refine L.cl (decode_C _ _ l M1 hI1) rfl rfl ?_
  rintro _ M2 hR
  obtain ⟨d1, d2, rfl, r1, r2, hap1⟩ := hR.two
  refine ⟨nofun, ?_⟩
  have hc2 := r1.1
  repeat (first | refine W.seq ?_ | refine W.block ?_ | refine W.reg ?_ | refine W.skip ?_ | refine W.exit ?_ | refine W.ret ?_ | refine L.nil ?_ | refine L.p rfl rfl ?_ | refine L.skip rfl ?_)
  refine L.eff (v := .pointer (some ⟨List.length M2, 0, none⟩)) (S1 := M2 ++ [newR [nilV, nilV] 26]) rfl rfl ?_
  refine L.st (ad := ⟨List.length M2, 0, none⟩) (vs := [d1.v, d2.v]) (key_write M2 _ _ rfl rfl) rfl rfl rfl rfl ?_
  have hr3 : Mem.row? (M2 ++ [keyR d1.v d2.v]) M2.length = some (keyR d1.v d2.v) := row_push_new rfl
  have hk3 : Cons M2 (M2 ++ [keyR d1.v d2.v]) := Cons.push _ _
  generalize M2 ++ [keyR d1.v d2.v] = M3 at *
  generalize M2.length = q1 at *
  repeat (first | refine W.seq ?_ | refine W.block ?_ | refine W.reg ?_ | refine W.skip ?_ | refine W.exit ?_ | refine W.ret ?_ | refine L.nil ?_ | refine L.p rfl rfl ?_ | refine L.skip rfl ?_)
  refine L.cl (decode_C _ _ l M3 (hI1.cons (hc2.trans hk3))) rfl rfl ?_
  rintro _ M4 hR
  obtain ⟨d3, d4, rfl, r3, r4, hap2⟩ := hR.two
  refine ⟨nofun, ?_⟩
  have hc4 := r3.1
  repeat (first | refine W.seq ?_ | refine W.block ?_ | refine W.reg ?_ | refine W.skip ?_ | refine W.exit ?_ | refine W.ret ?_ | refine L.nil ?_ | refine L.p rfl rfl ?_ | refine L.skip rfl ?_)
  refine L.eff (v := .pointer (some ⟨List.length M4, 0, none⟩)) (S1 := M4 ++ [newR [nilV, nilV] 26]) rfl rfl ?_
  refine L.st (ad := ⟨List.length M4, 0, none⟩) (vs := [d3.v, d4.v]) (key_write M4 _ _ rfl rfl) rfl rfl rfl rfl ?_
  have hr5 : Mem.row? (M4 ++ [keyR d3.v d4.v]) M4.length = some (keyR d3.v d4.v) := row_push_new rfl
  have hk5 : Cons M4 (M4 ++ [keyR d3.v d4.v]) := Cons.push _ _
  generalize M4 ++ [keyR d3.v d4.v] = M5 at *
  generalize M4.length = q2 at *
  repeat (first | refine W.seq ?_ | refine W.block ?_ | refine W.reg ?_ | refine W.skip ?_ | refine W.exit ?_ | refine W.ret ?_ | refine L.nil ?_ | refine L.p rfl rfl ?_ | refine L.skip rfl ?_)
  have hc15 := ((hc2.trans hk3).trans hc4).trans hk5
  refine L.cl (refDecode_C _ _ l M5 (hI.cons (hc1.trans hc15))) rfl rfl ?_
  rintro _ M6 hR
  obtain ⟨a6, c6, a7, c7, rfl, hc6, w6, w7⟩ := hR.two
  refine ⟨nofun, ?_⟩
  repeat (first | refine W.seq ?_ | refine W.block ?_ | refine W.reg ?_ | refine W.skip ?_ | refine W.exit ?_ | refine W.ret ?_ | refine L.nil ?_ | refine L.p rfl rfl ?_ | refine L.skip rfl ?_)
  refine L.eff (v := .pointer (some ⟨List.length M6, 0, none⟩)) (S1 := M6 ++ [newR [nilV, nilV] 26]) rfl rfl ?_
  refine L.st (ad := ⟨List.length M6, 0, none⟩) (vs := [(.slice a6 (keyN l).1.length c6), (.slice a7 (keyN l).2.length c7)]) (key_write M6 _ _ rfl rfl) rfl rfl rfl rfl ?_
  have hr7 : Mem.row? (M6 ++ [keyR (.slice a6 (keyN l).1.length c6) (.slice a7 (keyN l).2.length c7)]) M6.length = some (keyR (.slice a6 (keyN l).1.length c6) (.slice a7 (keyN l).2.length c7)) := row_push_new rfl
  have hk7 : Cons M6 (M6 ++ [keyR (.slice a6 (keyN l).1.length c6) (.slice a7 (keyN l).2.length c7)]) := Cons.push _ _
  generalize M6 ++ [keyR (.slice a6 (keyN l).1.length c6) (.slice a7 (keyN l).2.length c7)] = M7 at *
  generalize M6.length = q3 at *
  repeat (first | refine W.seq ?_ | refine W.block ?_ | refine W.reg ?_ | refine W.skip ?_ | refine W.exit ?_ | refine W.ret ?_ | refine L.nil ?_ | refine L.p rfl rfl ?_ | refine L.skip rfl ?_)
  rw [show (keyE l != keyE l) = false from bne_self_eq_false _]
  repeat (first | refine W.seq ?_ | refine W.block ?_ | refine W.reg ?_ | refine W.skip ?_ | refine W.exit ?_ | refine W.ret ?_ | refine L.nil ?_ | refine L.p rfl rfl ?_ | refine L.skip rfl ?_)
  rw [show (keyE l != keyE l) = false from bne_self_eq_false _]
  have hc57 := hc6.trans hk7
  have hc37 := (hc4.trans hk5).trans hc57
  have hr37 := hc37.row' hr3
  have hr57 := hc57.row' hr5
  have s1 := r1.hd (hk3.trans hc37)
  have s2 := r2.hd (hk3.trans hc37)
  have s3 := r3.hd (hk5.trans hc57)
  have s4 := r4.hd (hk5.trans hc57)
  have s6 := w6.cons hk7
  have s7 := w7.cons hk7
  repeat (first | refine W.seq ?_ | refine W.block ?_ | refine W.reg ?_ | refine W.skip ?_ | refine W.exit ?_ | refine W.ret ?_ | refine L.nil ?_ | refine L.p rfl rfl ?_ | refine L.skip rfl ?_)
  refine L.ldA (a := ⟨q1, 0, none⟩) (key_load hr37) rfl rfl rfl ?_
  refine L.ldA (a := ⟨q3, 0, none⟩) (key_load hr7) rfl rfl rfl ?_
  refine L.cl (sameKey_C d1.ad d2.ad a6 a7 d1.n d2.n _ _ d1.c d2.c c6 c7 (keyN l).1 (keyN l).2 (keyN l).1 (keyN l).2 M7 s1.1 s2.1 s6.1 s7.1 s1.2 s2.2 s6.2.2.2 s7.2.2.2) rfl rfl ?_
  rintro _ M8 ⟨rfl, hc8⟩
  refine ⟨nofun, ?_⟩
  rw [keq]
  repeat (first | refine W.seq ?_ | refine W.block ?_ | refine W.reg ?_ | refine W.skip ?_ | refine W.exit ?_ | refine W.ret ?_ | refine L.nil ?_ | refine L.p rfl rfl ?_ | refine L.skip rfl ?_)
  refine L.ldA (a := ⟨q2, 0, none⟩) (key_load (hc8.row' hr57)) rfl rfl rfl ?_
  refine L.ldA (a := ⟨q3, 0, none⟩) (key_load (hc8.row' hr7)) rfl rfl rfl ?_
  refine L.cl (sameKey_C d3.ad d4.ad a6 a7 d3.n d4.n _ _ d3.c d4.c c6 c7 (keyN l).1 (keyN l).2 (keyN l).1 (keyN l).2 M8 (s3.1.cons hc8) (s4.1.cons hc8) (s6.1.cons hc8) (s7.1.cons hc8) s3.2 s4.2 s6.2.2.2 s7.2.2.2) rfl rfl ?_
  rintro _ M9 ⟨rfl, hc9⟩
  refine ⟨nofun, ?_⟩
  rw [keq]
  repeat (first | refine W.seq ?_ | refine W.block ?_ | refine W.reg ?_ | refine W.skip ?_ | refine W.exit ?_ | refine W.ret ?_ | refine L.nil ?_ | refine L.p rfl rfl ?_ | refine L.skip rfl ?_)
  refine W.ite rfl (fun h => ?_) (fun h => ?_)
  · cases h
  clear h
  have hk9 := hc8.trans hc9
  have hr39 := hk9.row' hr37
  have hr59 := hk9.row' hr57
  have hk29 := (hk3.trans hc37).trans hk9
  have hk49 := (hk5.trans hc57).trans hk9
  have hk19 := hc2.trans hk29
  have hS9 := hc1.trans hk19
  have hr19 := hk19.row' hr1
  have hl2 := hk3.len
  repeat (first | refine W.seq ?_ | refine W.block ?_ | refine W.reg ?_ | refine W.skip ?_ | refine W.exit ?_ | refine W.ret ?_ | refine L.nil ?_ | refine L.p rfl rfl ?_ | refine L.skip rfl ?_)
  refine L.eff (v := .pointer (some ⟨M9.length, 0, none⟩)) (S1 := M9 ++ [newR [.slice none 0 0, .slice none 0 0] 34]) rfl rfl ?_
  have hB0 := BK.new M9
  generalize M9 ++ [newR [.slice none 0 0, .slice none 0 0] 34] = N0 at *
  obtain ⟨rb, hrb⟩ : ∃ rb, rb = M9.length := ⟨_, rfl⟩
  rw [← hrb] at hB0 ⊢
  repeat (first | refine W.seq ?_ | refine W.block ?_ | refine W.reg ?_ | refine W.skip ?_ | refine W.exit ?_ | refine W.ret ?_ | refine L.nil ?_ | refine L.p rfl rfl ?_ | refine L.skip rfl ?_)
  refine L.ldA (a := ⟨q1, 0, none⟩) (key_load (hB0.1.row' hr39)) rfl rfl rfl ?_
  refine L.cl (key_BK d1 d2 hB0 (by decide)) rfl rfl ?_
  rintro _ N1 hB1
  refine ⟨nofun, ?_⟩
  repeat (first | refine W.seq ?_ | refine W.block ?_ | refine W.reg ?_ | refine W.skip ?_ | refine W.exit ?_ | refine W.ret ?_ | refine L.nil ?_ | refine L.p rfl rfl ?_ | refine L.skip rfl ?_)
  refine L.ldA (a := ⟨q2, 0, none⟩) (key_load (hB1.1.row' hr59)) rfl rfl rfl ?_
  refine L.cl (key_BK d3 d4 hB1 (by simp)) rfl rfl ?_
  rintro _ N2 hB2
  refine ⟨nofun, ?_⟩
  repeat (first | refine W.seq ?_ | refine W.block ?_ | refine W.reg ?_ | refine W.skip ?_ | refine W.exit ?_ | refine W.ret ?_ | refine L.nil ?_ | refine L.p rfl rfl ?_ | refine L.skip rfl ?_)
  have t1 := r1.2.2.1.cons hk29
  have t2 := r2.2.2.1.cons hk29
  have t3 := r3.2.2.1.cons hk49
  have t4 := r4.2.2.1.cons hk49
  have z1 : ∀ x, d1.a = some x → M1.length ≤ x ∧ x < M2.length := fun x e => ⟨r1.2.2.2 x e, r1.2.2.1.lt e⟩
  have z2 : ∀ x, d2.a = some x → M1.length ≤ x ∧ x < M2.length := fun x e => ⟨r2.2.2.2 x e, r2.2.2.1.lt e⟩
  have z3 : ∀ x, d3.a = some x → M3.length ≤ x := r3.2.2.2
  have z4 : ∀ x, d4.a = some x → M3.length ≤ x := r4.2.2.2
  have hlen1 := (keyN_len l).1
  have hlen2 := (keyN_len l).2
  have wl : ∀ {x : WL}, x.length ≤ 64 → (wv x).length ≤ 1000000000000 := fun h => by rw [wv_len]; omega
  have hlM := hc2.len
  refine L.cl (apart_BK hB2 ⟨by simp, by simp⟩ (.add t1 (wl hlen1) (.add t2 (wl hlen2) (.add t3 (wl hlen1) (.add t4 (wl hlen2) (.nil _ _))))) (.nil _ _) (.add (fun x e hm => ?_) (.add (fun x e hm => ?_) (.add (fun x e hm => ?_) (.add (fun x e hm => by simp [blks] at hm) .nil)))) .nil (by simp [blks])) rfl rfl ?_
  · have hm : x ∈ blks [d2, d3, d4] := hm
    simp only [mem_blks, blks_nil, List.not_mem_nil, or_false] at hm
    rcases hm with hm | hm | hm
    · exact hap1 x e hm
    · have := z3 x hm; have := z1 x e; omega
    · have := z4 x hm; have := z1 x e; omega
  · have hm : x ∈ blks [d3, d4] := hm
    simp only [mem_blks, blks_nil, List.not_mem_nil, or_false] at hm
    rcases hm with hm | hm
    · have := z3 x hm; have := z2 x e; omega
    · have := z4 x hm; have := z2 x e; omega
  · have hm : x ∈ blks [d4] := hm
    simp only [mem_blks, blks_nil, List.not_mem_nil, or_false] at hm
    exact hap2 x e hm
  rintro _ N3 ⟨rfl, hk⟩
  refine ⟨nofun, ?_⟩
  have hbk : ∀ x ∈ blks ([d1, d2, d3, d4] : List Hd) ++ blks [], M1.length ≤ x := fun x hm => by
    simp only [blks_nil, List.append_nil, mem_blks, List.not_mem_nil, or_false] at hm
    rcases hm with hm | hm | hm | hm
    · exact (z1 x hm).1
    · exact (z2 x hm).1
    · have := z3 x hm; omega
    · have := z4 x hm; omega
  have hN3 : Cons M1 N3 := hk.cons0 hk19 hbk
  repeat (first | refine W.seq ?_ | refine W.block ?_ | refine W.reg ?_ | refine W.skip ?_ | refine W.exit ?_ | refine W.ret ?_ | refine L.nil ?_ | refine L.p rfl rfl ?_ | refine L.skip rfl ?_)
  refine L.cl (kept_C _ l b _ N3 (hN3.row' hr1) rfl rfl (hI.1.cons (hc1.trans hN3)) (by omega)) rfl rfl ?_
  rintro _ _ ⟨rfl, rfl⟩
  refine ⟨fun _ => Cons.refl _, ?_⟩
  repeat (first | refine W.seq ?_ | refine W.block ?_ | refine W.reg ?_ | refine W.skip ?_ | refine W.exit ?_ | refine W.ret ?_ | refine L.nil ?_ | refine L.p rfl rfl ?_ | refine L.skip rfl ?_)
  refine L.cl (works_C _) rfl rfl ?_
  rintro _ N4 ⟨rfl, hc⟩
  refine ⟨fun _ => hc, ?_⟩
  repeat (first | refine W.seq ?_ | refine W.block ?_ | refine W.reg ?_ | refine W.skip ?_ | refine W.exit ?_ | refine W.ret ?_ | refine L.nil ?_ | refine L.p rfl rfl ?_ | refine L.skip rfl ?_)
  exact ⟨.inr rfl, _, rfl, rfl, (hc1.trans hN3).trans hc⟩
end Go.Proofs.Ytccdlijohkljcaa

/- Layer 7, plainly: a key's bytes and what is read out of them. Conditions: none. -/
set_option linter.unusedSimpArgs false
set_option linter.unusedVariables false
namespace Go.Proofs.Ytccdlijohkljcaa
open Go

theorem bsz_le {n k : Nat} : bsz n ≤ k ↔ n < 256 ^ k := by
  rw [p256, ← blen_le]; unfold bsz; omega
theorem bnum_inj : ∀ {l m : BL}, l.length = m.length → bnum l = bnum m → l = m
  | [], [], _, _ => rfl
  | [], _ :: _, h, _ => by cases h
  | _ :: _, [], h, _ => by cases h
  | x :: l, y :: m, h, e => by
    have hl : l.length = m.length := by simpa using h
    simp only [bnum, hl] at e
    have h1 := bnum_lt l
    have h2 := bnum_lt m
    rw [hl] at h1
    have hp : 0 < 256 ^ m.length := Nat.pow_pos (by decide)
    have hx : x.toNat = y.toNat := by
      have d1 : (x.toNat * 256 ^ m.length + bnum l) / 256 ^ m.length = x.toNat := by
        rw [Nat.mul_comm, Nat.mul_add_div hp, Nat.div_eq_of_lt h1, Nat.add_zero]
      have d2 : (y.toNat * 256 ^ m.length + bnum m) / 256 ^ m.length = y.toNat := by
        rw [Nat.mul_comm, Nat.mul_add_div hp, Nat.div_eq_of_lt h2, Nat.add_zero]
      rw [← d1, e, d2]
    rw [hx] at e
    rw [BitVec.eq_of_toNat_eq hx, bnum_inj hl (by omega)]
theorem bsz_bnum {x : BitVec 8} {m : BL} (hx : x ≠ 0#8) : bsz (bnum (x :: m)) = m.length + 1 := by
  have h1 := bnum_lt (x :: m)
  have h2 := bsz_le.2 h1
  rw [List.length_cons] at h2
  have hx0 : x.toNat ≠ 0 := fun h => hx (BitVec.eq_of_toNat_eq (by simpa using h))
  have h3 : ¬ bsz (bnum (x :: m)) ≤ m.length := fun h => by
    have := bsz_le.1 h
    rw [bnum] at this
    have : 1 * 256 ^ m.length ≤ x.toNat * 256 ^ m.length := Nat.mul_le_mul_right _ (by omega)
    omega
  omega
/-- bytes that do not begin with 0 are their number's -/
theorem toB_bnum {d : BL} (h : ∀ x m, d = x :: m → x ≠ 0#8) : toB (bnum d) = d := by
  refine bnum_inj ?_ (bnum_toB _)
  rw [toB_len]
  cases d with
  | nil => rfl
  | cons x m => exact bsz_bnum (h x m rfl)
theorem toB_head {n : Nat} {x : BitVec 8} {m : BL} (h : toB n = x :: m) : x ≠ 0#8 := by
  have hp : 0 < bsz n := by have := congrArg List.length h; rw [toB_len] at this; simp at this; omega
  have hx : (toB n)[0]? = some x := by rw [h]; rfl
  unfold toB at hx
  rw [List.getElem?_map, List.getElem?_range hp] at hx
  simp only [Option.map_some, Nat.sub_zero, Option.some.injEq] at hx
  rw [← hx]
  exact byte_top hp
theorem ofNat8 {n : Nat} (h : n < 256) : (BitVec.ofNat 8 n).toNat = n := by rw [BitVec.toNat_ofNat]; exact Nat.mod_eq_of_lt h
theorem bat_cons_succ (x : BitVec 8) (l : BL) (i : Nat) : bat (x :: l) (i + 1) = bat l i := by unfold bat; rw [List.getElem?_cons_succ]
theorem bat_cons_zero (x : BitVec 8) (l : BL) : bat (x :: l) 0 = x.toNat := rfl
theorem bat_take {b : BL} {k i : Nat} (h : i < k) : bat (b.take k) i = bat b i := by unfold bat; rw [List.getElem?_take, if_pos h]
theorem bat_app {l m : BL} {i : Nat} (h : i < l.length) : bat (l ++ m) i = bat l i := by unfold bat; rw [List.getElem?_append_left h]
theorem bsz_pos {n : Nat} (h : n ≠ 0) : 0 < bsz n := by
  rcases Nat.eq_zero_or_pos (bsz n) with h0 | h0
  · have := bsz_le.1 (Nat.le_of_eq h0); simp at this; omega
  · exact h0
theorem toB_bat {n : Nat} (h : n ≠ 0) : bat (toB n) 0 ≠ 0 := by
  cases hq : toB n with
  | nil => have h1 := congrArg List.length hq; rw [toB_len] at h1; have h2 := bsz_pos h; simp at h1; omega
  | cons x m =>
    rw [bat_cons_zero]
    exact fun h => toB_head hq (BitVec.eq_of_toNat_eq (by simpa using h))
/-- an item's first bytes, whatever stands behind -/
theorem item_cut (t : BitVec 8) (c r : BL) (k : Nat) (hn : c.length < 4294967296) (hk : k ≤ (t :: (lenB c.length ++ (c ++ r))).length) :
    itemS ((t :: (lenB c.length ++ (c ++ r))).take k) = if k < 1 + (lenB c.length).length + c.length then .error 70 else .ok (1 + (lenB c.length).length, c.length) := by
  obtain ⟨b, hb⟩ : ∃ b, b = (t :: (lenB c.length ++ (c ++ r))).take k := ⟨_, rfl⟩
  have hl : b.length = k := by rw [hb, List.length_take]; omega
  rw [← hb]
  obtain ⟨n, hcn⟩ : ∃ n, n = c.length := ⟨_, rfl⟩
  rw [← hcn] at hb hn hk ⊢
  unfold itemS
  rw [hl]
  by_cases h2 : k < 2
  · rw [if_pos h2, if_pos]
    unfold lenB; split <;> simp <;> omega
  rw [if_neg h2]
  have g1 : bat b 1 = bat (lenB n ++ (c ++ r)) 0 := by rw [hb, bat_take (by omega), bat_cons_succ]
  by_cases h3 : n < 128
  · have hL : lenB n = [BitVec.ofNat 8 n] := by unfold lenB; rw [if_pos h3]
    rw [hL] at g1 ⊢
    have g1 : bat b 1 = n := by rw [g1, List.cons_append, bat_cons_zero, ofNat8 (by omega)]
    rw [g1, if_neg (by omega), if_pos h3]
    by_cases h4 : k - 2 < n
    · rw [if_pos h4, if_pos (by simp; omega)]
    · rw [if_neg h4, if_neg (by simp; omega)]
      rfl
  · obtain ⟨q, hq⟩ : ∃ q, q = (toB n).length := ⟨_, rfl⟩
    have hL : lenB n = BitVec.ofNat 8 (128 + q) :: toB n := by unfold lenB; rw [if_neg h3, hq]
    have hq1 : 0 < q := by rw [hq, toB_len]; exact bsz_pos (by omega)
    have hq2 : q ≤ 4 := by rw [hq, toB_len]; exact bsz_le.2 (by omega)
    have hLl : (lenB n).length = 1 + q := by rw [hL, hq]; simp; omega
    rw [hLl]
    rw [hL] at g1
    have g1 : bat b 1 = 128 + q := by rw [g1, List.cons_append, bat_cons_zero, ofNat8 (by omega)]
    rw [g1, if_neg (by omega), if_neg (by omega), Nat.add_sub_cancel_left]
    by_cases h4 : k - 2 < q
    · rw [if_pos h4, if_pos (by omega)]
    rw [if_neg h4]
    have hbd : (b.drop 2).take q = toB n := by
      rw [hb, hL, List.drop_take, List.take_take, Nat.min_eq_left (by omega)]
      simp only [List.cons_append, List.drop_succ_cons, List.drop_zero]
      rw [List.take_append_of_le_length (by omega), hq, List.take_length]
    have g2 : bat b 2 ≠ 0 := by
      have : bat b 2 = bat (toB n) 0 := by rw [← hbd, bat_take (by omega), bat_drop]
      rw [this]; exact toB_bat (by omega)
    have g3 : lenN b = n := by unfold lenN; rw [g1, Nat.add_sub_cancel_left, hbd, bnum_toB]
    rw [g3, if_neg (by omega)]
    by_cases h5 : k - 2 - q < n
    · rw [if_pos h5, if_pos (by omega)]
    · rw [if_neg h5, if_neg (by omega)]
      simp only [Except.ok.injEq, Prod.mk.injEq, and_true]; omega
theorem item_of (t : BitVec 8) (c r : BL) (hn : c.length < 4294967296) : itemS (t :: (lenB c.length ++ (c ++ r))) = .ok (1 + (lenB c.length).length, c.length) := by
  have := item_cut t c r _ hn (Nat.le_refl _)
  rw [List.take_length, if_neg (by simp; omega)] at this
  exact this
/-- an item that is read has the one form -/
theorem item_form {b : BL} {h n : Nat} (e : itemS b = .ok (h, n)) : ∃ t c r, b = t :: (lenB c.length ++ (c ++ r)) ∧ c.length = n ∧ h = 1 + (lenB c.length).length ∧ n < 4294967296 := by
  have hok := itemS_ok e
  obtain ⟨t, x, rest, rfl⟩ : ∃ t x rest, b = t :: x :: rest := by
    match b, hok with
    | t :: x :: rest, _ => exact ⟨t, x, rest, rfl⟩
    | [], h => simp at h; omega
    | [_], h => simp at h; omega
  have hx := x.isLt
  have b1 : bat (t :: x :: rest) 1 = x.toNat := rfl
  unfold itemS at e
  rw [if_neg (by simp), b1] at e
  have hlen : (t :: x :: rest).length - 2 = rest.length := by simp
  rw [hlen] at e
  by_cases h2 : x.toNat = 128 ∨ 132 < x.toNat
  · rw [if_pos h2] at e; cases e
  rw [if_neg h2] at e
  by_cases h3 : x.toNat < 128
  · rw [if_pos h3] at e
    by_cases h4 : rest.length < x.toNat
    · rw [if_pos h4] at e; cases e
    rw [if_neg h4] at e
    simp only [Except.ok.injEq, Prod.mk.injEq] at e
    obtain ⟨rfl, rfl⟩ := e
    have hc : (rest.take x.toNat).length = x.toNat := by rw [List.length_take]; omega
    have hL : lenB x.toNat = [x] := by unfold lenB; rw [if_pos h3]; simp
    refine ⟨t, rest.take x.toNat, rest.drop x.toNat, ?_, hc, ?_, by omega⟩
    · rw [hc, hL, List.take_append_drop]; rfl
    · rw [hc, hL]; rfl
  rw [if_neg h3] at e
  by_cases h4 : rest.length < x.toNat - 128
  · rw [if_pos h4] at e; cases e
  rw [if_neg h4] at e
  by_cases h5 : bat (t :: x :: rest) 2 = 0 ∨ lenN (t :: x :: rest) < 128
  · rw [if_pos h5] at e; cases e
  rw [if_neg h5] at e
  by_cases h6 : rest.length - (x.toNat - 128) < lenN (t :: x :: rest)
  · rw [if_pos h6] at e; cases e
  rw [if_neg h6] at e
  simp only [Except.ok.injEq, Prod.mk.injEq] at e
  have hlt := lenN_lt (b := t :: x :: rest) (by rw [b1]; omega)
  obtain ⟨q, hq⟩ : ∃ q, q = x.toNat - 128 := ⟨_, rfl⟩
  obtain ⟨d, hd⟩ : ∃ d, d = rest.take q := ⟨_, rfl⟩
  have hdl : d.length = q := by rw [hd, List.length_take]; omega
  have hN : lenN (t :: x :: rest) = bnum d := by unfold lenN; rw [b1, ← hq, hd]; rfl
  rw [hN, ← hq] at e h6
  rw [hN] at hlt h5
  obtain ⟨rfl, rfl⟩ := e
  have hdz : ∀ y m, d = y :: m → y ≠ 0#8 := fun y m hy h0 => by
    have : bat (t :: x :: rest) 2 = y.toNat := by
      show bat rest 0 = _
      rw [← bat_take (b := rest) (k := q) (by omega), ← hd, hy]; rfl
    rw [h0] at this
    exact h5 (.inl (by rw [this]; rfl))
  have hc : ((rest.drop q).take (bnum d)).length = bnum d := by rw [List.length_take, List.length_drop]; omega
  have hL : lenB (bnum d) = x :: d := by
    unfold lenB
    rw [if_neg (by omega), toB_bnum hdz, hdl, hq, show 128 + (x.toNat - 128) = x.toNat by omega]
    simp
  refine ⟨t, (rest.drop q).take (bnum d), (rest.drop q).drop (bnum d), ?_, hc, ?_, by omega⟩
  · rw [hc, hL, List.take_append_drop, List.cons_append, hd, List.take_append_drop]
  · rw [hc, hL]; simp; omega
/-- an integer's content that is read has the one form -/
theorem num_form {c : BL} {l : WL} (h : numS c = .ok l) : contS l = c ∧ ¬ 4096 < blen (wnum l) ∧ fm l = l := by
  unfold numS at h
  split at h
  · cases h
  rename_i hbad
  split at h
  · cases h
  rename_i hl
  simp only [Except.ok.injEq] at h
  subst h
  simp only [badInt, not_or, not_and] at hbad
  obtain ⟨h0, h1, h2⟩ := hbad
  rw [wnum_toW]
  refine ⟨?_, by omega, by unfold fm; rw [wnum_toW]⟩
  unfold contS
  rw [wnum_toW]
  cases c with
  | nil => exact absurd rfl h0
  | cons x m =>
    rw [bat_cons_zero] at h1 h2
    by_cases hx : x = 0#8
    · subst hx
      have hb : bnum (0#8 :: m) = bnum m := by simp [bnum]
      have hm : toB (bnum m) = m := toB_bnum fun y k hy hy0 => by
        subst hy hy0
        exact h2 (by simp) rfl (by rw [bat_cons_succ, bat_cons_zero]; decide)
      rw [hb, hm, if_pos]
      cases m with
      | nil => exact .inl rfl
      | cons y k =>
        right
        have := h2 (by simp) rfl
        rw [bat_cons_succ] at this
        omega
    · rw [toB_bnum (fun y k hy => by simp only [List.cons.injEq] at hy; rw [← hy.1]; exact hx), if_neg]
      rw [bat_cons_zero]
      simp only [List.length_cons, not_or]
      omega
theorem num_of {l : WL} (h : ¬ 4096 < blen (wnum l)) : numS (contS l) = .ok (fm l) := by
  have hlen := cont_len h
  have hb : bnum (contS l) = wnum l := by
    unfold contS; split
    · simp [bnum, bnum_toB]
    · exact bnum_toB _
  have hgood : ¬ badInt (contS l) := by
    unfold badInt contS
    cases hq : toB (wnum l) with
    | nil => simp [bat]
    | cons x m =>
      have hx := toB_head hq
      have hx0 : x.toNat ≠ 0 := fun h => hx (BitVec.eq_of_toNat_eq (by simpa using h))
      rw [bat_cons_zero]
      by_cases h8 : 128 ≤ x.toNat
      · rw [if_pos (.inr h8), bat_cons_zero, bat_cons_succ, bat_cons_zero]
        simp; omega
      · rw [if_neg (by simp; omega), bat_cons_zero]
        simp; omega
  have hfe : fromE (contS l) = 0 := by
    unfold fromE
    rw [if_pos]
    have : (strip0 (contS l)).length ≤ (contS l).length := by unfold strip0; exact (List.dropWhile_sublist _).length_le
    omega
  unfold numS
  rw [if_neg hgood, hb, hfe, if_neg (by simp; omega)]
theorem item_parts {t : BitVec 8} {c r : BL} {h : Nat} (hh : h = 1 + (lenB c.length).length) : ((t :: (lenB c.length ++ (c ++ r))).drop h).take c.length = c ∧ (t :: (lenB c.length ++ (c ++ r))).drop (h + c.length) = r := by
  have e : t :: (lenB c.length ++ (c ++ r)) = (t :: lenB c.length) ++ (c ++ r) := rfl
  have hl : (t :: lenB c.length).length = h := by rw [hh, List.length_cons, Nat.add_comm]
  constructor
  · rw [e, List.drop_append_of_le_length (by omega), ← hl, List.drop_length, List.nil_append, List.take_append_of_le_length (Nat.le_refl _), List.take_length]
  · rw [e, ← List.drop_drop, List.drop_append_of_le_length (by omega), ← hl, List.drop_length, List.nil_append, List.drop_append_of_le_length (Nat.le_refl _), List.drop_length, List.nil_append]
theorem laid_app (t : BitVec 8) (c r : BL) : laidS t c ++ r = t :: (lenB c.length ++ (c ++ r)) := by rw [laidS_eq]; simp
theorem part_form {m r : BL} {l : WL} (h : partS m = .ok (l, r)) : m = laidS 2#8 (contS l) ++ r ∧ ¬ 4096 < blen (wnum l) ∧ fm l = l := by
  unfold partS at h
  split at h
  · cases h
  rename_i hd n hi
  obtain ⟨t, c, r', rfl, rfl, rfl, _⟩ := item_form hi
  obtain ⟨p1, p2⟩ := item_parts (t := t) (c := c) (r := r') rfl
  split at h
  · cases h
  rename_i ht
  rw [bat_cons_zero] at ht
  have ht : t = 2#8 := BitVec.eq_of_toNat_eq (by simpa using ht)
  subst ht
  rw [p1] at h
  split at h
  · cases h
  rename_i l' hn
  rw [p2] at h
  simp only [Except.ok.injEq, Prod.mk.injEq] at h
  obtain ⟨rfl, rfl⟩ := h
  obtain ⟨h1, h2, h3⟩ := num_form hn
  rw [h1, laid_app]
  exact ⟨rfl, h2, h3⟩
theorem part_of {l : WL} (r : BL) (h : ¬ 4096 < blen (wnum l)) : partS (laidS 2#8 (contS l) ++ r) = .ok (fm l, r) := by
  have hlen := (cont_len h).2
  rw [laid_app]
  unfold partS
  rw [item_of _ _ _ (by omega)]
  obtain ⟨p1, p2⟩ := item_parts (t := 2#8) (c := contS l) (r := r) rfl
  dsimp only
  rw [bat_cons_zero, if_neg (by decide), p1, num_of h, p2]
/-- what is read is the one form -/
theorem key_form {b : BL} {l1 l2 : WL} (h : keyS b = .ok (l1, l2)) : encL l1 l2 = b ∧ ¬ encBad l1 l2 ∧ fm l1 = l1 ∧ fm l2 = l2 := by
  unfold keyS at h
  split at h
  · cases h
  rename_i hd n hi
  obtain ⟨t, c, r, rfl, rfl, rfl, _⟩ := item_form hi
  obtain ⟨p1, p2⟩ := item_parts (t := t) (c := c) (r := r) rfl
  split at h
  · cases h
  rename_i ht
  rw [bat_cons_zero] at ht
  have ht : t = 48#8 := BitVec.eq_of_toNat_eq (by simpa using ht)
  subst ht
  split at h
  · cases h
  rename_i hlong
  have hr : r = [] := by
    cases r with
    | nil => rfl
    | cons x m => simp at hlong; omega
  subst hr
  rw [p1] at h
  unfold keyT at h
  split at h
  · cases h
  rename_i k1 r1 h1
  split at h
  · cases h
  rename_i k2 r2 h2
  split at h
  · cases h
  rename_i hr2
  simp only [Except.ok.injEq, Prod.mk.injEq] at h
  obtain ⟨rfl, rfl⟩ := h
  obtain ⟨e1, b1, f1⟩ := part_form h1
  obtain ⟨e2, b2, f2⟩ := part_form h2
  have hr0 : r2 = [] := by
    cases r2 with
    | nil => rfl
    | cons x m => simp at hr2
  subst hr0
  rw [List.append_nil] at e2
  subst e2
  refine ⟨?_, by unfold encBad; omega, f1, f2⟩
  unfold encL
  rw [← e1, laidS_eq, List.append_nil]
theorem body_len {l1 l2 : WL} (h : ¬ encBad l1 l2) : (laidS 2#8 (contS l1) ++ laidS 2#8 (contS l2)).length < 4294967296 := by
  simp only [encBad, not_or] at h
  have h1 := (cont_len h.1).2
  have h2 := (cont_len h.2).2
  have h3 := laidS_len 2#8 (contS l1)
  have h4 := laidS_len 2#8 (contS l2)
  have h5 := toB_lt (n := (contS l1).length) (by omega)
  have h6 := toB_lt (n := (contS l2).length) (by omega)
  rw [List.length_append]; omega
theorem enc_app (l1 l2 : WL) (r : BL) : encL l1 l2 ++ r = 48#8 :: (lenB (laidS 2#8 (contS l1) ++ laidS 2#8 (contS l2)).length ++ ((laidS 2#8 (contS l1) ++ laidS 2#8 (contS l2)) ++ r)) := by unfold encL; rw [laid_app]
theorem enc_more {l1 l2 : WL} (r : BL) (h : ¬ encBad l1 l2) : keyS (encL l1 l2 ++ r) = if 0 < r.length then .error 74 else .ok (fm l1, fm l2) := by
  rw [enc_app]
  unfold keyS
  rw [item_of _ _ _ (body_len h)]
  obtain ⟨p1, p2⟩ := item_parts (t := 48#8) (c := laidS 2#8 (contS l1) ++ laidS 2#8 (contS l2)) (r := r) rfl
  dsimp only
  rw [bat_cons_zero, if_neg (by decide), p1]
  by_cases hr : 0 < r.length
  · rw [if_pos hr, if_pos (by simp; omega)]
  rw [if_neg hr, if_neg (by simp; omega)]
  simp only [encBad, not_or] at h
  unfold keyT
  rw [part_of _ h.1]
  dsimp only
  have := part_of [] h.2
  rw [List.append_nil] at this
  rw [this]
  rfl
theorem enc_back {l1 l2 : WL} (h : ¬ encBad l1 l2) : keyS (encL l1 l2) = .ok (fm l1, fm l2) := by
  have := enc_more [] h
  rw [List.append_nil] at this
  exact this
theorem enc_short {l1 l2 : WL} {k : Nat} (h : ¬ encBad l1 l2) (hk : k < (encL l1 l2).length) : keyS ((encL l1 l2).take k) = .error 70 := by
  have e := enc_app l1 l2 []
  rw [List.append_nil] at e
  rw [e] at hk ⊢
  have := item_cut 48#8 _ [] k (body_len h) (Nat.le_of_lt hk)
  unfold keyS
  rw [this, if_pos (by simp at hk; simp; omega)]
end Go.Proofs.Ytccdlijohkljcaa

/- The law of items, walked. Conditions: none. -/
set_option linter.unusedSimpArgs false
set_option linter.unusedVariables false
set_option maxRecDepth 100000
set_option maxHeartbeats 4000000
namespace Go.Proofs.Ytccdlijohkljcaa
open Go
variable {G : Nat}

theorem itemV_four (b : BL) (i : Int) : ∃ t f o e : Int, itemV b i = .tuple #[.int .u8 t, .int .i64 f, .int .i64 o, .int .i64 e] := by
  unfold itemV
  split
  · exact ⟨_, _, _, _, rfl⟩
  · split
    · exact ⟨_, _, _, _, rfl⟩
    · exact ⟨_, _, _, _, rfl⟩
theorem intL_len (b : BL) : (intL b).length ≤ 64 := by
  unfold intL
  split
  · rename_i h; exact numS_len h
  · exact Nat.zero_le _
theorem items_C (a : Option Addr) (c : Nat) (l : BL) (i : Int) (S : Mem) (hs : Slv S 1 (.slice a l.length c) l.length (bv l)) (hcut : Cut l.length c) (hi : -9223372036854775808 ≤ i ∧ i ≤ 9223372036854775807) :
    C Try.prog G (Known Try.prog G) 7 [.slice a l.length c, .int .i64 i] S fun v S' => v = .bool true ∧ Cons S S' := by
  refine C.fn Try.func7 rfl (by kernel_rfl) rfl ?_
  repeat (first | refine W.seq ?_ | refine W.block ?_ | refine W.reg ?_ | refine W.skip ?_ | refine W.exit ?_ | refine W.ret ?_ | refine L.nil ?_ | refine L.p rfl rfl ?_ | refine L.skip rfl ?_)
  refine W.ite rfl (fun h => ?_) (fun h => ?_)
  · repeat (first | refine W.seq ?_ | refine W.block ?_ | refine W.reg ?_ | refine W.skip ?_ | refine W.exit ?_ | refine W.ret ?_ | refine L.nil ?_ | refine L.p rfl rfl ?_ | refine L.skip rfl ?_)
    exact ⟨.inr rfl, _, rfl, rfl, Cons.refl _⟩
  have hl : l.length ≤ 4096 := by simp at h; omega
  have hI : BIn S a c l := ⟨hs, hcut, by omega⟩
  clear h
  obtain ⟨t, f, o, e, hit⟩ := itemV_four l i
  have hil := intL_len l
  repeat (first | refine W.seq ?_ | refine W.block ?_ | refine W.reg ?_ | refine W.skip ?_ | refine W.exit ?_ | refine W.ret ?_ | refine L.nil ?_ | refine L.p rfl rfl ?_ | refine L.skip rfl ?_)
  refine L.cl (lent_C _ l S hI.1 (by omega)) rfl rfl ?_
  rintro _ M1 ⟨hc1, b, hb, rfl, hr1⟩
  refine ⟨nofun, ?_⟩
  have hI1 := BIn.lent hr1 (by simp [marks]) (by omega)
  have hbl := row_lt hr1
  repeat (first | refine W.seq ?_ | refine W.block ?_ | refine W.reg ?_ | refine W.skip ?_ | refine W.exit ?_ | refine W.ret ?_ | refine L.nil ?_ | refine L.p rfl rfl ?_ | refine L.skip rfl ?_)
  refine L.cl (itemPub_C _ _ l i M1 hI1 hi.1 hi.2) rfl rfl ?_
  rintro _ M2 ⟨rfl, hc2⟩
  refine ⟨nofun, ?_⟩
  rw [hit]
  repeat (first | refine W.seq ?_ | refine W.block ?_ | refine W.reg ?_ | refine W.skip ?_ | refine W.exit ?_ | refine W.ret ?_ | refine L.nil ?_ | refine L.p rfl rfl ?_ | refine L.skip rfl ?_)
  refine L.cl (integer_C _ _ l M2 (hI1.cons hc2)) rfl rfl ?_
  rintro _ M3 ⟨d, rfl, q⟩
  refine ⟨nofun, ?_⟩
  have hc3 := q.1
  have hc13 := hc2.trans hc3
  repeat (first | refine W.seq ?_ | refine W.block ?_ | refine W.reg ?_ | refine W.skip ?_ | refine W.exit ?_ | refine W.ret ?_ | refine L.nil ?_ | refine L.p rfl rfl ?_ | refine L.skip rfl ?_)
  refine L.cl (refItem_C a c l i M3 (hI.cons (hc1.trans hc13)) hi.1 hi.2) rfl rfl ?_
  rintro _ _ ⟨rfl, rfl⟩
  refine ⟨nofun, ?_⟩
  rw [hit]
  repeat (first | refine W.seq ?_ | refine W.block ?_ | refine W.reg ?_ | refine W.skip ?_ | refine W.exit ?_ | refine W.ret ?_ | refine L.nil ?_ | refine L.p rfl rfl ?_ | refine L.skip rfl ?_)
  refine L.cl (refInteger_C a c l _ (hI.cons (hc1.trans hc13))) rfl rfl ?_
  rintro _ M4 ⟨a4, c4, rfl, hc4, w4⟩
  refine ⟨nofun, ?_⟩
  repeat (first | refine W.seq ?_ | refine W.block ?_ | refine W.reg ?_ | refine W.skip ?_ | refine W.exit ?_ | refine W.ret ?_ | refine L.nil ?_ | refine L.p rfl rfl ?_ | refine L.skip rfl ?_)
  rw [show (t != t) = false from bne_self_eq_false _]
  repeat (first | refine W.seq ?_ | refine W.block ?_ | refine W.reg ?_ | refine W.skip ?_ | refine W.exit ?_ | refine W.ret ?_ | refine L.nil ?_ | refine L.p rfl rfl ?_ | refine L.skip rfl ?_)
  rw [show (f != f) = false from bne_self_eq_false _]
  repeat (first | refine W.seq ?_ | refine W.block ?_ | refine W.reg ?_ | refine W.skip ?_ | refine W.exit ?_ | refine W.ret ?_ | refine L.nil ?_ | refine L.p rfl rfl ?_ | refine L.skip rfl ?_)
  rw [show (o != o) = false from bne_self_eq_false _]
  repeat (first | refine W.seq ?_ | refine W.block ?_ | refine W.reg ?_ | refine W.skip ?_ | refine W.exit ?_ | refine W.ret ?_ | refine L.nil ?_ | refine L.p rfl rfl ?_ | refine L.skip rfl ?_)
  rw [show (e != e) = false from bne_self_eq_false _]
  repeat (first | refine W.seq ?_ | refine W.block ?_ | refine W.reg ?_ | refine W.skip ?_ | refine W.exit ?_ | refine W.ret ?_ | refine L.nil ?_ | refine L.p rfl rfl ?_ | refine L.skip rfl ?_)
  rw [show (intE l != intE l) = false from bne_self_eq_false _]
  repeat (first | refine W.seq ?_ | refine W.block ?_ | refine W.reg ?_ | refine W.skip ?_ | refine W.exit ?_ | refine W.ret ?_ | refine L.nil ?_ | refine L.p rfl rfl ?_ | refine L.skip rfl ?_)
  have s1 := q.hd hc4
  refine L.cl (sameW_C _ _ (intL l) (intL l) d.n _ M4 s1.1 w4.1 s1.2 w4.2.2.2) rfl rfl ?_
  rintro _ M5 ⟨rfl, hS⟩
  have hS := hS.symm
  subst hS
  refine ⟨nofun, ?_⟩
  rw [show (intL l == intL l) = true from beq_self_eq_true _]
  repeat (first | refine W.seq ?_ | refine W.block ?_ | refine W.reg ?_ | refine W.skip ?_ | refine W.exit ?_ | refine W.ret ?_ | refine L.nil ?_ | refine L.p rfl rfl ?_ | refine L.skip rfl ?_)
  refine W.ite rfl (fun h => ?_) (fun h => ?_)
  · cases h
  clear h
  repeat (first | refine W.seq ?_ | refine W.block ?_ | refine W.reg ?_ | refine W.skip ?_ | refine W.exit ?_ | refine W.ret ?_ | refine L.nil ?_ | refine L.p rfl rfl ?_ | refine L.skip rfl ?_)
  have hk35 := hc4
  have hk15 := hc13.trans hk35
  have hl2 := hc2.len
  refine L.eff (v := .pointer (some ⟨M4.length, 0, none⟩)) (S1 := M4 ++ [newR [.slice none 0 0, .slice none 0 0] 34]) rfl rfl ?_
  have hB0 := BK.new M4
  generalize M4 ++ [newR [.slice none 0 0, .slice none 0 0] 34] = N0 at *
  obtain ⟨rb, hrb⟩ : ∃ rb, rb = M4.length := ⟨_, rfl⟩
  rw [← hrb] at hB0 ⊢
  repeat (first | refine W.seq ?_ | refine W.block ?_ | refine W.reg ?_ | refine W.skip ?_ | refine W.exit ?_ | refine W.ret ?_ | refine L.nil ?_ | refine L.p rfl rfl ?_ | refine L.skip rfl ?_)
  refine L.cl (words_BK d hB0 (by decide)) rfl rfl ?_
  rintro _ N1 hB1
  refine ⟨nofun, ?_⟩
  repeat (first | refine W.seq ?_ | refine W.block ?_ | refine W.reg ?_ | refine W.skip ?_ | refine W.exit ?_ | refine W.ret ?_ | refine L.nil ?_ | refine L.p rfl rfl ?_ | refine L.skip rfl ?_)
  have u := q.2.2.1.cons hk35
  have z : ∀ x, d.a = some x → M2.length ≤ x := q.2.2.2
  have wl : (wv (intL l)).length ≤ 1000000000000 := by rw [wv_len]; omega
  refine L.cl (apart_BK hB1 ⟨by simp, by simp⟩ (.add u wl (.nil _ _)) (.nil _ _) (.add (fun x e hm => by simp [blks] at hm) .nil) .nil (by simp [blks])) rfl rfl ?_
  rintro _ N2 ⟨rfl, hk⟩
  refine ⟨nofun, ?_⟩
  have hN2 : Cons M1 N2 := hk.cons0 hk15 (fun x hm => by
    have hm : x ∈ blks [d] ++ blks [] := hm
    simp only [blks_nil, List.append_nil, mem_blks, List.not_mem_nil, or_false] at hm
    have := z x hm; omega)
  repeat (first | refine W.seq ?_ | refine W.block ?_ | refine W.reg ?_ | refine W.skip ?_ | refine W.exit ?_ | refine W.ret ?_ | refine L.nil ?_ | refine L.p rfl rfl ?_ | refine L.skip rfl ?_)
  refine L.cl (kept_C _ l b _ N2 (hN2.row' hr1) rfl rfl (hI.1.cons (hc1.trans hN2)) (by omega)) rfl rfl ?_
  rintro _ _ ⟨rfl, rfl⟩
  refine ⟨fun _ => Cons.refl _, ?_⟩
  repeat (first | refine W.seq ?_ | refine W.block ?_ | refine W.reg ?_ | refine W.skip ?_ | refine W.exit ?_ | refine W.ret ?_ | refine L.nil ?_ | refine L.p rfl rfl ?_ | refine L.skip rfl ?_)
  refine L.cl (works_C _) rfl rfl ?_
  rintro _ N3 ⟨rfl, hc⟩
  refine ⟨fun _ => hc, ?_⟩
  repeat (first | refine W.seq ?_ | refine W.block ?_ | refine W.reg ?_ | refine W.skip ?_ | refine W.exit ?_ | refine W.ret ?_ | refine L.nil ?_ | refine L.p rfl rfl ?_ | refine L.skip rfl ?_)
  exact ⟨.inr rfl, _, rfl, rfl, (hc1.trans hN2).trans hc⟩
end Go.Proofs.Ytccdlijohkljcaa

/- The greater and the lesser of two numbers. Conditions: none. -/
set_option linter.unusedSimpArgs false
set_option linter.unusedVariables false
namespace Go.Proofs.Ytccdlijohkljcaa
open Go
section
variable {P : Program} {G : Nat} {Ext : FuncId → List Value → Mem → Outc → Mem → Prop} {e : Env} {S : Mem} {fl : Bool} {ops : Array Oper} {K : Kont}
variable {rest : List Oper} {dst : Option Tmp} {ty : TypeId} {pos : String} {af : Array Edge} {gd : Option (Nat × Bool)}
theorem apure_max {x y : Operand} {ts : Array TypeId} {k k' : IntKind} {a b : Int} {ev : Operand → Value} (hx : ev x = .int k a) (hy : ev y = .int k' b) :
    apure P ⟨dst, .call ⟨.builtin .max, #[x, y], ts⟩, ty, pos, af, gd⟩ ev = some (.int k (if b > a then b else a)) := by
  have h : aflat P ⟨dst, .call ⟨.builtin .max, #[x, y], ts⟩, ty, pos, af, gd⟩ ev = some (.int k (if b > a then b else a)) := by
    unfold aflat
    rw [if_pos (by simp [Op.operands, Call.operands, hx, hy, flat, flat1, scalar])]
    have : pureRun P (execOp ev ⟨dst, .call ⟨.builtin .max, #[x, y], ts⟩, ty, pos, af, gd⟩) = some (.value (.int k (if b > a then b else a))) := by
      simp [execOp, resolve, hx, hy, pureRun_bind, invoke, builtin, Builtin.max_, Builtin.max2]
    rw [this]; rfl
  simp only [apure, h]
theorem apure_min {x y : Operand} {ts : Array TypeId} {k k' : IntKind} {a b : Int} {ev : Operand → Value} (hx : ev x = .int k a) (hy : ev y = .int k' b) :
    apure P ⟨dst, .call ⟨.builtin .min, #[x, y], ts⟩, ty, pos, af, gd⟩ ev = some (.int k (if b < a then b else a)) := by
  have h : aflat P ⟨dst, .call ⟨.builtin .min, #[x, y], ts⟩, ty, pos, af, gd⟩ ev = some (.int k (if b < a then b else a)) := by
    unfold aflat
    rw [if_pos (by simp [Op.operands, Call.operands, hx, hy, flat, flat1, scalar])]
    have : pureRun P (execOp ev ⟨dst, .call ⟨.builtin .min, #[x, y], ts⟩, ty, pos, af, gd⟩) = some (.value (.int k (if b < a then b else a))) := by
      simp [execOp, resolve, hx, hy, pureRun_bind, invoke, builtin, Builtin.min_, Builtin.min2]
    rw [this]; rfl
  simp only [apure, h]
theorem L.max {x y : Operand} {ts : Array TypeId} {k k' : IntKind} {a b c : Int} (hw : awanted ops ⟨dst, .call ⟨.builtin .max, #[x, y], ts⟩, ty, pos, af, gd⟩ e = true) (hx : e.eval x = .int k a) (hy : e.eval y = .int k' b) (hc : (if b > a then b else a) = c)
    (h : L P G Ext fl ops rest (e.put dst (.int k c)) S K) : L P G Ext fl ops (⟨dst, .call ⟨.builtin .max, #[x, y], ts⟩, ty, pos, af, gd⟩ :: rest) e S K := L.pure hw (hc ▸ apure_max hx hy) h
theorem L.min {x y : Operand} {ts : Array TypeId} {k k' : IntKind} {a b c : Int} (hw : awanted ops ⟨dst, .call ⟨.builtin .min, #[x, y], ts⟩, ty, pos, af, gd⟩ e = true) (hx : e.eval x = .int k a) (hy : e.eval y = .int k' b) (hc : (if b < a then b else a) = c)
    (h : L P G Ext fl ops rest (e.put dst (.int k c)) S K) : L P G Ext fl ops (⟨dst, .call ⟨.builtin .min, #[x, y], ts⟩, ty, pos, af, gd⟩ :: rest) e S K := L.pure hw (hc ▸ apure_min hx hy) h
end
end Go.Proofs.Ytccdlijohkljcaa

/- The law of where an item lies, walked. Conditions: none. -/
set_option linter.unusedSimpArgs false
set_option linter.unusedVariables false
set_option maxRecDepth 100000
set_option maxHeartbeats 4000000
namespace Go.Proofs.Ytccdlijohkljcaa
open Go
variable {G : Nat}

theorem item_grow {b : BL} {h n : Nat} (e : itemS b = .ok (h, n)) (r : BL) : itemS (b ++ r) = .ok (h, n) := by
  obtain ⟨t, c, r', rfl, rfl, rfl, hn⟩ := item_form e
  have : t :: (lenB c.length ++ (c ++ r')) ++ r = t :: (lenB c.length ++ (c ++ (r' ++ r))) := by simp
  rw [this, item_of _ _ _ hn]
theorem item_take {b : BL} {h n k : Nat} (e : itemS b = .ok (h, n)) (hk : k ≤ b.length) : itemS (b.take k) = if k < h + n then .error 70 else .ok (h, n) := by
  obtain ⟨t, c, r', rfl, rfl, rfl, hn⟩ := item_form e
  exact item_cut t c r' k hn hk
theorem pick_nat (i : Int) (n : Nat) : ∃ k : Nat, pick i ((n + 1 : Nat) : Int) = (k : Int) ∧ k ≤ n := by
  have hb := Int.tmod_lt_of_pos i (show (0 : Int) < ((n + 1 : Nat) : Int) by omega)
  have hb' := Int.lt_tmod_of_pos i (show (0 : Int) < ((n + 1 : Nat) : Int) by omega)
  unfold pick
  rw [if_neg (by omega)]
  split
  · exact ⟨(i.tmod ((n + 1 : Nat) : Int) + ((n + 1 : Nat) : Int)).toNat, by omega, by omega⟩
  · exact ⟨(i.tmod ((n + 1 : Nat) : Int)).toNat, by omega, by omega⟩
theorem lies_C (a : Option Addr) (c : Nat) (l : BL) (i : Int) (x : BitVec 8) (S : Mem) (hs : Slv S 1 (.slice a l.length c) l.length (bv l)) (hcut : Cut l.length c) :
    C Try.prog G (Known Try.prog G) 6 [.slice a l.length c, .int .i64 i, v8 x] S fun v S' => v = .bool true ∧ Cons S S' := by
  refine C.fn Try.func6 rfl (by kernel_rfl) rfl ?_
  repeat (first | refine W.seq ?_ | refine W.block ?_ | refine W.reg ?_ | refine W.skip ?_ | refine W.exit ?_ | refine W.ret ?_ | refine L.nil ?_ | refine L.p rfl rfl ?_ | refine L.skip rfl ?_)
  refine W.ite rfl (fun h => ?_) (fun h => ?_)
  · repeat (first | refine W.seq ?_ | refine W.block ?_ | refine W.reg ?_ | refine W.skip ?_ | refine W.exit ?_ | refine W.ret ?_ | refine L.nil ?_ | refine L.p rfl rfl ?_ | refine L.skip rfl ?_)
    exact ⟨.inr rfl, _, rfl, rfl, Cons.refl _⟩
  have hl : l.length ≤ 4096 := by simp at h; omega
  have hI : BIn S a c l := ⟨hs, hcut, by omega⟩
  clear h
  repeat (first | refine W.seq ?_ | refine W.block ?_ | refine W.reg ?_ | refine W.skip ?_ | refine W.exit ?_ | refine W.ret ?_ | refine L.nil ?_ | refine L.p rfl rfl ?_ | refine L.skip rfl ?_)
  rw [show IntKind.i64.wrap ((l.length : Int) + 1) = ((l.length + 1 : Nat) : Int) by rw [wrap64 (by omega) (by omega)]; omega]
  refine L.cl (pick_C i _ (by omega) S) rfl rfl ?_
  rintro _ _ ⟨rfl, rfl⟩
  refine ⟨nofun, ?_⟩
  obtain ⟨k, hk, hkl⟩ := pick_nat i l.length
  rw [hk]
  repeat (first | refine W.seq ?_ | refine W.block ?_ | refine W.reg ?_ | refine W.skip ?_ | refine W.exit ?_ | refine W.ret ?_ | refine L.nil ?_ | refine L.p rfl rfl ?_ | refine L.skip rfl ?_)
  rename_i S0
  refine L.cl (itemPub_C a c l k S0 hI (by omega) (by omega)) rfl rfl ?_
  rintro _ M1 ⟨rfl, hc1⟩
  refine ⟨nofun, ?_⟩
  cases hit : itemS (l.drop k) with
  | error e =>
    have hne := itemS_ne hit
    rw [← itemV_err hkl hit]
    repeat (first | refine W.seq ?_ | refine W.block ?_ | refine W.reg ?_ | refine W.skip ?_ | refine W.exit ?_ | refine W.ret ?_ | refine L.nil ?_ | refine L.p rfl rfl ?_ | refine L.skip rfl ?_)
    refine W.ite rfl (fun h => ?_) (fun h => ?_)
    rotate_left
    · simp at h; exact absurd h hne
    clear h
    repeat (first | refine W.seq ?_ | refine W.block ?_ | refine W.reg ?_ | refine W.skip ?_ | refine W.exit ?_ | refine W.ret ?_ | refine L.nil ?_ | refine L.p rfl rfl ?_ | refine L.skip rfl ?_)
    refine L.cl (works_C _) rfl rfl ?_
    rintro _ M2 ⟨rfl, hc2⟩
    refine ⟨nofun, ?_⟩
    repeat (first | refine W.seq ?_ | refine W.block ?_ | refine W.reg ?_ | refine W.skip ?_ | refine W.exit ?_ | refine W.ret ?_ | refine L.nil ?_ | refine L.p rfl rfl ?_ | refine L.skip rfl ?_)
    exact ⟨.inr rfl, _, rfl, rfl, hc1.trans hc2⟩
  | ok p =>
    obtain ⟨h, n⟩ := p
    obtain ⟨g1, g2, g3⟩ := itemS_ok hit
    rw [List.length_drop] at g3
    rw [itemV_ok hkl hit]
    obtain ⟨y, hy, hy'⟩ := bat_some (b := l) (i := k) (by omega)
    rw [hy']
    repeat (first | refine W.seq ?_ | refine W.block ?_ | refine W.reg ?_ | refine W.skip ?_ | refine W.exit ?_ | refine W.ret ?_ | refine L.nil ?_ | refine L.p rfl rfl ?_ | refine L.skip rfl ?_)
    refine W.ite rfl (fun h => ?_) (fun h => ?_)
    · cases h
    clear h
    repeat (first | refine W.seq ?_ | refine W.block ?_ | refine W.reg ?_ | refine W.skip ?_ | refine W.exit ?_ | refine W.ret ?_ | refine L.nil ?_ | refine L.p rfl rfl ?_ | refine L.skip rfl ?_)
    rw [show IntKind.i64.wrap ((k : Int) + 2) = ((k + 2 : Nat) : Int) by rw [wrap64 (by omega) (by omega)]; omega]
    rw [show decide ((k : Int) + h < ((k + 2 : Nat) : Int)) = false from decide_eq_false (by omega)]
    repeat (first | refine W.seq ?_ | refine W.block ?_ | refine W.reg ?_ | refine W.skip ?_ | refine W.exit ?_ | refine W.ret ?_ | refine L.nil ?_ | refine L.p rfl rfl ?_ | refine L.skip rfl ?_)
    rw [show IntKind.i64.wrap ((k : Int) + 6) = ((k + 6 : Nat) : Int) by rw [wrap64 (by omega) (by omega)]; omega]
    rw [show decide ((k : Int) + h > ((k + 6 : Nat) : Int)) = false from decide_eq_false (by omega)]
    repeat (first | refine W.seq ?_ | refine W.block ?_ | refine W.reg ?_ | refine W.skip ?_ | refine W.exit ?_ | refine W.ret ?_ | refine L.nil ?_ | refine L.p rfl rfl ?_ | refine L.skip rfl ?_)
    rw [show decide ((k : Int) + h + n < (k : Int) + h) = false from decide_eq_false (by omega)]
    repeat (first | refine W.seq ?_ | refine W.block ?_ | refine W.reg ?_ | refine W.skip ?_ | refine W.exit ?_ | refine W.ret ?_ | refine L.nil ?_ | refine L.p rfl rfl ?_ | refine L.skip rfl ?_)
    rw [show decide ((k : Int) + h + n > (l.length : Int)) = false from decide_eq_false (by omega)]
    repeat (first | refine W.seq ?_ | refine W.block ?_ | refine W.reg ?_ | refine W.skip ?_ | refine W.exit ?_ | refine W.ret ?_ | refine L.nil ?_ | refine L.p rfl rfl ?_ | refine L.skip rfl ?_)
    refine L.el (hs.cons hc1) (k := k) rfl (bv_get hy) rfl rfl rfl rfl (fun _ => rfl) rfl (fun p => ?_)
    repeat (first | refine W.seq ?_ | refine W.block ?_ | refine W.reg ?_ | refine W.skip ?_ | refine W.exit ?_ | refine W.ret ?_ | refine L.nil ?_ | refine L.p rfl rfl ?_ | refine L.skip rfl ?_)
    rw [show ((y.toNat : Int) != (y.toNat : Int)) = false from bne_self_eq_false _]
    repeat (first | refine W.seq ?_ | refine W.block ?_ | refine W.reg ?_ | refine W.skip ?_ | refine W.exit ?_ | refine W.ret ?_ | refine L.nil ?_ | refine L.p rfl rfl ?_ | refine L.skip rfl ?_)
    refine W.ite rfl (fun h => ?_) (fun h => ?_)
    · cases h
    clear h
    repeat (first | refine W.seq ?_ | refine W.block ?_ | refine W.reg ?_ | refine W.skip ?_ | refine W.exit ?_ | refine W.ret ?_ | refine L.nil ?_ | refine L.p rfl rfl ?_ | refine L.skip rfl ?_)
    refine L.appH rfl (HdOk.nil M1 5) rfl rfl (hs.cons hc1) (bv_one _) (by simp; omega) rfl rfl ?_
    rintro h1 M2 u1 u2 u3 u4
    repeat (first | refine W.seq ?_ | refine W.block ?_ | refine W.reg ?_ | refine W.skip ?_ | refine W.exit ?_ | refine W.ret ?_ | refine L.nil ?_ | refine L.p rfl rfl ?_ | refine L.skip rfl ?_)
    have kc2 : Cons M1 M2 := u4.nil
    have v1 : ∀ b, h1.a = some b → M1.length ≤ b := fun b e => by
      rcases u3 with ⟨u3, _⟩ | ⟨b', u3, u5⟩
      · rw [u3] at e; cases e
      · rw [u3] at e; cases e; exact u5
    refine L.bs (bv [x, x]) rfl rfl rfl rfl rfl rfl ?_
    have kc3 : Cons M1 (M2 ++ [newR (bv [x, x]) 5]) := kc2.pushr _
    have hx3 := BIn.fresh M2 [x, x] (by simp)
    have u1 := u1.cons (Cons.push M2 (newR (bv [x, x]) 5))
    generalize M2 ++ [newR (bv [x, x]) 5] = M3 at *
    generalize M2.length = r2 at *
    have u2' : h1.n = l.length := by rw [u2]; exact Nat.zero_add _
    refine L.appH (m := 2) rfl u1 rfl rfl hx3.1 (bv_one _) (by rw [u2']; omega) rfl rfl ?_
    rintro h2 M4 t1 t2 t3 t4
    have kc4 : Cons M1 M4 := t4.cons0 kc3 (fun b hb => by simp at hb; exact v1 b hb)
    have hlong : bv l ++ bv [x, x] = bv (l ++ [x, x]) := by rw [bv_app]
    rw [List.nil_append, hlong] at t1
    have hh2 := t1.bin (by simp; omega)
    have hkc := hc1.trans kc4
    repeat (first | refine W.seq ?_ | refine W.block ?_ | refine W.reg ?_ | refine W.skip ?_ | refine W.exit ?_ | refine W.ret ?_ | refine L.nil ?_ | refine L.p rfl rfl ?_ | refine L.skip rfl ?_)
    refine L.cl (itemPub_C h2.ad h2.c (l ++ [x, x]) k M4 hh2.1 (by omega) (by omega)) rfl (acall_eq (list2 hh2.2 rfl)) ?_
    rintro _ M5 ⟨rfl, hc5⟩
    refine ⟨nofun, ?_⟩
    rw [itemV_ok (b := l ++ [x, x]) (k := k) (f := h) (n := n) (by simp; omega) (by rw [List.drop_append_of_le_length hkl]; exact item_grow hit _), bat_app (by omega), hy']
    have hcast : ((k : Int) + h + n) = ((k + h + n : Nat) : Int) := by omega
    rw [hcast]
    repeat (first | refine W.seq ?_ | refine W.block ?_ | refine W.reg ?_ | refine W.skip ?_ | refine W.exit ?_ | refine W.ret ?_ | refine L.nil ?_ | refine L.p rfl rfl ?_ | refine L.skip rfl ?_)
    have hI5 := hI.cons (hkc.trans hc5)
    obtain ⟨a5, c5, q1, q2⟩ := hI5.partT (k := k) (h := k + h + n) (lo := some (.int .i64 (k : Int))) (hi := some (.int .i64 ((k + h + n : Nat) : Int))) (.inr ⟨.i64, rfl⟩) (.inr ⟨.i64, rfl⟩) (by omega) (by omega)
    obtain ⟨x5, hx5⟩ : ∃ x5, x5 = (l.drop k).take (k + h + n - k) := ⟨_, rfl⟩
    rw [← hx5] at q1 q2
    refine L.is (.slice a5 x5.length c5) ((slice_at0 rfl rfl rfl).trans q1) rfl ?_
    refine L.cl (itemPub_C a5 c5 x5 0 M5 (q2 _ hI5) (by decide) (by decide)) rfl rfl ?_
    rintro _ M6 ⟨rfl, hc6⟩
    refine ⟨nofun, ?_⟩
    have hx5i : itemS x5 = .ok (h, n) := by
      rw [hx5, show k + h + n - k = h + n by omega, item_take hit (by rw [List.length_drop]; omega), if_neg (Nat.lt_irrefl _)]
    have hx5b : bat x5 0 = y.toNat := by rw [hx5, bat_take (by omega), bat_drop]; exact hy'
    rw [show itemV x5 0 = .tuple #[.int .u8 (bat x5 0), .int .i64 (((0 : Nat) : Int) + h), .int .i64 (((0 : Nat) : Int) + h + n), .int .i64 0] from itemV_ok (k := 0) (Nat.zero_le _) hx5i, hx5b]
    repeat (first | refine W.seq ?_ | refine W.block ?_ | refine W.reg ?_ | refine W.skip ?_ | refine W.exit ?_ | refine W.ret ?_ | refine L.nil ?_ | refine L.p rfl rfl ?_ | refine L.skip rfl ?_)
    rw [show IntKind.i64.wrap (((k + h + n : Nat) : Int) - 1) = ((k + h + n - 1 : Nat) : Int) by rw [wrap64 (by omega) (by omega)]; omega]
    repeat (first | refine W.seq ?_ | refine W.block ?_ | refine W.reg ?_ | refine W.skip ?_ | refine W.exit ?_ | refine W.ret ?_ | refine L.nil ?_ | refine L.p rfl rfl ?_ | refine L.skip rfl ?_)
    refine L.max (c := ((k + h + n - 1 : Nat) : Int)) rfl rfl rfl (by split <;> omega) ?_
    have hI6 := hI5.cons hc6
    obtain ⟨a6, c6, q3, q4⟩ := hI6.partT (k := 0) (h := k + h + n - 1) (lo := none) (hi := some (.int .i64 ((k + h + n - 1 : Nat) : Int))) (.inl ⟨rfl, rfl⟩) (.inr ⟨.i64, rfl⟩) (by omega) (by omega)
    rw [List.drop_zero, Nat.sub_zero] at q3 q4
    obtain ⟨x6, hx6⟩ : ∃ x6, x6 = l.take (k + h + n - 1) := ⟨_, rfl⟩
    rw [← hx6] at q3 q4
    refine L.is (.slice a6 x6.length c6) ((slice_at0 rfl rfl rfl).trans q3) rfl ?_
    repeat (first | refine W.seq ?_ | refine W.block ?_ | refine W.reg ?_ | refine W.skip ?_ | refine W.exit ?_ | refine W.ret ?_ | refine L.nil ?_ | refine L.p rfl rfl ?_ | refine L.skip rfl ?_)
    refine L.cl (itemPub_C a6 c6 x6 k M6 (q4 _ hI6) (by omega) (by omega)) rfl rfl ?_
    rintro _ M7 ⟨rfl, hc7⟩
    refine ⟨nofun, ?_⟩
    have hx6l : x6.length = k + h + n - 1 := by rw [hx6, List.length_take]; omega
    have hx6i : itemS (x6.drop k) = .error 70 := by
      rw [hx6, List.drop_take, item_take hit (by rw [List.length_drop]; omega), if_pos (by omega)]
    rw [← itemV_err (by omega) hx6i]
    repeat (first | refine W.seq ?_ | refine W.block ?_ | refine W.reg ?_ | refine W.skip ?_ | refine W.exit ?_ | refine W.ret ?_ | refine L.nil ?_ | refine L.p rfl rfl ?_ | refine L.skip rfl ?_)
    rw [show ((y.toNat : Int) == (y.toNat : Int)) = true from beq_self_eq_true _]
    repeat (first | refine W.seq ?_ | refine W.block ?_ | refine W.reg ?_ | refine W.skip ?_ | refine W.exit ?_ | refine W.ret ?_ | refine L.nil ?_ | refine L.p rfl rfl ?_ | refine L.skip rfl ?_)
    rw [show (((k : Int) + h) == ((k : Int) + h)) = true from beq_self_eq_true _]
    repeat (first | refine W.seq ?_ | refine W.block ?_ | refine W.reg ?_ | refine W.skip ?_ | refine W.exit ?_ | refine W.ret ?_ | refine L.nil ?_ | refine L.p rfl rfl ?_ | refine L.skip rfl ?_)
    rw [show (((k + h + n : Nat) : Int) == ((k + h + n : Nat) : Int)) = true from beq_self_eq_true _]
    repeat (first | refine W.seq ?_ | refine W.block ?_ | refine W.reg ?_ | refine W.skip ?_ | refine W.exit ?_ | refine W.ret ?_ | refine L.nil ?_ | refine L.p rfl rfl ?_ | refine L.skip rfl ?_)
    rw [show ((y.toNat : Int) == (y.toNat : Int)) = true from beq_self_eq_true _]
    repeat (first | refine W.seq ?_ | refine W.block ?_ | refine W.reg ?_ | refine W.skip ?_ | refine W.exit ?_ | refine W.ret ?_ | refine L.nil ?_ | refine L.p rfl rfl ?_ | refine L.skip rfl ?_)
    rw [show IntKind.i64.wrap ((k : Int) + h - k) = ((0 : Nat) : Int) + h by rw [wrap64 (by omega) (by omega)]; omega, show ((((0 : Nat) : Int) + h) == (((0 : Nat) : Int) + h)) = true from beq_self_eq_true _]
    repeat (first | refine W.seq ?_ | refine W.block ?_ | refine W.reg ?_ | refine W.skip ?_ | refine W.exit ?_ | refine W.ret ?_ | refine L.nil ?_ | refine L.p rfl rfl ?_ | refine L.skip rfl ?_)
    rw [show IntKind.i64.wrap (((k + h + n : Nat) : Int) - k) = ((0 : Nat) : Int) + h + n by rw [wrap64 (by omega) (by omega)]; omega, show ((((0 : Nat) : Int) + h + n) == (((0 : Nat) : Int) + h + n)) = true from beq_self_eq_true _]
    repeat (first | refine W.seq ?_ | refine W.block ?_ | refine W.reg ?_ | refine W.skip ?_ | refine W.exit ?_ | refine W.ret ?_ | refine L.nil ?_ | refine L.p rfl rfl ?_ | refine L.skip rfl ?_)
    refine L.cl (works_C _) rfl rfl ?_
    rintro _ M8 ⟨rfl, hc8⟩
    refine ⟨nofun, ?_⟩
    repeat (first | refine W.seq ?_ | refine W.block ?_ | refine W.reg ?_ | refine W.skip ?_ | refine W.exit ?_ | refine W.ret ?_ | refine L.nil ?_ | refine L.p rfl rfl ?_ | refine L.skip rfl ?_)
    exact ⟨.inr rfl, _, rfl, rfl, (((hkc.trans hc5).trans hc6).trans hc7).trans hc8⟩
end Go.Proofs.Ytccdlijohkljcaa

/- Arguments that came in, on the abstract memory of the world in which a call begins. Conditions: none. -/
set_option linter.unusedSimpArgs false
set_option linter.unusedVariables false
namespace Go.Proofs.Ytccdlijohkljcaa
open Go

/-- a slice of whole numbers that came in: none; or it leads to a row of cap cells, the numbers zs -/
def IsRow (k : IntKind) (w : World) (a : Option Addr) (len cap : Nat) (zs : List Int) : Prop :=
  (a = none ∧ len = 0 ∧ cap = 0 ∧ zs = []) ∨
  ∃ x, a = some x ∧ len ≤ cap ∧ cap ≤ maxLen ∧ zs.length = cap ∧ (∀ i, i < zs.length → w.cell? (x.add i) = some (.int k (zs.getD i 0))) ∧ ∀ n ∈ zs, (Lit.int k n).wf = true
theorem okWide_block {P : Program} {W : World} {base : Nat} {t e : TypeId} {a : Addr} {len cap : Nat} (hu : P.underlying t = some (.slice e)) (h : Value.okWide P W .any base t (.slice (some a) len cap)) : a.block < W.heap.size := by
  unfold Value.okWide at h
  simp only [hu] at h
  unfold Cell.okWide at h
  simp only [hu] at h
  unfold Cell.ok at h
  simp only [hu] at h
  obtain ⟨_, _, _, _, row, cells, hs, _⟩ := h
  unfold World.shape? at hs
  split at hs
  · rename_i c el fz hh
    exact (Array.getElem?_eq_some_iff.1 hh).1
  · cases hs
theorem row_cap {k : IntKind} {W : World} {a : Option Addr} {len cap : Nat} {zs : List Int} (h : IsRow k W a len cap zs) : cap < UNK ∧ len ≤ cap := by
  rcases h with ⟨rfl, rfl, rfl, rfl⟩ | ⟨x, rfl, hlc, hm, hz, hcell, hwf⟩
  · exact ⟨by decide, by decide⟩
  · exact ⟨by unfold maxLen at hm; unfold UNK; omega, hlc⟩
theorem world_ints {k : IntKind} {W : World} {N : Nat} {a : Option Addr} {len cap : Nat} {zs : List Int} (h : IsRow k W a len cap zs) (hb : ∀ x, a = some x → x.block < W.heap.size + N) :
    Slv (mem0 W N) 1 (.slice a len cap) len ((zs.take len).map (Value.int k)) ∧ VR (rho0 W N) (.slice a len cap) (.slice a len cap) ∧ (zs.take len).length = len ∧ Cut len cap ∧ (∀ n ∈ zs, (Lit.int k n).wf = true) := by
  rcases h with ⟨rfl, rfl, rfl, rfl⟩ | ⟨x, rfl, hlc, hm, hz, hcell, hwf⟩
  · exact ⟨Slv.nil _ _ _ _, .slNil _ _, rfl, .inl ⟨by decide, by decide⟩, nofun⟩
  · have hcu : cap < UNK := by unfold maxLen at hm; unfold UNK; omega
    have hlen : (zs.take len).length = len := by rw [List.length_take]; omega
    refine ⟨?_, (fixed_slice (N := N) (hb x rfl) hcu).1, hlen, .inl ⟨hcu, hlc⟩, hwf⟩
    rcases Nat.eq_zero_or_pos len with rfl | hpos
    · rw [List.take_zero]; exact Slv.nil _ _ _ _
    have h0 := hcell 0 (by omega)
    have hx0 : x.add 0 = x := rfl
    rw [hx0] at h0
    unfold World.cell? at h0
    split at h0
    · rename_i c el fz hh
      split at h0
      · cases h0
      · rename_i hsp
        have hsp' : x.spot = none := by cases hxs : x.spot <;> simp_all
        obtain ⟨r, hr, hrl, hrc⟩ := mem0_live (N := N) hh
        have hxa : x = ⟨x.block, x.off, none⟩ := by cases x; simp at hsp'; subst hsp'; rfl
        have hci : ∀ i, i < cap → r.cells[x.off + i]? = some (.int k (zs.getD i 0)) := by
          intro i hi
          have h1 := hcell i (by omega)
          have hadd : x.add i = ⟨x.block, x.off + i, none⟩ := by
            unfold Addr.add
            split
            · rename_i h9; rw [h9]; exact hxa
            · rfl
          rw [hadd] at h1
          simp only [World.cell?, hh] at h1
          exact hrc _ _ (by simpa using h1) (fixed_scalar W N rfl)
        have hbound : x.off + len * 1 ≤ r.cells.length := by
          have := (List.getElem?_eq_some_iff.1 (hci (len - 1) (by omega))).1
          omega
        have hseg : (r.cells.drop x.off).take (len * 1) = (zs.take len).map (Value.int k) := by
          apply List.ext_getElem?
          intro i
          rw [List.getElem?_take, Nat.mul_one]
          split
          · rename_i hi
            rw [List.getElem?_drop, hci i (by omega), List.getElem?_map, List.getElem?_take, if_pos hi, List.getD_eq_getElem?_getD, List.getElem?_eq_getElem (by omega)]
            rfl
          · rename_i hi
            rw [List.getElem?_eq_none (by rw [List.length_map, hlen]; omega)]
        have := Slv.of (sz := 1) (n := len) (c := cap) hr hbound (.inr (by rw [hseg, List.all_map, List.all_eq_true]; intro n _; rfl))
        rw [hseg, ← hxa] at this
        exact this
    · cases h0
theorem bound_of (f : Nat → Nat) (n : Nat) : ∃ N, ∀ i, i < n → f i < N := by
  induction n with
  | zero => exact ⟨0, nofun⟩
  | succ n ih =>
    obtain ⟨N, h⟩ := ih
    refine ⟨max N (f n + 1), fun i hi => ?_⟩
    rcases Nat.lt_or_eq_of_le (Nat.le_of_lt_succ hi) with h1 | rfl
    · have := h i h1; omega
    · omega
theorem cell_row {W : World} {N : Nat} {x : Addr} {v : Value} (h : W.cell? x = some v) (hf : Fixed W N v) : x = ⟨x.block, x.off, none⟩ ∧ x.block < W.heap.size ∧ ∃ r, (mem0 W N).row? x.block = some r ∧ r.cells[x.off]? = some v := by
  unfold World.cell? at h
  split at h
  · rename_i c el fz hh
    split at h
    · cases h
    · rename_i hsp
      have hsp' : x.spot = none := by cases hxs : x.spot <;> simp_all
      obtain ⟨r, hr, hrl, hrc⟩ := mem0_live (N := N) hh
      refine ⟨by cases x; simp at hsp'; subst hsp'; rfl, (Array.getElem?_eq_some_iff.1 hh).1, r, hr, hrc _ _ (by simpa using h) hf⟩
  · cases h
end Go.Proofs.Ytccdlijohkljcaa

/- The proof of the statement on where an item lies. Conditions: none. -/
namespace Go.Proofs.Ytccdlijohkljcaa.derLies
open Go.ChangeShapes Go.WideShapes Go.ChangeAt Go.RowKit
open Go.ChangeMaps (open_string shut_string)
set_option linter.unusedVariables false

theorem own : ownKnob Try.prog.godebug = none := by kernel_rfl
theorem laidOut : laidOutB Try.prog = true := by kernel_rfl

theorem walk (a0 : Option Addr) (len0 cap0 : Nat) (z0 : List Int) (a1 : Int) (a2 : Int) (w : World) (w0 : IsRow .u8 w a0 len0 cap0 z0) (hb0 : ∀ x, a0 = some x → x.block < w.heap.size) (w1 : (Lit.int .i64 a1).wf = true) (w2 : (Lit.int .u8 a2).wf = true) :
    Calls Try.prog 6 #[.slice a0 len0 cap0, .int .i64 a1, .int .u8 a2] w fun e w' => e = .returned (.bool true) ∧ Below w.heap.size w w' := by
  obtain ⟨hs0, hv0, hl0, hc0, hwf0⟩ := world_ints (N := 0) w0 (by simpa using hb0)
  have hcc0 := row_cap w0
  have hf0 : ∀ x, a0 = some x → x.block < (mem0 w).length := fun x hx => by rw [mem0_len]; have := hb0 x hx; omega
  obtain ⟨l0, hll0, hbl0⟩ := bytes_of z0 len0 hwf0 hl0
  rw [← hbl0] at hs0
  subst hll0
  have hx1 : -9223372036854775808 ≤ a1 ∧ a1 ≤ 9223372036854775807 := by simpa [Lit.wf, IntKind.min, IntKind.max, IntKind.signed, IntKind.bits] using w1
  have hx2 : 0 ≤ a2 ∧ a2 ≤ 255 := by simpa [Lit.wf, IntKind.min, IntKind.max, IntKind.signed, IntKind.bits] using w2
  obtain ⟨x2, hxe2⟩ : ∃ x : BitVec 8, a2 = (x.toNat : Int) := ⟨BitVec.ofInt 8 a2, by rw [← wrap_u8, wrapU8 (by omega) (by omega)]⟩
  subst hxe2
  obtain ⟨v, S', hE, rfl, hcons⟩ := lies_C (G := 0) a0 cap0 l0 a1 x2 (mem0 w) hs0 (.inl hcc0)
  refine top_true (Checked.mixed Try.checked) (fun _ _ _ _ _ h => h) (Nat.zero_le _) (fun a ha => ?_) hE hcons
  simp only [List.mem_cons, List.not_mem_nil, or_false] at ha
  rcases ha with rfl | rfl | rfl
  · exact hv0
  · exact scalar_VR _ rfl
  · exact scalar_VR _ rfl

set_option maxRecDepth 100000 in
theorem lifted (os : Os) (started : os.Started) (H : Type) (enc : TypeId × Value → H) :
    ReturnsInHanded {} Try.checked os 6 .any (Rows.derLiesSpec.pre6 enc Try.prog Try.f6 Rows.derLiesRow.domain false) (Rows.derLiesSpec.post enc Try.prog Try.f6 false true false false) := by
  refine returnsInHanded_of_change (C := Try.checked) own started (by kernel_rfl) Try.func6
    (ChangeSpec.witness6 (enc := enc) (C := Try.checked) false ⟨#[], #[.slice none 0 0, .int .i64 0, .int .u8 0], []⟩ 8 (by kernel_rfl) (by kernel_rfl) (by kernel_rfl) (by kernel_rfl)) ?_
  intro W base args ds gs before hval0 hW hcnd _
  have hval : ∀ (j : Nat) t v, Try.f6.params[j]? = some t → args[j]? = some v → Value.okWide Try.prog W .any base t v := hval0
  have hW' := hW
  obtain ⟨p, q, hA0, hV, rfl, hfz, hnd⟩ := hW
  have hA : DataW.TrodAll enc Try.prog W 0 (fun _ => true) true Try.f6.params.toList args.toList ds p := hA0
  rw [Try.params6] at hA hval
  obtain ⟨v0, vs0, d0, ds0, p0, q0, hargs, rfl, rfl, h0, r0⟩ := trodAll_cons hA
  obtain ⟨v1, vs1, d1, ds1, p1, q1, rfl, rfl, rfl, h1, r1⟩ := trodAll_cons r0
  obtain ⟨v2, vs2, d2, ds2, p2, q2, rfl, rfl, rfl, h2, r2⟩ := trodAll_cons r1
  obtain ⟨rfl, rfl, rfl⟩ := trodAll_nil r2
  obtain rfl : args = #[v0, v1, v2] := by cases args; simp_all
  obtain ⟨rfl, rfl⟩ := trodVars_none hV
  obtain ⟨a0, len0, cap0, rfl⟩ := okWide_slice Try.underlying22 (hval 0 22 v0 rfl rfl)
  have hb0 : ∀ x, a0 = some x → x.block < W.heap.size := by rintro x rfl; exact okWide_block Try.underlying22 (hval 0 22 _ rfl rfl)
  have k0 := h0
  have lt0 : ∀ x ∈ p0, x.block < W.heap.size := by obtain ⟨m, hm⟩ := k0; exact DataW.trod_lt m _ _ _ hm
  obtain ⟨z0, w0⟩ : ∃ zs, IsRow .u8 W a0 len0 cap0 zs := by
    obtain ⟨fuel, hf⟩ := h0
    rcases open_ints Try.underlying22 Try.underlying5 (by kernel_rfl) hf with ⟨hcs, _⟩ | ⟨x, l, c, zs, hcs, _, hl, hm, hz, _, hcell, hwz⟩
    · simp [Value.cells] at hcs
      obtain ⟨rfl, rfl, rfl⟩ := hcs
      exact ⟨[], .inl ⟨rfl, rfl, rfl, rfl⟩⟩
    · simp [Value.cells] at hcs
      obtain ⟨rfl, rfl, rfl⟩ := hcs
      exact ⟨zs, .inr ⟨_, rfl, hl, hm, by simpa using hz, hcell, hwz⟩⟩
  obtain ⟨a1, rfl, rfl, rfl, w1⟩ := open_int Try.underlying3 (hval 1 3 v1 rfl rfl) h1
  obtain ⟨a2, rfl, rfl, rfl, w2⟩ := open_int Try.underlying5 (hval 2 5 v2 rfl rfl) h2
  clear hA0 hval0
  refine (walk a0 len0 cap0 z0 a1 a2 W w0 hb0 w1 w2).mono fun e W' ⟨he, bel⟩ => ?_
  subst he
  exact ⟨_, rfl, _, _, _, [], _, [], hW', trodAll_mk1 (shut_bool Try.underlying4 _), (trodAll_cons_mk (Below.trod laidOut (by kernel_rfl) (of_decide_eq_true (by kernel_rfl)) k0 bel lt0) (trodAll_cons_mk (shut_int Try.underlying3 w1) (trodAll_cons_mk (shut_int Try.underlying5 w2) trodAll_mk0))), rfl, bel.frame _, fun h => by cases h⟩

theorem over : Rows.derLiesRow.holds Try.pinned (OpenSpec.ofChange Rows.derLiesSpec) :=
  OpenClaim.holds_of_wide 6 Try.f6 rfl rfl rfl rfl rfl rfl rfl ⟨rfl, rfl, rfl, rfl, rfl⟩ rfl rfl rfl rfl rfl (by kernel_rfl) Try.func6 (by kernel_rfl)
    (of_decide_eq_true (by kernel_rfl)) (by unfold Func.isWrapper; first | (rw [if_pos (by decide +kernel)]; kernel_rfl) | (rw [if_neg (by decide +kernel)]; exact ⟨rfl, rfl⟩))
    (fun os started H enc _ => lifted os started H enc)

theorem proved : Rows.DerLiesSaid := over
end Go.Proofs.Ytccdlijohkljcaa.derLies
