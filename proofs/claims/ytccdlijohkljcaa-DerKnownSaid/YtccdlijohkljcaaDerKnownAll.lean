/- The proof of the statement on examples and edges. Conditions: none. -/
import Derived.Test.YtccdlijohkljcaaLibE
import Derived.WalkKit
import Derived.ProofKit
import Derived.OpenShut
import Derived.ShutString
import Derived.ChangeOld
import Derived.Below
import Derived.Test.YtccdlijohkljcaaRows

/- The law of reading, walked. Conditions: none. -/
set_option linter.unusedSimpArgs false
set_option linter.unusedVariables false
set_option maxRecDepth 100000
set_option maxHeartbeats 4000000
namespace Go.Proofs.Ytccdlijohkljcaa
open Go
variable {G : Nat}

/-- what is read, where an error reads nothing -/
def keyN (b : BL) : WL × WL := match keyS b with
  | .error _ => ([], [])
  | .ok p => p
def keyE (b : BL) : Int := match keyS b with
  | .error e => e
  | .ok _ => 0
theorem KeyR.two {S S' : Mem} {b : BL} {v : Value} (h : KeyR S b v S') : ∃ d1 d2 : Hd, v = .tuple #[.agg #[d1.v, d2.v], .int .i64 (keyE b)] ∧ RetW S S' d1 (keyN b).1 ∧ RetW S S' d2 (keyN b).2 ∧ Apart2 d1 d2 := by
  unfold KeyR at h
  cases hk : keyS b with
  | error e =>
    rw [hk] at h
    obtain ⟨rfl, hc⟩ := h
    refine ⟨Hd0, Hd0, by unfold keyE; rw [hk]; rfl, ?_, ?_, nofun⟩ <;> (unfold keyN; rw [hk]; exact RetW.nil hc)
  | ok p =>
    obtain ⟨l1, l2⟩ := p
    rw [hk] at h
    obtain ⟨d1, d2, rfl, h1, h2, h3⟩ := h
    refine ⟨d1, d2, by unfold keyE; rw [hk], ?_, ?_, h3⟩ <;> (unfold keyN; rw [hk]; assumption)
theorem RefKey.two {S S' : Mem} {b : BL} {v : Value} (h : RefKey S b v S') : ∃ a1 c1 a2 c2, v = .tuple #[.agg #[.slice a1 (keyN b).1.length c1, .slice a2 (keyN b).2.length c2], .int .i64 (keyE b)] ∧ Cons S S' ∧ WIn S' a1 c1 (keyN b).1 ∧ WIn S' a2 c2 (keyN b).2 := by
  unfold RefKey at h
  cases hk : keyS b with
  | error e =>
    rw [hk] at h
    obtain ⟨rfl, hc⟩ := h
    refine ⟨none, 0, none, 0, by unfold keyE keyN; rw [hk]; rfl, hc, ?_, ?_⟩ <;> (unfold keyN; rw [hk]; exact WIn.nil _)
  | ok p =>
    obtain ⟨l1, l2⟩ := p
    rw [hk] at h
    obtain ⟨a1, c1, a2, c2, rfl, h0, h1, h2⟩ := h
    refine ⟨a1, c1, a2, c2, by unfold keyE keyN; rw [hk], h0, ?_, ?_⟩ <;> (unfold keyN; rw [hk]; assumption)
theorem toW_le {n k : Nat} (h : blen n ≤ 64 * k) : (toW n).length ≤ k := (toW_len n k).2 (blen_le.1 h)
theorem numS_len {b : BL} {l : WL} (h : numS b = .ok l) : l.length ≤ 64 := by
  unfold numS at h
  split at h
  · cases h
  · split at h
    · cases h
    · rename_i h1
      cases h
      exact toW_le (by omega)
theorem partS_len {b r : BL} {l : WL} (h : partS b = .ok (l, r)) : l.length ≤ 64 := by
  unfold partS at h
  split at h
  · cases h
  · split at h
    · cases h
    · split at h
      · cases h
      · rename_i hn; cases h; exact numS_len hn
theorem keyS_len {b : BL} {l1 l2 : WL} (h : keyS b = .ok (l1, l2)) : l1.length ≤ 64 ∧ l2.length ≤ 64 := by
  unfold keyS at h
  split at h
  · cases h
  · split at h
    · cases h
    · split at h
      · cases h
      · unfold keyT at h
        split at h
        · cases h
        · rename_i h1
          split at h
          · cases h
          · rename_i h2
            split at h
            · cases h
            · cases h; exact ⟨partS_len h1, partS_len h2⟩
theorem keyN_len (b : BL) : (keyN b).1.length ≤ 64 ∧ (keyN b).2.length ≤ 64 := by
  unfold keyN
  split
  · exact ⟨Nat.zero_le _, Nat.zero_le _⟩
  · rename_i p h; exact keyS_len h
theorem RetW.hd {S S' T : Mem} {d : Hd} {l : WL} (h : RetW S S' d l) (k : Cons S' T) : Slv T 1 (.slice d.ad d.n d.c) d.n (wv l) ∧ d.n < 1099511627776 := by
  have hh := h.2.2.1.cons k
  have hn := hh.len
  rw [wv_len] at hn
  exact ⟨hh.slv, hn ▸ h.2.1⟩
theorem keq (k : WL × WL) : (k.1 == k.1 && k.2 == k.2) = true := by simp
theorem reads_C (a : Option Addr) (c : Nat) (l : BL) (S : Mem) (hs : Slv S 1 (.slice a l.length c) l.length (bv l)) (hcut : Cut l.length c) : C Try.prog G (Known Try.prog G) 3 [.slice a l.length c] S fun v S' => v = .bool true ∧ Cons S S' := by
  refine C.fn Try.func3 rfl (by kernel_rfl) rfl ?_
  repeat (first | refine W.seq ?_ | refine W.block ?_ | refine W.reg ?_ | refine W.skip ?_ | refine W.exit ?_ | refine W.ret ?_ | refine L.nil ?_ | refine L.p rfl rfl ?_ | refine L.skip rfl ?_)
  refine W.ite rfl (fun h => ?_) (fun h => ?_)
  · repeat (first | refine W.seq ?_ | refine W.block ?_ | refine W.reg ?_ | refine W.skip ?_ | refine W.exit ?_ | refine W.ret ?_ | refine L.nil ?_ | refine L.p rfl rfl ?_ | refine L.skip rfl ?_)
    exact ⟨.inr rfl, _, rfl, rfl, Cons.refl _⟩
  have hl : l.length ≤ 4096 := by simp at h; omega
  have hI : BIn S a c l := ⟨hs, hcut, by omega⟩
  clear h
  repeat (first | refine W.seq ?_ | refine W.block ?_ | refine W.reg ?_ | refine W.skip ?_ | refine W.exit ?_ | refine W.ret ?_ | refine L.nil ?_ | refine L.p rfl rfl ?_ | refine L.skip rfl ?_)
  refine L.cl (lent_C _ l S hI.1 (by omega)) rfl rfl ?_
  rintro _ M1 ⟨hc1, b, hb, rfl, hr1⟩
  refine ⟨nofun, ?_⟩
  have hI1 := BIn.lent hr1 (by simp [marks]) (by omega)
  have hbl := row_lt hr1
  repeat (first | refine W.seq ?_ | refine W.block ?_ | refine W.reg ?_ | refine W.skip ?_ | refine W.exit ?_ | refine W.ret ?_ | refine L.nil ?_ | refine L.p rfl rfl ?_ | refine L.skip rfl ?_)
  refine L.cl (decode_C _ _ l M1 hI1) rfl rfl ?_
  rintro _ M2 hR
  obtain ⟨d1, d2, rfl, r1, r2, hap1⟩ := hR.two
  refine ⟨nofun, ?_⟩
  have hc2 := r1.1
  repeat (first | refine W.seq ?_ | refine W.block ?_ | refine W.reg ?_ | refine W.skip ?_ | refine W.exit ?_ | refine W.ret ?_ | refine L.nil ?_ | refine L.p rfl rfl ?_ | refine L.skip rfl ?_)
  refine L.eff (v := .pointer (some ⟨List.length M2, 0, none⟩)) (S1 := M2 ++ [newR [nilV, nilV] 26]) rfl rfl ?_
  refine L.st (ad := ⟨List.length M2, 0, none⟩) (vs := [d1.v, d2.v]) (key_write M2 _ _ rfl rfl) rfl rfl rfl rfl ?_
  have hr3 : Mem.row? (M2 ++ [keyR d1.v d2.v]) M2.length = some (keyR d1.v d2.v) := row_push_new rfl
  have hk3 : Cons M2 (M2 ++ [keyR d1.v d2.v]) := Cons.push _ _
  generalize M2 ++ [keyR d1.v d2.v] = M3 at *
  generalize M2.length = q1 at *
  repeat (first | refine W.seq ?_ | refine W.block ?_ | refine W.reg ?_ | refine W.skip ?_ | refine W.exit ?_ | refine W.ret ?_ | refine L.nil ?_ | refine L.p rfl rfl ?_ | refine L.skip rfl ?_)
  refine L.cl (decode_C _ _ l M3 (hI1.cons (hc2.trans hk3))) rfl rfl ?_
  rintro _ M4 hR
  obtain ⟨d3, d4, rfl, r3, r4, hap2⟩ := hR.two
  refine ⟨nofun, ?_⟩
  have hc4 := r3.1
  repeat (first | refine W.seq ?_ | refine W.block ?_ | refine W.reg ?_ | refine W.skip ?_ | refine W.exit ?_ | refine W.ret ?_ | refine L.nil ?_ | refine L.p rfl rfl ?_ | refine L.skip rfl ?_)
  refine L.eff (v := .pointer (some ⟨List.length M4, 0, none⟩)) (S1 := M4 ++ [newR [nilV, nilV] 26]) rfl rfl ?_
  refine L.st (ad := ⟨List.length M4, 0, none⟩) (vs := [d3.v, d4.v]) (key_write M4 _ _ rfl rfl) rfl rfl rfl rfl ?_
  have hr5 : Mem.row? (M4 ++ [keyR d3.v d4.v]) M4.length = some (keyR d3.v d4.v) := row_push_new rfl
  have hk5 : Cons M4 (M4 ++ [keyR d3.v d4.v]) := Cons.push _ _
  generalize M4 ++ [keyR d3.v d4.v] = M5 at *
  generalize M4.length = q2 at *
  repeat (first | refine W.seq ?_ | refine W.block ?_ | refine W.reg ?_ | refine W.skip ?_ | refine W.exit ?_ | refine W.ret ?_ | refine L.nil ?_ | refine L.p rfl rfl ?_ | refine L.skip rfl ?_)
  have hc15 := ((hc2.trans hk3).trans hc4).trans hk5
  refine L.cl (refDecode_C _ _ l M5 (hI.cons (hc1.trans hc15))) rfl rfl ?_
  rintro _ M6 hR
  obtain ⟨a6, c6, a7, c7, rfl, hc6, w6, w7⟩ := hR.two
  refine ⟨nofun, ?_⟩
  repeat (first | refine W.seq ?_ | refine W.block ?_ | refine W.reg ?_ | refine W.skip ?_ | refine W.exit ?_ | refine W.ret ?_ | refine L.nil ?_ | refine L.p rfl rfl ?_ | refine L.skip rfl ?_)
  refine L.eff (v := .pointer (some ⟨List.length M6, 0, none⟩)) (S1 := M6 ++ [newR [nilV, nilV] 26]) rfl rfl ?_
  refine L.st (ad := ⟨List.length M6, 0, none⟩) (vs := [(.slice a6 (keyN l).1.length c6), (.slice a7 (keyN l).2.length c7)]) (key_write M6 _ _ rfl rfl) rfl rfl rfl rfl ?_
  have hr7 : Mem.row? (M6 ++ [keyR (.slice a6 (keyN l).1.length c6) (.slice a7 (keyN l).2.length c7)]) M6.length = some (keyR (.slice a6 (keyN l).1.length c6) (.slice a7 (keyN l).2.length c7)) := row_push_new rfl
  have hk7 : Cons M6 (M6 ++ [keyR (.slice a6 (keyN l).1.length c6) (.slice a7 (keyN l).2.length c7)]) := Cons.push _ _
  generalize M6 ++ [keyR (.slice a6 (keyN l).1.length c6) (.slice a7 (keyN l).2.length c7)] = M7 at *
  generalize M6.length = q3 at *
  repeat (first | refine W.seq ?_ | refine W.block ?_ | refine W.reg ?_ | refine W.skip ?_ | refine W.exit ?_ | refine W.ret ?_ | refine L.nil ?_ | refine L.p rfl rfl ?_ | refine L.skip rfl ?_)
  rw [show (keyE l != keyE l) = false from bne_self_eq_false _]
  repeat (first | refine W.seq ?_ | refine W.block ?_ | refine W.reg ?_ | refine W.skip ?_ | refine W.exit ?_ | refine W.ret ?_ | refine L.nil ?_ | refine L.p rfl rfl ?_ | refine L.skip rfl ?_)
  rw [show (keyE l != keyE l) = false from bne_self_eq_false _]
  have hc57 := hc6.trans hk7
  have hc37 := (hc4.trans hk5).trans hc57
  have hr37 := hc37.row' hr3
  have hr57 := hc57.row' hr5
  have s1 := r1.hd (hk3.trans hc37)
  have s2 := r2.hd (hk3.trans hc37)
  have s3 := r3.hd (hk5.trans hc57)
  have s4 := r4.hd (hk5.trans hc57)
  have s6 := w6.cons hk7
  have s7 := w7.cons hk7
  repeat (first | refine W.seq ?_ | refine W.block ?_ | refine W.reg ?_ | refine W.skip ?_ | refine W.exit ?_ | refine W.ret ?_ | refine L.nil ?_ | refine L.p rfl rfl ?_ | refine L.skip rfl ?_)
  refine L.ldA (a := ⟨q1, 0, none⟩) (key_load hr37) rfl rfl rfl ?_
  refine L.ldA (a := ⟨q3, 0, none⟩) (key_load hr7) rfl rfl rfl ?_
  refine L.cl (sameKey_C d1.ad d2.ad a6 a7 d1.n d2.n _ _ d1.c d2.c c6 c7 (keyN l).1 (keyN l).2 (keyN l).1 (keyN l).2 M7 s1.1 s2.1 s6.1 s7.1 s1.2 s2.2 s6.2.2.2 s7.2.2.2) rfl rfl ?_
  rintro _ M8 ⟨rfl, hc8⟩
  refine ⟨nofun, ?_⟩
  rw [keq]
  repeat (first | refine W.seq ?_ | refine W.block ?_ | refine W.reg ?_ | refine W.skip ?_ | refine W.exit ?_ | refine W.ret ?_ | refine L.nil ?_ | refine L.p rfl rfl ?_ | refine L.skip rfl ?_)
  refine L.ldA (a := ⟨q2, 0, none⟩) (key_load (hc8.row' hr57)) rfl rfl rfl ?_
  refine L.ldA (a := ⟨q3, 0, none⟩) (key_load (hc8.row' hr7)) rfl rfl rfl ?_
  refine L.cl (sameKey_C d3.ad d4.ad a6 a7 d3.n d4.n _ _ d3.c d4.c c6 c7 (keyN l).1 (keyN l).2 (keyN l).1 (keyN l).2 M8 (s3.1.cons hc8) (s4.1.cons hc8) (s6.1.cons hc8) (s7.1.cons hc8) s3.2 s4.2 s6.2.2.2 s7.2.2.2) rfl rfl ?_
  rintro _ M9 ⟨rfl, hc9⟩
  refine ⟨nofun, ?_⟩
  rw [keq]
  repeat (first | refine W.seq ?_ | refine W.block ?_ | refine W.reg ?_ | refine W.skip ?_ | refine W.exit ?_ | refine W.ret ?_ | refine L.nil ?_ | refine L.p rfl rfl ?_ | refine L.skip rfl ?_)
  refine W.ite rfl (fun h => ?_) (fun h => ?_)
  · cases h
  clear h
  have hk9 := hc8.trans hc9
  have hr39 := hk9.row' hr37
  have hr59 := hk9.row' hr57
  have hk29 := (hk3.trans hc37).trans hk9
  have hk49 := (hk5.trans hc57).trans hk9
  have hk19 := hc2.trans hk29
  have hS9 := hc1.trans hk19
  have hr19 := hk19.row' hr1
  have hl2 := hk3.len
  repeat (first | refine W.seq ?_ | refine W.block ?_ | refine W.reg ?_ | refine W.skip ?_ | refine W.exit ?_ | refine W.ret ?_ | refine L.nil ?_ | refine L.p rfl rfl ?_ | refine L.skip rfl ?_)
  refine L.eff (v := .pointer (some ⟨M9.length, 0, none⟩)) (S1 := M9 ++ [newR [.slice none 0 0, .slice none 0 0] 34]) rfl rfl ?_
  have hB0 := BK.new M9
  generalize M9 ++ [newR [.slice none 0 0, .slice none 0 0] 34] = N0 at *
  obtain ⟨rb, hrb⟩ : ∃ rb, rb = M9.length := ⟨_, rfl⟩
  rw [← hrb] at hB0 ⊢
  repeat (first | refine W.seq ?_ | refine W.block ?_ | refine W.reg ?_ | refine W.skip ?_ | refine W.exit ?_ | refine W.ret ?_ | refine L.nil ?_ | refine L.p rfl rfl ?_ | refine L.skip rfl ?_)
  refine L.ldA (a := ⟨q1, 0, none⟩) (key_load (hB0.1.row' hr39)) rfl rfl rfl ?_
  refine L.cl (key_BK d1 d2 hB0 (by decide)) rfl rfl ?_
  rintro _ N1 hB1
  refine ⟨nofun, ?_⟩
  repeat (first | refine W.seq ?_ | refine W.block ?_ | refine W.reg ?_ | refine W.skip ?_ | refine W.exit ?_ | refine W.ret ?_ | refine L.nil ?_ | refine L.p rfl rfl ?_ | refine L.skip rfl ?_)
  refine L.ldA (a := ⟨q2, 0, none⟩) (key_load (hB1.1.row' hr59)) rfl rfl rfl ?_
  refine L.cl (key_BK d3 d4 hB1 (by simp)) rfl rfl ?_
  rintro _ N2 hB2
  refine ⟨nofun, ?_⟩
  repeat (first | refine W.seq ?_ | refine W.block ?_ | refine W.reg ?_ | refine W.skip ?_ | refine W.exit ?_ | refine W.ret ?_ | refine L.nil ?_ | refine L.p rfl rfl ?_ | refine L.skip rfl ?_)
  have t1 := r1.2.2.1.cons hk29
  have t2 := r2.2.2.1.cons hk29
  have t3 := r3.2.2.1.cons hk49
  have t4 := r4.2.2.1.cons hk49
  have z1 : ∀ x, d1.a = some x → M1.length ≤ x ∧ x < M2.length := fun x e => ⟨r1.2.2.2 x e, r1.2.2.1.lt e⟩
  have z2 : ∀ x, d2.a = some x → M1.length ≤ x ∧ x < M2.length := fun x e => ⟨r2.2.2.2 x e, r2.2.2.1.lt e⟩
  have z3 : ∀ x, d3.a = some x → M3.length ≤ x := r3.2.2.2
  have z4 : ∀ x, d4.a = some x → M3.length ≤ x := r4.2.2.2
  have hlen1 := (keyN_len l).1
  have hlen2 := (keyN_len l).2
  have wl : ∀ {x : WL}, x.length ≤ 64 → (wv x).length ≤ 1000000000000 := fun h => by rw [wv_len]; omega
  have hlM := hc2.len
  refine L.cl (apart_BK hB2 ⟨by simp, by simp⟩ (.add t1 (wl hlen1) (.add t2 (wl hlen2) (.add t3 (wl hlen1) (.add t4 (wl hlen2) (.nil _ _))))) (.nil _ _) (.add (fun x e hm => ?_) (.add (fun x e hm => ?_) (.add (fun x e hm => ?_) (.add (fun x e hm => by simp [blks] at hm) .nil)))) .nil (by simp [blks])) rfl rfl ?_
  · have hm : x ∈ blks [d2, d3, d4] := hm
    simp only [mem_blks, blks_nil, List.not_mem_nil, or_false] at hm
    rcases hm with hm | hm | hm
    · exact hap1 x e hm
    · have := z3 x hm; have := z1 x e; omega
    · have := z4 x hm; have := z1 x e; omega
  · have hm : x ∈ blks [d3, d4] := hm
    simp only [mem_blks, blks_nil, List.not_mem_nil, or_false] at hm
    rcases hm with hm | hm
    · have := z3 x hm; have := z2 x e; omega
    · have := z4 x hm; have := z2 x e; omega
  · have hm : x ∈ blks [d4] := hm
    simp only [mem_blks, blks_nil, List.not_mem_nil, or_false] at hm
    exact hap2 x e hm
  rintro _ N3 ⟨rfl, hk⟩
  refine ⟨nofun, ?_⟩
  have hbk : ∀ x ∈ blks ([d1, d2, d3, d4] : List Hd) ++ blks [], M1.length ≤ x := fun x hm => by
    simp only [blks_nil, List.append_nil, mem_blks, List.not_mem_nil, or_false] at hm
    rcases hm with hm | hm | hm | hm
    · exact (z1 x hm).1
    · exact (z2 x hm).1
    · have := z3 x hm; omega
    · have := z4 x hm; omega
  have hN3 : Cons M1 N3 := hk.cons0 hk19 hbk
  repeat (first | refine W.seq ?_ | refine W.block ?_ | refine W.reg ?_ | refine W.skip ?_ | refine W.exit ?_ | refine W.ret ?_ | refine L.nil ?_ | refine L.p rfl rfl ?_ | refine L.skip rfl ?_)
  refine L.cl (kept_C _ l b _ N3 (hN3.row' hr1) rfl rfl (hI.1.cons (hc1.trans hN3)) (by omega)) rfl rfl ?_
  rintro _ _ ⟨rfl, rfl⟩
  refine ⟨fun _ => Cons.refl _, ?_⟩
  repeat (first | refine W.seq ?_ | refine W.block ?_ | refine W.reg ?_ | refine W.skip ?_ | refine W.exit ?_ | refine W.ret ?_ | refine L.nil ?_ | refine L.p rfl rfl ?_ | refine L.skip rfl ?_)
  refine L.cl (works_C _) rfl rfl ?_
  rintro _ N4 ⟨rfl, hc⟩
  refine ⟨fun _ => hc, ?_⟩
  repeat (first | refine W.seq ?_ | refine W.block ?_ | refine W.reg ?_ | refine W.skip ?_ | refine W.exit ?_ | refine W.ret ?_ | refine L.nil ?_ | refine L.p rfl rfl ?_ | refine L.skip rfl ?_)
  exact ⟨.inr rfl, _, rfl, rfl, (hc1.trans hN3).trans hc⟩
end Go.Proofs.Ytccdlijohkljcaa

/- Layer 7, plainly: a key's bytes and what is read out of them. Conditions: none. -/
set_option linter.unusedSimpArgs false
set_option linter.unusedVariables false
namespace Go.Proofs.Ytccdlijohkljcaa
open Go

theorem bsz_le {n k : Nat} : bsz n ≤ k ↔ n < 256 ^ k := by
  rw [p256, ← blen_le]; unfold bsz; omega
theorem bnum_inj : ∀ {l m : BL}, l.length = m.length → bnum l = bnum m → l = m
  | [], [], _, _ => rfl
  | [], _ :: _, h, _ => by cases h
  | _ :: _, [], h, _ => by cases h
  | x :: l, y :: m, h, e => by
    have hl : l.length = m.length := by simpa using h
    simp only [bnum, hl] at e
    have h1 := bnum_lt l
    have h2 := bnum_lt m
    rw [hl] at h1
    have hp : 0 < 256 ^ m.length := Nat.pow_pos (by decide)
    have hx : x.toNat = y.toNat := by
      have d1 : (x.toNat * 256 ^ m.length + bnum l) / 256 ^ m.length = x.toNat := by
        rw [Nat.mul_comm, Nat.mul_add_div hp, Nat.div_eq_of_lt h1, Nat.add_zero]
      have d2 : (y.toNat * 256 ^ m.length + bnum m) / 256 ^ m.length = y.toNat := by
        rw [Nat.mul_comm, Nat.mul_add_div hp, Nat.div_eq_of_lt h2, Nat.add_zero]
      rw [← d1, e, d2]
    rw [hx] at e
    rw [BitVec.eq_of_toNat_eq hx, bnum_inj hl (by omega)]
theorem bsz_bnum {x : BitVec 8} {m : BL} (hx : x ≠ 0#8) : bsz (bnum (x :: m)) = m.length + 1 := by
  have h1 := bnum_lt (x :: m)
  have h2 := bsz_le.2 h1
  rw [List.length_cons] at h2
  have hx0 : x.toNat ≠ 0 := fun h => hx (BitVec.eq_of_toNat_eq (by simpa using h))
  have h3 : ¬ bsz (bnum (x :: m)) ≤ m.length := fun h => by
    have := bsz_le.1 h
    rw [bnum] at this
    have : 1 * 256 ^ m.length ≤ x.toNat * 256 ^ m.length := Nat.mul_le_mul_right _ (by omega)
    omega
  omega
/-- bytes that do not begin with 0 are their number's -/
theorem toB_bnum {d : BL} (h : ∀ x m, d = x :: m → x ≠ 0#8) : toB (bnum d) = d := by
  refine bnum_inj ?_ (bnum_toB _)
  rw [toB_len]
  cases d with
  | nil => rfl
  | cons x m => exact bsz_bnum (h x m rfl)
theorem toB_head {n : Nat} {x : BitVec 8} {m : BL} (h : toB n = x :: m) : x ≠ 0#8 := by
  have hp : 0 < bsz n := by have := congrArg List.length h; rw [toB_len] at this; simp at this; omega
  have hx : (toB n)[0]? = some x := by rw [h]; rfl
  unfold toB at hx
  rw [List.getElem?_map, List.getElem?_range hp] at hx
  simp only [Option.map_some, Nat.sub_zero, Option.some.injEq] at hx
  rw [← hx]
  exact byte_top hp
theorem ofNat8 {n : Nat} (h : n < 256) : (BitVec.ofNat 8 n).toNat = n := by rw [BitVec.toNat_ofNat]; exact Nat.mod_eq_of_lt h
theorem bat_cons_succ (x : BitVec 8) (l : BL) (i : Nat) : bat (x :: l) (i + 1) = bat l i := by unfold bat; rw [List.getElem?_cons_succ]
theorem bat_cons_zero (x : BitVec 8) (l : BL) : bat (x :: l) 0 = x.toNat := rfl
theorem bat_take {b : BL} {k i : Nat} (h : i < k) : bat (b.take k) i = bat b i := by unfold bat; rw [List.getElem?_take, if_pos h]
theorem bat_app {l m : BL} {i : Nat} (h : i < l.length) : bat (l ++ m) i = bat l i := by unfold bat; rw [List.getElem?_append_left h]
theorem bsz_pos {n : Nat} (h : n ≠ 0) : 0 < bsz n := by
  rcases Nat.eq_zero_or_pos (bsz n) with h0 | h0
  · have := bsz_le.1 (Nat.le_of_eq h0); simp at this; omega
  · exact h0
theorem toB_bat {n : Nat} (h : n ≠ 0) : bat (toB n) 0 ≠ 0 := by
  cases hq : toB n with
  | nil => have h1 := congrArg List.length hq; rw [toB_len] at h1; have h2 := bsz_pos h; simp at h1; omega
  | cons x m =>
    rw [bat_cons_zero]
    exact fun h => toB_head hq (BitVec.eq_of_toNat_eq (by simpa using h))
/-- an item's first bytes, whatever stands behind -/
theorem item_cut (t : BitVec 8) (c r : BL) (k : Nat) (hn : c.length < 4294967296) (hk : k ≤ (t :: (lenB c.length ++ (c ++ r))).length) :
    itemS ((t :: (lenB c.length ++ (c ++ r))).take k) = if k < 1 + (lenB c.length).length + c.length then .error 70 else .ok (1 + (lenB c.length).length, c.length) := by
  obtain ⟨b, hb⟩ : ∃ b, b = (t :: (lenB c.length ++ (c ++ r))).take k := ⟨_, rfl⟩
  have hl : b.length = k := by rw [hb, List.length_take]; omega
  rw [← hb]
  obtain ⟨n, hcn⟩ : ∃ n, n = c.length := ⟨_, rfl⟩
  rw [← hcn] at hb hn hk ⊢
  unfold itemS
  rw [hl]
  by_cases h2 : k < 2
  · rw [if_pos h2, if_pos]
    unfold lenB; split <;> simp <;> omega
  rw [if_neg h2]
  have g1 : bat b 1 = bat (lenB n ++ (c ++ r)) 0 := by rw [hb, bat_take (by omega), bat_cons_succ]
  by_cases h3 : n < 128
  · have hL : lenB n = [BitVec.ofNat 8 n] := by unfold lenB; rw [if_pos h3]
    rw [hL] at g1 ⊢
    have g1 : bat b 1 = n := by rw [g1, List.cons_append, bat_cons_zero, ofNat8 (by omega)]
    rw [g1, if_neg (by omega), if_pos h3]
    by_cases h4 : k - 2 < n
    · rw [if_pos h4, if_pos (by simp; omega)]
    · rw [if_neg h4, if_neg (by simp; omega)]
      rfl
  · obtain ⟨q, hq⟩ : ∃ q, q = (toB n).length := ⟨_, rfl⟩
    have hL : lenB n = BitVec.ofNat 8 (128 + q) :: toB n := by unfold lenB; rw [if_neg h3, hq]
    have hq1 : 0 < q := by rw [hq, toB_len]; exact bsz_pos (by omega)
    have hq2 : q ≤ 4 := by rw [hq, toB_len]; exact bsz_le.2 (by omega)
    have hLl : (lenB n).length = 1 + q := by rw [hL, hq]; simp; omega
    rw [hLl]
    rw [hL] at g1
    have g1 : bat b 1 = 128 + q := by rw [g1, List.cons_append, bat_cons_zero, ofNat8 (by omega)]
    rw [g1, if_neg (by omega), if_neg (by omega), Nat.add_sub_cancel_left]
    by_cases h4 : k - 2 < q
    · rw [if_pos h4, if_pos (by omega)]
    rw [if_neg h4]
    have hbd : (b.drop 2).take q = toB n := by
      rw [hb, hL, List.drop_take, List.take_take, Nat.min_eq_left (by omega)]
      simp only [List.cons_append, List.drop_succ_cons, List.drop_zero]
      rw [List.take_append_of_le_length (by omega), hq, List.take_length]
    have g2 : bat b 2 ≠ 0 := by
      have : bat b 2 = bat (toB n) 0 := by rw [← hbd, bat_take (by omega), bat_drop]
      rw [this]; exact toB_bat (by omega)
    have g3 : lenN b = n := by unfold lenN; rw [g1, Nat.add_sub_cancel_left, hbd, bnum_toB]
    rw [g3, if_neg (by omega)]
    by_cases h5 : k - 2 - q < n
    · rw [if_pos h5, if_pos (by omega)]
    · rw [if_neg h5, if_neg (by omega)]
      simp only [Except.ok.injEq, Prod.mk.injEq, and_true]; omega
theorem item_of (t : BitVec 8) (c r : BL) (hn : c.length < 4294967296) : itemS (t :: (lenB c.length ++ (c ++ r))) = .ok (1 + (lenB c.length).length, c.length) := by
  have := item_cut t c r _ hn (Nat.le_refl _)
  rw [List.take_length, if_neg (by simp; omega)] at this
  exact this
/-- an item that is read has the one form -/
theorem item_form {b : BL} {h n : Nat} (e : itemS b = .ok (h, n)) : ∃ t c r, b = t :: (lenB c.length ++ (c ++ r)) ∧ c.length = n ∧ h = 1 + (lenB c.length).length ∧ n < 4294967296 := by
  have hok := itemS_ok e
  obtain ⟨t, x, rest, rfl⟩ : ∃ t x rest, b = t :: x :: rest := by
    match b, hok with
    | t :: x :: rest, _ => exact ⟨t, x, rest, rfl⟩
    | [], h => simp at h; omega
    | [_], h => simp at h; omega
  have hx := x.isLt
  have b1 : bat (t :: x :: rest) 1 = x.toNat := rfl
  unfold itemS at e
  rw [if_neg (by simp), b1] at e
  have hlen : (t :: x :: rest).length - 2 = rest.length := by simp
  rw [hlen] at e
  by_cases h2 : x.toNat = 128 ∨ 132 < x.toNat
  · rw [if_pos h2] at e; cases e
  rw [if_neg h2] at e
  by_cases h3 : x.toNat < 128
  · rw [if_pos h3] at e
    by_cases h4 : rest.length < x.toNat
    · rw [if_pos h4] at e; cases e
    rw [if_neg h4] at e
    simp only [Except.ok.injEq, Prod.mk.injEq] at e
    obtain ⟨rfl, rfl⟩ := e
    have hc : (rest.take x.toNat).length = x.toNat := by rw [List.length_take]; omega
    have hL : lenB x.toNat = [x] := by unfold lenB; rw [if_pos h3]; simp
    refine ⟨t, rest.take x.toNat, rest.drop x.toNat, ?_, hc, ?_, by omega⟩
    · rw [hc, hL, List.take_append_drop]; rfl
    · rw [hc, hL]; rfl
  rw [if_neg h3] at e
  by_cases h4 : rest.length < x.toNat - 128
  · rw [if_pos h4] at e; cases e
  rw [if_neg h4] at e
  by_cases h5 : bat (t :: x :: rest) 2 = 0 ∨ lenN (t :: x :: rest) < 128
  · rw [if_pos h5] at e; cases e
  rw [if_neg h5] at e
  by_cases h6 : rest.length - (x.toNat - 128) < lenN (t :: x :: rest)
  · rw [if_pos h6] at e; cases e
  rw [if_neg h6] at e
  simp only [Except.ok.injEq, Prod.mk.injEq] at e
  have hlt := lenN_lt (b := t :: x :: rest) (by rw [b1]; omega)
  obtain ⟨q, hq⟩ : ∃ q, q = x.toNat - 128 := ⟨_, rfl⟩
  obtain ⟨d, hd⟩ : ∃ d, d = rest.take q := ⟨_, rfl⟩
  have hdl : d.length = q := by rw [hd, List.length_take]; omega
  have hN : lenN (t :: x :: rest) = bnum d := by unfold lenN; rw [b1, ← hq, hd]; rfl
  rw [hN, ← hq] at e h6
  rw [hN] at hlt h5
  obtain ⟨rfl, rfl⟩ := e
  have hdz : ∀ y m, d = y :: m → y ≠ 0#8 := fun y m hy h0 => by
    have : bat (t :: x :: rest) 2 = y.toNat := by
      show bat rest 0 = _
      rw [← bat_take (b := rest) (k := q) (by omega), ← hd, hy]; rfl
    rw [h0] at this
    exact h5 (.inl (by rw [this]; rfl))
  have hc : ((rest.drop q).take (bnum d)).length = bnum d := by rw [List.length_take, List.length_drop]; omega
  have hL : lenB (bnum d) = x :: d := by
    unfold lenB
    rw [if_neg (by omega), toB_bnum hdz, hdl, hq, show 128 + (x.toNat - 128) = x.toNat by omega]
    simp
  refine ⟨t, (rest.drop q).take (bnum d), (rest.drop q).drop (bnum d), ?_, hc, ?_, by omega⟩
  · rw [hc, hL, List.take_append_drop, List.cons_append, hd, List.take_append_drop]
  · rw [hc, hL]; simp; omega
/-- an integer's content that is read has the one form -/
theorem num_form {c : BL} {l : WL} (h : numS c = .ok l) : contS l = c ∧ ¬ 4096 < blen (wnum l) ∧ fm l = l := by
  unfold numS at h
  split at h
  · cases h
  rename_i hbad
  split at h
  · cases h
  rename_i hl
  simp only [Except.ok.injEq] at h
  subst h
  simp only [badInt, not_or, not_and] at hbad
  obtain ⟨h0, h1, h2⟩ := hbad
  rw [wnum_toW]
  refine ⟨?_, by omega, by unfold fm; rw [wnum_toW]⟩
  unfold contS
  rw [wnum_toW]
  cases c with
  | nil => exact absurd rfl h0
  | cons x m =>
    rw [bat_cons_zero] at h1 h2
    by_cases hx : x = 0#8
    · subst hx
      have hb : bnum (0#8 :: m) = bnum m := by simp [bnum]
      have hm : toB (bnum m) = m := toB_bnum fun y k hy hy0 => by
        subst hy hy0
        exact h2 (by simp) rfl (by rw [bat_cons_succ, bat_cons_zero]; decide)
      rw [hb, hm, if_pos]
      cases m with
      | nil => exact .inl rfl
      | cons y k =>
        right
        have := h2 (by simp) rfl
        rw [bat_cons_succ] at this
        omega
    · rw [toB_bnum (fun y k hy => by simp only [List.cons.injEq] at hy; rw [← hy.1]; exact hx), if_neg]
      rw [bat_cons_zero]
      simp only [List.length_cons, not_or]
      omega
theorem num_of {l : WL} (h : ¬ 4096 < blen (wnum l)) : numS (contS l) = .ok (fm l) := by
  have hlen := cont_len h
  have hb : bnum (contS l) = wnum l := by
    unfold contS; split
    · simp [bnum, bnum_toB]
    · exact bnum_toB _
  have hgood : ¬ badInt (contS l) := by
    unfold badInt contS
    cases hq : toB (wnum l) with
    | nil => simp [bat]
    | cons x m =>
      have hx := toB_head hq
      have hx0 : x.toNat ≠ 0 := fun h => hx (BitVec.eq_of_toNat_eq (by simpa using h))
      rw [bat_cons_zero]
      by_cases h8 : 128 ≤ x.toNat
      · rw [if_pos (.inr h8), bat_cons_zero, bat_cons_succ, bat_cons_zero]
        simp; omega
      · rw [if_neg (by simp; omega), bat_cons_zero]
        simp; omega
  have hfe : fromE (contS l) = 0 := by
    unfold fromE
    rw [if_pos]
    have : (strip0 (contS l)).length ≤ (contS l).length := by unfold strip0; exact (List.dropWhile_sublist _).length_le
    omega
  unfold numS
  rw [if_neg hgood, hb, hfe, if_neg (by simp; omega)]
theorem item_parts {t : BitVec 8} {c r : BL} {h : Nat} (hh : h = 1 + (lenB c.length).length) : ((t :: (lenB c.length ++ (c ++ r))).drop h).take c.length = c ∧ (t :: (lenB c.length ++ (c ++ r))).drop (h + c.length) = r := by
  have e : t :: (lenB c.length ++ (c ++ r)) = (t :: lenB c.length) ++ (c ++ r) := rfl
  have hl : (t :: lenB c.length).length = h := by rw [hh, List.length_cons, Nat.add_comm]
  constructor
  · rw [e, List.drop_append_of_le_length (by omega), ← hl, List.drop_length, List.nil_append, List.take_append_of_le_length (Nat.le_refl _), List.take_length]
  · rw [e, ← List.drop_drop, List.drop_append_of_le_length (by omega), ← hl, List.drop_length, List.nil_append, List.drop_append_of_le_length (Nat.le_refl _), List.drop_length, List.nil_append]
theorem laid_app (t : BitVec 8) (c r : BL) : laidS t c ++ r = t :: (lenB c.length ++ (c ++ r)) := by rw [laidS_eq]; simp
theorem part_form {m r : BL} {l : WL} (h : partS m = .ok (l, r)) : m = laidS 2#8 (contS l) ++ r ∧ ¬ 4096 < blen (wnum l) ∧ fm l = l := by
  unfold partS at h
  split at h
  · cases h
  rename_i hd n hi
  obtain ⟨t, c, r', rfl, rfl, rfl, _⟩ := item_form hi
  obtain ⟨p1, p2⟩ := item_parts (t := t) (c := c) (r := r') rfl
  split at h
  · cases h
  rename_i ht
  rw [bat_cons_zero] at ht
  have ht : t = 2#8 := BitVec.eq_of_toNat_eq (by simpa using ht)
  subst ht
  rw [p1] at h
  split at h
  · cases h
  rename_i l' hn
  rw [p2] at h
  simp only [Except.ok.injEq, Prod.mk.injEq] at h
  obtain ⟨rfl, rfl⟩ := h
  obtain ⟨h1, h2, h3⟩ := num_form hn
  rw [h1, laid_app]
  exact ⟨rfl, h2, h3⟩
theorem part_of {l : WL} (r : BL) (h : ¬ 4096 < blen (wnum l)) : partS (laidS 2#8 (contS l) ++ r) = .ok (fm l, r) := by
  have hlen := (cont_len h).2
  rw [laid_app]
  unfold partS
  rw [item_of _ _ _ (by omega)]
  obtain ⟨p1, p2⟩ := item_parts (t := 2#8) (c := contS l) (r := r) rfl
  dsimp only
  rw [bat_cons_zero, if_neg (by decide), p1, num_of h, p2]
/-- what is read is the one form -/
theorem key_form {b : BL} {l1 l2 : WL} (h : keyS b = .ok (l1, l2)) : encL l1 l2 = b ∧ ¬ encBad l1 l2 ∧ fm l1 = l1 ∧ fm l2 = l2 := by
  unfold keyS at h
  split at h
  · cases h
  rename_i hd n hi
  obtain ⟨t, c, r, rfl, rfl, rfl, _⟩ := item_form hi
  obtain ⟨p1, p2⟩ := item_parts (t := t) (c := c) (r := r) rfl
  split at h
  · cases h
  rename_i ht
  rw [bat_cons_zero] at ht
  have ht : t = 48#8 := BitVec.eq_of_toNat_eq (by simpa using ht)
  subst ht
  split at h
  · cases h
  rename_i hlong
  have hr : r = [] := by
    cases r with
    | nil => rfl
    | cons x m => simp at hlong; omega
  subst hr
  rw [p1] at h
  unfold keyT at h
  split at h
  · cases h
  rename_i k1 r1 h1
  split at h
  · cases h
  rename_i k2 r2 h2
  split at h
  · cases h
  rename_i hr2
  simp only [Except.ok.injEq, Prod.mk.injEq] at h
  obtain ⟨rfl, rfl⟩ := h
  obtain ⟨e1, b1, f1⟩ := part_form h1
  obtain ⟨e2, b2, f2⟩ := part_form h2
  have hr0 : r2 = [] := by
    cases r2 with
    | nil => rfl
    | cons x m => simp at hr2
  subst hr0
  rw [List.append_nil] at e2
  subst e2
  refine ⟨?_, by unfold encBad; omega, f1, f2⟩
  unfold encL
  rw [← e1, laidS_eq, List.append_nil]
theorem body_len {l1 l2 : WL} (h : ¬ encBad l1 l2) : (laidS 2#8 (contS l1) ++ laidS 2#8 (contS l2)).length < 4294967296 := by
  simp only [encBad, not_or] at h
  have h1 := (cont_len h.1).2
  have h2 := (cont_len h.2).2
  have h3 := laidS_len 2#8 (contS l1)
  have h4 := laidS_len 2#8 (contS l2)
  have h5 := toB_lt (n := (contS l1).length) (by omega)
  have h6 := toB_lt (n := (contS l2).length) (by omega)
  rw [List.length_append]; omega
theorem enc_app (l1 l2 : WL) (r : BL) : encL l1 l2 ++ r = 48#8 :: (lenB (laidS 2#8 (contS l1) ++ laidS 2#8 (contS l2)).length ++ ((laidS 2#8 (contS l1) ++ laidS 2#8 (contS l2)) ++ r)) := by unfold encL; rw [laid_app]
theorem enc_more {l1 l2 : WL} (r : BL) (h : ¬ encBad l1 l2) : keyS (encL l1 l2 ++ r) = if 0 < r.length then .error 74 else .ok (fm l1, fm l2) := by
  rw [enc_app]
  unfold keyS
  rw [item_of _ _ _ (body_len h)]
  obtain ⟨p1, p2⟩ := item_parts (t := 48#8) (c := laidS 2#8 (contS l1) ++ laidS 2#8 (contS l2)) (r := r) rfl
  dsimp only
  rw [bat_cons_zero, if_neg (by decide), p1]
  by_cases hr : 0 < r.length
  · rw [if_pos hr, if_pos (by simp; omega)]
  rw [if_neg hr, if_neg (by simp; omega)]
  simp only [encBad, not_or] at h
  unfold keyT
  rw [part_of _ h.1]
  dsimp only
  have := part_of [] h.2
  rw [List.append_nil] at this
  rw [this]
  rfl
theorem enc_back {l1 l2 : WL} (h : ¬ encBad l1 l2) : keyS (encL l1 l2) = .ok (fm l1, fm l2) := by
  have := enc_more [] h
  rw [List.append_nil] at this
  exact this
theorem enc_short {l1 l2 : WL} {k : Nat} (h : ¬ encBad l1 l2) (hk : k < (encL l1 l2).length) : keyS ((encL l1 l2).take k) = .error 70 := by
  have e := enc_app l1 l2 []
  rw [List.append_nil] at e
  rw [e] at hk ⊢
  have := item_cut 48#8 _ [] k (body_len h) (Nat.le_of_lt hk)
  unfold keyS
  rw [this, if_pos (by simp at hk; simp; omega)]
end Go.Proofs.Ytccdlijohkljcaa

/- Layer 7: the first limbs of a list; a region with an allocation at any time. Conditions: none. -/
set_option linter.unusedSimpArgs false
set_option linter.unusedVariables false
set_option maxRecDepth 100000
namespace Go.Proofs.Ytccdlijohkljcaa
open Go
variable {G : Nat}
section
variable {Ext : FuncId → List Value → Mem → Outc → Mem → Prop}
theorem some_C (a1 : Option Addr) (c1 : Nat) (l : WL) (n : Nat) (S : Mem) (h1 : Slv S 1 (.slice a1 l.length c1) l.length (wv l)) (hn : n ≤ 1000000) :
    C Try.prog G Ext 31 [.slice a1 l.length c1, .int .i64 (n : Int)] S fun v S' => ∃ d : Hd, v = d.v ∧ RetW S S' d (l.take n) := by
  refine C.fn Try.func31 rfl (by kernel_rfl) rfl ?_
  repeat (first | refine W.seq ?_ | refine W.block ?_ | refine W.reg ?_ | refine W.skip ?_ | refine W.exit ?_ | refine W.ret ?_ | refine L.nil ?_ | refine L.p rfl rfl ?_ | refine L.skip rfl ?_)
  refine W.loop (fun j e S' => ∃ i a c, j = min l.length n - i ∧ i ≤ min l.length n ∧ Cons S S' ∧ e 0 = .slice a1 l.length c1 ∧ e 1 = vi n ∧ e 5 = .slice a i c ∧ e 6 = vi i ∧ Grow S.length S' 56 1 (.slice a i c) i (wv (l.take i))) (min l.length n) ⟨0, _, _, by omega, by omega, Cons.refl _, rfl, rfl, rfl, rfl, Grow.nil _ _ _ _⟩ ?_
  rintro j e S' ⟨i, a, c, rfl, hi, hc, e0, e1, e5, e6, hg⟩
  refine W.env4 e0 e1 e5 e6 ?_
  repeat (first | refine W.seq ?_ | refine W.block ?_ | refine W.reg ?_ | refine W.skip ?_ | refine W.exit ?_ | refine W.ret ?_ | refine L.nil ?_ | refine L.p rfl rfl ?_ | refine L.skip rfl ?_)
  have fin : (i = min l.length n) → ∃ d : Hd, Value.slice a i c = d.v ∧ RetW S S' d (l.take n) := fun hin => by
    obtain ⟨d, h2, h3, h4, h5⟩ := GrowF.hd (.inl hg) (by unfold UNK; omega)
    refine ⟨d, h2, hc, by rw [List.length_take]; omega, ?_, h5⟩
    have : l.take n = l.take i := by
      rcases Nat.le_total l.length n with h9 | h9
      · rw [List.take_of_length_le h9, List.take_of_length_le (by omega)]
      · rw [show i = n by omega]
    rw [this]; exact h4
  cases hq : decide ((i : Int) < (l.length : Int))
  · have hil := of_decide_eq_false hq
    repeat (first | refine W.seq ?_ | refine W.block ?_ | refine W.reg ?_ | refine W.skip ?_ | refine W.exit ?_ | refine W.ret ?_ | refine L.nil ?_ | refine L.p rfl rfl ?_ | refine L.skip rfl ?_)
    refine W.ite rfl (fun h => ?_) (fun h => ?_)
    · cases h
    repeat (first | refine W.seq ?_ | refine W.block ?_ | refine W.reg ?_ | refine W.skip ?_ | refine W.exit ?_ | refine W.ret ?_ | refine L.nil ?_ | refine L.p rfl rfl ?_ | refine L.skip rfl ?_)
    exact ⟨.inr rfl, _, rfl, fin (by omega)⟩
  have hil := of_decide_eq_true hq
  clear hq
  repeat (first | refine W.seq ?_ | refine W.block ?_ | refine W.reg ?_ | refine W.skip ?_ | refine W.exit ?_ | refine W.ret ?_ | refine L.nil ?_ | refine L.p rfl rfl ?_ | refine L.skip rfl ?_)
  refine W.ite rfl (fun h => ?_) (fun h => ?_)
  rotate_left
  · have hin := of_decide_eq_false h
    repeat (first | refine W.seq ?_ | refine W.block ?_ | refine W.reg ?_ | refine W.skip ?_ | refine W.exit ?_ | refine W.ret ?_ | refine L.nil ?_ | refine L.p rfl rfl ?_ | refine L.skip rfl ?_)
    exact ⟨.inr rfl, _, rfl, fin (by omega)⟩
  have hin := of_decide_eq_true h
  clear h fin
  repeat (first | refine W.seq ?_ | refine W.block ?_ | refine W.reg ?_ | refine W.skip ?_ | refine W.exit ?_ | refine W.ret ?_ | refine L.nil ?_ | refine L.p rfl rfl ?_ | refine L.skip rfl ?_)
  refine L.el (h1.cons hc) rfl (wv_get' l (by omega)) rfl rfl rfl rfl (fun _ => rfl) rfl (fun p => ?_)
  refine L.push1 rfl hc.len (.inl hg) rfl rfl rfl rfl rfl (by omega) rfl (fun _ => rfl) (fun p a c S1 h2 h3 h4 => ?_)
  repeat (first | refine W.seq ?_ | refine W.block ?_ | refine W.reg ?_ | refine W.skip ?_ | refine W.exit ?_ | refine W.ret ?_ | refine L.nil ?_ | refine L.p rfl rfl ?_ | refine L.skip rfl ?_)
  refine ⟨min l.length n - (i + 1), by omega, i + 1, a, c, rfl, by omega, hc.trans' h4, rfl, rfl, rfl, ?_, ?_⟩
  · refine (force_eq rfl).trans ?_
    rw [wrap64 (by omega) (by omega)]; rfl
  · rw [List.take_add_one, wv_app, List.getElem?_eq_getElem (by omega)]; exact h2
end
section
variable {P : Program} {Ext : FuncId → List Value → Mem → Outc → Mem → Prop} {Q : Xit → Env → Mem → List ADef → Prop} {e : Env} {S : Mem} {Ds : List ADef}
def Fact3 (P : Program) (G : Nat) (ops : Array Oper) (E : Nat → Env) (M : Nat → Mem) (V : Nat → Value) (j : Nat) (o : Oper) : Prop := awanted ops o (E j) = true ∧
    ((apure P o (E j).eval = some (V j) ∧ M (j + 1) = M j) ∨ (aload P o (E j).eval (M j) = some (V j) ∧ M (j + 1) = M j) ∨
     (OpSim P G o (E j) (M j) (V j) (M (j + 1)) ∧ 2 ≤ opKind P o ∧ (opKind P o = 2 → Cons (M j) (M (j + 1)))))
theorem Fact3.pure {ops : Array Oper} {E : Nat → Env} {M : Nat → Mem} {V : Nat → Value} {j : Nat} {o : Oper} (hw : awanted ops o (E j) = true) (h : apure P o (E j).eval = some (V j)) (hm : M (j + 1) = M j) : Fact3 P G ops E M V j o := ⟨hw, .inl ⟨h, hm⟩⟩
theorem Fact3.load {ops : Array Oper} {E : Nat → Env} {M : Nat → Mem} {V : Nat → Value} {j : Nat} {o : Oper} (hw : awanted ops o (E j) = true) (h : aload P o (E j).eval (M j) = some (V j)) (hm : M (j + 1) = M j) : Fact3 P G ops E M V j o := ⟨hw, .inr (.inl ⟨h, hm⟩)⟩
theorem Fact3.eff {ops : Array Oper} {E : Nat → Env} {M : Nat → Mem} {V : Nat → Value} {j : Nat} {o : Oper} (hw : awanted ops o (E j) = true) (h : aeff P o (E j).eval (M j) = some (V j, M (j + 1))) (hk : 2 ≤ opKind P o) (hc : opKind P o = 2 → Cons (M j) (M (j + 1))) : Fact3 P G ops E M V j o := ⟨hw, .inr (.inr ⟨sim_eff h, hk, hc⟩)⟩
theorem Fact3.call {ops : Array Oper} {E : Nat → Env} {M : Nat → Mem} {V : Nat → Value} {j : Nat} {o : Oper} {f : FuncId} {args : List Value} (hw : awanted ops o (E j) = true) (hc : acall o (E j).eval = some (f, args)) (h : CallSim P G f args (M j) (.ret (V j)) (M (j + 1))) (hk : opKind P o = 4) : Fact3 P G ops E M V j o :=
  ⟨hw, .inr (.inr ⟨sim_call hc h, by omega, fun h => by omega⟩)⟩
/-- a region that draws, with an allocation at any time, by its slots and memories -/
theorem DV.flt {id : Nat} {ops : Array Oper} {M : Nat → Mem} {V : Nat → Value} {A : Nat} {dA : Tmp} {tA ty : TypeId} {pos : String} {af : Array Edge} {z : Value} (ho : order3Ok P ops A = true) (hM0 : M 0 = S) (hf : AllOps (Fact3 P G ops (envAt ops V e) M V) 0 ops.toList) (hl : AllOps (Load2 P (envAt ops V e) M V) 0 ops.toList)
    (hA : ops[A]? = some ⟨some dA, .alloc tA, ty, pos, af, none⟩) (hz : zeroOf P tA = some z) (hVA : V A = .pointer (some ⟨(M A).length, 0, none⟩)) (hMA : M (A + 1) = M A ++ [newR z.cells.toList tA])
    (h : Q .nrm (envAt ops V e ops.size) (M ops.size) Ds) : DV P G Ext (.region id ops true) e S Ds Q := by
  refine ⟨_, _, _, _, .flt (A := A) (E := envAt ops V e) (M := M) (V := V) ho rfl hM0 rfl rfl (fun j o hj => ?_) (fun i o hi hk => ?_) hA hz hVA hMA, h⟩
  · have := hf.get j o (by simpa using hj)
    rw [Nat.zero_add] at this
    refine ⟨by simp only [envAt, hj, Option.bind_some], .inr ⟨this.1, ?_⟩⟩
    rcases this.2 with h1 | h1 | ⟨h1, h2, h3⟩
    · exact .inl h1
    · exact .inr (.inl h1)
    · exact .inr (.inr ⟨h1, h2, fun h => h.elim h3 (fun h => by cases h.2)⟩)
  · have := hl.get i o (by simpa using hi) hk
    rw [Nat.zero_add] at this
    obtain ⟨x, hx, b, ⟨off, he⟩, h1, h2, h3⟩ := this
    refine ⟨x, hx, b, fun ρ u hu => ?_, h1, h2, fun k _ _ _ _ => h3 k⟩
    rw [he] at hu
    cases hu with
    | ptr _ c h1 h2 h3 => exact ⟨_, h1⟩
end
end Go.Proofs.Ytccdlijohkljcaa

/- The law of items, walked. Conditions: none. -/
set_option linter.unusedSimpArgs false
set_option linter.unusedVariables false
set_option maxRecDepth 100000
set_option maxHeartbeats 4000000
namespace Go.Proofs.Ytccdlijohkljcaa
open Go
variable {G : Nat}

theorem itemV_four (b : BL) (i : Int) : ∃ t f o e : Int, itemV b i = .tuple #[.int .u8 t, .int .i64 f, .int .i64 o, .int .i64 e] := by
  unfold itemV
  split
  · exact ⟨_, _, _, _, rfl⟩
  · split
    · exact ⟨_, _, _, _, rfl⟩
    · exact ⟨_, _, _, _, rfl⟩
theorem intL_len (b : BL) : (intL b).length ≤ 64 := by
  unfold intL
  split
  · rename_i h; exact numS_len h
  · exact Nat.zero_le _
theorem items_C (a : Option Addr) (c : Nat) (l : BL) (i : Int) (S : Mem) (hs : Slv S 1 (.slice a l.length c) l.length (bv l)) (hcut : Cut l.length c) (hi : -9223372036854775808 ≤ i ∧ i ≤ 9223372036854775807) :
    C Try.prog G (Known Try.prog G) 7 [.slice a l.length c, .int .i64 i] S fun v S' => v = .bool true ∧ Cons S S' := by
  refine C.fn Try.func7 rfl (by kernel_rfl) rfl ?_
  repeat (first | refine W.seq ?_ | refine W.block ?_ | refine W.reg ?_ | refine W.skip ?_ | refine W.exit ?_ | refine W.ret ?_ | refine L.nil ?_ | refine L.p rfl rfl ?_ | refine L.skip rfl ?_)
  refine W.ite rfl (fun h => ?_) (fun h => ?_)
  · repeat (first | refine W.seq ?_ | refine W.block ?_ | refine W.reg ?_ | refine W.skip ?_ | refine W.exit ?_ | refine W.ret ?_ | refine L.nil ?_ | refine L.p rfl rfl ?_ | refine L.skip rfl ?_)
    exact ⟨.inr rfl, _, rfl, rfl, Cons.refl _⟩
  have hl : l.length ≤ 4096 := by simp at h; omega
  have hI : BIn S a c l := ⟨hs, hcut, by omega⟩
  clear h
  obtain ⟨t, f, o, e, hit⟩ := itemV_four l i
  have hil := intL_len l
  repeat (first | refine W.seq ?_ | refine W.block ?_ | refine W.reg ?_ | refine W.skip ?_ | refine W.exit ?_ | refine W.ret ?_ | refine L.nil ?_ | refine L.p rfl rfl ?_ | refine L.skip rfl ?_)
  refine L.cl (lent_C _ l S hI.1 (by omega)) rfl rfl ?_
  rintro _ M1 ⟨hc1, b, hb, rfl, hr1⟩
  refine ⟨nofun, ?_⟩
  have hI1 := BIn.lent hr1 (by simp [marks]) (by omega)
  have hbl := row_lt hr1
  repeat (first | refine W.seq ?_ | refine W.block ?_ | refine W.reg ?_ | refine W.skip ?_ | refine W.exit ?_ | refine W.ret ?_ | refine L.nil ?_ | refine L.p rfl rfl ?_ | refine L.skip rfl ?_)
  refine L.cl (itemPub_C _ _ l i M1 hI1 hi.1 hi.2) rfl rfl ?_
  rintro _ M2 ⟨rfl, hc2⟩
  refine ⟨nofun, ?_⟩
  rw [hit]
  repeat (first | refine W.seq ?_ | refine W.block ?_ | refine W.reg ?_ | refine W.skip ?_ | refine W.exit ?_ | refine W.ret ?_ | refine L.nil ?_ | refine L.p rfl rfl ?_ | refine L.skip rfl ?_)
  refine L.cl (integer_C _ _ l M2 (hI1.cons hc2)) rfl rfl ?_
  rintro _ M3 ⟨d, rfl, q⟩
  refine ⟨nofun, ?_⟩
  have hc3 := q.1
  have hc13 := hc2.trans hc3
  repeat (first | refine W.seq ?_ | refine W.block ?_ | refine W.reg ?_ | refine W.skip ?_ | refine W.exit ?_ | refine W.ret ?_ | refine L.nil ?_ | refine L.p rfl rfl ?_ | refine L.skip rfl ?_)
  refine L.cl (refItem_C a c l i M3 (hI.cons (hc1.trans hc13)) hi.1 hi.2) rfl rfl ?_
  rintro _ _ ⟨rfl, rfl⟩
  refine ⟨nofun, ?_⟩
  rw [hit]
  repeat (first | refine W.seq ?_ | refine W.block ?_ | refine W.reg ?_ | refine W.skip ?_ | refine W.exit ?_ | refine W.ret ?_ | refine L.nil ?_ | refine L.p rfl rfl ?_ | refine L.skip rfl ?_)
  refine L.cl (refInteger_C a c l _ (hI.cons (hc1.trans hc13))) rfl rfl ?_
  rintro _ M4 ⟨a4, c4, rfl, hc4, w4⟩
  refine ⟨nofun, ?_⟩
  repeat (first | refine W.seq ?_ | refine W.block ?_ | refine W.reg ?_ | refine W.skip ?_ | refine W.exit ?_ | refine W.ret ?_ | refine L.nil ?_ | refine L.p rfl rfl ?_ | refine L.skip rfl ?_)
  rw [show (t != t) = false from bne_self_eq_false _]
  repeat (first | refine W.seq ?_ | refine W.block ?_ | refine W.reg ?_ | refine W.skip ?_ | refine W.exit ?_ | refine W.ret ?_ | refine L.nil ?_ | refine L.p rfl rfl ?_ | refine L.skip rfl ?_)
  rw [show (f != f) = false from bne_self_eq_false _]
  repeat (first | refine W.seq ?_ | refine W.block ?_ | refine W.reg ?_ | refine W.skip ?_ | refine W.exit ?_ | refine W.ret ?_ | refine L.nil ?_ | refine L.p rfl rfl ?_ | refine L.skip rfl ?_)
  rw [show (o != o) = false from bne_self_eq_false _]
  repeat (first | refine W.seq ?_ | refine W.block ?_ | refine W.reg ?_ | refine W.skip ?_ | refine W.exit ?_ | refine W.ret ?_ | refine L.nil ?_ | refine L.p rfl rfl ?_ | refine L.skip rfl ?_)
  rw [show (e != e) = false from bne_self_eq_false _]
  repeat (first | refine W.seq ?_ | refine W.block ?_ | refine W.reg ?_ | refine W.skip ?_ | refine W.exit ?_ | refine W.ret ?_ | refine L.nil ?_ | refine L.p rfl rfl ?_ | refine L.skip rfl ?_)
  rw [show (intE l != intE l) = false from bne_self_eq_false _]
  repeat (first | refine W.seq ?_ | refine W.block ?_ | refine W.reg ?_ | refine W.skip ?_ | refine W.exit ?_ | refine W.ret ?_ | refine L.nil ?_ | refine L.p rfl rfl ?_ | refine L.skip rfl ?_)
  have s1 := q.hd hc4
  refine L.cl (sameW_C _ _ (intL l) (intL l) d.n _ M4 s1.1 w4.1 s1.2 w4.2.2.2) rfl rfl ?_
  rintro _ M5 ⟨rfl, hS⟩
  have hS := hS.symm
  subst hS
  refine ⟨nofun, ?_⟩
  rw [show (intL l == intL l) = true from beq_self_eq_true _]
  repeat (first | refine W.seq ?_ | refine W.block ?_ | refine W.reg ?_ | refine W.skip ?_ | refine W.exit ?_ | refine W.ret ?_ | refine L.nil ?_ | refine L.p rfl rfl ?_ | refine L.skip rfl ?_)
  refine W.ite rfl (fun h => ?_) (fun h => ?_)
  · cases h
  clear h
  repeat (first | refine W.seq ?_ | refine W.block ?_ | refine W.reg ?_ | refine W.skip ?_ | refine W.exit ?_ | refine W.ret ?_ | refine L.nil ?_ | refine L.p rfl rfl ?_ | refine L.skip rfl ?_)
  have hk35 := hc4
  have hk15 := hc13.trans hk35
  have hl2 := hc2.len
  refine L.eff (v := .pointer (some ⟨M4.length, 0, none⟩)) (S1 := M4 ++ [newR [.slice none 0 0, .slice none 0 0] 34]) rfl rfl ?_
  have hB0 := BK.new M4
  generalize M4 ++ [newR [.slice none 0 0, .slice none 0 0] 34] = N0 at *
  obtain ⟨rb, hrb⟩ : ∃ rb, rb = M4.length := ⟨_, rfl⟩
  rw [← hrb] at hB0 ⊢
  repeat (first | refine W.seq ?_ | refine W.block ?_ | refine W.reg ?_ | refine W.skip ?_ | refine W.exit ?_ | refine W.ret ?_ | refine L.nil ?_ | refine L.p rfl rfl ?_ | refine L.skip rfl ?_)
  refine L.cl (words_BK d hB0 (by decide)) rfl rfl ?_
  rintro _ N1 hB1
  refine ⟨nofun, ?_⟩
  repeat (first | refine W.seq ?_ | refine W.block ?_ | refine W.reg ?_ | refine W.skip ?_ | refine W.exit ?_ | refine W.ret ?_ | refine L.nil ?_ | refine L.p rfl rfl ?_ | refine L.skip rfl ?_)
  have u := q.2.2.1.cons hk35
  have z : ∀ x, d.a = some x → M2.length ≤ x := q.2.2.2
  have wl : (wv (intL l)).length ≤ 1000000000000 := by rw [wv_len]; omega
  refine L.cl (apart_BK hB1 ⟨by simp, by simp⟩ (.add u wl (.nil _ _)) (.nil _ _) (.add (fun x e hm => by simp [blks] at hm) .nil) .nil (by simp [blks])) rfl rfl ?_
  rintro _ N2 ⟨rfl, hk⟩
  refine ⟨nofun, ?_⟩
  have hN2 : Cons M1 N2 := hk.cons0 hk15 (fun x hm => by
    have hm : x ∈ blks [d] ++ blks [] := hm
    simp only [blks_nil, List.append_nil, mem_blks, List.not_mem_nil, or_false] at hm
    have := z x hm; omega)
  repeat (first | refine W.seq ?_ | refine W.block ?_ | refine W.reg ?_ | refine W.skip ?_ | refine W.exit ?_ | refine W.ret ?_ | refine L.nil ?_ | refine L.p rfl rfl ?_ | refine L.skip rfl ?_)
  refine L.cl (kept_C _ l b _ N2 (hN2.row' hr1) rfl rfl (hI.1.cons (hc1.trans hN2)) (by omega)) rfl rfl ?_
  rintro _ _ ⟨rfl, rfl⟩
  refine ⟨fun _ => Cons.refl _, ?_⟩
  repeat (first | refine W.seq ?_ | refine W.block ?_ | refine W.reg ?_ | refine W.skip ?_ | refine W.exit ?_ | refine W.ret ?_ | refine L.nil ?_ | refine L.p rfl rfl ?_ | refine L.skip rfl ?_)
  refine L.cl (works_C _) rfl rfl ?_
  rintro _ N3 ⟨rfl, hc⟩
  refine ⟨fun _ => hc, ?_⟩
  repeat (first | refine W.seq ?_ | refine W.block ?_ | refine W.reg ?_ | refine W.skip ?_ | refine W.exit ?_ | refine W.ret ?_ | refine L.nil ?_ | refine L.p rfl rfl ?_ | refine L.skip rfl ?_)
  exact ⟨.inr rfl, _, rfl, rfl, (hc1.trans hN2).trans hc⟩
end Go.Proofs.Ytccdlijohkljcaa

/- The greater and the lesser of two numbers. Conditions: none. -/
set_option linter.unusedSimpArgs false
set_option linter.unusedVariables false
namespace Go.Proofs.Ytccdlijohkljcaa
open Go
section
variable {P : Program} {G : Nat} {Ext : FuncId → List Value → Mem → Outc → Mem → Prop} {e : Env} {S : Mem} {fl : Bool} {ops : Array Oper} {K : Kont}
variable {rest : List Oper} {dst : Option Tmp} {ty : TypeId} {pos : String} {af : Array Edge} {gd : Option (Nat × Bool)}
theorem apure_max {x y : Operand} {ts : Array TypeId} {k k' : IntKind} {a b : Int} {ev : Operand → Value} (hx : ev x = .int k a) (hy : ev y = .int k' b) :
    apure P ⟨dst, .call ⟨.builtin .max, #[x, y], ts⟩, ty, pos, af, gd⟩ ev = some (.int k (if b > a then b else a)) := by
  have h : aflat P ⟨dst, .call ⟨.builtin .max, #[x, y], ts⟩, ty, pos, af, gd⟩ ev = some (.int k (if b > a then b else a)) := by
    unfold aflat
    rw [if_pos (by simp [Op.operands, Call.operands, hx, hy, flat, flat1, scalar])]
    have : pureRun P (execOp ev ⟨dst, .call ⟨.builtin .max, #[x, y], ts⟩, ty, pos, af, gd⟩) = some (.value (.int k (if b > a then b else a))) := by
      simp [execOp, resolve, hx, hy, pureRun_bind, invoke, builtin, Builtin.max_, Builtin.max2]
    rw [this]; rfl
  simp only [apure, h]
theorem apure_min {x y : Operand} {ts : Array TypeId} {k k' : IntKind} {a b : Int} {ev : Operand → Value} (hx : ev x = .int k a) (hy : ev y = .int k' b) :
    apure P ⟨dst, .call ⟨.builtin .min, #[x, y], ts⟩, ty, pos, af, gd⟩ ev = some (.int k (if b < a then b else a)) := by
  have h : aflat P ⟨dst, .call ⟨.builtin .min, #[x, y], ts⟩, ty, pos, af, gd⟩ ev = some (.int k (if b < a then b else a)) := by
    unfold aflat
    rw [if_pos (by simp [Op.operands, Call.operands, hx, hy, flat, flat1, scalar])]
    have : pureRun P (execOp ev ⟨dst, .call ⟨.builtin .min, #[x, y], ts⟩, ty, pos, af, gd⟩) = some (.value (.int k (if b < a then b else a))) := by
      simp [execOp, resolve, hx, hy, pureRun_bind, invoke, builtin, Builtin.min_, Builtin.min2]
    rw [this]; rfl
  simp only [apure, h]
theorem L.max {x y : Operand} {ts : Array TypeId} {k k' : IntKind} {a b c : Int} (hw : awanted ops ⟨dst, .call ⟨.builtin .max, #[x, y], ts⟩, ty, pos, af, gd⟩ e = true) (hx : e.eval x = .int k a) (hy : e.eval y = .int k' b) (hc : (if b > a then b else a) = c)
    (h : L P G Ext fl ops rest (e.put dst (.int k c)) S K) : L P G Ext fl ops (⟨dst, .call ⟨.builtin .max, #[x, y], ts⟩, ty, pos, af, gd⟩ :: rest) e S K := L.pure hw (hc ▸ apure_max hx hy) h
theorem L.min {x y : Operand} {ts : Array TypeId} {k k' : IntKind} {a b c : Int} (hw : awanted ops ⟨dst, .call ⟨.builtin .min, #[x, y], ts⟩, ty, pos, af, gd⟩ e = true) (hx : e.eval x = .int k a) (hy : e.eval y = .int k' b) (hc : (if b < a then b else a) = c)
    (h : L P G Ext fl ops rest (e.put dst (.int k c)) S K) : L P G Ext fl ops (⟨dst, .call ⟨.builtin .min, #[x, y], ts⟩, ty, pos, af, gd⟩ :: rest) e S K := L.pure hw (hc ▸ apure_min hx hy) h
end
end Go.Proofs.Ytccdlijohkljcaa

/- The law of where an item lies, walked. Conditions: none. -/
set_option linter.unusedSimpArgs false
set_option linter.unusedVariables false
set_option maxRecDepth 100000
set_option maxHeartbeats 4000000
namespace Go.Proofs.Ytccdlijohkljcaa
open Go
variable {G : Nat}

theorem item_grow {b : BL} {h n : Nat} (e : itemS b = .ok (h, n)) (r : BL) : itemS (b ++ r) = .ok (h, n) := by
  obtain ⟨t, c, r', rfl, rfl, rfl, hn⟩ := item_form e
  have : t :: (lenB c.length ++ (c ++ r')) ++ r = t :: (lenB c.length ++ (c ++ (r' ++ r))) := by simp
  rw [this, item_of _ _ _ hn]
theorem item_take {b : BL} {h n k : Nat} (e : itemS b = .ok (h, n)) (hk : k ≤ b.length) : itemS (b.take k) = if k < h + n then .error 70 else .ok (h, n) := by
  obtain ⟨t, c, r', rfl, rfl, rfl, hn⟩ := item_form e
  exact item_cut t c r' k hn hk
theorem pick_nat (i : Int) (n : Nat) : ∃ k : Nat, pick i ((n + 1 : Nat) : Int) = (k : Int) ∧ k ≤ n := by
  have hb := Int.tmod_lt_of_pos i (show (0 : Int) < ((n + 1 : Nat) : Int) by omega)
  have hb' := Int.lt_tmod_of_pos i (show (0 : Int) < ((n + 1 : Nat) : Int) by omega)
  unfold pick
  rw [if_neg (by omega)]
  split
  · exact ⟨(i.tmod ((n + 1 : Nat) : Int) + ((n + 1 : Nat) : Int)).toNat, by omega, by omega⟩
  · exact ⟨(i.tmod ((n + 1 : Nat) : Int)).toNat, by omega, by omega⟩
theorem lies_C (a : Option Addr) (c : Nat) (l : BL) (i : Int) (x : BitVec 8) (S : Mem) (hs : Slv S 1 (.slice a l.length c) l.length (bv l)) (hcut : Cut l.length c) :
    C Try.prog G (Known Try.prog G) 6 [.slice a l.length c, .int .i64 i, v8 x] S fun v S' => v = .bool true ∧ Cons S S' := by
  refine C.fn Try.func6 rfl (by kernel_rfl) rfl ?_
  repeat (first | refine W.seq ?_ | refine W.block ?_ | refine W.reg ?_ | refine W.skip ?_ | refine W.exit ?_ | refine W.ret ?_ | refine L.nil ?_ | refine L.p rfl rfl ?_ | refine L.skip rfl ?_)
  refine W.ite rfl (fun h => ?_) (fun h => ?_)
  · repeat (first | refine W.seq ?_ | refine W.block ?_ | refine W.reg ?_ | refine W.skip ?_ | refine W.exit ?_ | refine W.ret ?_ | refine L.nil ?_ | refine L.p rfl rfl ?_ | refine L.skip rfl ?_)
    exact ⟨.inr rfl, _, rfl, rfl, Cons.refl _⟩
  have hl : l.length ≤ 4096 := by simp at h; omega
  have hI : BIn S a c l := ⟨hs, hcut, by omega⟩
  clear h
  repeat (first | refine W.seq ?_ | refine W.block ?_ | refine W.reg ?_ | refine W.skip ?_ | refine W.exit ?_ | refine W.ret ?_ | refine L.nil ?_ | refine L.p rfl rfl ?_ | refine L.skip rfl ?_)
  rw [show IntKind.i64.wrap ((l.length : Int) + 1) = ((l.length + 1 : Nat) : Int) by rw [wrap64 (by omega) (by omega)]; omega]
  refine L.cl (pick_C i _ (by omega) S) rfl rfl ?_
  rintro _ _ ⟨rfl, rfl⟩
  refine ⟨nofun, ?_⟩
  obtain ⟨k, hk, hkl⟩ := pick_nat i l.length
  rw [hk]
  repeat (first | refine W.seq ?_ | refine W.block ?_ | refine W.reg ?_ | refine W.skip ?_ | refine W.exit ?_ | refine W.ret ?_ | refine L.nil ?_ | refine L.p rfl rfl ?_ | refine L.skip rfl ?_)
  rename_i S0
  refine L.cl (itemPub_C a c l k S0 hI (by omega) (by omega)) rfl rfl ?_
  rintro _ M1 ⟨rfl, hc1⟩
  refine ⟨nofun, ?_⟩
  cases hit : itemS (l.drop k) with
  | error e =>
    have hne := itemS_ne hit
    rw [← itemV_err hkl hit]
    repeat (first | refine W.seq ?_ | refine W.block ?_ | refine W.reg ?_ | refine W.skip ?_ | refine W.exit ?_ | refine W.ret ?_ | refine L.nil ?_ | refine L.p rfl rfl ?_ | refine L.skip rfl ?_)
    refine W.ite rfl (fun h => ?_) (fun h => ?_)
    rotate_left
    · simp at h; exact absurd h hne
    clear h
    repeat (first | refine W.seq ?_ | refine W.block ?_ | refine W.reg ?_ | refine W.skip ?_ | refine W.exit ?_ | refine W.ret ?_ | refine L.nil ?_ | refine L.p rfl rfl ?_ | refine L.skip rfl ?_)
    refine L.cl (works_C _) rfl rfl ?_
    rintro _ M2 ⟨rfl, hc2⟩
    refine ⟨nofun, ?_⟩
    repeat (first | refine W.seq ?_ | refine W.block ?_ | refine W.reg ?_ | refine W.skip ?_ | refine W.exit ?_ | refine W.ret ?_ | refine L.nil ?_ | refine L.p rfl rfl ?_ | refine L.skip rfl ?_)
    exact ⟨.inr rfl, _, rfl, rfl, hc1.trans hc2⟩
  | ok p =>
    obtain ⟨h, n⟩ := p
    obtain ⟨g1, g2, g3⟩ := itemS_ok hit
    rw [List.length_drop] at g3
    rw [itemV_ok hkl hit]
    obtain ⟨y, hy, hy'⟩ := bat_some (b := l) (i := k) (by omega)
    rw [hy']
    repeat (first | refine W.seq ?_ | refine W.block ?_ | refine W.reg ?_ | refine W.skip ?_ | refine W.exit ?_ | refine W.ret ?_ | refine L.nil ?_ | refine L.p rfl rfl ?_ | refine L.skip rfl ?_)
    refine W.ite rfl (fun h => ?_) (fun h => ?_)
    · cases h
    clear h
    repeat (first | refine W.seq ?_ | refine W.block ?_ | refine W.reg ?_ | refine W.skip ?_ | refine W.exit ?_ | refine W.ret ?_ | refine L.nil ?_ | refine L.p rfl rfl ?_ | refine L.skip rfl ?_)
    rw [show IntKind.i64.wrap ((k : Int) + 2) = ((k + 2 : Nat) : Int) by rw [wrap64 (by omega) (by omega)]; omega]
    rw [show decide ((k : Int) + h < ((k + 2 : Nat) : Int)) = false from decide_eq_false (by omega)]
    repeat (first | refine W.seq ?_ | refine W.block ?_ | refine W.reg ?_ | refine W.skip ?_ | refine W.exit ?_ | refine W.ret ?_ | refine L.nil ?_ | refine L.p rfl rfl ?_ | refine L.skip rfl ?_)
    rw [show IntKind.i64.wrap ((k : Int) + 6) = ((k + 6 : Nat) : Int) by rw [wrap64 (by omega) (by omega)]; omega]
    rw [show decide ((k : Int) + h > ((k + 6 : Nat) : Int)) = false from decide_eq_false (by omega)]
    repeat (first | refine W.seq ?_ | refine W.block ?_ | refine W.reg ?_ | refine W.skip ?_ | refine W.exit ?_ | refine W.ret ?_ | refine L.nil ?_ | refine L.p rfl rfl ?_ | refine L.skip rfl ?_)
    rw [show decide ((k : Int) + h + n < (k : Int) + h) = false from decide_eq_false (by omega)]
    repeat (first | refine W.seq ?_ | refine W.block ?_ | refine W.reg ?_ | refine W.skip ?_ | refine W.exit ?_ | refine W.ret ?_ | refine L.nil ?_ | refine L.p rfl rfl ?_ | refine L.skip rfl ?_)
    rw [show decide ((k : Int) + h + n > (l.length : Int)) = false from decide_eq_false (by omega)]
    repeat (first | refine W.seq ?_ | refine W.block ?_ | refine W.reg ?_ | refine W.skip ?_ | refine W.exit ?_ | refine W.ret ?_ | refine L.nil ?_ | refine L.p rfl rfl ?_ | refine L.skip rfl ?_)
    refine L.el (hs.cons hc1) (k := k) rfl (bv_get hy) rfl rfl rfl rfl (fun _ => rfl) rfl (fun p => ?_)
    repeat (first | refine W.seq ?_ | refine W.block ?_ | refine W.reg ?_ | refine W.skip ?_ | refine W.exit ?_ | refine W.ret ?_ | refine L.nil ?_ | refine L.p rfl rfl ?_ | refine L.skip rfl ?_)
    rw [show ((y.toNat : Int) != (y.toNat : Int)) = false from bne_self_eq_false _]
    repeat (first | refine W.seq ?_ | refine W.block ?_ | refine W.reg ?_ | refine W.skip ?_ | refine W.exit ?_ | refine W.ret ?_ | refine L.nil ?_ | refine L.p rfl rfl ?_ | refine L.skip rfl ?_)
    refine W.ite rfl (fun h => ?_) (fun h => ?_)
    · cases h
    clear h
    repeat (first | refine W.seq ?_ | refine W.block ?_ | refine W.reg ?_ | refine W.skip ?_ | refine W.exit ?_ | refine W.ret ?_ | refine L.nil ?_ | refine L.p rfl rfl ?_ | refine L.skip rfl ?_)
    refine L.appH rfl (HdOk.nil M1 5) rfl rfl (hs.cons hc1) (bv_one _) (by simp; omega) rfl rfl ?_
    rintro h1 M2 u1 u2 u3 u4
    repeat (first | refine W.seq ?_ | refine W.block ?_ | refine W.reg ?_ | refine W.skip ?_ | refine W.exit ?_ | refine W.ret ?_ | refine L.nil ?_ | refine L.p rfl rfl ?_ | refine L.skip rfl ?_)
    have kc2 : Cons M1 M2 := u4.nil
    have v1 : ∀ b, h1.a = some b → M1.length ≤ b := fun b e => by
      rcases u3 with ⟨u3, _⟩ | ⟨b', u3, u5⟩
      · rw [u3] at e; cases e
      · rw [u3] at e; cases e; exact u5
    refine L.bs (bv [x, x]) rfl rfl rfl rfl rfl rfl ?_
    have kc3 : Cons M1 (M2 ++ [newR (bv [x, x]) 5]) := kc2.pushr _
    have hx3 := BIn.fresh M2 [x, x] (by simp)
    have u1 := u1.cons (Cons.push M2 (newR (bv [x, x]) 5))
    generalize M2 ++ [newR (bv [x, x]) 5] = M3 at *
    generalize M2.length = r2 at *
    have u2' : h1.n = l.length := by rw [u2]; exact Nat.zero_add _
    refine L.appH (m := 2) rfl u1 rfl rfl hx3.1 (bv_one _) (by rw [u2']; omega) rfl rfl ?_
    rintro h2 M4 t1 t2 t3 t4
    have kc4 : Cons M1 M4 := t4.cons0 kc3 (fun b hb => by simp at hb; exact v1 b hb)
    have hlong : bv l ++ bv [x, x] = bv (l ++ [x, x]) := by rw [bv_app]
    rw [List.nil_append, hlong] at t1
    have hh2 := t1.bin (by simp; omega)
    have hkc := hc1.trans kc4
    repeat (first | refine W.seq ?_ | refine W.block ?_ | refine W.reg ?_ | refine W.skip ?_ | refine W.exit ?_ | refine W.ret ?_ | refine L.nil ?_ | refine L.p rfl rfl ?_ | refine L.skip rfl ?_)
    refine L.cl (itemPub_C h2.ad h2.c (l ++ [x, x]) k M4 hh2.1 (by omega) (by omega)) rfl (acall_eq (list2 hh2.2 rfl)) ?_
    rintro _ M5 ⟨rfl, hc5⟩
    refine ⟨nofun, ?_⟩
    rw [itemV_ok (b := l ++ [x, x]) (k := k) (f := h) (n := n) (by simp; omega) (by rw [List.drop_append_of_le_length hkl]; exact item_grow hit _), bat_app (by omega), hy']
    have hcast : ((k : Int) + h + n) = ((k + h + n : Nat) : Int) := by omega
    rw [hcast]
    repeat (first | refine W.seq ?_ | refine W.block ?_ | refine W.reg ?_ | refine W.skip ?_ | refine W.exit ?_ | refine W.ret ?_ | refine L.nil ?_ | refine L.p rfl rfl ?_ | refine L.skip rfl ?_)
    have hI5 := hI.cons (hkc.trans hc5)
    obtain ⟨a5, c5, q1, q2⟩ := hI5.partT (k := k) (h := k + h + n) (lo := some (.int .i64 (k : Int))) (hi := some (.int .i64 ((k + h + n : Nat) : Int))) (.inr ⟨.i64, rfl⟩) (.inr ⟨.i64, rfl⟩) (by omega) (by omega)
    obtain ⟨x5, hx5⟩ : ∃ x5, x5 = (l.drop k).take (k + h + n - k) := ⟨_, rfl⟩
    rw [← hx5] at q1 q2
    refine L.is (.slice a5 x5.length c5) ((slice_at0 rfl rfl rfl).trans q1) rfl ?_
    refine L.cl (itemPub_C a5 c5 x5 0 M5 (q2 _ hI5) (by decide) (by decide)) rfl rfl ?_
    rintro _ M6 ⟨rfl, hc6⟩
    refine ⟨nofun, ?_⟩
    have hx5i : itemS x5 = .ok (h, n) := by
      rw [hx5, show k + h + n - k = h + n by omega, item_take hit (by rw [List.length_drop]; omega), if_neg (Nat.lt_irrefl _)]
    have hx5b : bat x5 0 = y.toNat := by rw [hx5, bat_take (by omega), bat_drop]; exact hy'
    rw [show itemV x5 0 = .tuple #[.int .u8 (bat x5 0), .int .i64 (((0 : Nat) : Int) + h), .int .i64 (((0 : Nat) : Int) + h + n), .int .i64 0] from itemV_ok (k := 0) (Nat.zero_le _) hx5i, hx5b]
    repeat (first | refine W.seq ?_ | refine W.block ?_ | refine W.reg ?_ | refine W.skip ?_ | refine W.exit ?_ | refine W.ret ?_ | refine L.nil ?_ | refine L.p rfl rfl ?_ | refine L.skip rfl ?_)
    rw [show IntKind.i64.wrap (((k + h + n : Nat) : Int) - 1) = ((k + h + n - 1 : Nat) : Int) by rw [wrap64 (by omega) (by omega)]; omega]
    repeat (first | refine W.seq ?_ | refine W.block ?_ | refine W.reg ?_ | refine W.skip ?_ | refine W.exit ?_ | refine W.ret ?_ | refine L.nil ?_ | refine L.p rfl rfl ?_ | refine L.skip rfl ?_)
    refine L.max (c := ((k + h + n - 1 : Nat) : Int)) rfl rfl rfl (by split <;> omega) ?_
    have hI6 := hI5.cons hc6
    obtain ⟨a6, c6, q3, q4⟩ := hI6.partT (k := 0) (h := k + h + n - 1) (lo := none) (hi := some (.int .i64 ((k + h + n - 1 : Nat) : Int))) (.inl ⟨rfl, rfl⟩) (.inr ⟨.i64, rfl⟩) (by omega) (by omega)
    rw [List.drop_zero, Nat.sub_zero] at q3 q4
    obtain ⟨x6, hx6⟩ : ∃ x6, x6 = l.take (k + h + n - 1) := ⟨_, rfl⟩
    rw [← hx6] at q3 q4
    refine L.is (.slice a6 x6.length c6) ((slice_at0 rfl rfl rfl).trans q3) rfl ?_
    repeat (first | refine W.seq ?_ | refine W.block ?_ | refine W.reg ?_ | refine W.skip ?_ | refine W.exit ?_ | refine W.ret ?_ | refine L.nil ?_ | refine L.p rfl rfl ?_ | refine L.skip rfl ?_)
    refine L.cl (itemPub_C a6 c6 x6 k M6 (q4 _ hI6) (by omega) (by omega)) rfl rfl ?_
    rintro _ M7 ⟨rfl, hc7⟩
    refine ⟨nofun, ?_⟩
    have hx6l : x6.length = k + h + n - 1 := by rw [hx6, List.length_take]; omega
    have hx6i : itemS (x6.drop k) = .error 70 := by
      rw [hx6, List.drop_take, item_take hit (by rw [List.length_drop]; omega), if_pos (by omega)]
    rw [← itemV_err (by omega) hx6i]
    repeat (first | refine W.seq ?_ | refine W.block ?_ | refine W.reg ?_ | refine W.skip ?_ | refine W.exit ?_ | refine W.ret ?_ | refine L.nil ?_ | refine L.p rfl rfl ?_ | refine L.skip rfl ?_)
    rw [show ((y.toNat : Int) == (y.toNat : Int)) = true from beq_self_eq_true _]
    repeat (first | refine W.seq ?_ | refine W.block ?_ | refine W.reg ?_ | refine W.skip ?_ | refine W.exit ?_ | refine W.ret ?_ | refine L.nil ?_ | refine L.p rfl rfl ?_ | refine L.skip rfl ?_)
    rw [show (((k : Int) + h) == ((k : Int) + h)) = true from beq_self_eq_true _]
    repeat (first | refine W.seq ?_ | refine W.block ?_ | refine W.reg ?_ | refine W.skip ?_ | refine W.exit ?_ | refine W.ret ?_ | refine L.nil ?_ | refine L.p rfl rfl ?_ | refine L.skip rfl ?_)
    rw [show (((k + h + n : Nat) : Int) == ((k + h + n : Nat) : Int)) = true from beq_self_eq_true _]
    repeat (first | refine W.seq ?_ | refine W.block ?_ | refine W.reg ?_ | refine W.skip ?_ | refine W.exit ?_ | refine W.ret ?_ | refine L.nil ?_ | refine L.p rfl rfl ?_ | refine L.skip rfl ?_)
    rw [show ((y.toNat : Int) == (y.toNat : Int)) = true from beq_self_eq_true _]
    repeat (first | refine W.seq ?_ | refine W.block ?_ | refine W.reg ?_ | refine W.skip ?_ | refine W.exit ?_ | refine W.ret ?_ | refine L.nil ?_ | refine L.p rfl rfl ?_ | refine L.skip rfl ?_)
    rw [show IntKind.i64.wrap ((k : Int) + h - k) = ((0 : Nat) : Int) + h by rw [wrap64 (by omega) (by omega)]; omega, show ((((0 : Nat) : Int) + h) == (((0 : Nat) : Int) + h)) = true from beq_self_eq_true _]
    repeat (first | refine W.seq ?_ | refine W.block ?_ | refine W.reg ?_ | refine W.skip ?_ | refine W.exit ?_ | refine W.ret ?_ | refine L.nil ?_ | refine L.p rfl rfl ?_ | refine L.skip rfl ?_)
    rw [show IntKind.i64.wrap (((k + h + n : Nat) : Int) - k) = ((0 : Nat) : Int) + h + n by rw [wrap64 (by omega) (by omega)]; omega, show ((((0 : Nat) : Int) + h + n) == (((0 : Nat) : Int) + h + n)) = true from beq_self_eq_true _]
    repeat (first | refine W.seq ?_ | refine W.block ?_ | refine W.reg ?_ | refine W.skip ?_ | refine W.exit ?_ | refine W.ret ?_ | refine L.nil ?_ | refine L.p rfl rfl ?_ | refine L.skip rfl ?_)
    refine L.cl (works_C _) rfl rfl ?_
    rintro _ M8 ⟨rfl, hc8⟩
    refine ⟨nofun, ?_⟩
    repeat (first | refine W.seq ?_ | refine W.block ?_ | refine W.reg ?_ | refine W.skip ?_ | refine W.exit ?_ | refine W.ret ?_ | refine L.nil ?_ | refine L.p rfl rfl ?_ | refine L.skip rfl ?_)
    exact ⟨.inr rfl, _, rfl, rfl, (((hkc.trans hc5).trans hc6).trans hc7).trans hc8⟩
end Go.Proofs.Ytccdlijohkljcaa

/- The law of telling, walked. Conditions: none. -/
set_option linter.unusedSimpArgs false
set_option linter.unusedVariables false
set_option maxRecDepth 100000
set_option maxHeartbeats 4000000
namespace Go.Proofs.Ytccdlijohkljcaa
open Go
variable {G : Nat}

/-- what is told, where an error tells nothing -/
def encB (l1 l2 : WL) : BL := if encBad l1 l2 then [] else encL l1 l2
def encE (l1 l2 : WL) : Int := if encBad l1 l2 then 3 else 0
theorem laid_le (t : BitVec 8) (l : BL) (h : l.length < 1099511627776) : (laidS t l).length ≤ l.length + 7 := by
  rw [laidS_eq]
  have := lenB_len h
  simp only [List.length_cons, List.length_append]; omega
theorem encB_len (l1 l2 : WL) : (encB l1 l2).length ≤ 2000 := by
  unfold encB
  split
  · exact Nat.zero_le _
  · rename_i h
    simp only [encBad, not_or] at h
    have h1 := (cont_len h.1).2
    have h2 := (cont_len h.2).2
    have h3 := laid_le 2#8 (contS l1) (by omega)
    have h4 := laid_le 2#8 (contS l2) (by omega)
    have h5 := laid_le 48#8 (laidS 2#8 (contS l1) ++ laidS 2#8 (contS l2)) (by rw [List.length_append]; omega)
    rw [List.length_append] at h5
    unfold encL; omega
theorem EncR.two {S S' : Mem} {l1 l2 : WL} {v : Value} (h : EncR S l1 l2 v S') : ∃ d : Hd, v = .tuple #[d.v, .int .i64 (encE l1 l2)] ∧ RetB S S' d (encB l1 l2) := by
  unfold EncR at h
  unfold encE encB
  split at h
  · rename_i hb
    obtain ⟨rfl, hc⟩ := h
    rw [if_pos hb, if_pos hb]
    exact ⟨Hd0, rfl, RetB.nil hc⟩
  · rename_i hb
    rw [if_neg hb, if_neg hb]
    exact h
theorem RefEnc.two {S S' : Mem} {l1 l2 : WL} {v : Value} (h : RefEnc S l1 l2 v S') : ∃ a c, v = .tuple #[.slice a (encB l1 l2).length c, .int .i64 (encE l1 l2)] ∧ Cons S S' ∧ Slv S' 1 (.slice a (encB l1 l2).length c) (encB l1 l2).length (bv (encB l1 l2)) := by
  unfold RefEnc at h
  unfold encE encB
  split at h
  · rename_i hb
    obtain ⟨rfl, hc⟩ := h
    rw [if_pos hb, if_pos hb]
    exact ⟨none, 0, rfl, hc, rfl, _, _, rfl, .inl rfl⟩
  · rename_i hb
    rw [if_neg hb, if_neg hb]
    obtain ⟨a, c, rfl, hc, hI⟩ := h
    exact ⟨a, c, rfl, hc, hI.1⟩
theorem RetB.hd {S S' T : Mem} {d : Hd} {l : BL} (h : RetB S S' d l) (k : Cons S' T) : Slv T 1 (.slice d.ad d.n d.c) d.n (bv l) ∧ d.n < 1099511627776 := by
  have hh := h.2.2.1.cons k
  have hn := hh.len
  rw [bv_len] at hn
  exact ⟨hh.slv, hn ▸ h.2.1⟩
theorem LentW.win {S : Mem} {b : Nat} {l : WL} (h : LentW S b l) (hl : l.length < 1099511627776) : WIn S (some ⟨b, 0, none⟩) (UNK + (l.length + 16)) l :=
  ⟨h.slv, by rw [knownCap_unk]; omega, nofun, hl⟩
theorem LentW.cons {S T : Mem} {b : Nat} {l : WL} (h : LentW S b l) (k : Cons S T) : LentW T b l := k.row' h
theorem tells_C (a1 a2 : Option Addr) (c1 c2 : Nat) (l1 l2 : WL) (S : Mem) (hs1 : Slv S 1 (.slice a1 l1.length c1) l1.length (wv l1)) (hs2 : Slv S 1 (.slice a2 l2.length c2) l2.length (wv l2))
    (hk1 : l1.length ≤ knownCap c1) (hk2 : l2.length ≤ knownCap c2) (hn1 : a1 = none → c1 = 0) (hn2 : a2 = none → c2 = 0) :
    C Try.prog G (Known Try.prog G) 4 [keyV (.slice a1 l1.length c1) (.slice a2 l2.length c2)] S fun v S' => v = .bool true ∧ Cons S S' := by
  refine C.fn Try.func4 rfl (by kernel_rfl) rfl ?_
  repeat (first | refine W.seq ?_ | refine W.block ?_ | refine W.reg ?_ | refine W.skip ?_ | refine W.exit ?_ | refine W.ret ?_ | refine L.nil ?_ | refine L.p rfl rfl ?_ | refine L.skip rfl ?_)
  refine L.eff (v := .pointer (some ⟨S.length, 0, none⟩)) (S1 := S ++ [keyR (.slice a1 l1.length c1) (.slice a2 l2.length c2)]) rfl rfl ?_
  have hC0 : Cons S (S ++ [keyR (.slice a1 l1.length c1) (.slice a2 l2.length c2)]) := Cons.push _ _
  have hr : Mem.row? (S ++ [keyR (.slice a1 l1.length c1) (.slice a2 l2.length c2)]) S.length = some (keyR (.slice a1 l1.length c1) (.slice a2 l2.length c2)) := row_push_new rfl
  generalize S ++ [keyR (.slice a1 l1.length c1) (.slice a2 l2.length c2)] = M0 at *
  obtain ⟨r0, hr0⟩ : ∃ r, r = S.length := ⟨_, rfl⟩
  rw [← hr0] at hr ⊢
  repeat (first | refine W.seq ?_ | refine W.block ?_ | refine W.reg ?_ | refine W.skip ?_ | refine W.exit ?_ | refine W.ret ?_ | refine L.nil ?_ | refine L.p rfl rfl ?_ | refine L.skip rfl ?_)
  refine L.ld (a := ⟨r0, 0, none⟩) (cell_of (o := 0) hr rfl (.inl rfl)) rfl rfl rfl ?_
  repeat (first | refine W.seq ?_ | refine W.block ?_ | refine W.reg ?_ | refine W.skip ?_ | refine W.exit ?_ | refine W.ret ?_ | refine L.nil ?_ | refine L.p rfl rfl ?_ | refine L.skip rfl ?_)
  cases hq : decide ((l1.length : Int) > 200)
  rotate_left
  · repeat (first | refine W.seq ?_ | refine W.block ?_ | refine W.reg ?_ | refine W.skip ?_ | refine W.exit ?_ | refine W.ret ?_ | refine L.nil ?_ | refine L.p rfl rfl ?_ | refine L.skip rfl ?_)
    refine W.ite rfl (fun h => ?_) (fun h => ?_)
    rotate_left
    · cases h
    repeat (first | refine W.seq ?_ | refine W.block ?_ | refine W.reg ?_ | refine W.skip ?_ | refine W.exit ?_ | refine W.ret ?_ | refine L.nil ?_ | refine L.p rfl rfl ?_ | refine L.skip rfl ?_)
    exact ⟨.inr rfl, _, rfl, rfl, hC0⟩
  have hl1 : l1.length ≤ 200 := by have := of_decide_eq_false hq; omega
  clear hq
  repeat (first | refine W.seq ?_ | refine W.block ?_ | refine W.reg ?_ | refine W.skip ?_ | refine W.exit ?_ | refine W.ret ?_ | refine L.nil ?_ | refine L.p rfl rfl ?_ | refine L.skip rfl ?_)
  refine L.ld (a := ⟨r0, 1, none⟩) (cell_of (o := 1) hr rfl (.inl rfl)) rfl rfl rfl ?_
  repeat (first | refine W.seq ?_ | refine W.block ?_ | refine W.reg ?_ | refine W.skip ?_ | refine W.exit ?_ | refine W.ret ?_ | refine L.nil ?_ | refine L.p rfl rfl ?_ | refine L.skip rfl ?_)
  refine W.ite rfl (fun h => ?_) (fun h => ?_)
  · repeat (first | refine W.seq ?_ | refine W.block ?_ | refine W.reg ?_ | refine W.skip ?_ | refine W.exit ?_ | refine W.ret ?_ | refine L.nil ?_ | refine L.p rfl rfl ?_ | refine L.skip rfl ?_)
    exact ⟨.inr rfl, _, rfl, rfl, hC0⟩
  have hl2 : l2.length ≤ 200 := by have := of_decide_eq_false h; omega
  clear h
  have w1 : WIn M0 a1 c1 l1 := ⟨hs1.cons hC0, hk1, hn1, by omega⟩
  have w2 : WIn M0 a2 c2 l2 := ⟨hs2.cons hC0, hk2, hn2, by omega⟩
  repeat (first | refine W.seq ?_ | refine W.block ?_ | refine W.reg ?_ | refine W.skip ?_ | refine W.exit ?_ | refine W.ret ?_ | refine L.nil ?_ | refine L.p rfl rfl ?_ | refine L.skip rfl ?_)
  refine L.ldA (a := ⟨r0, 0, none⟩) (key_load hr) rfl rfl rfl ?_
  refine L.cl (lentKey_C _ _ l1 l2 M0 w1.1 w2.1 (by omega) (by omega)) rfl rfl ?_
  rintro _ M1 ⟨hc1, b1, b2, rfl, hb1, hb2, hb12, hL1, hL2⟩
  refine ⟨nofun, ?_⟩
  repeat (first | refine W.seq ?_ | refine W.block ?_ | refine W.reg ?_ | refine W.skip ?_ | refine W.exit ?_ | refine W.ret ?_ | refine L.nil ?_ | refine L.p rfl rfl ?_ | refine L.skip rfl ?_)
  refine L.eff (v := .pointer (some ⟨M1.length, 0, none⟩)) (S1 := M1 ++ [newR [nilV, nilV] 26]) rfl rfl ?_
  refine L.st (ad := ⟨M1.length, 0, none⟩) (vs := [lentV b1 l1, lentV b2 l2]) (key_write M1 _ _ rfl rfl) rfl rfl rfl rfl ?_
  have hr2 : Mem.row? (M1 ++ [keyR (lentV b1 l1) (lentV b2 l2)]) M1.length = some (keyR (lentV b1 l1) (lentV b2 l2)) := row_push_new rfl
  have hk2' : Cons M1 (M1 ++ [keyR (lentV b1 l1) (lentV b2 l2)]) := Cons.push _ _
  generalize M1 ++ [keyR (lentV b1 l1) (lentV b2 l2)] = M2 at *
  obtain ⟨r2, hr2'⟩ : ∃ r, r = M1.length := ⟨_, rfl⟩
  rw [← hr2'] at hr2 ⊢
  have hL1 := hL1.cons hk2'
  have hL2 := hL2.cons hk2'
  have hb1l := row_lt hL1
  have hb2l := row_lt hL2
  repeat (first | refine W.seq ?_ | refine W.block ?_ | refine W.reg ?_ | refine W.skip ?_ | refine W.exit ?_ | refine W.ret ?_ | refine L.nil ?_ | refine L.p rfl rfl ?_ | refine L.skip rfl ?_)
  refine L.ldA (a := ⟨r2, 0, none⟩) (key_load hr2) rfl rfl rfl ?_
  refine L.cl (encode_C _ _ _ _ l1 l2 M2 (hL1.win (by omega)) (hL2.win (by omega))) rfl rfl ?_
  rintro _ M3 hR
  obtain ⟨d1, rfl, q1⟩ := hR.two
  refine ⟨nofun, ?_⟩
  have hc3 := q1.1
  repeat (first | refine W.seq ?_ | refine W.block ?_ | refine W.reg ?_ | refine W.skip ?_ | refine W.exit ?_ | refine W.ret ?_ | refine L.nil ?_ | refine L.p rfl rfl ?_ | refine L.skip rfl ?_)
  refine L.ldA (a := ⟨r2, 0, none⟩) (key_load (hc3.row' hr2)) rfl rfl rfl ?_
  refine L.cl (encode_C _ _ _ _ l1 l2 M3 ((hL1.cons hc3).win (by omega)) ((hL2.cons hc3).win (by omega))) rfl rfl ?_
  rintro _ M4 hR
  obtain ⟨d2, rfl, q2⟩ := hR.two
  refine ⟨nofun, ?_⟩
  have hc4 := q2.1
  have hc04 := ((hc1.trans hk2').trans hc3).trans hc4
  repeat (first | refine W.seq ?_ | refine W.block ?_ | refine W.reg ?_ | refine W.skip ?_ | refine W.exit ?_ | refine W.ret ?_ | refine L.nil ?_ | refine L.p rfl rfl ?_ | refine L.skip rfl ?_)
  refine L.ldA (a := ⟨r0, 0, none⟩) (key_load (hc04.row' hr)) rfl rfl rfl ?_
  refine L.cl (refEncode_C a1 a2 c1 c2 l1 l2 M4 (w1.cons hc04) (w2.cons hc04) (by omega) (by omega)) rfl rfl ?_
  rintro _ M5 hR
  obtain ⟨a5, c5, rfl, hc5, s5⟩ := hR.two
  refine ⟨nofun, ?_⟩
  have hel := encB_len l1 l2
  repeat (first | refine W.seq ?_ | refine W.block ?_ | refine W.reg ?_ | refine W.skip ?_ | refine W.exit ?_ | refine W.ret ?_ | refine L.nil ?_ | refine L.p rfl rfl ?_ | refine L.skip rfl ?_)
  rw [show (encE l1 l2 != encE l1 l2) = false from bne_self_eq_false _]
  repeat (first | refine W.seq ?_ | refine W.block ?_ | refine W.reg ?_ | refine W.skip ?_ | refine W.exit ?_ | refine W.ret ?_ | refine L.nil ?_ | refine L.p rfl rfl ?_ | refine L.skip rfl ?_)
  rw [show (encE l1 l2 != encE l1 l2) = false from bne_self_eq_false _]
  repeat (first | refine W.seq ?_ | refine W.block ?_ | refine W.reg ?_ | refine W.skip ?_ | refine W.exit ?_ | refine W.ret ?_ | refine L.nil ?_ | refine L.p rfl rfl ?_ | refine L.skip rfl ?_)
  have t1 := q1.hd (hc4.trans hc5)
  have t2 := q2.hd hc5
  refine L.cl (same_C _ _ (encB l1 l2) (encB l1 l2) d1.n _ M5 t1.1 s5 t1.2 (by omega)) rfl rfl ?_
  rintro _ _ ⟨rfl, rfl⟩
  refine ⟨nofun, ?_⟩
  rw [show (encB l1 l2 == encB l1 l2) = true from beq_self_eq_true _]
  repeat (first | refine W.seq ?_ | refine W.block ?_ | refine W.reg ?_ | refine W.skip ?_ | refine W.exit ?_ | refine W.ret ?_ | refine L.nil ?_ | refine L.p rfl rfl ?_ | refine L.skip rfl ?_)
  refine L.cl (same_C _ _ (encB l1 l2) (encB l1 l2) d2.n _ _ t2.1 s5 t2.2 (by omega)) rfl rfl ?_
  rintro _ _ ⟨rfl, rfl⟩
  refine ⟨nofun, ?_⟩
  rw [show (encB l1 l2 == encB l1 l2) = true from beq_self_eq_true _]
  repeat (first | refine W.seq ?_ | refine W.block ?_ | refine W.reg ?_ | refine W.skip ?_ | refine W.exit ?_ | refine W.ret ?_ | refine L.nil ?_ | refine L.p rfl rfl ?_ | refine L.skip rfl ?_)
  refine W.ite rfl (fun h => ?_) (fun h => ?_)
  · cases h
  clear h
  rename_i M5
  have hk25 := (hc3.trans hc4).trans hc5
  have hk05 := hc04.trans hc5
  have hk15 := hk2'.trans hk25
  have hl3 := hc3.len
  repeat (first | refine W.seq ?_ | refine W.block ?_ | refine W.reg ?_ | refine W.skip ?_ | refine W.exit ?_ | refine W.ret ?_ | refine L.nil ?_ | refine L.p rfl rfl ?_ | refine L.skip rfl ?_)
  refine L.eff (v := .pointer (some ⟨M5.length, 0, none⟩)) (S1 := M5 ++ [newR [.slice none 0 0, .slice none 0 0] 34]) rfl rfl ?_
  have hB0 := BK.new M5
  generalize M5 ++ [newR [.slice none 0 0, .slice none 0 0] 34] = N0 at *
  obtain ⟨rb, hrb⟩ : ∃ rb, rb = M5.length := ⟨_, rfl⟩
  rw [← hrb] at hB0 ⊢
  repeat (first | refine W.seq ?_ | refine W.block ?_ | refine W.reg ?_ | refine W.skip ?_ | refine W.exit ?_ | refine W.ret ?_ | refine L.nil ?_ | refine L.p rfl rfl ?_ | refine L.skip rfl ?_)
  refine L.cl (bytes_BK d1 hB0 (by decide)) rfl rfl ?_
  rintro _ N1 hB1
  refine ⟨nofun, ?_⟩
  repeat (first | refine W.seq ?_ | refine W.block ?_ | refine W.reg ?_ | refine W.skip ?_ | refine W.exit ?_ | refine W.ret ?_ | refine L.nil ?_ | refine L.p rfl rfl ?_ | refine L.skip rfl ?_)
  refine L.cl (bytes_BK d2 hB1 (by simp)) rfl rfl ?_
  rintro _ N2 hB2
  refine ⟨nofun, ?_⟩
  repeat (first | refine W.seq ?_ | refine W.block ?_ | refine W.reg ?_ | refine W.skip ?_ | refine W.exit ?_ | refine W.ret ?_ | refine L.nil ?_ | refine L.p rfl rfl ?_ | refine L.skip rfl ?_)
  have u1 := q1.2.2.1.cons (hc4.trans hc5)
  have u2 := q2.2.2.1.cons hc5
  have z1 : ∀ x, d1.a = some x → M2.length ≤ x ∧ x < M3.length := fun x e => ⟨q1.2.2.2 x e, q1.2.2.1.lt e⟩
  have z2 : ∀ x, d2.a = some x → M3.length ≤ x := q2.2.2.2
  have wl : (bv (encB l1 l2)).length ≤ 1000000000000 := by rw [bv_len]; omega
  refine L.cl (apart_BK hB2 ⟨by simp, by simp⟩ (.nil _ _) (.add u1 wl (.add u2 wl (.nil _ _))) .nil (.add (fun x e hm => ?_) (.add (fun x e hm => by simp [blks] at hm) .nil)) (by simp [blks])) rfl rfl ?_
  · have hm : x ∈ blks [d2] := hm
    simp only [mem_blks, blks_nil, List.not_mem_nil, or_false] at hm
    have := z2 x hm; have := z1 x e; omega
  rintro _ N3 ⟨rfl, hk⟩
  refine ⟨nofun, ?_⟩
  have hbk : ∀ x ∈ blks ([] : List Hd) ++ blks [d1, d2], M2.length ≤ x := fun x hm => by
    simp only [blks_nil, List.nil_append, mem_blks, List.not_mem_nil, or_false] at hm
    rcases hm with hm | hm
    · exact (z1 x hm).1
    · have := z2 x hm; omega
  have hN2 : Cons M2 N3 := hk.cons0 hk25 hbk
  have hN0 : Cons M0 N3 := (hc1.trans hk2').trans hN2
  repeat (first | refine W.seq ?_ | refine W.block ?_ | refine W.reg ?_ | refine W.skip ?_ | refine W.exit ?_ | refine W.ret ?_ | refine L.nil ?_ | refine L.p rfl rfl ?_ | refine L.skip rfl ?_)
  refine L.ldA (a := ⟨r2, 0, none⟩) (key_load (hN2.row' hr2)) rfl rfl rfl ?_
  refine L.ldA (a := ⟨r0, 0, none⟩) (key_load (hN0.row' hr)) rfl rfl rfl ?_
  refine L.cl (keptKey_C _ _ b1 b2 l1 l2 N3 (hL1.cons hN2) (hL2.cons hN2) (w1.1.cons hN0) (w2.1.cons hN0) (by omega) (by omega)) rfl rfl ?_
  rintro _ N4 ⟨rfl, hc⟩
  refine ⟨nofun, ?_⟩
  repeat (first | refine W.seq ?_ | refine W.block ?_ | refine W.reg ?_ | refine W.skip ?_ | refine W.exit ?_ | refine W.ret ?_ | refine L.nil ?_ | refine L.p rfl rfl ?_ | refine L.skip rfl ?_)
  refine L.cl (works_C _) rfl rfl ?_
  rintro _ N5 ⟨rfl, hc'⟩
  refine ⟨fun _ => hc', ?_⟩
  repeat (first | refine W.seq ?_ | refine W.block ?_ | refine W.reg ?_ | refine W.skip ?_ | refine W.exit ?_ | refine W.ret ?_ | refine L.nil ?_ | refine L.p rfl rfl ?_ | refine L.skip rfl ?_)
  exact ⟨.inr rfl, _, rfl, rfl, ((hC0.trans hN0).trans hc).trans hc'⟩
end Go.Proofs.Ytccdlijohkljcaa

/- The law of there and back, walked. Conditions: none. -/
set_option linter.unusedSimpArgs false
set_option linter.unusedVariables false
set_option maxRecDepth 100000
set_option maxHeartbeats 4000000
namespace Go.Proofs.Ytccdlijohkljcaa
open Go
variable {G : Nat}

def backM (S1 Sa Sb : Mem) (u v : Value) : Nat → Mem
  | 0 => S1
  | 1 => S1
  | 2 => S1
  | 3 => Sa
  | 4 => Sa
  | 5 => Sa
  | 6 => Sb
  | 7 => Sb
  | 8 => Sb ++ [newR [nilV, nilV] 26]
  | _ => Sb ++ [keyR u v]
def backV (r : Nat) (u1 u2 u v : Value) (q : Nat) : Nat → Value
  | 0 => .pointer (some ⟨r, 0, none⟩)
  | 1 => u1
  | 2 => u
  | 3 => .pointer (some ⟨r, 1, none⟩)
  | 4 => u2
  | 5 => v
  | 6 => .agg #[u, v]
  | 7 => .pointer (some ⟨q, 0, none⟩)
  | _ => undef
theorem backM_same {S1 Sa Sb : Mem} {u v : Value} (h1 : Cons S1 Sa) (h2 : Cons Sa Sb) {b : Nat} (hb : b < S1.length) : ∀ k : Nat, (backM S1 Sa Sb u v (k + 1))[b]? = (backM S1 Sa Sb u v k)[b]?
  | 0 | 1 | 3 | 4 | 6 => rfl
  | 2 => h1 b hb
  | 5 => h2 b (Nat.lt_of_lt_of_le hb h1.len)
  | 7 => Cons.push Sb _ b (Nat.lt_of_lt_of_le (Nat.lt_of_lt_of_le hb h1.len) h2.len)
  | 8 => by
    have hb' := Nat.lt_of_lt_of_le (Nat.lt_of_lt_of_le hb h1.len) h2.len
    exact (Cons.push Sb (keyR u v) b hb').trans (Cons.push Sb (newR [nilV, nilV] 26) b hb').symm
  | k + 9 => rfl
theorem put_self (e : Env) (t : Nat) (v : Value) (h : e t = v) : e = e.put (some t) v := by
  funext k
  unfold Env.put
  dsimp only
  split
  · rename_i hk; rw [hk, h]
  · rfl
theorem apure_bd {P : Program} {dst : Option Tmp} {ty : TypeId} {pos : String} {af : Array Edge} {gd : Option (Nat × Bool)} {e : Env} {t : TypeId} {parts : Array (Nat × Operand)} {pl : List (Nat × Value)} {z : Value} (cells : Array Value) (hf : Instr.fill (buildAt P t) z.cells pl = some cells) (hp : parts.toList.map (fun p => (p.1, e.eval p.2)) = pl) (hok : buildOk P t = true) (hz : zeroOf P t = some z) :
    apure P ⟨dst, .build t parts, ty, pos, af, gd⟩ e.eval = some (.agg cells) := by
  have : apure P ⟨dst, .build t parts, ty, pos, af, gd⟩ e.eval = abuild P t (parts.map fun (i, x) => (i, e.eval x)) := rfl
  rw [this, abuild_eq hok hz, show (parts.map fun (i, x) => (i, e.eval x)).toList = pl by rw [← hp]; simp, hf]
  rfl
theorem back_region {S1 Sa Sb : Mem} {r : Nat} {u1 u2 : Value} {d1 d2 : Hd} {e : Env} {Ds : List ADef} (h3 : e 3 = .pointer (some ⟨r, 0, none⟩)) (hr : S1.row? r = some (keyR u1 u2)) (k1 : Cons S1 Sa) (k2 : Cons Sa Sb)
    (s1 : CallSim Try.prog G 31 [u1, .int .i64 64] S1 (.ret d1.v) Sa) (s2 : CallSim Try.prog G 31 [u2, .int .i64 64] Sa (.ret d2.v) Sb) :
    DV Try.prog G (Known Try.prog G) (match Try.f8.body with | some (.seq _ (.seq c _)) => c | _ => .skip) e S1 Ds
      (fun x e' S' D' => x = .nrm ∧ S' = Sb ++ [keyR d1.v d2.v] ∧ D' = Ds ∧ e' 1 = e 1 ∧ e' 2 = e 2 ∧ e' 7 = .pointer (some ⟨Sb.length, 0, none⟩)) := by
  have hlt := row_lt hr
  have hra := k1.row' hr
  rw [put_self e 3 _ h3]
  refine DV.flt (A := 7) (M := backM S1 Sa Sb d1.v d2.v) (V := backV r u1 u2 d1.v d2.v Sb.length) (z := .agg #[nilV, nilV]) (by kernel_rfl) rfl ?_ ?_ rfl (by kernel_rfl) rfl rfl ⟨rfl, rfl, rfl, rfl, rfl, rfl⟩
  · refine .cons (.pure rfl rfl rfl) ?_
    refine .cons (.load rfl (aload_st (cell_of (o := 0) hr rfl (.inl rfl)) rfl rfl) rfl) ?_
    refine .cons (.call rfl rfl s1 rfl) ?_
    refine .cons (.pure rfl rfl rfl) ?_
    refine .cons (.load rfl (aload_st (cell_of (o := 1) hra rfl (.inl rfl)) rfl rfl) rfl) ?_
    refine .cons (.call rfl rfl s2 rfl) ?_
    refine .cons (.pure rfl (apure_bd (pl := [(0, d1.v), (1, d2.v)]) (z := .agg #[nilV, nilV]) #[d1.v, d2.v] rfl rfl rfl (by kernel_rfl)) rfl) ?_
    refine .cons (.eff rfl rfl (by decide) (fun _ => Cons.push _ _)) ?_
    refine .cons (.eff rfl (aeff_st (ad := ⟨Sb.length, 0, none⟩) (vs := [d1.v, d2.v]) (key_write Sb _ _ rfl rfl) rfl rfl rfl) (by decide) nofun) ?_
    exact .nil
  · refine .cons (fun h => by cases h) ?_
    refine .cons (fun _ => ⟨Operand.tmp 21, by simp [Op.operands], r, ⟨0, rfl⟩, hlt, fun S2 h2 => aload_st (cell_of (o := 0) ((getEq_row h2).trans hr) rfl (.inl rfl)) rfl rfl, backM_same k1 k2 hlt⟩) ?_
    refine .cons (fun h => by cases h) ?_
    refine .cons (fun h => by cases h) ?_
    refine .cons (fun _ => ⟨Operand.tmp 24, by simp [Op.operands], r, ⟨1, rfl⟩, Nat.lt_of_lt_of_le hlt k1.len, fun S2 h2 => aload_st (cell_of (o := 1) ((getEq_row h2).trans hra) rfl (.inl rfl)) rfl rfl, backM_same k1 k2 hlt⟩) ?_
    refine .cons (fun h => by cases h) ?_
    refine .cons (fun h => by cases h) ?_
    refine .cons (fun h => by cases h) ?_
    refine .cons (fun h => by cases h) ?_
    exact .nil
theorem short_blen {l : WL} {n : Nat} (h : l.length ≤ n) : blen (wnum l) ≤ 64 * n := blen_le.2 (Nat.lt_of_lt_of_le (wnum_lt l) (Nat.pow_le_pow_right (by decide) (by omega)))
theorem back_C (a1 a2 : Option Addr) (c1 c2 : Nat) (l1 l2 : WL) (i : Int) (x : BitVec 8) (S : Mem) (hs1 : Slv S 1 (.slice a1 l1.length c1) l1.length (wv l1)) (hs2 : Slv S 1 (.slice a2 l2.length c2) l2.length (wv l2)) :
    C Try.prog G (Known Try.prog G) 8 [keyV (.slice a1 l1.length c1) (.slice a2 l2.length c2), .int .i64 i, v8 x] S fun v S' => v = .bool true ∧ Cons S S' := by
  refine C.known (known_def2 (Checked.mixed Try.checked) (fun _ _ _ _ _ h => h) Try.func8 rfl (by kernel_rfl) rfl ?_)
  refine DV.seq (DV.code rfl ?_)
  repeat (first | refine W.seq ?_ | refine W.block ?_ | refine W.reg ?_ | refine W.skip ?_ | refine W.exit ?_ | refine W.ret ?_ | refine L.nil ?_ | refine L.p rfl rfl ?_ | refine L.skip rfl ?_)
  refine L.eff (v := .pointer (some ⟨S.length, 0, none⟩)) (S1 := S ++ [keyR (.slice a1 l1.length c1) (.slice a2 l2.length c2)]) rfl rfl ?_
  have hC0 : Cons S (S ++ [keyR (.slice a1 l1.length c1) (.slice a2 l2.length c2)]) := Cons.push _ _
  have hr : Mem.row? (S ++ [keyR (.slice a1 l1.length c1) (.slice a2 l2.length c2)]) S.length = some (keyR (.slice a1 l1.length c1) (.slice a2 l2.length c2)) := row_push_new rfl
  generalize S ++ [keyR (.slice a1 l1.length c1) (.slice a2 l2.length c2)] = S1 at *
  obtain ⟨r0, hr0⟩ : ∃ r, r = S.length := ⟨_, rfl⟩
  rw [← hr0] at hr ⊢
  repeat (first | refine W.seq ?_ | refine W.block ?_ | refine W.reg ?_ | refine W.skip ?_ | refine W.exit ?_ | refine W.ret ?_ | refine L.nil ?_ | refine L.p rfl rfl ?_ | refine L.skip rfl ?_)
  obtain ⟨_, Sa, x1, d1, rfl, q1⟩ := some_C (G := G) (Ext := Known Try.prog G) a1 c1 l1 64 S1 (hs1.cons hC0) (by decide)
  obtain ⟨_, Sb, x2, d2, rfl, q2⟩ := some_C (G := G) (Ext := Known Try.prog G) a2 c2 l2 64 Sa ((hs2.cons hC0).cons q1.1) (by decide)
  have k1 := q1.1
  have k2 := q2.1
  refine DV.seq (DV.mono (back_region rfl hr k1 k2 (x1.sim (Checked.mixed Try.checked) (fun _ _ _ _ _ h => h)) (x2.sim (Checked.mixed Try.checked) (fun _ _ _ _ _ h => h))) ?_)
  rintro y e1 M1 D1 ⟨rfl, hM1, rfl, e_1, e_2, e_7⟩
  refine DV.code rfl ?_
  refine W.env3 e_1 e_2 e_7 ?_
  obtain ⟨m1, hm1⟩ : ∃ m, m = l1.take 64 := ⟨_, rfl⟩
  obtain ⟨m2, hm2⟩ : ∃ m, m = l2.take 64 := ⟨_, rfl⟩
  rw [← hm1] at q1
  rw [← hm2] at q2
  have g1 : m1.length ≤ 64 := by rw [hm1, List.length_take]; omega
  have g2 : m2.length ≤ 64 := by rw [hm2, List.length_take]; omega
  have hbad : ¬ encBad m1 m2 := by unfold encBad; have := short_blen g1; have := short_blen g2; omega
  have hsm1 : small m1 = true := small_of (by have := short_blen g1; omega)
  have hsm2 : small m2 = true := small_of (by have := short_blen g2; omega)
  have e1 := q1.own.2
  have e2 := q2.own.2
  rw [e1, e2] at hM1
  have hrk : M1.row? Sb.length = some (keyR (.slice d1.ad m1.length d1.c) (.slice d2.ad m2.length d2.c)) := by rw [hM1]; exact row_push_new rfl
  have kb : Cons Sb M1 := by rw [hM1]; exact Cons.push _ _
  have w1 := q1.win.cons (k2.trans kb)
  have w2 := q2.win.cons kb
  have hC1 : Cons S M1 := ((hC0.trans k1).trans k2).trans kb
  clear hM1 x1 x2 hr hs1 hs2 e_1 e_2 e_7
  obtain ⟨rk, hrk'⟩ : ∃ rk, rk = Sb.length := ⟨_, rfl⟩
  rw [← hrk'] at hrk ⊢
  repeat (first | refine W.seq ?_ | refine W.block ?_ | refine W.reg ?_ | refine W.skip ?_ | refine W.exit ?_ | refine W.ret ?_ | refine L.nil ?_ | refine L.p rfl rfl ?_ | refine L.skip rfl ?_)
  refine L.ldA (a := ⟨rk, 0, none⟩) (key_load hrk) rfl rfl rfl ?_
  refine L.cl (encode_C d1.ad d2.ad d1.c d2.c m1 m2 M1 w1 w2) rfl rfl ?_
  rintro _ M2 hR
  unfold EncR at hR
  rw [if_neg hbad] at hR
  obtain ⟨d3, rfl, q3⟩ := hR
  refine ⟨nofun, ?_⟩
  obtain ⟨E, hE⟩ : ∃ E, E = encL m1 m2 := ⟨_, rfl⟩
  rw [← hE] at q3
  have i3 := q3.2.2.1.bin q3.2.1
  have hc2 := q3.1
  rw [i3.2]
  have hEl : 0 < E.length := by
    have := congrArg List.length (enc_app m1 m2 [])
    rw [List.append_nil, ← hE] at this
    rw [this]; simp
  have hE2 : E.length ≤ 2000 := by have := encB_len m1 m2; unfold encB at this; rw [if_neg hbad] at this; rw [hE]; exact this
  repeat (first | refine W.seq ?_ | refine W.block ?_ | refine W.reg ?_ | refine W.skip ?_ | refine W.exit ?_ | refine W.ret ?_ | refine L.nil ?_ | refine L.p rfl rfl ?_ | refine L.skip rfl ?_)
  refine L.cl (decode_C d3.ad d3.c E M2 i3.1) rfl rfl ?_
  rintro _ M3 hR
  unfold KeyR at hR
  rw [show keyS E = .ok (fm m1, fm m2) by rw [hE]; exact enc_back hbad] at hR
  obtain ⟨d4, d5, rfl, q4, q5, _⟩ := hR
  refine ⟨nofun, ?_⟩
  have hc3 := q4.1
  repeat (first | refine W.seq ?_ | refine W.block ?_ | refine W.reg ?_ | refine W.skip ?_ | refine W.exit ?_ | refine W.ret ?_ | refine L.nil ?_ | refine L.p rfl rfl ?_ | refine L.skip rfl ?_)
  refine L.eff (v := .pointer (some ⟨List.length M3, 0, none⟩)) (S1 := M3 ++ [newR [nilV, nilV] 26]) rfl rfl ?_
  refine L.st (ad := ⟨List.length M3, 0, none⟩) (vs := [d4.v, d5.v]) (key_write M3 _ _ rfl rfl) rfl rfl rfl rfl ?_
  have hr4 : Mem.row? (M3 ++ [keyR d4.v d5.v]) M3.length = some (keyR d4.v d5.v) := row_push_new rfl
  have hk4 : Cons M3 (M3 ++ [keyR d4.v d5.v]) := Cons.push _ _
  generalize M3 ++ [keyR d4.v d5.v] = M4 at *
  generalize M3.length = r4 at *
  have hk14 := (hc2.trans hc3).trans hk4
  repeat (first | refine W.seq ?_ | refine W.block ?_ | refine W.reg ?_ | refine W.skip ?_ | refine W.exit ?_ | refine W.ret ?_ | refine L.nil ?_ | refine L.p rfl rfl ?_ | refine L.skip rfl ?_)
  refine L.ld (a := ⟨rk, 0, none⟩) (cell_of (o := 0) (hk14.row' hrk) rfl (.inl rfl)) rfl rfl rfl ?_
  refine L.cl (norm_C d1.ad d1.c m1 M4 (w1.cons hk14)) rfl rfl ?_
  rintro _ M5 ⟨d6, rfl, q6⟩
  refine ⟨nofun, ?_⟩
  have hc5 := q6.1
  rw [show toldE m1 = 0 by unfold toldE; rw [if_pos hsm1]]
  rw [show toldL m1 = fm m1 by unfold toldL; rw [if_pos hsm1]] at q6
  repeat (first | refine W.seq ?_ | refine W.block ?_ | refine W.reg ?_ | refine W.skip ?_ | refine W.exit ?_ | refine W.ret ?_ | refine L.nil ?_ | refine L.p rfl rfl ?_ | refine L.skip rfl ?_)
  refine L.ld (a := ⟨rk, 1, none⟩) (cell_of (o := 1) ((hk14.trans hc5).row' hrk) rfl (.inl rfl)) rfl rfl rfl ?_
  refine L.cl (norm_C d2.ad d2.c m2 M5 (w2.cons (hk14.trans hc5))) rfl rfl ?_
  rintro _ M6 ⟨d7, rfl, q7⟩
  refine ⟨nofun, ?_⟩
  have hc6 := q7.1
  rw [show toldE m2 = 0 by unfold toldE; rw [if_pos hsm2]]
  rw [show toldL m2 = fm m2 by unfold toldL; rw [if_pos hsm2]] at q7
  repeat (first | refine W.seq ?_ | refine W.block ?_ | refine W.reg ?_ | refine W.skip ?_ | refine W.exit ?_ | refine W.ret ?_ | refine L.nil ?_ | refine L.p rfl rfl ?_ | refine L.skip rfl ?_)
  have hk46 := hc5.trans hc6
  refine L.ldA (a := ⟨r4, 0, none⟩) (key_load (hk46.row' hr4)) rfl rfl rfl ?_
  repeat (first | refine W.seq ?_ | refine W.block ?_ | refine W.reg ?_ | refine W.skip ?_ | refine W.exit ?_ | refine W.ret ?_ | refine L.nil ?_ | refine L.p rfl rfl ?_ | refine L.skip rfl ?_)
  refine L.bd #[d6.v, d7.v] (pl := [(0, d6.v), (1, d7.v)]) (z := .agg #[nilV, nilV]) rfl rfl rfl (by kernel_rfl) rfl ?_
  have s4 := q4.hd (hk4.trans hk46)
  have s5 := q5.hd (hk4.trans hk46)
  have s6 := q6.hd hc6
  have s7 := q7.hd (Cons.refl _)
  refine L.cl (sameKey_C d4.ad d5.ad d6.ad d7.ad d4.n d5.n d6.n d7.n d4.c d5.c d6.c d7.c (fm m1) (fm m2) (fm m1) (fm m2) M6 s4.1 s5.1 s6.1 s7.1 s4.2 s5.2 s6.2 s7.2) rfl rfl ?_
  rintro _ M7 ⟨rfl, hc7⟩
  refine ⟨nofun, ?_⟩
  rw [keq (fm m1, fm m2)]
  repeat (first | refine W.seq ?_ | refine W.block ?_ | refine W.reg ?_ | refine W.skip ?_ | refine W.exit ?_ | refine W.ret ?_ | refine L.nil ?_ | refine L.p rfl rfl ?_ | refine L.skip rfl ?_)
  refine W.ite rfl (fun h => ?_) (fun h => ?_)
  · cases h
  clear h
  have hk27 := ((hc3.trans hk4).trans hk46).trans hc7
  have hI7 := i3.1.cons hk27
  have hC7 : Cons S M7 := (hC1.trans hc2).trans hk27
  clear s4 s5 s6 s7 q4 q5 q6 q7 w1 w2
  repeat (first | refine W.seq ?_ | refine W.block ?_ | refine W.reg ?_ | refine W.skip ?_ | refine W.exit ?_ | refine W.ret ?_ | refine L.nil ?_ | refine L.p rfl rfl ?_ | refine L.skip rfl ?_)
  refine L.cl (pick_C i E.length (by omega) M7) rfl rfl ?_
  rintro _ M7' ⟨rfl, hS⟩
  have hS := hS.symm
  subst hS
  refine ⟨nofun, ?_⟩
  obtain ⟨n, hn⟩ : ∃ n, E.length = n + 1 := ⟨E.length - 1, by omega⟩
  obtain ⟨k, hk, hkl⟩ := pick_nat i n
  rw [show pick i (E.length : Int) = (k : Int) by rw [hn]; exact hk]
  repeat (first | refine W.seq ?_ | refine W.block ?_ | refine W.reg ?_ | refine W.skip ?_ | refine W.exit ?_ | refine W.ret ?_ | refine L.nil ?_ | refine L.p rfl rfl ?_ | refine L.skip rfl ?_)
  obtain ⟨a8, c8, z1, z2⟩ := hI7.partT (k := 0) (h := k) (lo := none) (hi := some (.int .i64 (k : Int))) (.inl ⟨rfl, rfl⟩) (.inr ⟨.i64, rfl⟩) (by omega) (by omega)
  rw [List.drop_zero, Nat.sub_zero] at z1 z2
  refine L.is (.slice a8 (E.take k).length c8) ((slice_at0 rfl rfl rfl).trans z1) rfl ?_
  refine L.cl (decode_C a8 c8 (E.take k) M7 (z2 _ hI7)) rfl rfl ?_
  rintro _ M8 hR
  unfold KeyR at hR
  rw [show keyS (E.take k) = .error 70 by rw [hE]; exact enc_short hbad (by rw [← hE]; omega)] at hR
  obtain ⟨rfl, hc8⟩ := hR
  refine ⟨nofun, ?_⟩
  repeat (first | refine W.seq ?_ | refine W.block ?_ | refine W.reg ?_ | refine W.skip ?_ | refine W.exit ?_ | refine W.ret ?_ | refine L.nil ?_ | refine L.p rfl rfl ?_ | refine L.skip rfl ?_)
  refine L.eff (v := .pointer (some ⟨List.length M8, 0, none⟩)) (S1 := M8 ++ [newR [nilV, nilV] 26]) rfl rfl ?_
  refine L.st (ad := ⟨List.length M8, 0, none⟩) (vs := [nilV, nilV]) (key_write M8 _ _ rfl rfl) rfl rfl rfl rfl ?_
  have hr9 : Mem.row? (M8 ++ [keyR nilV nilV]) M8.length = some (keyR nilV nilV) := row_push_new rfl
  have hc9 := hc8.pushr (keyR nilV nilV)
  generalize M8 ++ [keyR nilV nilV] = M9 at *
  generalize M8.length = r9 at *
  have hI9 := hI7.cons hc9
  repeat (first | refine W.seq ?_ | refine W.block ?_ | refine W.reg ?_ | refine W.skip ?_ | refine W.exit ?_ | refine W.ret ?_ | refine L.nil ?_ | refine L.p rfl rfl ?_ | refine L.skip rfl ?_)
  refine L.appH rfl (HdOk.nil M9 5) rfl rfl hI9.1 (bv_one _) (by simp; omega) rfl rfl ?_
  rintro h1 N1 u1 u2 u3 u4
  repeat (first | refine W.seq ?_ | refine W.block ?_ | refine W.reg ?_ | refine W.skip ?_ | refine W.exit ?_ | refine W.ret ?_ | refine L.nil ?_ | refine L.p rfl rfl ?_ | refine L.skip rfl ?_)
  have kc2 : Cons M9 N1 := u4.nil
  have v1 : ∀ b, h1.a = some b → M9.length ≤ b := fun b e => by
    rcases u3 with ⟨u3, _⟩ | ⟨b', u3, u5⟩
    · rw [u3] at e; cases e
    · rw [u3] at e; cases e; exact u5
  have u2' : h1.n = E.length := by rw [u2]; exact Nat.zero_add _
  refine L.pushH (w := v8 x) rfl u1 rfl rfl rfl rfl rfl (by rw [u2']; omega) rfl (fun _ => rfl) ?_
  rintro p h2 N2 t1 t2 _ t4
  have kc4 : Cons M9 N2 := t4.cons0 kc2 (fun b hb => by simp at hb; exact v1 b hb)
  have hlong : bv E ++ [v8 x] = bv (E ++ [x]) := by rw [bv_app]; rfl
  rw [List.nil_append, hlong] at t1
  have hh2 := t1.bin (by simp; omega)
  repeat (first | refine W.seq ?_ | refine W.block ?_ | refine W.reg ?_ | refine W.skip ?_ | refine W.exit ?_ | refine W.ret ?_ | refine L.nil ?_ | refine L.p rfl rfl ?_ | refine L.skip rfl ?_)
  refine L.cl (decode_C h2.ad h2.c (E ++ [x]) N2 hh2.1) rfl (acall_eq (list1 hh2.2)) ?_
  rintro _ N3 hR
  unfold KeyR at hR
  rw [show keyS (E ++ [x]) = .error 74 by rw [hE, enc_more [x] hbad, if_pos (by simp)]] at hR
  obtain ⟨rfl, hc3'⟩ := hR
  refine ⟨nofun, ?_⟩
  repeat (first | refine W.seq ?_ | refine W.block ?_ | refine W.reg ?_ | refine W.skip ?_ | refine W.exit ?_ | refine W.ret ?_ | refine L.nil ?_ | refine L.p rfl rfl ?_ | refine L.skip rfl ?_)
  refine L.eff (v := .pointer (some ⟨List.length N3, 0, none⟩)) (S1 := N3 ++ [newR [nilV, nilV] 26]) rfl rfl ?_
  refine L.st (ad := ⟨List.length N3, 0, none⟩) (vs := [nilV, nilV]) (key_write N3 _ _ rfl rfl) rfl rfl rfl rfl ?_
  have hk9 := (kc4.trans hc3').pushr (keyR nilV nilV)
  generalize N3 ++ [keyR nilV nilV] = N4 at *
  generalize N3.length = r10 at *
  repeat (first | refine W.seq ?_ | refine W.block ?_ | refine W.reg ?_ | refine W.skip ?_ | refine W.exit ?_ | refine W.ret ?_ | refine L.nil ?_ | refine L.p rfl rfl ?_ | refine L.skip rfl ?_)
  refine L.ldA (a := ⟨r9, 0, none⟩) (key_load (hk9.row' hr9)) rfl rfl rfl ?_
  repeat (first | refine W.seq ?_ | refine W.block ?_ | refine W.reg ?_ | refine W.skip ?_ | refine W.exit ?_ | refine W.ret ?_ | refine L.nil ?_ | refine L.p rfl rfl ?_ | refine L.skip rfl ?_)
  refine L.bd #[nilV, nilV] (pl := []) (z := .agg #[nilV, nilV]) rfl rfl rfl (by kernel_rfl) rfl ?_
  refine L.cl (sameKey_C none none none none 0 0 0 0 0 0 0 0 [] [] [] [] N4 (Slv.nil _ _ _ _) (Slv.nil _ _ _ _) (Slv.nil _ _ _ _) (Slv.nil _ _ _ _) (by decide) (by decide) (by decide) (by decide)) rfl rfl ?_
  rintro _ N5 ⟨rfl, hc5'⟩
  refine ⟨nofun, ?_⟩
  repeat (first | refine W.seq ?_ | refine W.block ?_ | refine W.reg ?_ | refine W.skip ?_ | refine W.exit ?_ | refine W.ret ?_ | refine L.nil ?_ | refine L.p rfl rfl ?_ | refine L.skip rfl ?_)
  refine L.cl (works_C _) rfl rfl ?_
  rintro _ N6 ⟨rfl, hc6'⟩
  refine ⟨nofun, ?_⟩
  repeat (first | refine W.seq ?_ | refine W.block ?_ | refine W.reg ?_ | refine W.skip ?_ | refine W.exit ?_ | refine W.ret ?_ | refine L.nil ?_ | refine L.p rfl rfl ?_ | refine L.skip rfl ?_)
  exact ⟨.ret, _, _, rfl, .ret (v := .bool true) rfl, rfl, (((hC7.trans hc9).trans hk9).trans hc5').trans hc6'⟩
end Go.Proofs.Ytccdlijohkljcaa

/- The law of the one form, walked. Conditions: none. -/
set_option linter.unusedSimpArgs false
set_option linter.unusedVariables false
set_option maxRecDepth 100000
set_option maxHeartbeats 4000000
namespace Go.Proofs.Ytccdlijohkljcaa
open Go
variable {G : Nat}

theorem partS_ne {b : BL} {e : Int} (h : partS b = .error e) : e ≠ 0 := by
  unfold partS at h
  split at h
  · rename_i h1; cases h; exact itemS_ne h1
  · split at h
    · cases h; decide
    · split at h
      · rename_i h1; cases h; exact numS_ne h1
      · cases h
theorem keyS_ne {b : BL} {e : Int} (h : keyS b = .error e) : e ≠ 0 := by
  unfold keyS at h
  split at h
  · rename_i h1; cases h; exact itemS_ne h1
  · split at h
    · cases h; decide
    · split at h
      · cases h; decide
      · unfold keyT at h
        split at h
        · rename_i h1; cases h; exact partS_ne h1
        · split at h
          · rename_i h1; cases h; exact partS_ne h1
          · split at h
            · cases h; decide
            · cases h
theorem once_C (a : Option Addr) (c : Nat) (l : BL) (S : Mem) (hs : Slv S 1 (.slice a l.length c) l.length (bv l)) (hcut : Cut l.length c) : C Try.prog G (Known Try.prog G) 5 [.slice a l.length c] S fun v S' => v = .bool true ∧ Cons S S' := by
  refine C.fn Try.func5 rfl (by kernel_rfl) rfl ?_
  repeat (first | refine W.seq ?_ | refine W.block ?_ | refine W.reg ?_ | refine W.skip ?_ | refine W.exit ?_ | refine W.ret ?_ | refine L.nil ?_ | refine L.p rfl rfl ?_ | refine L.skip rfl ?_)
  refine W.ite rfl (fun h => ?_) (fun h => ?_)
  · repeat (first | refine W.seq ?_ | refine W.block ?_ | refine W.reg ?_ | refine W.skip ?_ | refine W.exit ?_ | refine W.ret ?_ | refine L.nil ?_ | refine L.p rfl rfl ?_ | refine L.skip rfl ?_)
    exact ⟨.inr rfl, _, rfl, rfl, Cons.refl _⟩
  have hl : l.length ≤ 4096 := by simp at h; omega
  have hI : BIn S a c l := ⟨hs, hcut, by omega⟩
  clear h
  repeat (first | refine W.seq ?_ | refine W.block ?_ | refine W.reg ?_ | refine W.skip ?_ | refine W.exit ?_ | refine W.ret ?_ | refine L.nil ?_ | refine L.p rfl rfl ?_ | refine L.skip rfl ?_)
  refine L.cl (decode_C _ _ l S hI) rfl rfl ?_
  rintro _ M1 hR
  refine ⟨nofun, ?_⟩
  unfold KeyR at hR
  cases hk : keyS l with
  | error e =>
    rw [hk] at hR
    obtain ⟨rfl, hc1⟩ := hR
    have hne := keyS_ne hk
    repeat (first | refine W.seq ?_ | refine W.block ?_ | refine W.reg ?_ | refine W.skip ?_ | refine W.exit ?_ | refine W.ret ?_ | refine L.nil ?_ | refine L.p rfl rfl ?_ | refine L.skip rfl ?_)
    refine L.eff (v := .pointer (some ⟨List.length M1, 0, none⟩)) (S1 := M1 ++ [newR [nilV, nilV] 26]) rfl rfl ?_
    refine L.st (ad := ⟨List.length M1, 0, none⟩) (vs := [nilV, nilV]) (key_write M1 _ _ rfl rfl) rfl rfl rfl rfl ?_
    have hr2 : Mem.row? (M1 ++ [keyR nilV nilV]) M1.length = some (keyR nilV nilV) := row_push_new rfl
    have hc2 := hc1.pushr (keyR nilV nilV)
    generalize M1 ++ [keyR nilV nilV] = M2 at *
    generalize M1.length = q1 at *
    repeat (first | refine W.seq ?_ | refine W.block ?_ | refine W.reg ?_ | refine W.skip ?_ | refine W.exit ?_ | refine W.ret ?_ | refine L.nil ?_ | refine L.p rfl rfl ?_ | refine L.skip rfl ?_)
    refine W.ite rfl (fun h => ?_) (fun h => ?_)
    rotate_left
    · simp at h; exact absurd h hne
    clear h
    repeat (first | refine W.seq ?_ | refine W.block ?_ | refine W.reg ?_ | refine W.skip ?_ | refine W.exit ?_ | refine W.ret ?_ | refine L.nil ?_ | refine L.p rfl rfl ?_ | refine L.skip rfl ?_)
    refine L.ld (a := ⟨q1, 0, none⟩) (cell_of (o := 0) hr2 rfl (.inl rfl)) rfl rfl rfl ?_
    repeat (first | refine W.seq ?_ | refine W.block ?_ | refine W.reg ?_ | refine W.skip ?_ | refine W.exit ?_ | refine W.ret ?_ | refine L.nil ?_ | refine L.p rfl rfl ?_ | refine L.skip rfl ?_)
    refine L.ld (a := ⟨q1, 1, none⟩) (cell_of (o := 1) hr2 rfl (.inl rfl)) rfl rfl rfl ?_
    repeat (first | refine W.seq ?_ | refine W.block ?_ | refine W.reg ?_ | refine W.skip ?_ | refine W.exit ?_ | refine W.ret ?_ | refine L.nil ?_ | refine L.p rfl rfl ?_ | refine L.skip rfl ?_)
    refine L.cl (works_C _) rfl rfl ?_
    rintro _ M3 ⟨rfl, hc3⟩
    refine ⟨nofun, ?_⟩
    repeat (first | refine W.seq ?_ | refine W.block ?_ | refine W.reg ?_ | refine W.skip ?_ | refine W.exit ?_ | refine W.ret ?_ | refine L.nil ?_ | refine L.p rfl rfl ?_ | refine L.skip rfl ?_)
    exact ⟨.inr rfl, _, rfl, rfl, hc2.trans hc3⟩
  | ok p =>
    obtain ⟨l1, l2⟩ := p
    rw [hk] at hR
    obtain ⟨d1, d2, rfl, r1, r2, hap⟩ := hR
    obtain ⟨k1, k2, _, _⟩ := key_form hk
    have hc1 := r1.1
    have e1 := r1.own.2
    have e2 := r2.own.2
    have w1 := r1.win
    have w2 := r2.win
    rw [e1, e2]
    repeat (first | refine W.seq ?_ | refine W.block ?_ | refine W.reg ?_ | refine W.skip ?_ | refine W.exit ?_ | refine W.ret ?_ | refine L.nil ?_ | refine L.p rfl rfl ?_ | refine L.skip rfl ?_)
    refine L.eff (v := .pointer (some ⟨List.length M1, 0, none⟩)) (S1 := M1 ++ [newR [nilV, nilV] 26]) rfl rfl ?_
    refine L.st (ad := ⟨List.length M1, 0, none⟩) (vs := [(.slice d1.ad l1.length d1.c), (.slice d2.ad l2.length d2.c)]) (key_write M1 _ _ rfl rfl) rfl rfl rfl rfl ?_
    have hr2 : Mem.row? (M1 ++ [keyR (.slice d1.ad l1.length d1.c) (.slice d2.ad l2.length d2.c)]) M1.length = some (keyR (.slice d1.ad l1.length d1.c) (.slice d2.ad l2.length d2.c)) := row_push_new rfl
    have hk2 : Cons M1 (M1 ++ [keyR (.slice d1.ad l1.length d1.c) (.slice d2.ad l2.length d2.c)]) := Cons.push _ _
    generalize M1 ++ [keyR (.slice d1.ad l1.length d1.c) (.slice d2.ad l2.length d2.c)] = M2 at *
    generalize M1.length = q1 at *
    repeat (first | refine W.seq ?_ | refine W.block ?_ | refine W.reg ?_ | refine W.skip ?_ | refine W.exit ?_ | refine W.ret ?_ | refine L.nil ?_ | refine L.p rfl rfl ?_ | refine L.skip rfl ?_)
    refine W.ite rfl (fun h => ?_) (fun h => ?_)
    · cases h
    clear h
    repeat (first | refine W.seq ?_ | refine W.block ?_ | refine W.reg ?_ | refine W.skip ?_ | refine W.exit ?_ | refine W.ret ?_ | refine L.nil ?_ | refine L.p rfl rfl ?_ | refine L.skip rfl ?_)
    refine L.ldA (a := ⟨q1, 0, none⟩) (key_load hr2) rfl rfl rfl ?_
    refine L.cl (encode_C d1.ad d2.ad d1.c d2.c l1 l2 M2 (w1.cons hk2) (w2.cons hk2)) rfl rfl ?_
    rintro _ M3 hR
    unfold EncR at hR
    rw [if_neg k2, k1] at hR
    obtain ⟨d, rfl, q⟩ := hR
    refine ⟨nofun, ?_⟩
    repeat (first | refine W.seq ?_ | refine W.block ?_ | refine W.reg ?_ | refine W.skip ?_ | refine W.exit ?_ | refine W.ret ?_ | refine L.nil ?_ | refine L.p rfl rfl ?_ | refine L.skip rfl ?_)
    have hd := q.2.2.1.slv
    have hdn := q.2.2.1.len
    rw [bv_len] at hdn
    have hcc := (hc1.trans hk2).trans q.1
    refine L.cl (same_C _ _ l l l.length d.n M3 (hs.cons hcc) hd (by omega) (by omega)) rfl rfl ?_
    rintro _ _ ⟨rfl, rfl⟩
    refine ⟨nofun, ?_⟩
    rw [show (l == l) = true from beq_self_eq_true _]
    repeat (first | refine W.seq ?_ | refine W.block ?_ | refine W.reg ?_ | refine W.skip ?_ | refine W.exit ?_ | refine W.ret ?_ | refine L.nil ?_ | refine L.p rfl rfl ?_ | refine L.skip rfl ?_)
    refine L.cl (works_C _) rfl rfl ?_
    rintro _ M4 ⟨rfl, hc4⟩
    refine ⟨nofun, ?_⟩
    repeat (first | refine W.seq ?_ | refine W.block ?_ | refine W.reg ?_ | refine W.skip ?_ | refine W.exit ?_ | refine W.ret ?_ | refine L.nil ?_ | refine L.p rfl rfl ?_ | refine L.skip rfl ?_)
    exact ⟨.inr rfl, _, rfl, rfl, hcc.trans hc4⟩
end Go.Proofs.Ytccdlijohkljcaa

/- Layer 7, the closed statement: 2^n; lists of lists. Conditions: none. -/
set_option linter.unusedSimpArgs false
set_option linter.unusedVariables false
set_option maxRecDepth 100000
namespace Go.Proofs.Ytccdlijohkljcaa
open Go
variable {G : Nat}
section
variable {Ext : FuncId → List Value → Mem → Outc → Mem → Prop}
theorem wv_set (l : WL) (k : Nat) (x : BitVec 64) : (wv l).set k (v64 x) = wv (l.set k x) := by unfold wv; rw [List.map_set]
theorem one_C (n : Nat) (less : Bool) (S : Mem) (hn : n ≤ 100000) : C Try.prog G Ext 57 [.int .i64 (n : Int), .bool less] S fun v S' => ∃ a c l, v = .slice a (List.length l) c ∧ WIn S' a c l ∧ l.length = n / 64 + 1 ∧ Cons S S' := by
  refine C.fn Try.func57 rfl (by kernel_rfl) rfl ?_
  have e2 : IntKind.i64.wrap (Int.tdiv (n : Int) 64) = ((n / 64 : Nat) : Int) := by
    rw [show Int.tdiv (n : Int) 64 = ((n / 64 : Nat) : Int) from (Int.ofNat_tdiv n 64).symm, wrap64 (by omega) (by omega)]
  have e3 : Int.tmod (n : Int) 64 = ((n % 64 : Nat) : Int) := (Int.ofNat_tmod n 64).symm
  repeat (first | refine W.seq ?_ | refine W.block ?_ | refine W.reg ?_ | refine W.skip ?_ | refine W.exit ?_ | refine W.ret ?_ | refine L.nil ?_ | refine L.p rfl rfl ?_ | refine L.skip rfl ?_)
  rw [e2]
  rw [show IntKind.i64.wrap (((n / 64 : Nat) : Int) + 1) = ((n / 64 + 1 : Nat) : Int) by rw [wrap64 (by omega) (by omega)]; omega]
  refine L.mk rfl rfl rfl rfl rfl (Nat.le_refl _) (by omega) rfl rfl ?_
  obtain ⟨m, hm⟩ : ∃ m, m = n / 64 + 1 := ⟨_, rfl⟩
  rw [← hm]
  have hC : Cons S (S ++ [newR (List.replicate m (v64 0#64)) 56]) := Cons.push _ _
  have hr : Mem.row? (S ++ [newR (List.replicate m (v64 0#64)) 56]) S.length = some (newR (List.replicate m (v64 0#64)) 56) := row_push_new rfl
  rw [show newR (List.replicate m (Value.int .u64 0)) 56 = newR (List.replicate m (v64 0#64)) 56 from rfl]
  generalize S ++ [newR (List.replicate m (v64 0#64)) 56] = T0 at *
  obtain ⟨r0, hr0⟩ : ∃ r, r = S.length := ⟨_, rfl⟩
  rw [← hr0] at hr ⊢
  have hrep : List.replicate m (v64 0#64) = wv (List.replicate m 0#64) := by simp [wv]
  rw [hrep] at hr
  repeat (first | refine W.seq ?_ | refine W.block ?_ | refine W.reg ?_ | refine W.skip ?_ | refine W.exit ?_ | refine W.ret ?_ | refine L.nil ?_ | refine L.p rfl rfl ?_ | refine L.skip rfl ?_)
  obtain ⟨x0, hx0⟩ : ∃ x0 : BitVec 64, IntKind.u64.wrap (1 * 2 ^ min (Int.tmod (n : Int) 64).toNat IntKind.u64.bits) = (x0.toNat : Int) := ⟨_, wrap_u64 _⟩
  rw [hx0]
  refine L.elst (w := v64 x0) hr rfl (by simp [newR, wv_len]) e2 (by omega) rfl rfl rfl rfl (fun _ => rfl) (fun _ => rfl) rfl rfl rfl (fun p => ?_)
  rw [show (newR (wv (List.replicate m 0#64)) 56).cells.set (0 + n / 64) (v64 x0) = wv ((List.replicate m 0#64).set (n / 64) x0) by rw [Nat.zero_add]; exact wv_set _ _ _]
  have hr1 := row_set_same hr (x := { newR (wv (List.replicate m 0#64)) 56 with cells := wv ((List.replicate m 0#64).set (n / 64) x0) }) rfl
  have hC1 := hC.set r0 { newR (wv (List.replicate m 0#64)) 56 with cells := wv ((List.replicate m 0#64).set (n / 64) x0) } (by omega)
  generalize T0.set r0 { newR (wv (List.replicate m 0#64)) 56 with cells := wv ((List.replicate m 0#64).set (n / 64) x0) } = T1 at *
  repeat (first | refine W.seq ?_ | refine W.block ?_ | refine W.reg ?_ | refine W.skip ?_ | refine W.exit ?_ | refine W.ret ?_ | refine L.nil ?_ | refine L.p rfl rfl ?_ | refine L.skip rfl ?_)
  refine W.loop (fun j e T => ∃ i lb, ∃ l : WL, j = m - i ∧ i ≤ m ∧ l.length = m ∧ e 1 = .bool lb ∧ e 5 = .slice (some ⟨r0, 0, none⟩) m m ∧ e 6 = vi i ∧ T.row? r0 = some (newR (wv l) 56) ∧ Cons S T) m
    ⟨0, less, _, by omega, by omega, by simp, rfl, rfl, rfl, hr1, hC1⟩ ?_
  clear hr hr1 hC1 hC hrep
  rintro j e T ⟨i, lb, l, rfl, hi, hlm, e_1, e_5, e_6, hr, hC⟩
  refine W.env3 e_1 e_5 e_6 ?_
  have fin : ∃ a c, ∃ l : WL, Value.slice (some ⟨r0, 0, none⟩) m m = .slice a l.length c ∧ WIn T a c l ∧ l.length = m ∧ Cons S T := by
    refine ⟨some ⟨r0, 0, none⟩, m, l, by rw [hlm], ⟨?_, ?_, nofun, by omega⟩, hlm, hC⟩
    · rw [hlm]; exact Slv.all hr rfl (by show (wv l).length = _; rw [wv_len, hlm, Nat.mul_one])
    · rw [hlm]; unfold knownCap; rw [if_pos (by unfold UNK; omega)]; exact Nat.le_refl _
  repeat (first | refine W.seq ?_ | refine W.block ?_ | refine W.reg ?_ | refine W.skip ?_ | refine W.exit ?_ | refine W.ret ?_ | refine L.nil ?_ | refine L.p rfl rfl ?_ | refine L.skip rfl ?_)
  cases lb with
  | false =>
    repeat (first | refine W.seq ?_ | refine W.block ?_ | refine W.reg ?_ | refine W.skip ?_ | refine W.exit ?_ | refine W.ret ?_ | refine L.nil ?_ | refine L.p rfl rfl ?_ | refine L.skip rfl ?_)
    refine W.ite rfl (fun h => ?_) (fun h => ?_)
    · cases h
    repeat (first | refine W.seq ?_ | refine W.block ?_ | refine W.reg ?_ | refine W.skip ?_ | refine W.exit ?_ | refine W.ret ?_ | refine L.nil ?_ | refine L.p rfl rfl ?_ | refine L.skip rfl ?_)
    exact ⟨.inr rfl, _, rfl, fin⟩
  | true =>
    repeat (first | refine W.seq ?_ | refine W.block ?_ | refine W.reg ?_ | refine W.skip ?_ | refine W.exit ?_ | refine W.ret ?_ | refine L.nil ?_ | refine L.p rfl rfl ?_ | refine L.skip rfl ?_)
    refine W.ite rfl (fun h => ?_) (fun h => ?_)
    rotate_left
    · repeat (first | refine W.seq ?_ | refine W.block ?_ | refine W.reg ?_ | refine W.skip ?_ | refine W.exit ?_ | refine W.ret ?_ | refine L.nil ?_ | refine L.p rfl rfl ?_ | refine L.skip rfl ?_)
      exact ⟨.inr rfl, _, rfl, fin⟩
    have him : i < m := by have := of_decide_eq_true h; omega
    clear h fin
    have hsl : Slv T 1 (.slice (some ⟨r0, 0, none⟩) m m) m (wv l) := Slv.all hr rfl (by show (wv l).length = _; rw [wv_len, hlm, Nat.mul_one])
    obtain ⟨x, hx⟩ : ∃ x, l[i]? = some x := ⟨_, List.getElem?_eq_getElem (by omega)⟩
    repeat (first | refine W.seq ?_ | refine W.block ?_ | refine W.reg ?_ | refine W.skip ?_ | refine W.exit ?_ | refine W.ret ?_ | refine L.nil ?_ | refine L.p rfl rfl ?_ | refine L.skip rfl ?_)
    refine L.el hsl (k := i) rfl (wv_get hx) rfl rfl rfl rfl (fun _ => rfl) rfl (fun p => ?_)
    repeat (first | refine W.seq ?_ | refine W.block ?_ | refine W.reg ?_ | refine W.skip ?_ | refine W.exit ?_ | refine W.ret ?_ | refine L.nil ?_ | refine L.p rfl rfl ?_ | refine L.skip rfl ?_)
    rw [wrap_u64]
    refine L.elst (w := v64 (BitVec.ofInt 64 ((x.toNat : Int) - 1))) hr rfl (by show 0 + _ ≤ (wv l).length; rw [wv_len, hlm]; omega) (k := i) rfl him rfl rfl rfl rfl (fun _ => rfl) (fun _ => rfl) rfl rfl rfl (fun p => ?_)
    rw [show (newR (wv l) 56).cells.set (0 + i) (v64 (BitVec.ofInt 64 ((x.toNat : Int) - 1))) = wv (l.set i (BitVec.ofInt 64 ((x.toNat : Int) - 1))) by rw [Nat.zero_add]; exact wv_set _ _ _]
    have hr1 := row_set_same hr (x := { newR (wv l) 56 with cells := wv (l.set i (BitVec.ofInt 64 ((x.toNat : Int) - 1))) }) rfl
    have hC1 := hC.set r0 { newR (wv l) 56 with cells := wv (l.set i (BitVec.ofInt 64 ((x.toNat : Int) - 1))) } (by omega)
    generalize T.set r0 { newR (wv l) 56 with cells := wv (l.set i (BitVec.ofInt 64 ((x.toNat : Int) - 1))) } = T1 at *
    have hr1 : Mem.row? T1 r0 = some (newR (wv (l.set i (BitVec.ofInt 64 ((x.toNat : Int) - 1)))) 56) := hr1
    have hl1 : (l.set i (BitVec.ofInt 64 ((x.toNat : Int) - 1))).length = m := by rw [List.length_set]; exact hlm
    generalize l.set i (BitVec.ofInt 64 ((x.toNat : Int) - 1)) = k at *
    have hsl : Slv T1 1 (.slice (some ⟨r0, 0, none⟩) m m) m (wv k) := Slv.all hr1 rfl (by show (wv k).length = _; rw [wv_len, hl1, Nat.mul_one])
    obtain ⟨y, hy⟩ : ∃ x, k[i]? = some x := ⟨_, List.getElem?_eq_getElem (by omega)⟩
    repeat (first | refine W.seq ?_ | refine W.block ?_ | refine W.reg ?_ | refine W.skip ?_ | refine W.exit ?_ | refine W.ret ?_ | refine L.nil ?_ | refine L.p rfl rfl ?_ | refine L.skip rfl ?_)
    refine L.el hsl (k := i) rfl (wv_get hy) rfl rfl rfl rfl (fun _ => rfl) rfl (fun p => ?_)
    repeat (first | refine W.seq ?_ | refine W.block ?_ | refine W.reg ?_ | refine W.skip ?_ | refine W.exit ?_ | refine W.ret ?_ | refine L.nil ?_ | refine L.p rfl rfl ?_ | refine L.skip rfl ?_)
    refine ⟨m - (i + 1), by omega, i + 1, _, k, rfl, by omega, hl1, rfl, rfl, ?_, hr1, hC1⟩
    refine (force_eq rfl).trans ?_
    rw [wrap64 (by omega) (by omega)]; rfl
end
end Go.Proofs.Ytccdlijohkljcaa

/- Layer 7, the closed statement: lengths. Conditions: none. -/
set_option linter.unusedSimpArgs false
set_option linter.unusedVariables false
set_option maxRecDepth 100000
set_option maxHeartbeats 4000000
namespace Go.Proofs.Ytccdlijohkljcaa
open Go
variable {G : Nat}
/-- a list of bytes -/
def BE (N : Nat) (S : Mem) (v : Value) : Prop := ∃ a c, ∃ l : BL, v = .slice a l.length c ∧ BIn S a c l ∧ l.length ≤ N
theorem BE.cons {N : Nat} {S T : Mem} {v : Value} (h : BE N S v) (k : Cons S T) : BE N T v := let ⟨a, c, l, h1, h2, h3⟩ := h; ⟨a, c, l, h1, h2.cons k, h3⟩
theorem BE.slv {N : Nat} {S : Mem} {a : Option Addr} {n c : Nat} (h : BE N S (.slice a n c)) : ∃ l : BL, Slv S 1 (.slice a n c) n (bv l) ∧ l.length = n ∧ n ≤ N := by
  obtain ⟨a', c', l, h1, h2, h3⟩ := h
  cases h1
  exact ⟨l, h2.1, rfl, h3⟩
theorem BE.one {N : Nat} {S : Mem} {v : Value} (h : BE N S v) : oneCell v = true := by obtain ⟨a, c, l, rfl, _⟩ := h; rfl
theorem BE.hd {N : Nat} (hN : N < 1000000) {S : Mem} {h : Hd} {l : List Value} (k : HdOk S 5 h l) (b : BL) (hb : l = bv b) (hn : b.length ≤ N) : BE N S h.v := by
  subst hb
  have := k.bin (by omega)
  exact ⟨_, _, b, this.2, this.1, hn⟩
section
variable {P : Program} {Ext : FuncId → List Value → Mem → Outc → Mem → Prop} {e : Env} {S : Mem} {fl : Bool} {ops : Array Oper} {K : Kont}
variable {rest : List Oper} {dst : Option Tmp} {ty : TypeId} {pos : String} {af : Array Edge} {gd : Option (Nat × Bool)}
theorem L.bsB {t : TypeId} {len : Nat} {parts : Array (Nat × Operand)} (l : BL) (hb : bldOk P t = some (5, 1)) (hl : len = l.length) (hsm : Nat.ble len 16777216 = true)
    (hp : parts.toList.map (fun p => (p.1, e.eval p.2)) = ((bv l).zipIdx 0).map fun p => (p.2, p.1)) (hlen : Nat.ble l.length 1000 = true) (hw : awanted ops ⟨dst, .buildSlice t len parts, ty, pos, af, gd⟩ e = true)
    (h : ∀ v T, Cons S T → BE 1000 T v → L P G Ext fl ops rest (e.put dst v) T K) :
    L P G Ext fl ops (⟨dst, .buildSlice t len parts, ty, pos, af, gd⟩ :: rest) e S K := by
  subst hl
  have hlen := Nat.le_of_ble_eq_true hlen
  exact L.bs (bv l) hb (bv_len l).symm hsm hp (bv_one l) hw (h _ _ (Cons.push _ _) ⟨_, _, l, rfl, BIn.fresh S l (by omega), hlen⟩)
end
theorem len_of {α : Type} {vs : List α} {n i : Nat} (h : vs.length = n) (hi : i < n) : ∃ v, vs[i]? = some v ∧ v ∈ vs := ⟨_, List.getElem?_eq_getElem (by omega), List.getElem_mem _⟩
/-- lists of bytes, all here -/
def LB (S : Mem) (v : Value) (n : Nat) : Prop := ∃ vs : List Value, vs.length = n ∧ Slv S 1 v n vs ∧ ∀ w ∈ vs, BE 1000 S w
theorem LB.cons {S T : Mem} {v : Value} {n : Nat} (h : LB S v n) (k : Cons S T) : LB T v n := let ⟨vs, h1, h2, h3⟩ := h; ⟨vs, h1, h2.cons k, fun w hw => (h3 w hw).cons k⟩
/-- numbers, all in bounds -/
def LI (S : Mem) (v : Value) (n : Nat) (lo hi : Int) : Prop := ∃ is : List Int, is.length = n ∧ Slv S 1 v n (is.map (Value.int .i64)) ∧ ∀ i ∈ is, lo ≤ i ∧ i ≤ hi
theorem LI.cons {S T : Mem} {v : Value} {n : Nat} {lo hi : Int} (h : LI S v n lo hi) (k : Cons S T) : LI T v n lo hi := let ⟨vs, h1, h2, h3⟩ := h; ⟨vs, h1, h2.cons k, h3⟩
theorem LI.get {S : Mem} {v : Value} {n i : Nat} {lo hi : Int} (h : LI S v n lo hi) (hi' : i < n) : ∃ x l, Slv S 1 v n l ∧ l[i]? = some (.int .i64 x) ∧ lo ≤ x ∧ x ≤ hi := by
  obtain ⟨is, h1, h2, h3⟩ := h
  obtain ⟨x, h4, h5⟩ := len_of h1 hi'
  exact ⟨x, _, h2, by rw [List.getElem?_map, h4]; rfl, h3 x h5⟩
theorem LB.get {S : Mem} {v : Value} {n i : Nat} (h : LB S v n) (hi' : i < n) : ∃ w l, Slv S 1 v n l ∧ l[i]? = some w ∧ BE 1000 S w := by
  obtain ⟨vs, h1, h2, h3⟩ := h
  obtain ⟨x, h4, h5⟩ := len_of h1 hi'
  exact ⟨x, _, h2, h4, h3 x h5⟩
theorem LB.fresh {S : Mem} {vs : List Value} {n : Nat} {t : TypeId} (hn : vs.length = n) (h : ∀ w ∈ vs, BE 1000 S w) : LB (S ++ [newR vs t]) (.slice (some ⟨S.length, 0, none⟩) n n) n :=
  ⟨vs, hn, Slv.all (row_push_new rfl) rfl (by show vs.length = _; omega), fun w hw => (h w hw).cons (Cons.push _ _)⟩
theorem LI.fresh {S : Mem} {is : List Int} {n : Nat} {t : TypeId} {lo hi : Int} (hn : is.length = n) (h : (is.all fun i => decide (lo ≤ i) && decide (i ≤ hi)) = true) : LI (S ++ [newR (is.map (Value.int .i64)) t]) (.slice (some ⟨S.length, 0, none⟩) n n) n lo hi :=
  ⟨is, hn, Slv.all (row_push_new rfl) rfl (by show (is.map _).length = _; rw [List.length_map]; omega), fun i hi => by
    have := List.all_eq_true.1 h i hi
    simpa using this⟩
theorem BE.reads {N : Nat} {S : Mem} {v : Value} (h : BE N S v) : C Try.prog G (Known Try.prog G) 3 [v] S fun u S' => u = .bool true ∧ Cons S S' := by
  obtain ⟨a, c, l, rfl, h1, h2⟩ := h; exact reads_C a c l S h1.1 h1.2.1
theorem BE.once {N : Nat} {S : Mem} {v : Value} (h : BE N S v) : C Try.prog G (Known Try.prog G) 5 [v] S fun u S' => u = .bool true ∧ Cons S S' := by
  obtain ⟨a, c, l, rfl, h1, h2⟩ := h; exact once_C a c l S h1.1 h1.2.1
theorem BE.items {N : Nat} {S : Mem} {v : Value} (h : BE N S v) (i : Int) (hi : -9223372036854775808 ≤ i ∧ i ≤ 9223372036854775807) : C Try.prog G (Known Try.prog G) 7 [v, .int .i64 i] S fun u S' => u = .bool true ∧ Cons S S' := by
  obtain ⟨a, c, l, rfl, h1, h2⟩ := h; exact items_C a c l i S h1.1 h1.2.1 hi
theorem BE.lies {N : Nat} {S : Mem} {v : Value} (h : BE N S v) (i : Int) (x : BitVec 8) : C Try.prog G (Known Try.prog G) 6 [v, .int .i64 i, v8 x] S fun u S' => u = .bool true ∧ Cons S S' := by
  obtain ⟨a, c, l, rfl, h1, h2⟩ := h; exact lies_C a c l i x S h1.1 h1.2.1
/-- all are lists of bytes -/
def AllB (S : Mem) (vs : List Value) : Prop := ∀ w ∈ vs, BE 1000 S w
theorem AllB.nil (S : Mem) : AllB S [] := fun w hw => by simp at hw
theorem AllB.snoc {S T : Mem} {vs : List Value} {v : Value} (h : AllB S vs) (k : Cons S T) (hv : BE 1000 T v) : AllB T (vs ++ [v]) := fun w hw => by
  rw [List.mem_append, List.mem_singleton] at hw
  rcases hw with hw | rfl
  · exact (h w hw).cons k
  · exact hv
theorem AllB.one {S : Mem} {vs : List Value} (h : AllB S vs) : vs.all oneCell = true := List.all_eq_true.2 fun w hw => (h w hw).one
section
variable {P : Program} {Ext : FuncId → List Value → Mem → Outc → Mem → Prop} {e : Env} {S S0 : Mem} {fl : Bool} {ops : Array Oper} {K : Kont}
variable {rest : List Oper} {dst dst2 : Option Tmp} {ty ty2 : TypeId} {pos pos2 : String} {af af2 : Array Edge} {gd gd2 : Option (Nat × Bool)} {d : Tmp}
theorem L.appB {ts xs : TypeId} {s x : Operand} {bytes : Nat} {h : Hd} {xv : Value} {l m : BL} {n : Nat} (hok : appOk P ts xs = some (5, 1, bytes)) (hg : RetB S0 S h l) (hs : e.eval s = h.v) (hxv : e.eval x = xv)
    (hx : Slv S 1 xv n (bv m)) (hroom : l.length + m.length < 1000000) (hby : (Nat.ble 1 bytes && Nat.ble bytes 64) = true) (hw : awanted ops ⟨dst, .call ⟨.builtin .append, #[s, x], #[ts, xs]⟩, ty, pos, af, gd⟩ e = true)
    (k : ∀ h' S', RetB S0 S' h' (l ++ m) → L P G Ext fl ops rest (e.put dst (Hd.v h')) S' K) :
    L P G Ext fl ops (⟨dst, .call ⟨.builtin .append, #[s, x], #[ts, xs]⟩, ty, pos, af, gd⟩ :: rest) e S K := by
  have hn : n = m.length := by have := hx.1; rw [bv_len] at this; omega
  subst hn
  have hl := hg.2.2.1.len
  rw [bv_len] at hl
  refine L.appH hok hg.2.2.1 hs hxv hx (bv_one m) (by omega) hby hw fun h' S' q1 q2 q3 q4 => k h' S' ?_
  refine ⟨q4.cons0 hg.1 (fun b hb => hg.2.2.2 b (by simpa using hb)), by rw [List.length_append]; omega, by rw [bv_app]; exact q1, fun b hb => ?_⟩
  rcases q3 with ⟨q3, _⟩ | ⟨b', q3, q5⟩
  · exact hg.2.2.2 b (by rw [← q3]; exact hb)
  · rw [q3] at hb; cases hb; exact Nat.le_trans hg.1.len q5
theorem L.pushB {t ts xs : TypeId} {s y : Operand} {bytes : Nat} {h : Hd} {l : BL} (x : BitVec 8) (hok : appOk P ts xs = some (5, 1, bytes)) (hg : RetB S0 S h l)
    (hb : bldOk P t = some (5, 1)) (hy : e.eval y = v8 x)
    (w1 : awanted ops ⟨some d, .buildSlice t 1 #[(0, y)], ty, pos, af, gd⟩ e = true)
    (hs : (e.put (some d) (.slice (some ⟨S.length, 0, none⟩) 1 1)).eval s = h.v) (hroom : l.length < 1000000) (hby : (Nat.ble 1 bytes && Nat.ble bytes 64) = true)
    (w2 : ∀ p, awanted ops ⟨dst2, .call ⟨.builtin .append, #[s, .tmp d], #[ts, xs]⟩, ty2, pos2, af2, gd2⟩ (e.put (some d) p) = true)
    (k : ∀ p h' S', RetB S0 S' h' (l ++ [x]) → L P G Ext fl ops rest ((e.put (some d) p).put dst2 (Hd.v h')) S' K) :
    L P G Ext fl ops (⟨some d, .buildSlice t 1 #[(0, y)], ty, pos, af, gd⟩ :: ⟨dst2, .call ⟨.builtin .append, #[s, .tmp d], #[ts, xs]⟩, ty2, pos2, af2, gd2⟩ :: rest) e S K := by
  have hl := hg.2.2.1.len
  rw [bv_len] at hl
  refine L.pushH (w := v8 x) hok hg.2.2.1 hb hy rfl w1 hs (by omega) hby w2 fun p h' S' q1 q2 q3 q4 => k p h' S' ?_
  refine ⟨q4.cons0 hg.1 (fun b hb => hg.2.2.2 b (by simpa using hb)), by rw [List.length_append]; simp; omega, by rw [bv_app]; exact q1, fun b hb => ?_⟩
  obtain ⟨b', q3, q5⟩ := q3
  rw [q3] at hb; cases hb; exact Nat.le_trans hg.1.len q5
end
theorem RetB.be {S S' : Mem} {d : Hd} {l : BL} (h : RetB S S' d l) (hn : l.length ≤ 100000) : BE 100000 S' d.v := BE.hd (by decide) h.2.2.1 l rfl hn
theorem itemsK_C (S : Mem) : C Try.prog G (Known Try.prog G) 33 [] S fun v S' => v = .bool true ∧ Cons S S' := by
  refine C.fn Try.func33 rfl (by kernel_rfl) rfl ?_
  repeat (first | refine W.seq ?_ | refine W.block ?_ | refine W.reg ?_ | refine W.skip ?_ | refine W.exit ?_ | refine W.ret ?_ | refine L.nil ?_ | refine L.p rfl rfl ?_ | refine L.skip rfl ?_)
  refine L.mk (n := 700) (m := 700) rfl rfl rfl rfl rfl (by decide) (by decide) rfl rfl ?_
  have hF : BIn (S ++ [newR (bv (List.replicate 700 0#8)) 5]) (some ⟨S.length, 0, none⟩) (List.replicate 700 0#8).length (List.replicate 700 0#8) := BIn.fresh S _ (by simp)
  rw [show newR (List.replicate 700 (Value.int .u8 0)) 5 = newR (bv (List.replicate 700 0#8)) 5 by simp [bv]; rfl]
  have hC : Cons S (S ++ [newR (bv (List.replicate 700 0#8)) 5]) := Cons.push _ _
  generalize S ++ [newR (bv (List.replicate 700 0#8)) 5] = TF at *
  have hF7 : (List.replicate 700 0#8).length = 700 := List.length_replicate
  rw [hF7] at hF
  generalize List.replicate 700 0#8 = F at *
  generalize S.length = rf at *
  have hCS := hC
  have hC := Cons.refl TF
  have all := AllB.nil TF
  repeat (first | refine W.seq ?_ | refine W.block ?_ | refine W.reg ?_ | refine W.skip ?_ | refine W.exit ?_ | refine W.ret ?_ | refine L.nil ?_ | refine L.p rfl rfl ?_ | refine L.skip rfl ?_)
  refine L.bsB [0#8] rfl rfl rfl rfl rfl rfl ?_
  rintro v1 T1 cT1 iT1
  have all := all.snoc cT1 iT1
  have hC := hC.trans cT1
  clear cT1 iT1
  refine L.bsB [1#8] rfl rfl rfl rfl rfl rfl ?_
  rintro v2 T2 cT2 iT2
  have all := all.snoc cT2 iT2
  have hC := hC.trans cT2
  clear cT2 iT2
  refine L.bsB [127#8] rfl rfl rfl rfl rfl rfl ?_
  rintro v3 T3 cT3 iT3
  have all := all.snoc cT3 iT3
  have hC := hC.trans cT3
  clear cT3 iT3
  refine L.bsB [128#8] rfl rfl rfl rfl rfl rfl ?_
  rintro v4 T4 cT4 iT4
  have all := all.snoc cT4 iT4
  have hC := hC.trans cT4
  clear cT4 iT4
  refine L.bsB [129#8] rfl rfl rfl rfl rfl rfl ?_
  rintro v5 T5 cT5 iT5
  have all := all.snoc cT5 iT5
  have hC := hC.trans cT5
  clear cT5 iT5
  refine L.bsB [129#8, 127#8] rfl rfl rfl rfl rfl rfl ?_
  rintro v6 T6 cT6 iT6
  have all := all.snoc cT6 iT6
  have hC := hC.trans cT6
  clear cT6 iT6
  refine L.bsB [129#8, 128#8] rfl rfl rfl rfl rfl rfl ?_
  rintro v7 T7 cT7 iT7
  have all := all.snoc cT7 iT7
  have hC := hC.trans cT7
  clear cT7 iT7
  refine L.bsB [129#8, 255#8] rfl rfl rfl rfl rfl rfl ?_
  rintro v8 T8 cT8 iT8
  have all := all.snoc cT8 iT8
  have hC := hC.trans cT8
  clear cT8 iT8
  refine L.bsB [130#8] rfl rfl rfl rfl rfl rfl ?_
  rintro v9 T9 cT9 iT9
  have all := all.snoc cT9 iT9
  have hC := hC.trans cT9
  clear cT9 iT9
  refine L.bsB [130#8, 1#8] rfl rfl rfl rfl rfl rfl ?_
  rintro v10 T10 cT10 iT10
  have all := all.snoc cT10 iT10
  have hC := hC.trans cT10
  clear cT10 iT10
  refine L.bsB [130#8, 0#8, 128#8] rfl rfl rfl rfl rfl rfl ?_
  rintro v11 T11 cT11 iT11
  have all := all.snoc cT11 iT11
  have hC := hC.trans cT11
  clear cT11 iT11
  refine L.bsB [130#8, 0#8, 255#8] rfl rfl rfl rfl rfl rfl ?_
  rintro v12 T12 cT12 iT12
  have all := all.snoc cT12 iT12
  have hC := hC.trans cT12
  clear cT12 iT12
  refine L.bsB [130#8, 1#8, 0#8] rfl rfl rfl rfl rfl rfl ?_
  rintro v13 T13 cT13 iT13
  have all := all.snoc cT13 iT13
  have hC := hC.trans cT13
  clear cT13 iT13
  refine L.bsB [130#8, 1#8, 255#8] rfl rfl rfl rfl rfl rfl ?_
  rintro v14 T14 cT14 iT14
  have all := all.snoc cT14 iT14
  have hC := hC.trans cT14
  clear cT14 iT14
  refine L.bsB [130#8, 2#8, 176#8] rfl rfl rfl rfl rfl rfl ?_
  rintro v15 T15 cT15 iT15
  have all := all.snoc cT15 iT15
  have hC := hC.trans cT15
  clear cT15 iT15
  refine L.bsB [131#8, 0#8, 1#8, 0#8] rfl rfl rfl rfl rfl rfl ?_
  rintro v16 T16 cT16 iT16
  have all := all.snoc cT16 iT16
  have hC := hC.trans cT16
  clear cT16 iT16
  refine L.bsB [131#8, 1#8, 0#8, 0#8] rfl rfl rfl rfl rfl rfl ?_
  rintro v17 T17 cT17 iT17
  have all := all.snoc cT17 iT17
  have hC := hC.trans cT17
  clear cT17 iT17
  refine L.bsB [132#8, 0#8, 0#8, 1#8, 0#8] rfl rfl rfl rfl rfl rfl ?_
  rintro v18 T18 cT18 iT18
  have all := all.snoc cT18 iT18
  have hC := hC.trans cT18
  clear cT18 iT18
  refine L.bsB [132#8, 127#8, 255#8, 255#8, 255#8] rfl rfl rfl rfl rfl rfl ?_
  rintro v19 T19 cT19 iT19
  have all := all.snoc cT19 iT19
  have hC := hC.trans cT19
  clear cT19 iT19
  refine L.bsB [132#8, 255#8, 255#8, 255#8, 255#8] rfl rfl rfl rfl rfl rfl ?_
  rintro v20 T20 cT20 iT20
  have all := all.snoc cT20 iT20
  have hC := hC.trans cT20
  clear cT20 iT20
  refine L.bsB [133#8, 1#8, 0#8, 0#8, 0#8, 0#8] rfl rfl rfl rfl rfl rfl ?_
  rintro v21 T21 cT21 iT21
  have all := all.snoc cT21 iT21
  have hC := hC.trans cT21
  clear cT21 iT21
  refine L.bsB [255#8] rfl rfl rfl rfl rfl rfl ?_
  rintro v22 T22 cT22 iT22
  have all := all.snoc cT22 iT22
  have hC := hC.trans cT22
  clear cT22 iT22
  refine L.bsB [] rfl rfl rfl rfl rfl rfl ?_
  rintro v23 T23 cT23 iT23
  have all := all.snoc cT23 iT23
  have hC := hC.trans cT23
  clear cT23 iT23
  simp only [List.nil_append, List.cons_append] at all
  refine L.bs [v1, v2, v3, v4, v5, v6, v7, v8, v9, v10, v11, v12, v13, v14, v15, v16, v17, v18, v19, v20, v21, v22, v23] rfl rfl rfl rfl all.one rfl ?_
  have hLB := LB.fresh (S := T23) (t := 22) (n := 23) rfl all
  have hCF := hC.pushr (newR [v1, v2, v3, v4, v5, v6, v7, v8, v9, v10, v11, v12, v13, v14, v15, v16, v17, v18, v19, v20, v21, v22, v23] 22)
  have hF := hF.cons hCF
  have hCS := hCS.trans hCF
  clear hCF hC all
  generalize T23 ++ [newR [v1, v2, v3, v4, v5, v6, v7, v8, v9, v10, v11, v12, v13, v14, v15, v16, v17, v18, v19, v20, v21, v22, v23] 22] = T at *
  generalize T23.length = rl at *
  repeat (first | refine W.seq ?_ | refine W.block ?_ | refine W.reg ?_ | refine W.skip ?_ | refine W.exit ?_ | refine W.ret ?_ | refine L.nil ?_ | refine L.p rfl rfl ?_ | refine L.skip rfl ?_)
  refine W.loop (fun j e T' => ∃ i, j = 23 - i ∧ i ≤ 23 ∧ Cons S T' ∧ BIn T' (some ⟨rf, 0, none⟩) 700 F ∧ LB T' (.slice (some ⟨rl, 0, none⟩) 23 23) 23 ∧ e 1 = .slice (some ⟨rf, 0, none⟩) 700 700 ∧ e 35 = .slice (some ⟨rl, 0, none⟩) 23 23 ∧ e 36 = vi 23 ∧ e 37 = vi i) 23
    ⟨0, by omega, by omega, hCS, hF, hLB, rfl, rfl, rfl, rfl⟩ ?_
  clear hCS hF hLB
  rintro j e T0 ⟨i, rfl, hi, hCS, hF, hLB, e1, e35, e36, e37⟩
  refine W.env4 e1 e35 e36 e37 ?_
  repeat (first | refine W.seq ?_ | refine W.block ?_ | refine W.reg ?_ | refine W.skip ?_ | refine W.exit ?_ | refine W.ret ?_ | refine L.nil ?_ | refine L.p rfl rfl ?_ | refine L.skip rfl ?_)
  refine W.ite rfl (fun h => ?_) (fun h => ?_)
  · have hin : i < 23 := by have := of_decide_eq_true h; omega
    clear h
    obtain ⟨w, ws, g1, g2, g3⟩ := hLB.get hin
    obtain ⟨aw, cw, lw, rfl, _⟩ := id g3
    repeat (first | refine W.seq ?_ | refine W.block ?_ | refine W.reg ?_ | refine W.skip ?_ | refine W.exit ?_ | refine W.ret ?_ | refine L.nil ?_ | refine L.p rfl rfl ?_ | refine L.skip rfl ?_)
    refine L.el g1 (k := i) rfl g2 rfl rfl rfl rfl (fun _ => rfl) rfl (fun p => ?_)
    clear g1 g2
    repeat (first | refine W.seq ?_ | refine W.block ?_ | refine W.reg ?_ | refine W.skip ?_ | refine W.exit ?_ | refine W.ret ?_ | refine L.nil ?_ | refine L.p rfl rfl ?_ | refine L.skip rfl ?_)
    refine L.bs (len := 12) (([0, 1, 127, 128, 129, 255, 256, 257, 511, 688, 689, 700] : List Int).map (Value.int .i64)) rfl rfl rfl rfl rfl rfl ?_
    have hLI := LI.fresh (S := T0) (is := [0, 1, 127, 128, 129, 255, 256, 257, 511, 688, 689, 700]) (t := 3) (n := 12) (lo := 0) (hi := 700) rfl rfl
    have hk := Cons.push T0 (newR (([0, 1, 127, 128, 129, 255, 256, 257, 511, 688, 689, 700] : List Int).map (Value.int .i64)) 3)
    have hF := hF.cons hk
    have hLB := hLB.cons hk
    have hCS := hCS.trans hk
    have g3 := g3.cons hk
    clear hk
    generalize T0 ++ [newR (([0, 1, 127, 128, 129, 255, 256, 257, 511, 688, 689, 700] : List Int).map (Value.int .i64)) 3] = T at *
    generalize T0.length = ri at *
    repeat (first | refine W.seq ?_ | refine W.block ?_ | refine W.reg ?_ | refine W.skip ?_ | refine W.exit ?_ | refine W.ret ?_ | refine L.nil ?_ | refine L.p rfl rfl ?_ | refine L.skip rfl ?_)
    refine W.loop (fun j e T' => ∃ k, j = 12 - k ∧ k ≤ 12 ∧ Cons S T' ∧ BIn T' (some ⟨rf, 0, none⟩) 700 F ∧ LB T' (.slice (some ⟨rl, 0, none⟩) 23 23) 23 ∧ LI T' (.slice (some ⟨ri, 0, none⟩) 12 12) 12 0 700 ∧ BE 1000 T' (.slice aw lw.length cw) ∧ e 1 = .slice (some ⟨rf, 0, none⟩) 700 700 ∧ e 35 = .slice (some ⟨rl, 0, none⟩) 23 23 ∧ e 36 = vi 23 ∧ e 37 = vi i ∧ e 3 = .slice aw lw.length cw ∧
      e 41 = .slice (some ⟨ri, 0, none⟩) 12 12 ∧ e 42 = vi 12 ∧ e 43 = vi k) 12
      ⟨0, by omega, by omega, hCS, hF, hLB, hLI, g3, rfl, rfl, rfl, rfl, rfl, rfl, rfl, rfl⟩ ?_
    clear hCS hF hLB hLI g3
    rintro j e T0 ⟨k, rfl, hk, hCS, hF, hLB, hLI, g3, e1, e35, e36, e37, e3, e41, e42, e43⟩
    refine W.env8 e1 e35 e36 e37 e3 e41 e42 e43 ?_
    repeat (first | refine W.seq ?_ | refine W.block ?_ | refine W.reg ?_ | refine W.skip ?_ | refine W.exit ?_ | refine W.ret ?_ | refine L.nil ?_ | refine L.p rfl rfl ?_ | refine L.skip rfl ?_)
    refine W.ite rfl (fun h => ?_) (fun h => ?_)
    · have hin2 : k < 12 := by have := of_decide_eq_true h; omega
      clear h
      obtain ⟨x, xs, p1, p2, p3, p4⟩ := hLI.get hin2
      obtain ⟨n, rfl⟩ : ∃ n : Nat, x = (n : Int) := ⟨x.toNat, by omega⟩
      repeat (first | refine W.seq ?_ | refine W.block ?_ | refine W.reg ?_ | refine W.skip ?_ | refine W.exit ?_ | refine W.ret ?_ | refine L.nil ?_ | refine L.p rfl rfl ?_ | refine L.skip rfl ?_)
      refine L.el p1 (k := k) rfl p2 rfl rfl rfl rfl (fun _ => rfl) rfl (fun p => ?_)
      clear p1 p2
      repeat (first | refine W.seq ?_ | refine W.block ?_ | refine W.reg ?_ | refine W.skip ?_ | refine W.exit ?_ | refine W.ret ?_ | refine L.nil ?_ | refine L.p rfl rfl ?_ | refine L.skip rfl ?_)
      refine L.pushB (S0 := T0) (h := Hd0) (l := []) 48#8 rfl (RetB.nil (Cons.refl _)) rfl rfl rfl rfl (by decide) rfl (fun _ => rfl) (fun p h1 T1 q1 => ?_)
      repeat (first | refine W.seq ?_ | refine W.block ?_ | refine W.reg ?_ | refine W.skip ?_ | refine W.exit ?_ | refine W.ret ?_ | refine L.nil ?_ | refine L.p rfl rfl ?_ | refine L.skip rfl ?_)
      obtain ⟨lw', b1, b2, b3⟩ := g3.slv
      refine L.appB rfl q1 rfl rfl (b1.cons q1.1) (by simp; omega) rfl rfl (fun h2 T2 q2 => ?_)
      repeat (first | refine W.seq ?_ | refine W.block ?_ | refine W.reg ?_ | refine W.skip ?_ | refine W.exit ?_ | refine W.ret ?_ | refine L.nil ?_ | refine L.p rfl rfl ?_ | refine L.skip rfl ?_)
      rw [← hF7] at hF
      obtain ⟨a5, c5, z1, z2⟩ := (hF.cons q2.1).partT (k := 0) (h := n) (lo := none) (hi := some (.int .i64 (n : Int))) (.inl ⟨rfl, rfl⟩) (.inr ⟨.i64, rfl⟩) (by omega) (by omega)
      rw [List.drop_zero, Nat.sub_zero] at z1 z2
      have z3 := z2 _ (hF.cons q2.1)
      rw [hF7] at z1 hF
      refine L.is (.slice a5 (F.take n).length c5) ((slice_at0 rfl rfl rfl).trans z1) rfl ?_
      refine L.appB rfl q2 rfl rfl z3.1 (by rw [List.length_take]; simp; omega) rfl rfl (fun h3 T3 q3 => ?_)
      have hB := q3.be (by rw [List.length_append, List.length_append, List.length_take]; simp; omega)
      repeat (first | refine W.seq ?_ | refine W.block ?_ | refine W.reg ?_ | refine W.skip ?_ | refine W.exit ?_ | refine W.ret ?_ | refine L.nil ?_ | refine L.p rfl rfl ?_ | refine L.skip rfl ?_)
      refine L.cl (hB.items 0 (by decide)) rfl rfl ?_
      rintro _ T4 ⟨rfl, k4⟩
      refine ⟨nofun, ?_⟩
      repeat (first | refine W.seq ?_ | refine W.block ?_ | refine W.reg ?_ | refine W.skip ?_ | refine W.exit ?_ | refine W.ret ?_ | refine L.nil ?_ | refine L.p rfl rfl ?_ | refine L.skip rfl ?_)
      have hB := hB.cons k4
      refine L.cl (hB.items 1 (by decide)) rfl rfl ?_
      rintro _ T5 ⟨rfl, k5⟩
      refine ⟨nofun, ?_⟩
      repeat (first | refine W.seq ?_ | refine W.block ?_ | refine W.reg ?_ | refine W.skip ?_ | refine W.exit ?_ | refine W.ret ?_ | refine L.nil ?_ | refine L.p rfl rfl ?_ | refine L.skip rfl ?_)
      have hB := hB.cons k5
      refine L.cl hB.reads rfl rfl ?_
      rintro _ T6 ⟨rfl, k6⟩
      refine ⟨nofun, ?_⟩
      repeat (first | refine W.seq ?_ | refine W.block ?_ | refine W.reg ?_ | refine W.skip ?_ | refine W.exit ?_ | refine W.ret ?_ | refine L.nil ?_ | refine L.p rfl rfl ?_ | refine L.skip rfl ?_)
      have hB := hB.cons k6
      refine L.cl (hB.lies 0 1#8) rfl rfl ?_
      rintro _ T7 ⟨rfl, k7⟩
      refine ⟨nofun, ?_⟩
      have kk := (((q3.1.trans k4).trans k5).trans k6).trans k7
      repeat (first | refine W.seq ?_ | refine W.block ?_ | refine W.reg ?_ | refine W.skip ?_ | refine W.exit ?_ | refine W.ret ?_ | refine L.nil ?_ | refine L.p rfl rfl ?_ | refine L.skip rfl ?_)
      refine W.ite rfl (fun h => ?_) (fun h => ?_)
      · cases h
      clear h
      repeat (first | refine W.seq ?_ | refine W.block ?_ | refine W.reg ?_ | refine W.skip ?_ | refine W.exit ?_ | refine W.ret ?_ | refine L.nil ?_ | refine L.p rfl rfl ?_ | refine L.skip rfl ?_)
      refine ⟨12 - (k + 1), by omega, k + 1, rfl, by omega, hCS.trans kk, hF.cons kk, hLB.cons kk, hLI.cons kk, g3.cons kk, rfl, rfl, rfl, rfl, rfl, rfl, rfl, ?_⟩
      refine (force_eq rfl).trans ?_
      rw [wrap64 (by omega) (by omega)]; rfl
    · repeat (first | refine W.seq ?_ | refine W.block ?_ | refine W.reg ?_ | refine W.skip ?_ | refine W.exit ?_ | refine W.ret ?_ | refine L.nil ?_ | refine L.p rfl rfl ?_ | refine L.skip rfl ?_)
      refine ⟨23 - (i + 1), by omega, i + 1, rfl, by omega, hCS, hF, hLB, rfl, rfl, rfl, ?_⟩
      refine (force_eq rfl).trans ?_
      rw [wrap64 (by omega) (by omega)]; rfl
  clear h
  repeat (first | refine W.seq ?_ | refine W.block ?_ | refine W.reg ?_ | refine W.skip ?_ | refine W.exit ?_ | refine W.ret ?_ | refine L.nil ?_ | refine L.p rfl rfl ?_ | refine L.skip rfl ?_)
  refine L.bs (len := 10) (([-9223372036854775808, -1, 0, 1, 2, 3, 7, 8, 9, 9223372036854775807] : List Int).map (Value.int .i64)) rfl rfl rfl rfl rfl rfl ?_
  have hLI := LI.fresh (S := T0) (is := [-9223372036854775808, -1, 0, 1, 2, 3, 7, 8, 9, 9223372036854775807]) (t := 3) (n := 10) (lo := -9223372036854775808) (hi := 9223372036854775807) rfl rfl
  have hCS := hCS.trans (Cons.push T0 (newR (([-9223372036854775808, -1, 0, 1, 2, 3, 7, 8, 9, 9223372036854775807] : List Int).map (Value.int .i64)) 3))
  clear hF hLB
  generalize T0 ++ [newR (([-9223372036854775808, -1, 0, 1, 2, 3, 7, 8, 9, 9223372036854775807] : List Int).map (Value.int .i64)) 3] = T at *
  generalize T0.length = ri at *
  repeat (first | refine W.seq ?_ | refine W.block ?_ | refine W.reg ?_ | refine W.skip ?_ | refine W.exit ?_ | refine W.ret ?_ | refine L.nil ?_ | refine L.p rfl rfl ?_ | refine L.skip rfl ?_)
  refine W.loop (fun j e T' => ∃ k, j = 10 - k ∧ k ≤ 10 ∧ Cons S T' ∧ LI T' (.slice (some ⟨ri, 0, none⟩) 10 10) 10 (-9223372036854775808) 9223372036854775807 ∧ e 78 = .slice (some ⟨ri, 0, none⟩) 10 10 ∧ e 79 = vi 10 ∧ e 80 = vi k) 10
    ⟨0, by omega, by omega, hCS, hLI, rfl, rfl, rfl⟩ ?_
  clear hCS hLI
  rintro j e T0 ⟨k, rfl, hk, hCS, hLI, e78, e79, e80⟩
  refine W.env3 e78 e79 e80 ?_
  repeat (first | refine W.seq ?_ | refine W.block ?_ | refine W.reg ?_ | refine W.skip ?_ | refine W.exit ?_ | refine W.ret ?_ | refine L.nil ?_ | refine L.p rfl rfl ?_ | refine L.skip rfl ?_)
  refine W.ite rfl (fun h => ?_) (fun h => ?_)
  · have hin : k < 10 := by have := of_decide_eq_true h; omega
    clear h
    obtain ⟨x, xs, p1, p2, p3, p4⟩ := hLI.get hin
    repeat (first | refine W.seq ?_ | refine W.block ?_ | refine W.reg ?_ | refine W.skip ?_ | refine W.exit ?_ | refine W.ret ?_ | refine L.nil ?_ | refine L.p rfl rfl ?_ | refine L.skip rfl ?_)
    refine L.el p1 (k := k) rfl p2 rfl rfl rfl rfl (fun _ => rfl) rfl (fun p => ?_)
    clear p1 p2
    repeat (first | refine W.seq ?_ | refine W.block ?_ | refine W.reg ?_ | refine W.skip ?_ | refine W.exit ?_ | refine W.ret ?_ | refine L.nil ?_ | refine L.p rfl rfl ?_ | refine L.skip rfl ?_)
    refine L.bs (bv [48#8, 6#8, 2#8, 1#8, 5#8, 2#8, 1#8, 3#8]) rfl rfl rfl rfl rfl rfl ?_
    have hB : BE 1000 (T0 ++ [newR (bv [48#8, 6#8, 2#8, 1#8, 5#8, 2#8, 1#8, 3#8]) 5]) (.slice (some ⟨T0.length, 0, none⟩) 8 8) := ⟨_, _, [48#8, 6#8, 2#8, 1#8, 5#8, 2#8, 1#8, 3#8], rfl, BIn.fresh T0 _ (by decide), by decide⟩
    have hc := Cons.push T0 (newR (bv [48#8, 6#8, 2#8, 1#8, 5#8, 2#8, 1#8, 3#8]) 5)
    have hCS := hCS.trans hc
    have hLI := hLI.cons hc
    clear hc
    generalize T0 ++ [newR (bv [48#8, 6#8, 2#8, 1#8, 5#8, 2#8, 1#8, 3#8]) 5] = T at *
    generalize T0.length = rb at *
    repeat (first | refine W.seq ?_ | refine W.block ?_ | refine W.reg ?_ | refine W.skip ?_ | refine W.exit ?_ | refine W.ret ?_ | refine L.nil ?_ | refine L.p rfl rfl ?_ | refine L.skip rfl ?_)
    refine L.cl (hB.items x ⟨p3, p4⟩) rfl rfl ?_
    rintro _ T4 ⟨rfl, kk⟩
    refine ⟨nofun, ?_⟩
    repeat (first | refine W.seq ?_ | refine W.block ?_ | refine W.reg ?_ | refine W.skip ?_ | refine W.exit ?_ | refine W.ret ?_ | refine L.nil ?_ | refine L.p rfl rfl ?_ | refine L.skip rfl ?_)
    refine W.ite rfl (fun h => ?_) (fun h => ?_)
    · cases h
    clear h
    repeat (first | refine W.seq ?_ | refine W.block ?_ | refine W.reg ?_ | refine W.skip ?_ | refine W.exit ?_ | refine W.ret ?_ | refine L.nil ?_ | refine L.p rfl rfl ?_ | refine L.skip rfl ?_)
    refine ⟨10 - (k + 1), by omega, k + 1, rfl, by omega, hCS.trans kk, hLI.cons kk, rfl, rfl, ?_⟩
    refine (force_eq rfl).trans ?_
    rw [wrap64 (by omega) (by omega)]; rfl
  clear h hLI
  have hCS0 := hCS
  have hC := Cons.refl T0
  have all := AllB.nil T0
  repeat (first | refine W.seq ?_ | refine W.block ?_ | refine W.reg ?_ | refine W.skip ?_ | refine W.exit ?_ | refine W.ret ?_ | refine L.nil ?_ | refine L.p rfl rfl ?_ | refine L.skip rfl ?_)
  refine L.bsB [] rfl rfl rfl rfl rfl rfl ?_
  rintro v1 T1 cT1 iT1
  have all := all.snoc cT1 iT1
  have hC := hC.trans cT1
  clear cT1 iT1
  refine L.bsB [0#8] rfl rfl rfl rfl rfl rfl ?_
  rintro v2 T2 cT2 iT2
  have all := all.snoc cT2 iT2
  have hC := hC.trans cT2
  clear cT2 iT2
  refine L.bsB [127#8] rfl rfl rfl rfl rfl rfl ?_
  rintro v3 T3 cT3 iT3
  have all := all.snoc cT3 iT3
  have hC := hC.trans cT3
  clear cT3 iT3
  refine L.bsB [128#8] rfl rfl rfl rfl rfl rfl ?_
  rintro v4 T4 cT4 iT4
  have all := all.snoc cT4 iT4
  have hC := hC.trans cT4
  clear cT4 iT4
  refine L.bsB [255#8] rfl rfl rfl rfl rfl rfl ?_
  rintro v5 T5 cT5 iT5
  have all := all.snoc cT5 iT5
  have hC := hC.trans cT5
  clear cT5 iT5
  refine L.bsB [0#8, 0#8] rfl rfl rfl rfl rfl rfl ?_
  rintro v6 T6 cT6 iT6
  have all := all.snoc cT6 iT6
  have hC := hC.trans cT6
  clear cT6 iT6
  refine L.bsB [0#8, 127#8] rfl rfl rfl rfl rfl rfl ?_
  rintro v7 T7 cT7 iT7
  have all := all.snoc cT7 iT7
  have hC := hC.trans cT7
  clear cT7 iT7
  refine L.bsB [0#8, 128#8] rfl rfl rfl rfl rfl rfl ?_
  rintro v8 T8 cT8 iT8
  have all := all.snoc cT8 iT8
  have hC := hC.trans cT8
  clear cT8 iT8
  refine L.bsB [1#8, 0#8] rfl rfl rfl rfl rfl rfl ?_
  rintro v9 T9 cT9 iT9
  have all := all.snoc cT9 iT9
  have hC := hC.trans cT9
  clear cT9 iT9
  refine L.bsB [0#8, 0#8, 128#8] rfl rfl rfl rfl rfl rfl ?_
  rintro v10 T10 cT10 iT10
  have all := all.snoc cT10 iT10
  have hC := hC.trans cT10
  clear cT10 iT10
  simp only [List.nil_append, List.cons_append] at all
  refine L.bs [v1, v2, v3, v4, v5, v6, v7, v8, v9, v10] rfl rfl rfl rfl all.one rfl ?_
  have hLB := LB.fresh (S := T10) (t := 22) (n := 10) rfl all
  have hCS := hCS0.trans (hC.pushr (newR [v1, v2, v3, v4, v5, v6, v7, v8, v9, v10] 22))
  clear hCS0 hC all
  generalize T10 ++ [newR [v1, v2, v3, v4, v5, v6, v7, v8, v9, v10] 22] = T at *
  generalize T10.length = rl at *
  repeat (first | refine W.seq ?_ | refine W.block ?_ | refine W.reg ?_ | refine W.skip ?_ | refine W.exit ?_ | refine W.ret ?_ | refine L.nil ?_ | refine L.p rfl rfl ?_ | refine L.skip rfl ?_)
  refine W.loop (fun j e T' => ∃ i, j = 10 - i ∧ i ≤ 10 ∧ Cons S T' ∧ LB T' (.slice (some ⟨rl, 0, none⟩) 10 10) 10 ∧ e 99 = .slice (some ⟨rl, 0, none⟩) 10 10 ∧ e 100 = vi 10 ∧ e 101 = vi i) 10
    ⟨0, by omega, by omega, hCS, hLB, rfl, rfl, rfl⟩ ?_
  clear hCS hLB
  rintro j e T0 ⟨i, rfl, hi, hCS, hLB, e99, e100, e101⟩
  refine W.env3 e99 e100 e101 ?_
  repeat (first | refine W.seq ?_ | refine W.block ?_ | refine W.reg ?_ | refine W.skip ?_ | refine W.exit ?_ | refine W.ret ?_ | refine L.nil ?_ | refine L.p rfl rfl ?_ | refine L.skip rfl ?_)
  refine W.ite rfl (fun h => ?_) (fun h => ?_)
  · have hin : i < 10 := by have := of_decide_eq_true h; omega
    clear h
    obtain ⟨w, ws, g1, g2, g3⟩ := hLB.get hin
    obtain ⟨aw, cw, lw, rfl, _⟩ := id g3
    repeat (first | refine W.seq ?_ | refine W.block ?_ | refine W.reg ?_ | refine W.skip ?_ | refine W.exit ?_ | refine W.ret ?_ | refine L.nil ?_ | refine L.p rfl rfl ?_ | refine L.skip rfl ?_)
    refine L.el g1 (k := i) rfl g2 rfl rfl rfl rfl (fun _ => rfl) rfl (fun p => ?_)
    repeat (first | refine W.seq ?_ | refine W.block ?_ | refine W.reg ?_ | refine W.skip ?_ | refine W.exit ?_ | refine W.ret ?_ | refine L.nil ?_ | refine L.p rfl rfl ?_ | refine L.skip rfl ?_)
    refine L.cl (g3.items 0 (by decide)) rfl rfl ?_
    rintro _ T4 ⟨rfl, kk⟩
    refine ⟨nofun, ?_⟩
    repeat (first | refine W.seq ?_ | refine W.block ?_ | refine W.reg ?_ | refine W.skip ?_ | refine W.exit ?_ | refine W.ret ?_ | refine L.nil ?_ | refine L.p rfl rfl ?_ | refine L.skip rfl ?_)
    refine W.ite rfl (fun h => ?_) (fun h => ?_)
    · cases h
    clear h
    repeat (first | refine W.seq ?_ | refine W.block ?_ | refine W.reg ?_ | refine W.skip ?_ | refine W.exit ?_ | refine W.ret ?_ | refine L.nil ?_ | refine L.p rfl rfl ?_ | refine L.skip rfl ?_)
    refine ⟨10 - (i + 1), by omega, i + 1, rfl, by omega, hCS.trans kk, hLB.cons kk, rfl, rfl, ?_⟩
    refine (force_eq rfl).trans ?_
    rw [wrap64 (by omega) (by omega)]; rfl
  clear h hLB
  repeat (first | refine W.seq ?_ | refine W.block ?_ | refine W.reg ?_ | refine W.skip ?_ | refine W.exit ?_ | refine W.ret ?_ | refine L.nil ?_ | refine L.p rfl rfl ?_ | refine L.skip rfl ?_)
  refine L.cl (works_C _) rfl rfl ?_
  rintro _ T1 ⟨rfl, kk⟩
  refine ⟨nofun, ?_⟩
  repeat (first | refine W.seq ?_ | refine W.block ?_ | refine W.reg ?_ | refine W.skip ?_ | refine W.exit ?_ | refine W.ret ?_ | refine L.nil ?_ | refine L.p rfl rfl ?_ | refine L.skip rfl ?_)
  exact ⟨.inr rfl, _, rfl, rfl, hCS.trans kk⟩
end Go.Proofs.Ytccdlijohkljcaa

/- Layer 7, the closed statement: keys. Conditions: none. -/
set_option linter.unusedSimpArgs false
set_option linter.unusedVariables false
set_option maxRecDepth 100000
set_option maxHeartbeats 4000000
namespace Go.Proofs.Ytccdlijohkljcaa
open Go
variable {G : Nat}
/-- a list of words -/
def WE (S : Mem) (v : Value) : Prop := ∃ a c, ∃ l : WL, v = .slice a l.length c ∧ WIn S a c l ∧ l.length ≤ 3000
theorem WE.cons {S T : Mem} {v : Value} (h : WE S v) (k : Cons S T) : WE T v := let ⟨a, c, l, h1, h2, h3⟩ := h; ⟨a, c, l, h1, h2.cons k, h3⟩
theorem WE.fresh (S : Mem) (l : WL) (hl : l.length ≤ 3000) : WE (S ++ [newR (wv l) 56]) (.slice (some ⟨S.length, 0, none⟩) l.length l.length) :=
  ⟨_, _, l, rfl, ⟨Slv.all (row_push_new rfl) rfl (by show (wv l).length = _; rw [wv_len]; omega), by unfold knownCap; rw [if_pos (by unfold UNK; omega)]; exact Nat.le_refl _, nofun, by omega⟩, hl⟩
theorem WE.nil (S : Mem) : WE S nilV := ⟨none, 0, [], rfl, WIn.nil S, by decide⟩
theorem WE.one {S : Mem} {v : Value} (h : WE S v) : oneCell v = true := by obtain ⟨a, c, l, rfl, _⟩ := h; rfl
theorem WE.tells {S : Mem} {u v : Value} (h : WE S u) (k : WE S v) : C Try.prog G (Known Try.prog G) 4 [keyV u v] S fun w S' => w = .bool true ∧ Cons S S' := by
  obtain ⟨a1, c1, l1, rfl, h1, _⟩ := h
  obtain ⟨a2, c2, l2, rfl, h2, _⟩ := k
  exact tells_C a1 a2 c1 c2 l1 l2 S h1.1 h2.1 h1.2.1 h2.2.1 h1.2.2.1 h2.2.2.1
theorem WE.back {S : Mem} {u v : Value} (h : WE S u) (k : WE S v) (i : Int) (x : BitVec 8) : C Try.prog G (Known Try.prog G) 8 [keyV u v, .int .i64 i, v8 x] S fun w S' => w = .bool true ∧ Cons S S' := by
  obtain ⟨a1, c1, l1, rfl, h1, _⟩ := h
  obtain ⟨a2, c2, l2, rfl, h2, _⟩ := k
  exact back_C a1 a2 c1 c2 l1 l2 i x S h1.1 h2.1
theorem oneE_C {Ext : FuncId → List Value → Mem → Outc → Mem → Prop} (n : Nat) (less : Bool) (S : Mem) (hn : n ≤ 100000) : C Try.prog G Ext 57 [.int .i64 (n : Int), .bool less] S fun v S' => (∃ a n c, v = .slice a n c) ∧ WE S' v ∧ Cons S S' :=
  (one_C n less S hn).mono fun v S' ⟨a, c, l, h1, h2, h4, h3⟩ => ⟨⟨a, _, c, h1⟩, ⟨a, c, l, h1, h2, by omega⟩, h3⟩
section
variable {P : Program} {Ext : FuncId → List Value → Mem → Outc → Mem → Prop} {e : Env} {S S0 : Mem} {fl : Bool} {ops : Array Oper} {K : Kont}
variable {rest : List Oper} {dst dst2 : Option Tmp} {ty ty2 : TypeId} {pos pos2 : String} {af af2 : Array Edge} {gd gd2 : Option (Nat × Bool)} {d : Tmp}
/-- bytes behind a list; what they are does not matter -/
theorem L.lit {t ts xs : TypeId} {s : Operand} {bytes len : Nat} {parts : Array (Nat × Operand)} {h : Hd} {l : BL} (bs : BL) (hok : appOk P ts xs = some (5, 1, bytes)) (hg : RetB S0 S h l)
    (hb : bldOk P t = some (5, 1)) (hl : len = bs.length) (hsm : Nat.ble len 16777216 = true) (hp : parts.toList.map (fun p => (p.1, e.eval p.2)) = ((bv bs).zipIdx 0).map fun p => (p.2, p.1))
    (w1 : awanted ops ⟨some d, .buildSlice t len parts, ty, pos, af, gd⟩ e = true)
    (hs : (e.put (some d) (.slice (some ⟨S.length, 0, none⟩) len len)).eval s = h.v) (hroom : l.length + len < 1000000) (hby : (Nat.ble 1 bytes && Nat.ble bytes 64) = true)
    (w2 : ∀ p, awanted ops ⟨dst2, .call ⟨.builtin .append, #[s, .tmp d], #[ts, xs]⟩, ty2, pos2, af2, gd2⟩ (e.put (some d) p) = true)
    (k : ∀ p h' S' m, m.length = l.length + len → RetB S0 S' h' m → L P G Ext fl ops rest ((e.put (some d) p).put dst2 (Hd.v h')) S' K) :
    L P G Ext fl ops (⟨some d, .buildSlice t len parts, ty, pos, af, gd⟩ :: ⟨dst2, .call ⟨.builtin .append, #[s, .tmp d], #[ts, xs]⟩, ty2, pos2, af2, gd2⟩ :: rest) e S K := by
  subst hl
  refine L.bs (bv bs) hb (bv_len bs).symm hsm hp (bv_one bs) w1 ?_
  have hx := BIn.fresh S bs (by omega)
  refine L.appB hok (hg.post (Cons.push S (newR (bv bs) 5))) hs ?_ hx.1 (by omega) hby (w2 _) (fun h' S' q => k _ h' S' _ (by rw [List.length_append]) q)
  simp [Env.eval, Env.put]
end
theorem bv_set (l : BL) (k : Nat) (x : BitVec 8) : (bv l).set k (v8 x) = bv (l.set k x) := by unfold bv; rw [List.map_set]
theorem keysK_C (S : Mem) : C Try.prog G (Known Try.prog G) 34 [] S fun v S' => v = .bool true ∧ Cons S S' := by
  refine C.fn Try.func34 rfl (by kernel_rfl) rfl ?_
  repeat (first | refine W.seq ?_ | refine W.block ?_ | refine W.reg ?_ | refine W.skip ?_ | refine W.exit ?_ | refine W.ret ?_ | refine L.nil ?_ | refine L.p rfl rfl ?_ | refine L.skip rfl ?_)
  refine L.bs (len := 27) (([0, 1, 7, 8, 63, 64, 960, 968, 976, 984, 992, 1000, 1008, 1016, 1024, 1984, 2000, 2016, 2024, 2032, 2040, 2048, 4088, 4095, 4096, 8192, 9000] : List Int).map (Value.int .i64)) rfl rfl rfl rfl rfl rfl ?_
  have hLI := LI.fresh (S := S) (is := [0, 1, 7, 8, 63, 64, 960, 968, 976, 984, 992, 1000, 1008, 1016, 1024, 1984, 2000, 2016, 2024, 2032, 2040, 2048, 4088, 4095, 4096, 8192, 9000]) (t := 3) (n := 27) (lo := 0) (hi := 9000) rfl rfl
  have hCS := Cons.push S (newR (([0, 1, 7, 8, 63, 64, 960, 968, 976, 984, 992, 1000, 1008, 1016, 1024, 1984, 2000, 2016, 2024, 2032, 2040, 2048, 4088, 4095, 4096, 8192, 9000] : List Int).map (Value.int .i64)) 3)
  generalize S ++ [newR (([0, 1, 7, 8, 63, 64, 960, 968, 976, 984, 992, 1000, 1008, 1016, 1024, 1984, 2000, 2016, 2024, 2032, 2040, 2048, 4088, 4095, 4096, 8192, 9000] : List Int).map (Value.int .i64)) 3] = T at *
  generalize S.length = ri at *
  repeat (first | refine W.seq ?_ | refine W.block ?_ | refine W.reg ?_ | refine W.skip ?_ | refine W.exit ?_ | refine W.ret ?_ | refine L.nil ?_ | refine L.p rfl rfl ?_ | refine L.skip rfl ?_)
  refine W.loop (fun j e T' => ∃ i, j = 27 - i ∧ i ≤ 27 ∧ Cons S T' ∧ LI T' (.slice (some ⟨ri, 0, none⟩) 27 27) 27 0 9000 ∧ e 10 = .slice (some ⟨ri, 0, none⟩) 27 27 ∧ e 11 = vi 27 ∧ e 12 = vi i) 27
    ⟨0, by omega, by omega, hCS, hLI, rfl, rfl, rfl⟩ ?_
  clear hCS hLI
  rintro j e T0 ⟨i, rfl, hi, hCS, hLI, e10, e11, e12⟩
  refine W.env3 e10 e11 e12 ?_
  repeat (first | refine W.seq ?_ | refine W.block ?_ | refine W.reg ?_ | refine W.skip ?_ | refine W.exit ?_ | refine W.ret ?_ | refine L.nil ?_ | refine L.p rfl rfl ?_ | refine L.skip rfl ?_)
  refine W.ite rfl (fun h => ?_) (fun h => ?_)
  · have hin : i < 27 := by have := of_decide_eq_true h; omega
    clear h
    obtain ⟨x, xs, p1, p2, p3, p4⟩ := hLI.get hin
    obtain ⟨n, rfl⟩ : ∃ n : Nat, x = (n : Int) := ⟨x.toNat, by omega⟩
    have hn : n ≤ 9000 := by omega
    clear p3 p4
    repeat (first | refine W.seq ?_ | refine W.block ?_ | refine W.reg ?_ | refine W.skip ?_ | refine W.exit ?_ | refine W.ret ?_ | refine L.nil ?_ | refine L.p rfl rfl ?_ | refine L.skip rfl ?_)
    refine L.el p1 (k := i) rfl p2 rfl rfl rfl rfl (fun _ => rfl) rfl (fun p => ?_)
    clear p1 p2
    repeat (first | refine W.seq ?_ | refine W.block ?_ | refine W.reg ?_ | refine W.skip ?_ | refine W.exit ?_ | refine W.ret ?_ | refine L.nil ?_ | refine L.p rfl rfl ?_ | refine L.skip rfl ?_)
    refine L.bs (wv [0#64, 3#64, 128#64, 65537#64]) rfl rfl rfl rfl rfl rfl ?_
    have hW : Slv (T0 ++ [newR (wv [0#64, 3#64, 128#64, 65537#64]) 56]) 1 (.slice (some ⟨T0.length, 0, none⟩) 4 4) 4 (wv [0#64, 3#64, 128#64, 65537#64]) := Slv.all (row_push_new rfl) rfl rfl
    have hc := Cons.push T0 (newR (wv [0#64, 3#64, 128#64, 65537#64]) 56)
    have hCS := hCS.trans hc
    have hLI := hLI.cons hc
    clear hc
    generalize T0 ++ [newR (wv [0#64, 3#64, 128#64, 65537#64]) 56] = T at *
    generalize T0.length = rw at *
    repeat (first | refine W.seq ?_ | refine W.block ?_ | refine W.reg ?_ | refine W.skip ?_ | refine W.exit ?_ | refine W.ret ?_ | refine L.nil ?_ | refine L.p rfl rfl ?_ | refine L.skip rfl ?_)
    refine W.loop (fun j e T' => ∃ k, j = 4 - k ∧ k ≤ 4 ∧ Cons S T' ∧ LI T' (.slice (some ⟨ri, 0, none⟩) 27 27) 27 0 9000 ∧ Slv T' 1 (.slice (some ⟨rw, 0, none⟩) 4 4) 4 (wv [0#64, 3#64, 128#64, 65537#64]) ∧ e 2 = vi n ∧ e 10 = .slice (some ⟨ri, 0, none⟩) 27 27 ∧ e 11 = vi 27 ∧ e 12 = vi i ∧
      e 16 = .slice (some ⟨rw, 0, none⟩) 4 4 ∧ e 17 = vi 4 ∧ e 18 = vi k) 4
      ⟨0, by omega, by omega, hCS, hLI, hW, rfl, rfl, rfl, rfl, rfl, rfl, rfl⟩ ?_
    clear hCS hLI hW
    rintro j e T0 ⟨k, rfl, hk, hCS, hLI, hW, e2, e10, e11, e12, e16, e17, e18⟩
    refine W.env7 e2 e10 e11 e12 e16 e17 e18 ?_
    repeat (first | refine W.seq ?_ | refine W.block ?_ | refine W.reg ?_ | refine W.skip ?_ | refine W.exit ?_ | refine W.ret ?_ | refine L.nil ?_ | refine L.p rfl rfl ?_ | refine L.skip rfl ?_)
    refine W.ite rfl (fun h => ?_) (fun h => ?_)
    · have hin2 : k < 4 := by have := of_decide_eq_true h; omega
      clear h
      obtain ⟨y, hy⟩ : ∃ y, ([0#64, 3#64, 128#64, 65537#64] : WL)[k]? = some y := ⟨_, List.getElem?_eq_getElem hin2⟩
      repeat (first | refine W.seq ?_ | refine W.block ?_ | refine W.reg ?_ | refine W.skip ?_ | refine W.exit ?_ | refine W.ret ?_ | refine L.nil ?_ | refine L.p rfl rfl ?_ | refine L.skip rfl ?_)
      refine L.el hW (k := k) rfl (wv_get hy) rfl rfl rfl rfl (fun _ => rfl) rfl (fun p => ?_)
      clear hy
      repeat (first | refine W.seq ?_ | refine W.block ?_ | refine W.reg ?_ | refine W.skip ?_ | refine W.exit ?_ | refine W.ret ?_ | refine L.nil ?_ | refine L.p rfl rfl ?_ | refine L.skip rfl ?_)
      refine L.cl (oneE_C n false T0 (by omega)) rfl rfl ?_
      rintro _ T1 ⟨⟨a1, n1, c1, rfl⟩, w1, k1⟩
      refine ⟨nofun, ?_⟩
      repeat (first | refine W.seq ?_ | refine W.block ?_ | refine W.reg ?_ | refine W.skip ?_ | refine W.exit ?_ | refine W.ret ?_ | refine L.nil ?_ | refine L.p rfl rfl ?_ | refine L.skip rfl ?_)
      refine L.bs (wv [y]) rfl rfl rfl rfl rfl rfl ?_
      have w2 := WE.fresh T1 [y] (by simp)
      have kk := k1.pushr (newR (wv [y]) 56)
      have w1 := w1.cons (Cons.push T1 (newR (wv [y]) 56))
      clear k1
      generalize T1 ++ [newR (wv [y]) 56] = T2 at *
      generalize T1.length = r2 at *
      refine L.bd #[.slice a1 n1 c1, .slice (some ⟨r2, 0, none⟩) 1 1] (pl := [(0, .slice a1 n1 c1), (1, .slice (some ⟨r2, 0, none⟩) 1 1)]) (z := .agg #[nilV, nilV]) rfl rfl rfl (by kernel_rfl) rfl ?_
      refine L.cl (w1.tells w2) rfl rfl ?_
      rintro _ T3 ⟨rfl, k3⟩
      refine ⟨nofun, ?_⟩
      have kk := kk.trans k3
      clear w1 w2 k3
      repeat (first | refine W.seq ?_ | refine W.block ?_ | refine W.reg ?_ | refine W.skip ?_ | refine W.exit ?_ | refine W.ret ?_ | refine L.nil ?_ | refine L.p rfl rfl ?_ | refine L.skip rfl ?_)
      refine L.bs (wv [y]) rfl rfl rfl rfl rfl rfl ?_
      have w2 := WE.fresh T3 [y] (by simp)
      have kk := kk.pushr (newR (wv [y]) 56)
      generalize T3 ++ [newR (wv [y]) 56] = T4 at *
      generalize T3.length = r4 at *
      repeat (first | refine W.seq ?_ | refine W.block ?_ | refine W.reg ?_ | refine W.skip ?_ | refine W.exit ?_ | refine W.ret ?_ | refine L.nil ?_ | refine L.p rfl rfl ?_ | refine L.skip rfl ?_)
      refine L.cl (oneE_C n true T4 (by omega)) rfl rfl ?_
      rintro _ T5 ⟨⟨a3, n3, c3, rfl⟩, w1, k1⟩
      refine ⟨nofun, ?_⟩
      have w2 := w2.cons k1
      have kk := kk.trans k1
      clear k1
      refine L.bd #[.slice (some ⟨r4, 0, none⟩) 1 1, .slice a3 n3 c3] (pl := [(0, .slice (some ⟨r4, 0, none⟩) 1 1), (1, .slice a3 n3 c3)]) (z := .agg #[nilV, nilV]) rfl rfl rfl (by kernel_rfl) rfl ?_
      refine L.cl (w2.tells w1) rfl rfl ?_
      rintro _ T6 ⟨rfl, k3⟩
      refine ⟨nofun, ?_⟩
      have kk := kk.trans k3
      clear w1 w2 k3
      repeat (first | refine W.seq ?_ | refine W.block ?_ | refine W.reg ?_ | refine W.skip ?_ | refine W.exit ?_ | refine W.ret ?_ | refine L.nil ?_ | refine L.p rfl rfl ?_ | refine L.skip rfl ?_)
      refine L.cl (oneE_C n true T6 (by omega)) rfl rfl ?_
      rintro _ T7 ⟨⟨a5, n5, c5, rfl⟩, w1, k1⟩
      refine ⟨nofun, ?_⟩
      have kk := kk.trans k1
      clear k1
      repeat (first | refine W.seq ?_ | refine W.block ?_ | refine W.reg ?_ | refine W.skip ?_ | refine W.exit ?_ | refine W.ret ?_ | refine L.nil ?_ | refine L.p rfl rfl ?_ | refine L.skip rfl ?_)
      refine L.bs (wv [y, 0#64]) rfl rfl rfl rfl rfl rfl ?_
      have w2 := WE.fresh T7 [y, 0#64] (by simp)
      have kk := kk.pushr (newR (wv [y, 0#64]) 56)
      have w1 := w1.cons (Cons.push T7 (newR (wv [y, 0#64]) 56))
      generalize T7 ++ [newR (wv [y, 0#64]) 56] = T8 at *
      generalize T7.length = r8 at *
      refine L.bd #[.slice a5 n5 c5, .slice (some ⟨r8, 0, none⟩) 2 2] (pl := [(0, .slice a5 n5 c5), (1, .slice (some ⟨r8, 0, none⟩) 2 2)]) (z := .agg #[nilV, nilV]) rfl rfl rfl (by kernel_rfl) rfl ?_
      repeat (first | refine W.seq ?_ | refine W.block ?_ | refine W.reg ?_ | refine W.skip ?_ | refine W.exit ?_ | refine W.ret ?_ | refine L.nil ?_ | refine L.p rfl rfl ?_ | refine L.skip rfl ?_)
      refine L.cl (w1.back w2 (n : Int) 0#8) rfl rfl ?_
      rintro _ T9 ⟨rfl, k3⟩
      refine ⟨nofun, ?_⟩
      have kk := kk.trans k3
      clear w1 w2 k3
      repeat (first | refine W.seq ?_ | refine W.block ?_ | refine W.reg ?_ | refine W.skip ?_ | refine W.exit ?_ | refine W.ret ?_ | refine L.nil ?_ | refine L.p rfl rfl ?_ | refine L.skip rfl ?_)
      refine W.ite rfl (fun h => ?_) (fun h => ?_)
      · cases h
      clear h
      repeat (first | refine W.seq ?_ | refine W.block ?_ | refine W.reg ?_ | refine W.skip ?_ | refine W.exit ?_ | refine W.ret ?_ | refine L.nil ?_ | refine L.p rfl rfl ?_ | refine L.skip rfl ?_)
      refine ⟨4 - (k + 1), by omega, k + 1, rfl, by omega, hCS.trans kk, hLI.cons kk, hW.cons kk, rfl, rfl, rfl, rfl, rfl, rfl, ?_⟩
      refine (force_eq rfl).trans ?_
      rw [wrap64 (by omega) (by omega)]; rfl
    · repeat (first | refine W.seq ?_ | refine W.block ?_ | refine W.reg ?_ | refine W.skip ?_ | refine W.exit ?_ | refine W.ret ?_ | refine L.nil ?_ | refine L.p rfl rfl ?_ | refine L.skip rfl ?_)
      refine ⟨27 - (i + 1), by omega, i + 1, rfl, by omega, hCS, hLI, rfl, rfl, ?_⟩
      refine (force_eq rfl).trans ?_
      rw [wrap64 (by omega) (by omega)]; rfl
  clear h hLI
  repeat (first | refine W.seq ?_ | refine W.block ?_ | refine W.reg ?_ | refine W.skip ?_ | refine W.exit ?_ | refine W.ret ?_ | refine L.nil ?_ | refine L.p rfl rfl ?_ | refine L.skip rfl ?_)
  refine L.bs (len := 5) (([511, 512, 513, 514, 600] : List Int).map (Value.int .i64)) rfl rfl rfl rfl rfl rfl ?_
  have hLI := LI.fresh (S := T0) (is := [511, 512, 513, 514, 600]) (t := 3) (n := 5) (lo := 511) (hi := 600) rfl rfl
  have hCS := hCS.trans (Cons.push T0 (newR (([511, 512, 513, 514, 600] : List Int).map (Value.int .i64)) 3))
  generalize T0 ++ [newR (([511, 512, 513, 514, 600] : List Int).map (Value.int .i64)) 3] = T at *
  generalize T0.length = rj at *
  repeat (first | refine W.seq ?_ | refine W.block ?_ | refine W.reg ?_ | refine W.skip ?_ | refine W.exit ?_ | refine W.ret ?_ | refine L.nil ?_ | refine L.p rfl rfl ?_ | refine L.skip rfl ?_)
  refine W.loop (fun j e T' => ∃ k, j = 5 - k ∧ k ≤ 5 ∧ Cons S T' ∧ LI T' (.slice (some ⟨rj, 0, none⟩) 5 5) 5 511 600 ∧ e 50 = .slice (some ⟨rj, 0, none⟩) 5 5 ∧ e 51 = vi 5 ∧ e 52 = vi k) 5
    ⟨0, by omega, by omega, hCS, hLI, rfl, rfl, rfl⟩ ?_
  clear hCS hLI
  rintro j e T0 ⟨k, rfl, hk, hCS, hLI, e50, e51, e52⟩
  refine W.env3 e50 e51 e52 ?_
  repeat (first | refine W.seq ?_ | refine W.block ?_ | refine W.reg ?_ | refine W.skip ?_ | refine W.exit ?_ | refine W.ret ?_ | refine L.nil ?_ | refine L.p rfl rfl ?_ | refine L.skip rfl ?_)
  refine W.ite rfl (fun h => ?_) (fun h => ?_)
  rotate_left
  · repeat (first | refine W.seq ?_ | refine W.block ?_ | refine W.reg ?_ | refine W.skip ?_ | refine W.exit ?_ | refine W.ret ?_ | refine L.nil ?_ | refine L.p rfl rfl ?_ | refine L.skip rfl ?_)
    exact ⟨.inr rfl, _, rfl, rfl, hCS⟩
  have hin : k < 5 := by have := of_decide_eq_true h; omega
  clear h
  obtain ⟨x, xs, p1, p2, p3, p4⟩ := hLI.get hin
  obtain ⟨n, rfl⟩ : ∃ n : Nat, x = (n : Int) := ⟨x.toNat, by omega⟩
  repeat (first | refine W.seq ?_ | refine W.block ?_ | refine W.reg ?_ | refine W.skip ?_ | refine W.exit ?_ | refine W.ret ?_ | refine L.nil ?_ | refine L.p rfl rfl ?_ | refine L.skip rfl ?_)
  refine L.el p1 (k := k) rfl p2 rfl rfl rfl rfl (fun _ => rfl) rfl (fun p => ?_)
  clear p1 p2
  repeat (first | refine W.seq ?_ | refine W.block ?_ | refine W.reg ?_ | refine W.skip ?_ | refine W.exit ?_ | refine W.ret ?_ | refine L.nil ?_ | refine L.p rfl rfl ?_ | refine L.skip rfl ?_)
  refine L.mk (n := n) (m := n) rfl rfl rfl rfl rfl (Nat.le_refl _) (by omega) rfl rfl ?_
  have hk1 : Cons T0 (T0 ++ [newR (bv (List.replicate n 0#8)) 5]) := Cons.push _ _
  have hr1 : Mem.row? (T0 ++ [newR (bv (List.replicate n 0#8)) 5]) T0.length = some (newR (bv (List.replicate n 0#8)) 5) := row_push_new rfl
  rw [show newR (List.replicate n (Value.int .u8 0)) 5 = newR (bv (List.replicate n 0#8)) 5 by simp [bv]; rfl]
  generalize T0 ++ [newR (bv (List.replicate n 0#8)) 5] = T1 at *
  have hb1 : (List.replicate n 0#8).length = n := List.length_replicate
  generalize List.replicate n 0#8 = b1 at *
  obtain ⟨rb, hrb⟩ : ∃ r, r = T0.length := ⟨_, rfl⟩
  rw [← hrb] at hr1 ⊢
  repeat (first | refine W.seq ?_ | refine W.block ?_ | refine W.reg ?_ | refine W.skip ?_ | refine W.exit ?_ | refine W.ret ?_ | refine L.nil ?_ | refine L.p rfl rfl ?_ | refine L.skip rfl ?_)
  refine L.elst (w := v8 127#8) hr1 rfl (by show 0 + _ ≤ (bv b1).length; rw [bv_len, hb1]; omega) (k := 0) rfl (by omega) rfl rfl rfl rfl (fun _ => rfl) (fun _ => rfl) rfl rfl rfl (fun p => ?_)
  rw [show (newR (bv b1) 5).cells.set (0 + 0) (v8 127#8) = bv (b1.set 0 127#8) from bv_set _ _ _]
  have hr2 : Mem.row? (T1.set rb (newR (bv (b1.set 0 127#8)) 5)) rb = some (newR (bv (b1.set 0 127#8)) 5) := row_set_same hr1 rfl
  have hk2 := hk1.set rb (newR (bv (b1.set 0 127#8)) 5) (by omega)
  rw [show ({ newR (bv b1) 5 with cells := bv (b1.set 0 127#8) } : Row) = newR (bv (b1.set 0 127#8)) 5 from rfl]
  generalize T1.set rb (newR (bv (b1.set 0 127#8)) 5) = T2 at *
  have hb2 : (b1.set 0 127#8).length = n := by rw [List.length_set]; exact hb1
  generalize b1.set 0 127#8 = b2 at *
  clear hr1 hk1
  have hs2 : Slv T2 1 (.slice (some ⟨rb, 0, none⟩) n n) n (bv b2) := Slv.all hr2 rfl (by show (bv b2).length = _; rw [bv_len, hb2, Nat.mul_one])
  repeat (first | refine W.seq ?_ | refine W.block ?_ | refine W.reg ?_ | refine W.skip ?_ | refine W.exit ?_ | refine W.ret ?_ | refine L.nil ?_ | refine L.p rfl rfl ?_ | refine L.skip rfl ?_)
  rw [wrap_u8, wrap_u8]
  refine L.lit (S0 := T2) (h := Hd0) (l := []) [2#8, 130#8, _, _] rfl (RetB.nil (Cons.refl _)) rfl rfl rfl rfl rfl rfl (by decide) rfl (fun _ => rfl) (fun p h3 T3 b3 l3 q3 => ?_)
  repeat (first | refine W.seq ?_ | refine W.block ?_ | refine W.reg ?_ | refine W.skip ?_ | refine W.exit ?_ | refine W.ret ?_ | refine L.nil ?_ | refine L.p rfl rfl ?_ | refine L.skip rfl ?_)
  refine L.appB rfl q3 rfl rfl (hs2.cons q3.1) (by rw [l3, hb2]; simp; omega) rfl rfl (fun h4 T4 q4 => ?_)
  have l4 : (b3 ++ b2).length = n + 4 := by rw [List.length_append, l3, hb2]; simp; omega
  generalize b3 ++ b2 = b4 at *
  repeat (first | refine W.seq ?_ | refine W.block ?_ | refine W.reg ?_ | refine W.skip ?_ | refine W.exit ?_ | refine W.ret ?_ | refine L.nil ?_ | refine L.p rfl rfl ?_ | refine L.skip rfl ?_)
  refine L.lit [2#8, 1#8, 3#8] rfl q4 rfl rfl rfl rfl rfl rfl (by omega) rfl (fun _ => rfl) (fun p h5 T5 b5 l5 q5 => ?_)
  have i5 := q5.2.2.1.bin q5.2.1
  have e5 := i5.2
  repeat (first | refine W.seq ?_ | refine W.block ?_ | refine W.reg ?_ | refine W.skip ?_ | refine W.exit ?_ | refine W.ret ?_ | refine L.nil ?_ | refine L.p rfl rfl ?_ | refine L.skip rfl ?_)
  rw [wrap_u8, wrap_u8]
  refine L.lit (S0 := T5) (h := Hd0) (l := []) [48#8, 130#8, _, _] rfl (RetB.nil (Cons.refl _)) rfl rfl rfl rfl rfl rfl (by decide) rfl (fun _ => rfl) (fun p h6 T6 b6 l6 q6 => ?_)
  repeat (first | refine W.seq ?_ | refine W.block ?_ | refine W.reg ?_ | refine W.skip ?_ | refine W.exit ?_ | refine W.ret ?_ | refine L.nil ?_ | refine L.p rfl rfl ?_ | refine L.skip rfl ?_)
  have s5 := i5.1.1
  rw [← e5] at s5
  refine L.appB rfl q6 rfl rfl (s5.cons q6.1) (by rw [l6, l5, l4]; simp; omega) rfl rfl (fun h7 T7 q7 => ?_)
  have l7 : (b6 ++ b5).length ≤ 100000 := by rw [List.length_append, l6, l5, l4]; simp; omega
  have hB := q7.be l7
  repeat (first | refine W.seq ?_ | refine W.block ?_ | refine W.reg ?_ | refine W.skip ?_ | refine W.exit ?_ | refine W.ret ?_ | refine L.nil ?_ | refine L.p rfl rfl ?_ | refine L.skip rfl ?_)
  refine L.cl hB.reads rfl rfl ?_
  rintro _ T8 ⟨rfl, k8⟩
  refine ⟨nofun, ?_⟩
  have hB := hB.cons k8
  repeat (first | refine W.seq ?_ | refine W.block ?_ | refine W.reg ?_ | refine W.skip ?_ | refine W.exit ?_ | refine W.ret ?_ | refine L.nil ?_ | refine L.p rfl rfl ?_ | refine L.skip rfl ?_)
  refine L.cl hB.once rfl rfl ?_
  rintro _ T9 ⟨rfl, k9⟩
  refine ⟨nofun, ?_⟩
  have k29 := ((q5.1.trans q7.1).trans k8).trans k9
  have hr9 := k29.row' hr2
  have hB9 : BE 100000 T9 (.slice (some ⟨rb, 0, none⟩) n n) := ⟨_, n, b2, by rw [hb2], ⟨by rw [hb2]; exact hs2.cons k29, .inl ⟨by unfold UNK; omega, by omega⟩, by omega⟩, by omega⟩
  repeat (first | refine W.seq ?_ | refine W.block ?_ | refine W.reg ?_ | refine W.skip ?_ | refine W.exit ?_ | refine W.ret ?_ | refine L.nil ?_ | refine L.p rfl rfl ?_ | refine L.skip rfl ?_)
  refine L.cl (hB9.items 0 (by decide)) rfl rfl ?_
  rintro _ TA ⟨rfl, kA⟩
  refine ⟨nofun, ?_⟩
  have k0A := (hk2.trans k29).trans kA
  have hrA := kA.row' hr9
  repeat (first | refine W.seq ?_ | refine W.block ?_ | refine W.reg ?_ | refine W.skip ?_ | refine W.exit ?_ | refine W.ret ?_ | refine L.nil ?_ | refine L.p rfl rfl ?_ | refine L.skip rfl ?_)
  refine W.ite rfl (fun h => ?_) (fun h => ?_)
  · cases h
  clear h
  repeat (first | refine W.seq ?_ | refine W.block ?_ | refine W.reg ?_ | refine W.skip ?_ | refine W.exit ?_ | refine W.ret ?_ | refine L.nil ?_ | refine L.p rfl rfl ?_ | refine L.skip rfl ?_)
  refine L.elst (w := v8 0#8) hrA rfl (by show 0 + _ ≤ (bv b2).length; rw [bv_len, hb2]; omega) (k := 0) rfl (by omega) rfl rfl rfl rfl (fun _ => rfl) (fun _ => rfl) rfl rfl rfl (fun p => ?_)
  rw [show (newR (bv b2) 5).cells.set (0 + 0) (v8 0#8) = bv (b2.set 0 0#8) from bv_set _ _ _]
  rw [show ({ newR (bv b2) 5 with cells := bv (b2.set 0 0#8) } : Row) = newR (bv (b2.set 0 0#8)) 5 from rfl]
  have hrB : Mem.row? (TA.set rb (newR (bv (b2.set 0 0#8)) 5)) rb = some (newR (bv (b2.set 0 0#8)) 5) := row_set_same hrA rfl
  have k0B := k0A.set rb (newR (bv (b2.set 0 0#8)) 5) (by omega)
  generalize TA.set rb (newR (bv (b2.set 0 0#8)) 5) = TB at *
  have hbB : (b2.set 0 0#8).length = n := by rw [List.length_set]; exact hb2
  generalize b2.set 0 0#8 = bB at *
  repeat (first | refine W.seq ?_ | refine W.block ?_ | refine W.reg ?_ | refine W.skip ?_ | refine W.exit ?_ | refine W.ret ?_ | refine L.nil ?_ | refine L.p rfl rfl ?_ | refine L.skip rfl ?_)
  refine L.elst (w := v8 255#8) hrB rfl (by show 0 + _ ≤ (bv bB).length; rw [bv_len, hbB]; omega) (k := 1) rfl (by omega) rfl rfl rfl rfl (fun _ => rfl) (fun _ => rfl) rfl rfl rfl (fun p => ?_)
  rw [show (newR (bv bB) 5).cells.set (0 + 1) (v8 255#8) = bv (bB.set 1 255#8) from bv_set _ _ _]
  rw [show ({ newR (bv bB) 5 with cells := bv (bB.set 1 255#8) } : Row) = newR (bv (bB.set 1 255#8)) 5 from rfl]
  have hrC : Mem.row? (TB.set rb (newR (bv (bB.set 1 255#8)) 5)) rb = some (newR (bv (bB.set 1 255#8)) 5) := row_set_same hrB rfl
  have k0C := k0B.set rb (newR (bv (bB.set 1 255#8)) 5) (by omega)
  generalize TB.set rb (newR (bv (bB.set 1 255#8)) 5) = TC at *
  have hbC : (bB.set 1 255#8).length = n := by rw [List.length_set]; exact hbB
  generalize bB.set 1 255#8 = bC at *
  have hBC : BE 100000 TC (.slice (some ⟨rb, 0, none⟩) n n) := ⟨_, n, bC, by rw [hbC], ⟨by rw [hbC]; exact Slv.all hrC rfl (by show (bv bC).length = _; rw [bv_len, hbC, Nat.mul_one]), .inl ⟨by unfold UNK; omega, by omega⟩, by omega⟩, by omega⟩
  repeat (first | refine W.seq ?_ | refine W.block ?_ | refine W.reg ?_ | refine W.skip ?_ | refine W.exit ?_ | refine W.ret ?_ | refine L.nil ?_ | refine L.p rfl rfl ?_ | refine L.skip rfl ?_)
  refine L.cl (hBC.items 0 (by decide)) rfl rfl ?_
  rintro _ TD ⟨rfl, kD⟩
  refine ⟨nofun, ?_⟩
  have k0D := k0C.trans kD
  repeat (first | refine W.seq ?_ | refine W.block ?_ | refine W.reg ?_ | refine W.skip ?_ | refine W.exit ?_ | refine W.ret ?_ | refine L.nil ?_ | refine L.p rfl rfl ?_ | refine L.skip rfl ?_)
  refine W.ite rfl (fun h => ?_) (fun h => ?_)
  · cases h
  clear h
  repeat (first | refine W.seq ?_ | refine W.block ?_ | refine W.reg ?_ | refine W.skip ?_ | refine W.exit ?_ | refine W.ret ?_ | refine L.nil ?_ | refine L.p rfl rfl ?_ | refine L.skip rfl ?_)
  refine ⟨5 - (k + 1), by omega, k + 1, rfl, by omega, hCS.trans k0D, hLI.cons k0D, rfl, rfl, ?_⟩
  refine (force_eq rfl).trans ?_
  rw [wrap64 (by omega) (by omega)]; rfl
end Go.Proofs.Ytccdlijohkljcaa

/- Layer 7, the closed statement: bytes turned. Conditions: none. -/
set_option linter.unusedSimpArgs false
set_option linter.unusedVariables false
set_option maxRecDepth 100000
set_option maxHeartbeats 4000000
namespace Go.Proofs.Ytccdlijohkljcaa
open Go
variable {G : Nat}
theorem WE.shape {S : Mem} {v : Value} (h : WE S v) : ∃ a n c, v = .slice a n c := let ⟨a, c, l, h1, _⟩ := h; ⟨a, _, c, h1⟩
theorem WE.enc {S : Mem} {u v : Value} {Ext : FuncId → List Value → Mem → Outc → Mem → Prop} (h : WE S u) (k : WE S v) : C Try.prog G Ext 20 [keyV u v] S fun w S' => Cons S S' ∧ ∃ a c e, ∃ l : BL, w = .tuple #[.slice a l.length c, .int .i64 e] ∧ BIn S' a c l ∧ l.length ≤ 2000 := by
  obtain ⟨a1, c1, l1, rfl, h1, b1⟩ := h
  obtain ⟨a2, c2, l2, rfl, h2, b2⟩ := k
  refine (refEncode_C a1 a2 c1 c2 l1 l2 S h1 h2 (by omega) (by omega)).mono fun w S' h => ?_
  unfold RefEnc at h
  have hb := encB_len l1 l2
  unfold encB at hb
  split at h
  · obtain ⟨rfl, hc⟩ := h
    exact ⟨hc, none, 0, 3, [], rfl, ⟨Slv.nil _ _ _ _, .inl ⟨by decide, by decide⟩, by decide⟩, by decide⟩
  · rename_i hbad
    rw [if_neg hbad] at hb
    obtain ⟨a, c, rfl, hc, hI⟩ := h
    exact ⟨hc, a, c, 0, _, rfl, hI, hb⟩
/-- three keys in a row -/
def K3 (S : Mem) (r : Nat) (u1 v1 u2 v2 u3 v3 : Value) : Prop := S.row? r = some (newR [u1, v1, u2, v2, u3, v3] 26) ∧ WE S u1 ∧ WE S v1 ∧ WE S u2 ∧ WE S v2 ∧ WE S u3 ∧ WE S v3
theorem K3.cons {S T : Mem} {r : Nat} {u1 v1 u2 v2 u3 v3 : Value} (h : K3 S r u1 v1 u2 v2 u3 v3) (k : Cons S T) : K3 T r u1 v1 u2 v2 u3 v3 :=
  ⟨k.row' h.1, h.2.1.cons k, h.2.2.1.cons k, h.2.2.2.1.cons k, h.2.2.2.2.1.cons k, h.2.2.2.2.2.1.cons k, h.2.2.2.2.2.2.cons k⟩
theorem K3.get {S : Mem} {r i : Nat} {u1 v1 u2 v2 u3 v3 : Value} (h : K3 S r u1 v1 u2 v2 u3 v3) (hi : i < 3) : ∃ u v, S.cellsAt ⟨r, 0 + i * 2, none⟩ 2 = some [u, v] ∧ WE S u ∧ WE S v := by
  obtain ⟨hr, w1, w2, w3, w4, w5, w6⟩ := h
  have key : ∀ j u v, j ≤ 4 → (([u1, v1, u2, v2, u3, v3] : List Value).drop j).take 2 = [u, v] → S.cellsAt ⟨r, j, none⟩ 2 = some [u, v] := fun j u v hj hd => by
    unfold Mem.cellsAt
    simp only [hr]
    rw [if_pos ⟨trivial, by simp [newR]; omega, .inl rfl⟩]
    exact congrArg some hd
  match i, hi with
  | 0, _ => exact ⟨u1, v1, key 0 _ _ (by decide) rfl, w1, w2⟩
  | 1, _ => exact ⟨u2, v2, key 2 _ _ (by decide) rfl, w3, w4⟩
  | 2, _ => exact ⟨u3, v3, key 4 _ _ (by decide) rfl, w5, w6⟩
theorem spoiltK_C (S : Mem) : C Try.prog G (Known Try.prog G) 35 [] S fun v S' => v = .bool true ∧ Cons S S' := by
  refine C.fn Try.func35 rfl (by kernel_rfl) rfl ?_
  repeat (first | refine W.seq ?_ | refine W.block ?_ | refine W.reg ?_ | refine W.skip ?_ | refine W.exit ?_ | refine W.ret ?_ | refine L.nil ?_ | refine L.p rfl rfl ?_ | refine L.skip rfl ?_)
  have hCS := Cons.refl S
  refine L.bs (wv [5#64]) rfl rfl rfl rfl rfl rfl ?_
  have w1 := WE.fresh S [5#64] (by decide)
  have hCS := hCS.pushr (newR (wv [5#64]) 56)
  have hstep := Cons.push S (newR (wv [5#64]) 56)
  generalize S ++ [newR (wv [5#64]) 56] = T1 at *
  generalize List.length S = rT1 at *
  refine L.bs (wv [3#64]) rfl rfl rfl rfl rfl rfl ?_
  have w2 := WE.fresh T1 [3#64] (by decide)
  have hCS := hCS.pushr (newR (wv [3#64]) 56)
  have hstep := Cons.push T1 (newR (wv [3#64]) 56)
  generalize T1 ++ [newR (wv [3#64]) 56] = T2 at *
  generalize List.length T1 = rT2 at *
  have w1 := w1.cons hstep
  refine L.bd #[.slice (some ⟨rT1, 0, none⟩) 1 1, .slice (some ⟨rT2, 0, none⟩) 1 1] (pl := [(0, .slice (some ⟨rT1, 0, none⟩) 1 1), (1, .slice (some ⟨rT2, 0, none⟩) 1 1)]) (z := .agg #[nilV, nilV]) rfl rfl rfl (by kernel_rfl) rfl ?_
  refine L.bs (wv [128#64]) rfl rfl rfl rfl rfl rfl ?_
  have w3 := WE.fresh T2 [128#64] (by decide)
  have hCS := hCS.pushr (newR (wv [128#64]) 56)
  have hstep := Cons.push T2 (newR (wv [128#64]) 56)
  generalize T2 ++ [newR (wv [128#64]) 56] = T3 at *
  generalize List.length T2 = rT3 at *
  have w1 := w1.cons hstep
  have w2 := w2.cons hstep
  refine L.bd #[.slice (some ⟨rT3, 0, none⟩) 1 1, nilV] (pl := [(0, .slice (some ⟨rT3, 0, none⟩) 1 1)]) (z := .agg #[nilV, nilV]) rfl rfl rfl (by kernel_rfl) rfl ?_
  repeat (first | refine W.seq ?_ | refine W.block ?_ | refine W.reg ?_ | refine W.skip ?_ | refine W.exit ?_ | refine W.ret ?_ | refine L.nil ?_ | refine L.p rfl rfl ?_ | refine L.skip rfl ?_)
  refine L.cl (oneE_C 1023 false T3 (by decide)) rfl rfl ?_
  rintro _ T4 ⟨⟨a5, n5, c5, rfl⟩, w5, k4⟩
  refine ⟨nofun, ?_⟩
  have hCS := hCS.trans k4
  have w1 := w1.cons k4
  have w2 := w2.cons k4
  have w3 := w3.cons k4
  clear k4
  refine L.bs (wv [65537#64]) rfl rfl rfl rfl rfl rfl ?_
  have w6 := WE.fresh T4 [65537#64] (by decide)
  have hCS := hCS.pushr (newR (wv [65537#64]) 56)
  have hstep := Cons.push T4 (newR (wv [65537#64]) 56)
  generalize T4 ++ [newR (wv [65537#64]) 56] = T5 at *
  generalize List.length T4 = rT5 at *
  have w1 := w1.cons hstep
  have w2 := w2.cons hstep
  have w3 := w3.cons hstep
  have w5 := w5.cons hstep
  refine L.bd #[.slice a5 n5 c5, .slice (some ⟨rT5, 0, none⟩) 1 1] (pl := [(0, .slice a5 n5 c5), (1, .slice (some ⟨rT5, 0, none⟩) 1 1)]) (z := .agg #[nilV, nilV]) rfl rfl rfl (by kernel_rfl) rfl ?_
  refine L.bsN (sz := 2) [keyV (.slice (some ⟨rT1, 0, none⟩) 1 1) (.slice (some ⟨rT2, 0, none⟩) 1 1), keyV (.slice (some ⟨rT3, 0, none⟩) 1 1) nilV, keyV (.slice a5 n5 c5) (.slice (some ⟨rT5, 0, none⟩) 1 1)] rfl rfl rfl rfl rfl (by simp [keyV, Value.cells]) rfl ?_
  have hc := Cons.push T5 (newR [.slice (some ⟨rT1, 0, none⟩) 1 1, .slice (some ⟨rT2, 0, none⟩) 1 1, .slice (some ⟨rT3, 0, none⟩) 1 1, nilV, .slice a5 n5 c5, .slice (some ⟨rT5, 0, none⟩) 1 1] 26)
  have hK : K3 (T5 ++ [newR [.slice (some ⟨rT1, 0, none⟩) 1 1, .slice (some ⟨rT2, 0, none⟩) 1 1, .slice (some ⟨rT3, 0, none⟩) 1 1, nilV, .slice a5 n5 c5, .slice (some ⟨rT5, 0, none⟩) 1 1] 26]) T5.length (.slice (some ⟨rT1, 0, none⟩) 1 1) (.slice (some ⟨rT2, 0, none⟩) 1 1) (.slice (some ⟨rT3, 0, none⟩) 1 1) nilV (.slice a5 n5 c5) (.slice (some ⟨rT5, 0, none⟩) 1 1) := ⟨row_push_new rfl, w1.cons hc, w2.cons hc, w3.cons hc, WE.nil _, w5.cons hc, w6.cons hc⟩
  have hCS := hCS.trans hc
  have hrow : newR (List.flatMap (fun w => w.cells.toList) [keyV (.slice (some ⟨rT1, 0, none⟩) 1 1) (.slice (some ⟨rT2, 0, none⟩) 1 1), keyV (.slice (some ⟨rT3, 0, none⟩) 1 1) nilV, keyV (.slice a5 n5 c5) (.slice (some ⟨rT5, 0, none⟩) 1 1)]) 26 = newR [.slice (some ⟨rT1, 0, none⟩) 1 1, .slice (some ⟨rT2, 0, none⟩) 1 1, .slice (some ⟨rT3, 0, none⟩) 1 1, nilV, .slice a5 n5 c5, .slice (some ⟨rT5, 0, none⟩) 1 1] 26 := rfl
  rw [hrow]
  clear hrow hc w1 w2 w3 w5 w6 hstep
  generalize T5 ++ [newR [.slice (some ⟨rT1, 0, none⟩) 1 1, .slice (some ⟨rT2, 0, none⟩) 1 1, .slice (some ⟨rT3, 0, none⟩) 1 1, nilV, .slice a5 n5 c5, .slice (some ⟨rT5, 0, none⟩) 1 1] 26] = T at *
  obtain ⟨rk, hrk⟩ : ∃ r, r = T5.length := ⟨_, rfl⟩
  rw [← hrk] at hK ⊢
  obtain ⟨u1, hu1⟩ : ∃ u : Value, u = .slice (some ⟨rT1, 0, none⟩) 1 1 := ⟨_, rfl⟩
  obtain ⟨u2, hu2⟩ : ∃ u : Value, u = .slice (some ⟨rT2, 0, none⟩) 1 1 := ⟨_, rfl⟩
  obtain ⟨u3, hu3⟩ : ∃ u : Value, u = .slice (some ⟨rT3, 0, none⟩) 1 1 := ⟨_, rfl⟩
  obtain ⟨u5, hu5⟩ : ∃ u : Value, u = .slice a5 n5 c5 := ⟨_, rfl⟩
  obtain ⟨u6, hu6⟩ : ∃ u : Value, u = .slice (some ⟨rT5, 0, none⟩) 1 1 := ⟨_, rfl⟩
  rw [← hu1, ← hu2, ← hu3, ← hu5, ← hu6] at hK
  repeat (first | refine W.seq ?_ | refine W.block ?_ | refine W.reg ?_ | refine W.skip ?_ | refine W.exit ?_ | refine W.ret ?_ | refine L.nil ?_ | refine L.p rfl rfl ?_ | refine L.skip rfl ?_)
  refine W.loop (fun j e T' => ∃ i, j = 3 - i ∧ i ≤ 3 ∧ Cons S T' ∧ K3 T' rk u1 u2 u3 nilV u5 u6 ∧ e 20 = .slice (some ⟨rk, 0, none⟩) 3 3 ∧ e 21 = vi 3 ∧ e 22 = vi i) 3
    ⟨0, by omega, by omega, hCS, hK, rfl, rfl, rfl⟩ ?_
  clear hCS hK hu1 hu2 hu3 hu5 hu6
  rintro j e T0 ⟨i, rfl, hi, hCS, hK, e20, e21, e22⟩
  refine W.env3 e20 e21 e22 ?_
  repeat (first | refine W.seq ?_ | refine W.block ?_ | refine W.reg ?_ | refine W.skip ?_ | refine W.exit ?_ | refine W.ret ?_ | refine L.nil ?_ | refine L.p rfl rfl ?_ | refine L.skip rfl ?_)
  refine W.ite rfl (fun h => ?_) (fun h => ?_)
  · have hin : i < 3 := by have := of_decide_eq_true h; omega
    clear h
    obtain ⟨u, v, g1, wu, wv⟩ := hK.get hin
    repeat (first | refine W.seq ?_ | refine W.block ?_ | refine W.reg ?_ | refine W.skip ?_ | refine W.exit ?_ | refine W.ret ?_ | refine L.nil ?_ | refine L.p rfl rfl ?_ | refine L.skip rfl ?_)
    refine L.ix (k := i) rfl hin rfl rfl rfl rfl ?_
    refine L.ldA g1 rfl rfl rfl ?_
    refine L.eff (v := .pointer (some ⟨T0.length, 0, none⟩)) (S1 := T0 ++ [newR [nilV, nilV] 26]) rfl rfl ?_
    refine L.st (ad := ⟨T0.length, 0, none⟩) (vs := [u, v]) (key_write T0 _ _ wu.one wv.one) rfl rfl rfl rfl ?_
    have hr2 : Mem.row? (T0 ++ [keyR u v]) T0.length = some (keyR u v) := row_push_new rfl
    have hc := Cons.push T0 (keyR u v)
    have hCS := hCS.trans hc
    have hK := hK.cons hc
    have wu := wu.cons hc
    have wv := wv.cons hc
    clear hc g1
    generalize T0 ++ [keyR u v] = T1 at *
    generalize T0.length = rv at *
    repeat (first | refine W.seq ?_ | refine W.block ?_ | refine W.reg ?_ | refine W.skip ?_ | refine W.exit ?_ | refine W.ret ?_ | refine L.nil ?_ | refine L.p rfl rfl ?_ | refine L.skip rfl ?_)
    refine L.ldA (a := ⟨rv, 0, none⟩) (key_load hr2) rfl rfl rfl ?_
    refine L.cl (wu.enc wv) rfl rfl ?_
    rintro _ T2 ⟨k2, ab, cb, eb, B, rfl, hB, hBl⟩
    refine ⟨nofun, ?_⟩
    have hCS := hCS.trans k2
    have hK := hK.cons k2
    clear wu wv hr2 k2
    repeat (first | refine W.seq ?_ | refine W.block ?_ | refine W.reg ?_ | refine W.skip ?_ | refine W.exit ?_ | refine W.ret ?_ | refine L.nil ?_ | refine L.p rfl rfl ?_ | refine L.skip rfl ?_)
    refine W.loop (fun j e T' => ∃ k, j = B.length + 1 - k ∧ k ≤ B.length + 1 ∧ Cons S T' ∧ K3 T' rk u1 u2 u3 nilV u5 u6 ∧ BIn T' ab cb B ∧ e 20 = .slice (some ⟨rk, 0, none⟩) 3 3 ∧ e 21 = vi 3 ∧ e 22 = vi i ∧ e 3 = .slice ab B.length cb ∧ e 5 = vi k) (B.length + 1)
      ⟨0, by omega, by omega, hCS, hK, hB, rfl, rfl, rfl, rfl, rfl⟩ ?_
    clear hCS hK hB
    rintro j e T0 ⟨k, rfl, hk, hCS, hK, hB, e20, e21, e22, e3, e5⟩
    refine W.env5 e20 e21 e22 e3 e5 ?_
    repeat (first | refine W.seq ?_ | refine W.block ?_ | refine W.reg ?_ | refine W.skip ?_ | refine W.exit ?_ | refine W.ret ?_ | refine L.nil ?_ | refine L.p rfl rfl ?_ | refine L.skip rfl ?_)
    refine W.ite rfl (fun h => ?_) (fun h => ?_)
    · have hin2 : k ≤ B.length := by have := of_decide_eq_true h; omega
      clear h
      repeat (first | refine W.seq ?_ | refine W.block ?_ | refine W.reg ?_ | refine W.skip ?_ | refine W.exit ?_ | refine W.ret ?_ | refine L.nil ?_ | refine L.p rfl rfl ?_ | refine L.skip rfl ?_)
      cases hq : decide ((k : Int) > 12)
      · repeat (first | refine W.seq ?_ | refine W.block ?_ | refine W.reg ?_ | refine W.skip ?_ | refine W.exit ?_ | refine W.ret ?_ | refine L.nil ?_ | refine L.p rfl rfl ?_ | refine L.skip rfl ?_)
        refine W.ite rfl (fun h => ?_) (fun h => ?_)
        · cases h
        clear h
        repeat (first | refine W.seq ?_ | refine W.block ?_ | refine W.reg ?_ | refine W.skip ?_ | refine W.exit ?_ | refine W.ret ?_ | refine L.nil ?_ | refine L.p rfl rfl ?_ | refine L.skip rfl ?_)
        obtain ⟨x1, y1, z1, z2⟩ := hB.partT (k := 0) (h := k) (lo := none) (hi := some (.int .i64 (k : Int))) (.inl ⟨rfl, rfl⟩) (.inr ⟨.i64, rfl⟩) (by omega) (by omega)
        rw [List.drop_zero, Nat.sub_zero] at z1 z2
        have hb1 : BE 2000 T0 (.slice x1 (B.take k).length y1) := ⟨_, _, _, rfl, z2 _ hB, by rw [List.length_take]; omega⟩
        refine L.is (.slice x1 (B.take k).length y1) ((slice_at0 rfl rfl rfl).trans z1) rfl ?_
        refine L.cl hb1.reads rfl rfl ?_
        rintro _ T1 ⟨rfl, k1⟩
        refine ⟨nofun, ?_⟩
        have hCS := hCS.trans k1
        have hK := hK.cons k1
        have hB := hB.cons k1
        have hb2 : BE 2000 T1 (.slice ab B.length cb) := ⟨_, _, _, rfl, hB, hBl⟩
        repeat (first | refine W.seq ?_ | refine W.block ?_ | refine W.reg ?_ | refine W.skip ?_ | refine W.exit ?_ | refine W.ret ?_ | refine L.nil ?_ | refine L.p rfl rfl ?_ | refine L.skip rfl ?_)
        refine L.cl (hb2.items (k : Int) (by omega)) rfl rfl ?_
        rintro _ T2 ⟨rfl, k2⟩
        refine ⟨nofun, ?_⟩
        have hCS := hCS.trans k2
        have hK := hK.cons k2
        have hB := hB.cons k2
        clear hb1 hb2 k1 k2 z1 z2
        repeat (first | refine W.seq ?_ | refine W.block ?_ | refine W.reg ?_ | refine W.skip ?_ | refine W.exit ?_ | refine W.ret ?_ | refine L.nil ?_ | refine L.p rfl rfl ?_ | refine L.skip rfl ?_)
        refine W.ite rfl (fun h => ?_) (fun h => ?_)
        · cases h
        clear h
        repeat (first | refine W.seq ?_ | refine W.block ?_ | refine W.reg ?_ | refine W.skip ?_ | refine W.exit ?_ | refine W.ret ?_ | refine L.nil ?_ | refine L.p rfl rfl ?_ | refine L.skip rfl ?_)
        refine L.bs (bv [0#8, 1#8, 2#8, 3#8, 5#8, 48#8, 49#8, 127#8, 128#8, 129#8, 130#8, 132#8, 133#8, 255#8]) rfl rfl rfl rfl rfl rfl ?_
        have hc := Cons.push T2 (newR (bv [0#8, 1#8, 2#8, 3#8, 5#8, 48#8, 49#8, 127#8, 128#8, 129#8, 130#8, 132#8, 133#8, 255#8]) 5)
        have hZ : Slv (T2 ++ [newR (bv [0#8, 1#8, 2#8, 3#8, 5#8, 48#8, 49#8, 127#8, 128#8, 129#8, 130#8, 132#8, 133#8, 255#8]) 5]) 1 (.slice (some ⟨T2.length, 0, none⟩) 14 14) 14 (bv [0#8, 1#8, 2#8, 3#8, 5#8, 48#8, 49#8, 127#8, 128#8, 129#8, 130#8, 132#8, 133#8, 255#8]) := Slv.all (row_push_new rfl) rfl rfl
        have hCS := hCS.trans hc
        have hK := hK.cons hc
        have hB := hB.cons hc
        clear hc
        generalize T2 ++ [newR (bv [0#8, 1#8, 2#8, 3#8, 5#8, 48#8, 49#8, 127#8, 128#8, 129#8, 130#8, 132#8, 133#8, 255#8]) 5] = T3 at *
        generalize T2.length = rc at *
        repeat (first | refine W.seq ?_ | refine W.block ?_ | refine W.reg ?_ | refine W.skip ?_ | refine W.exit ?_ | refine W.ret ?_ | refine L.nil ?_ | refine L.p rfl rfl ?_ | refine L.skip rfl ?_)
        refine W.loop (fun j e T' => ∃ q, j = 14 - q ∧ q ≤ 14 ∧ Cons S T' ∧ K3 T' rk u1 u2 u3 nilV u5 u6 ∧ BIn T' ab cb B ∧ Slv T' 1 (.slice (some ⟨rc, 0, none⟩) 14 14) 14 (bv [0#8, 1#8, 2#8, 3#8, 5#8, 48#8, 49#8, 127#8, 128#8, 129#8, 130#8, 132#8, 133#8, 255#8]) ∧ e 20 = .slice (some ⟨rk, 0, none⟩) 3 3 ∧ e 21 = vi 3 ∧ e 22 = vi i ∧ e 3 = .slice ab B.length cb ∧ e 5 = vi k ∧
          e 57 = .slice (some ⟨rc, 0, none⟩) 14 14 ∧ e 58 = vi 14 ∧ e 59 = vi q) 14
          ⟨0, by omega, by omega, hCS, hK, hB, hZ, rfl, rfl, rfl, rfl, rfl, rfl, rfl, rfl⟩ ?_
        clear hCS hK hB hZ e20 e21 e22 e3 e5
        rintro j e T0 ⟨q, rfl, hq, hCS, hK, hB, hZ, e20, e21, e22, e3, e5, e57, e58, e59⟩
        refine W.env8 e20 e21 e22 e3 e5 e57 e58 e59 ?_
        repeat (first | refine W.seq ?_ | refine W.block ?_ | refine W.reg ?_ | refine W.skip ?_ | refine W.exit ?_ | refine W.ret ?_ | refine L.nil ?_ | refine L.p rfl rfl ?_ | refine L.skip rfl ?_)
        refine W.ite rfl (fun h => ?_) (fun h => ?_)
        · have hin3 : q < 14 := by have := of_decide_eq_true h; omega
          clear h
          obtain ⟨c, hc⟩ : ∃ c, ([0#8, 1#8, 2#8, 3#8, 5#8, 48#8, 49#8, 127#8, 128#8, 129#8, 130#8, 132#8, 133#8, 255#8] : BL)[q]? = some c := ⟨_, List.getElem?_eq_getElem hin3⟩
          repeat (first | refine W.seq ?_ | refine W.block ?_ | refine W.reg ?_ | refine W.skip ?_ | refine W.exit ?_ | refine W.ret ?_ | refine L.nil ?_ | refine L.p rfl rfl ?_ | refine L.skip rfl ?_)
          refine L.el hZ (k := q) rfl (bv_get hc) rfl rfl rfl rfl (fun _ => rfl) rfl (fun p => ?_)
          clear hc
          repeat (first | refine W.seq ?_ | refine W.block ?_ | refine W.reg ?_ | refine W.skip ?_ | refine W.exit ?_ | refine W.ret ?_ | refine L.nil ?_ | refine L.p rfl rfl ?_ | refine L.skip rfl ?_)
          obtain ⟨x1, y1, z1, z2⟩ := hB.partT (k := 0) (h := k) (lo := none) (hi := some (.int .i64 (k : Int))) (.inl ⟨rfl, rfl⟩) (.inr ⟨.i64, rfl⟩) (by omega) (by omega)
          rw [List.drop_zero, Nat.sub_zero] at z1 z2
          have z3 := z2 _ hB
          refine L.is (.slice x1 (B.take k).length y1) ((slice_at0 rfl rfl rfl).trans z1) rfl ?_
          refine L.appB (S0 := T0) (h := Hd0) (l := []) rfl (RetB.nil (Cons.refl _)) rfl rfl z3.1 (by rw [List.length_take]; simp; omega) rfl rfl (fun h1 T1 q1 => ?_)
          rw [List.nil_append] at q1
          clear z1 z2 z3
          repeat (first | refine W.seq ?_ | refine W.block ?_ | refine W.reg ?_ | refine W.skip ?_ | refine W.exit ?_ | refine W.ret ?_ | refine L.nil ?_ | refine L.p rfl rfl ?_ | refine L.skip rfl ?_)
          refine L.pushB c rfl q1 rfl rfl rfl rfl (by rw [List.length_take]; omega) rfl (fun _ => rfl) (fun p h2 T2 q2 => ?_)
          obtain ⟨lx, hlx⟩ : ∃ lx, lx = B.take k ++ [c] := ⟨_, rfl⟩
          have hlx1 : lx.length ≤ 2001 := by rw [hlx, List.length_append, List.length_take]; simp; omega
          rw [← hlx] at q2
          clear q1
          repeat (first | refine W.seq ?_ | refine W.block ?_ | refine W.reg ?_ | refine W.skip ?_ | refine W.exit ?_ | refine W.ret ?_ | refine L.nil ?_ | refine L.p rfl rfl ?_ | refine L.skip rfl ?_)
          refine L.appB (S0 := T2) (h := Hd0) (l := []) rfl (RetB.nil (Cons.refl _)) rfl rfl q2.2.2.1.slv (by simp; omega) rfl rfl (fun h3 T3 q3 => ?_)
          rw [List.nil_append] at q3
          have k03 := q2.1.trans q3.1
          have hB3 := hB.cons k03
          repeat (first | refine W.seq ?_ | refine W.block ?_ | refine W.reg ?_ | refine W.skip ?_ | refine W.exit ?_ | refine W.ret ?_ | refine L.nil ?_ | refine L.p rfl rfl ?_ | refine L.skip rfl ?_)
          obtain ⟨x1, y1, z1, z2⟩ := hB3.fromT (lv := .int .i64 (k : Int)) (k := k) rfl (by omega)
          have z3 := z2 _ hB3
          refine L.is (.slice x1 (B.drop k).length y1) ((slice_at0 rfl rfl rfl).trans z1) rfl ?_
          have hx3 := q2.2.2.1.cons q3.1
          have hn2 := q2.2.2.1.len
          rw [bv_len] at hn2
          refine L.appH rfl hx3 rfl rfl z3.1 (bv_one _) (by rw [List.length_drop]; omega) rfl rfl ?_
          rintro h4 T4 u4 n4 b4 g4
          clear z1 z2 z3
          have lt2 : ∀ b, h2.a = some b → T0.length ≤ b ∧ b < T2.length := fun b hb => ⟨q2.2.2.2 b hb, q2.2.2.1.lt hb⟩
          have lt3 : ∀ b, h3.a = some b → T2.length ≤ b ∧ b < T3.length := fun b hb => ⟨q3.2.2.2 b hb, q3.2.2.1.lt hb⟩
          have k04 : Cons T0 T4 := g4.cons0 k03 (fun b hb => (lt2 b (by simpa using hb)).1)
          have hy4 := q3.2.2.1.keep g4 (fun b hb hm => by have := lt3 b hb; have := lt2 b (by simpa using hm); omega)
          have hB4 := hB.cons k04
          repeat (first | refine W.seq ?_ | refine W.block ?_ | refine W.reg ?_ | refine W.skip ?_ | refine W.exit ?_ | refine W.ret ?_ | refine L.nil ?_ | refine L.p rfl rfl ?_ | refine L.skip rfl ?_)
          rw [show IntKind.i64.wrap ((k : Int) + 1) = ((k + 1 : Nat) : Int) by rw [wrap64 (by omega) (by omega)]; omega]
          refine L.min (c := ((min (k + 1) B.length : Nat) : Int)) rfl rfl rfl (by split <;> omega) ?_
          obtain ⟨x1, y1, z1, z2⟩ := hB4.fromT (lv := .int .i64 ((min (k + 1) B.length : Nat) : Int)) (k := min (k + 1) B.length) rfl (by omega)
          have z3 := z2 _ hB4
          refine L.is (.slice x1 (B.drop (min (k + 1) B.length)).length y1) ((slice_at0 rfl rfl rfl).trans z1) rfl ?_
          have hn3 := q3.2.2.1.len
          rw [bv_len] at hn3
          refine L.appH rfl hy4 rfl rfl z3.1 (bv_one _) (by rw [List.length_drop]; omega) rfl rfl ?_
          rintro h5 T5 u5' n5' b5 g5
          clear z1 z2 z3
          have hlen3 : T2.length ≤ T3.length := q3.1.len
          have k05 : Cons T0 T5 := g5.cons0 k04 (fun b hb => by have := lt3 b (by simpa using hb); have := q2.1.len; omega)
          have hx5 := u4.keep g5 (fun b hb hm => by
            have h9 := lt3 b (by simpa using hm)
            rcases b4 with ⟨b4, _⟩ | ⟨b', b4, b6⟩
            · rw [b4] at hb; have := lt2 b hb; omega
            · rw [b4] at hb; cases hb; omega)
          rw [← bv_app] at hx5 u5'
          have hX : BE 100000 T5 h4.v := BE.hd (by decide) hx5 _ rfl (by rw [List.length_append, List.length_drop]; omega)
          have hY : BE 100000 T5 h5.v := BE.hd (by decide) u5' _ rfl (by rw [List.length_append, List.length_drop]; omega)
          repeat (first | refine W.seq ?_ | refine W.block ?_ | refine W.reg ?_ | refine W.skip ?_ | refine W.exit ?_ | refine W.ret ?_ | refine L.nil ?_ | refine L.p rfl rfl ?_ | refine L.skip rfl ?_)
          refine L.cl hX.reads rfl rfl ?_
          rintro _ T6 ⟨rfl, k6⟩
          refine ⟨nofun, ?_⟩
          have hY := hY.cons k6
          repeat (first | refine W.seq ?_ | refine W.block ?_ | refine W.reg ?_ | refine W.skip ?_ | refine W.exit ?_ | refine W.ret ?_ | refine L.nil ?_ | refine L.p rfl rfl ?_ | refine L.skip rfl ?_)
          refine L.cl hY.reads rfl rfl ?_
          rintro _ T7 ⟨rfl, k7⟩
          refine ⟨nofun, ?_⟩
          have hY := hY.cons k7
          repeat (first | refine W.seq ?_ | refine W.block ?_ | refine W.reg ?_ | refine W.skip ?_ | refine W.exit ?_ | refine W.ret ?_ | refine L.nil ?_ | refine L.p rfl rfl ?_ | refine L.skip rfl ?_)
          refine L.cl hY.once rfl rfl ?_
          rintro _ T8 ⟨rfl, k8⟩
          refine ⟨nofun, ?_⟩
          have kk := ((k05.trans k6).trans k7).trans k8
          repeat (first | refine W.seq ?_ | refine W.block ?_ | refine W.reg ?_ | refine W.skip ?_ | refine W.exit ?_ | refine W.ret ?_ | refine L.nil ?_ | refine L.p rfl rfl ?_ | refine L.skip rfl ?_)
          refine W.ite rfl (fun h => ?_) (fun h => ?_)
          · cases h
          clear h
          repeat (first | refine W.seq ?_ | refine W.block ?_ | refine W.reg ?_ | refine W.skip ?_ | refine W.exit ?_ | refine W.ret ?_ | refine L.nil ?_ | refine L.p rfl rfl ?_ | refine L.skip rfl ?_)
          refine ⟨14 - (q + 1), by omega, q + 1, rfl, by omega, hCS.trans kk, hK.cons kk, hB.cons kk, hZ.cons kk, rfl, rfl, rfl, rfl, rfl, rfl, rfl, ?_⟩
          refine (force_eq rfl).trans ?_
          rw [wrap64 (by omega) (by omega)]; rfl
        repeat (first | refine W.seq ?_ | refine W.block ?_ | refine W.reg ?_ | refine W.skip ?_ | refine W.exit ?_ | refine W.ret ?_ | refine L.nil ?_ | refine L.p rfl rfl ?_ | refine L.skip rfl ?_)
        refine ⟨B.length + 1 - (k + 1), by omega, k + 1, rfl, by omega, hCS, hK, hB, rfl, rfl, rfl, rfl, ?_⟩
        refine (force_eq rfl).trans ?_
        rw [wrap64 (by omega) (by omega)]; rfl
      repeat (first | refine W.seq ?_ | refine W.block ?_ | refine W.reg ?_ | refine W.skip ?_ | refine W.exit ?_ | refine W.ret ?_ | refine L.nil ?_ | refine L.p rfl rfl ?_ | refine L.skip rfl ?_)
      refine W.ite rfl (fun h => ?_) (fun h => ?_)
      · repeat (first | refine W.seq ?_ | refine W.block ?_ | refine W.reg ?_ | refine W.skip ?_ | refine W.exit ?_ | refine W.ret ?_ | refine L.nil ?_ | refine L.p rfl rfl ?_ | refine L.skip rfl ?_)
        refine ⟨B.length + 1 - (k + 1), by omega, k + 1, rfl, by omega, hCS, hK, hB, rfl, rfl, rfl, rfl, ?_⟩
        refine (force_eq rfl).trans ?_
        rw [wrap64 (by omega) (by omega)]; rfl
      clear h
      repeat (first | refine W.seq ?_ | refine W.block ?_ | refine W.reg ?_ | refine W.skip ?_ | refine W.exit ?_ | refine W.ret ?_ | refine L.nil ?_ | refine L.p rfl rfl ?_ | refine L.skip rfl ?_)
      obtain ⟨x1, y1, z1, z2⟩ := hB.partT (k := 0) (h := k) (lo := none) (hi := some (.int .i64 (k : Int))) (.inl ⟨rfl, rfl⟩) (.inr ⟨.i64, rfl⟩) (by omega) (by omega)
      rw [List.drop_zero, Nat.sub_zero] at z1 z2
      have hb1 : BE 2000 T0 (.slice x1 (B.take k).length y1) := ⟨_, _, _, rfl, z2 _ hB, by rw [List.length_take]; omega⟩
      refine L.is (.slice x1 (B.take k).length y1) ((slice_at0 rfl rfl rfl).trans z1) rfl ?_
      refine L.cl hb1.reads rfl rfl ?_
      rintro _ T1 ⟨rfl, k1⟩
      refine ⟨nofun, ?_⟩
      have hCS := hCS.trans k1
      have hK := hK.cons k1
      have hB := hB.cons k1
      have hb2 : BE 2000 T1 (.slice ab B.length cb) := ⟨_, _, _, rfl, hB, hBl⟩
      repeat (first | refine W.seq ?_ | refine W.block ?_ | refine W.reg ?_ | refine W.skip ?_ | refine W.exit ?_ | refine W.ret ?_ | refine L.nil ?_ | refine L.p rfl rfl ?_ | refine L.skip rfl ?_)
      refine L.cl (hb2.items (k : Int) (by omega)) rfl rfl ?_
      rintro _ T2 ⟨rfl, k2⟩
      refine ⟨nofun, ?_⟩
      have hCS := hCS.trans k2
      have hK := hK.cons k2
      have hB := hB.cons k2
      clear hb1 hb2 k1 k2 z1 z2
      repeat (first | refine W.seq ?_ | refine W.block ?_ | refine W.reg ?_ | refine W.skip ?_ | refine W.exit ?_ | refine W.ret ?_ | refine L.nil ?_ | refine L.p rfl rfl ?_ | refine L.skip rfl ?_)
      refine W.ite rfl (fun h => ?_) (fun h => ?_)
      · cases h
      clear h
      repeat (first | refine W.seq ?_ | refine W.block ?_ | refine W.reg ?_ | refine W.skip ?_ | refine W.exit ?_ | refine W.ret ?_ | refine L.nil ?_ | refine L.p rfl rfl ?_ | refine L.skip rfl ?_)
      refine L.bs (bv [0#8, 1#8, 2#8, 3#8, 5#8, 48#8, 49#8, 127#8, 128#8, 129#8, 130#8, 132#8, 133#8, 255#8]) rfl rfl rfl rfl rfl rfl ?_
      have hc := Cons.push T2 (newR (bv [0#8, 1#8, 2#8, 3#8, 5#8, 48#8, 49#8, 127#8, 128#8, 129#8, 130#8, 132#8, 133#8, 255#8]) 5)
      have hZ : Slv (T2 ++ [newR (bv [0#8, 1#8, 2#8, 3#8, 5#8, 48#8, 49#8, 127#8, 128#8, 129#8, 130#8, 132#8, 133#8, 255#8]) 5]) 1 (.slice (some ⟨T2.length, 0, none⟩) 14 14) 14 (bv [0#8, 1#8, 2#8, 3#8, 5#8, 48#8, 49#8, 127#8, 128#8, 129#8, 130#8, 132#8, 133#8, 255#8]) := Slv.all (row_push_new rfl) rfl rfl
      have hCS := hCS.trans hc
      have hK := hK.cons hc
      have hB := hB.cons hc
      clear hc
      generalize T2 ++ [newR (bv [0#8, 1#8, 2#8, 3#8, 5#8, 48#8, 49#8, 127#8, 128#8, 129#8, 130#8, 132#8, 133#8, 255#8]) 5] = T3 at *
      generalize T2.length = rc at *
      repeat (first | refine W.seq ?_ | refine W.block ?_ | refine W.reg ?_ | refine W.skip ?_ | refine W.exit ?_ | refine W.ret ?_ | refine L.nil ?_ | refine L.p rfl rfl ?_ | refine L.skip rfl ?_)
      refine W.loop (fun j e T' => ∃ q, j = 14 - q ∧ q ≤ 14 ∧ Cons S T' ∧ K3 T' rk u1 u2 u3 nilV u5 u6 ∧ BIn T' ab cb B ∧ Slv T' 1 (.slice (some ⟨rc, 0, none⟩) 14 14) 14 (bv [0#8, 1#8, 2#8, 3#8, 5#8, 48#8, 49#8, 127#8, 128#8, 129#8, 130#8, 132#8, 133#8, 255#8]) ∧ e 20 = .slice (some ⟨rk, 0, none⟩) 3 3 ∧ e 21 = vi 3 ∧ e 22 = vi i ∧ e 3 = .slice ab B.length cb ∧ e 5 = vi k ∧
        e 57 = .slice (some ⟨rc, 0, none⟩) 14 14 ∧ e 58 = vi 14 ∧ e 59 = vi q) 14
        ⟨0, by omega, by omega, hCS, hK, hB, hZ, rfl, rfl, rfl, rfl, rfl, rfl, rfl, rfl⟩ ?_
      clear hCS hK hB hZ e20 e21 e22 e3 e5
      rintro j e T0 ⟨q, rfl, hq, hCS, hK, hB, hZ, e20, e21, e22, e3, e5, e57, e58, e59⟩
      refine W.env8 e20 e21 e22 e3 e5 e57 e58 e59 ?_
      repeat (first | refine W.seq ?_ | refine W.block ?_ | refine W.reg ?_ | refine W.skip ?_ | refine W.exit ?_ | refine W.ret ?_ | refine L.nil ?_ | refine L.p rfl rfl ?_ | refine L.skip rfl ?_)
      refine W.ite rfl (fun h => ?_) (fun h => ?_)
      · have hin3 : q < 14 := by have := of_decide_eq_true h; omega
        clear h
        obtain ⟨c, hc⟩ : ∃ c, ([0#8, 1#8, 2#8, 3#8, 5#8, 48#8, 49#8, 127#8, 128#8, 129#8, 130#8, 132#8, 133#8, 255#8] : BL)[q]? = some c := ⟨_, List.getElem?_eq_getElem hin3⟩
        repeat (first | refine W.seq ?_ | refine W.block ?_ | refine W.reg ?_ | refine W.skip ?_ | refine W.exit ?_ | refine W.ret ?_ | refine L.nil ?_ | refine L.p rfl rfl ?_ | refine L.skip rfl ?_)
        refine L.el hZ (k := q) rfl (bv_get hc) rfl rfl rfl rfl (fun _ => rfl) rfl (fun p => ?_)
        clear hc
        repeat (first | refine W.seq ?_ | refine W.block ?_ | refine W.reg ?_ | refine W.skip ?_ | refine W.exit ?_ | refine W.ret ?_ | refine L.nil ?_ | refine L.p rfl rfl ?_ | refine L.skip rfl ?_)
        obtain ⟨x1, y1, z1, z2⟩ := hB.partT (k := 0) (h := k) (lo := none) (hi := some (.int .i64 (k : Int))) (.inl ⟨rfl, rfl⟩) (.inr ⟨.i64, rfl⟩) (by omega) (by omega)
        rw [List.drop_zero, Nat.sub_zero] at z1 z2
        have z3 := z2 _ hB
        refine L.is (.slice x1 (B.take k).length y1) ((slice_at0 rfl rfl rfl).trans z1) rfl ?_
        refine L.appB (S0 := T0) (h := Hd0) (l := []) rfl (RetB.nil (Cons.refl _)) rfl rfl z3.1 (by rw [List.length_take]; simp; omega) rfl rfl (fun h1 T1 q1 => ?_)
        rw [List.nil_append] at q1
        clear z1 z2 z3
        repeat (first | refine W.seq ?_ | refine W.block ?_ | refine W.reg ?_ | refine W.skip ?_ | refine W.exit ?_ | refine W.ret ?_ | refine L.nil ?_ | refine L.p rfl rfl ?_ | refine L.skip rfl ?_)
        refine L.pushB c rfl q1 rfl rfl rfl rfl (by rw [List.length_take]; omega) rfl (fun _ => rfl) (fun p h2 T2 q2 => ?_)
        obtain ⟨lx, hlx⟩ : ∃ lx, lx = B.take k ++ [c] := ⟨_, rfl⟩
        have hlx1 : lx.length ≤ 2001 := by rw [hlx, List.length_append, List.length_take]; simp; omega
        rw [← hlx] at q2
        clear q1
        repeat (first | refine W.seq ?_ | refine W.block ?_ | refine W.reg ?_ | refine W.skip ?_ | refine W.exit ?_ | refine W.ret ?_ | refine L.nil ?_ | refine L.p rfl rfl ?_ | refine L.skip rfl ?_)
        refine L.appB (S0 := T2) (h := Hd0) (l := []) rfl (RetB.nil (Cons.refl _)) rfl rfl q2.2.2.1.slv (by simp; omega) rfl rfl (fun h3 T3 q3 => ?_)
        rw [List.nil_append] at q3
        have k03 := q2.1.trans q3.1
        have hB3 := hB.cons k03
        repeat (first | refine W.seq ?_ | refine W.block ?_ | refine W.reg ?_ | refine W.skip ?_ | refine W.exit ?_ | refine W.ret ?_ | refine L.nil ?_ | refine L.p rfl rfl ?_ | refine L.skip rfl ?_)
        obtain ⟨x1, y1, z1, z2⟩ := hB3.fromT (lv := .int .i64 (k : Int)) (k := k) rfl (by omega)
        have z3 := z2 _ hB3
        refine L.is (.slice x1 (B.drop k).length y1) ((slice_at0 rfl rfl rfl).trans z1) rfl ?_
        have hx3 := q2.2.2.1.cons q3.1
        have hn2 := q2.2.2.1.len
        rw [bv_len] at hn2
        refine L.appH rfl hx3 rfl rfl z3.1 (bv_one _) (by rw [List.length_drop]; omega) rfl rfl ?_
        rintro h4 T4 u4 n4 b4 g4
        clear z1 z2 z3
        have lt2 : ∀ b, h2.a = some b → T0.length ≤ b ∧ b < T2.length := fun b hb => ⟨q2.2.2.2 b hb, q2.2.2.1.lt hb⟩
        have lt3 : ∀ b, h3.a = some b → T2.length ≤ b ∧ b < T3.length := fun b hb => ⟨q3.2.2.2 b hb, q3.2.2.1.lt hb⟩
        have k04 : Cons T0 T4 := g4.cons0 k03 (fun b hb => (lt2 b (by simpa using hb)).1)
        have hy4 := q3.2.2.1.keep g4 (fun b hb hm => by have := lt3 b hb; have := lt2 b (by simpa using hm); omega)
        have hB4 := hB.cons k04
        repeat (first | refine W.seq ?_ | refine W.block ?_ | refine W.reg ?_ | refine W.skip ?_ | refine W.exit ?_ | refine W.ret ?_ | refine L.nil ?_ | refine L.p rfl rfl ?_ | refine L.skip rfl ?_)
        rw [show IntKind.i64.wrap ((k : Int) + 1) = ((k + 1 : Nat) : Int) by rw [wrap64 (by omega) (by omega)]; omega]
        refine L.min (c := ((min (k + 1) B.length : Nat) : Int)) rfl rfl rfl (by split <;> omega) ?_
        obtain ⟨x1, y1, z1, z2⟩ := hB4.fromT (lv := .int .i64 ((min (k + 1) B.length : Nat) : Int)) (k := min (k + 1) B.length) rfl (by omega)
        have z3 := z2 _ hB4
        refine L.is (.slice x1 (B.drop (min (k + 1) B.length)).length y1) ((slice_at0 rfl rfl rfl).trans z1) rfl ?_
        have hn3 := q3.2.2.1.len
        rw [bv_len] at hn3
        refine L.appH rfl hy4 rfl rfl z3.1 (bv_one _) (by rw [List.length_drop]; omega) rfl rfl ?_
        rintro h5 T5 u5' n5' b5 g5
        clear z1 z2 z3
        have hlen3 : T2.length ≤ T3.length := q3.1.len
        have k05 : Cons T0 T5 := g5.cons0 k04 (fun b hb => by have := lt3 b (by simpa using hb); have := q2.1.len; omega)
        have hx5 := u4.keep g5 (fun b hb hm => by
          have h9 := lt3 b (by simpa using hm)
          rcases b4 with ⟨b4, _⟩ | ⟨b', b4, b6⟩
          · rw [b4] at hb; have := lt2 b hb; omega
          · rw [b4] at hb; cases hb; omega)
        rw [← bv_app] at hx5 u5'
        have hX : BE 100000 T5 h4.v := BE.hd (by decide) hx5 _ rfl (by rw [List.length_append, List.length_drop]; omega)
        have hY : BE 100000 T5 h5.v := BE.hd (by decide) u5' _ rfl (by rw [List.length_append, List.length_drop]; omega)
        repeat (first | refine W.seq ?_ | refine W.block ?_ | refine W.reg ?_ | refine W.skip ?_ | refine W.exit ?_ | refine W.ret ?_ | refine L.nil ?_ | refine L.p rfl rfl ?_ | refine L.skip rfl ?_)
        refine L.cl hX.reads rfl rfl ?_
        rintro _ T6 ⟨rfl, k6⟩
        refine ⟨nofun, ?_⟩
        have hY := hY.cons k6
        repeat (first | refine W.seq ?_ | refine W.block ?_ | refine W.reg ?_ | refine W.skip ?_ | refine W.exit ?_ | refine W.ret ?_ | refine L.nil ?_ | refine L.p rfl rfl ?_ | refine L.skip rfl ?_)
        refine L.cl hY.reads rfl rfl ?_
        rintro _ T7 ⟨rfl, k7⟩
        refine ⟨nofun, ?_⟩
        have hY := hY.cons k7
        repeat (first | refine W.seq ?_ | refine W.block ?_ | refine W.reg ?_ | refine W.skip ?_ | refine W.exit ?_ | refine W.ret ?_ | refine L.nil ?_ | refine L.p rfl rfl ?_ | refine L.skip rfl ?_)
        refine L.cl hY.once rfl rfl ?_
        rintro _ T8 ⟨rfl, k8⟩
        refine ⟨nofun, ?_⟩
        have kk := ((k05.trans k6).trans k7).trans k8
        repeat (first | refine W.seq ?_ | refine W.block ?_ | refine W.reg ?_ | refine W.skip ?_ | refine W.exit ?_ | refine W.ret ?_ | refine L.nil ?_ | refine L.p rfl rfl ?_ | refine L.skip rfl ?_)
        refine W.ite rfl (fun h => ?_) (fun h => ?_)
        · cases h
        clear h
        repeat (first | refine W.seq ?_ | refine W.block ?_ | refine W.reg ?_ | refine W.skip ?_ | refine W.exit ?_ | refine W.ret ?_ | refine L.nil ?_ | refine L.p rfl rfl ?_ | refine L.skip rfl ?_)
        refine ⟨14 - (q + 1), by omega, q + 1, rfl, by omega, hCS.trans kk, hK.cons kk, hB.cons kk, hZ.cons kk, rfl, rfl, rfl, rfl, rfl, rfl, rfl, ?_⟩
        refine (force_eq rfl).trans ?_
        rw [wrap64 (by omega) (by omega)]; rfl
      repeat (first | refine W.seq ?_ | refine W.block ?_ | refine W.reg ?_ | refine W.skip ?_ | refine W.exit ?_ | refine W.ret ?_ | refine L.nil ?_ | refine L.p rfl rfl ?_ | refine L.skip rfl ?_)
      refine ⟨B.length + 1 - (k + 1), by omega, k + 1, rfl, by omega, hCS, hK, hB, rfl, rfl, rfl, rfl, ?_⟩
      refine (force_eq rfl).trans ?_
      rw [wrap64 (by omega) (by omega)]; rfl
    · repeat (first | refine W.seq ?_ | refine W.block ?_ | refine W.reg ?_ | refine W.skip ?_ | refine W.exit ?_ | refine W.ret ?_ | refine L.nil ?_ | refine L.p rfl rfl ?_ | refine L.skip rfl ?_)
      refine ⟨3 - (i + 1), by omega, i + 1, rfl, by omega, hCS, hK, rfl, rfl, ?_⟩
      refine (force_eq rfl).trans ?_
      rw [wrap64 (by omega) (by omega)]; rfl
  clear h hK
  have hCS0 := hCS
  have hC := Cons.refl T0
  have all := AllB.nil T0
  repeat (first | refine W.seq ?_ | refine W.block ?_ | refine W.reg ?_ | refine W.skip ?_ | refine W.exit ?_ | refine W.ret ?_ | refine L.nil ?_ | refine L.p rfl rfl ?_ | refine L.skip rfl ?_)
  refine L.bsB [48#8, 0#8] rfl rfl rfl rfl rfl rfl ?_
  rintro v1 T1 cT1 iT1
  have all := all.snoc cT1 iT1
  have hC := hC.trans cT1
  clear cT1 iT1
  refine L.bsB [48#8, 2#8, 2#8, 0#8] rfl rfl rfl rfl rfl rfl ?_
  rintro v2 T2 cT2 iT2
  have all := all.snoc cT2 iT2
  have hC := hC.trans cT2
  clear cT2 iT2
  refine L.bsB [48#8, 3#8, 2#8, 1#8, 5#8] rfl rfl rfl rfl rfl rfl ?_
  rintro v3 T3 cT3 iT3
  have all := all.snoc cT3 iT3
  have hC := hC.trans cT3
  clear cT3 iT3
  refine L.bsB [48#8, 5#8, 2#8, 1#8, 5#8, 2#8, 0#8] rfl rfl rfl rfl rfl rfl ?_
  rintro v4 T4 cT4 iT4
  have all := all.snoc cT4 iT4
  have hC := hC.trans cT4
  clear cT4 iT4
  refine L.bsB [48#8, 6#8, 2#8, 1#8, 5#8, 3#8, 1#8, 3#8] rfl rfl rfl rfl rfl rfl ?_
  rintro v5 T5 cT5 iT5
  have all := all.snoc cT5 iT5
  have hC := hC.trans cT5
  clear cT5 iT5
  refine L.bsB [48#8, 8#8, 2#8, 1#8, 5#8, 2#8, 1#8, 3#8, 5#8, 0#8] rfl rfl rfl rfl rfl rfl ?_
  rintro v6 T6 cT6 iT6
  have all := all.snoc cT6 iT6
  have hC := hC.trans cT6
  clear cT6 iT6
  refine L.bsB [48#8, 4#8, 48#8, 2#8, 2#8, 0#8] rfl rfl rfl rfl rfl rfl ?_
  rintro v7 T7 cT7 iT7
  have all := all.snoc cT7 iT7
  have hC := hC.trans cT7
  clear cT7 iT7
  refine L.bsB [48#8, 6#8, 2#8, 1#8, 133#8, 2#8, 1#8, 3#8] rfl rfl rfl rfl rfl rfl ?_
  rintro v8 T8 cT8 iT8
  have all := all.snoc cT8 iT8
  have hC := hC.trans cT8
  clear cT8 iT8
  refine L.bsB [48#8, 6#8, 2#8, 4#8, 5#8, 2#8, 1#8, 3#8] rfl rfl rfl rfl rfl rfl ?_
  rintro v9 T9 cT9 iT9
  have all := all.snoc cT9 iT9
  have hC := hC.trans cT9
  clear cT9 iT9
  refine L.bsB [48#8, 6#8, 2#8, 5#8, 5#8, 2#8, 1#8, 3#8] rfl rfl rfl rfl rfl rfl ?_
  rintro v10 T10 cT10 iT10
  have all := all.snoc cT10 iT10
  have hC := hC.trans cT10
  clear cT10 iT10
  refine L.bsB [48#8, 6#8, 3#8, 9#8, 5#8, 2#8, 1#8, 3#8] rfl rfl rfl rfl rfl rfl ?_
  rintro v11 T11 cT11 iT11
  have all := all.snoc cT11 iT11
  have hC := hC.trans cT11
  clear cT11 iT11
  simp only [List.nil_append, List.cons_append] at all
  refine L.bs [v1, v2, v3, v4, v5, v6, v7, v8, v9, v10, v11] rfl rfl rfl rfl all.one rfl ?_
  have hLB := LB.fresh (S := T11) (t := 22) (n := 11) rfl all
  have hCS := hCS0.trans (hC.pushr (newR [v1, v2, v3, v4, v5, v6, v7, v8, v9, v10, v11] 22))
  clear hCS0 hC all
  generalize T11 ++ [newR [v1, v2, v3, v4, v5, v6, v7, v8, v9, v10, v11] 22] = T at *
  generalize T11.length = rl at *
  repeat (first | refine W.seq ?_ | refine W.block ?_ | refine W.reg ?_ | refine W.skip ?_ | refine W.exit ?_ | refine W.ret ?_ | refine L.nil ?_ | refine L.p rfl rfl ?_ | refine L.skip rfl ?_)
  refine W.loop (fun j e T' => ∃ i, j = 11 - i ∧ i ≤ 11 ∧ Cons S T' ∧ LB T' (.slice (some ⟨rl, 0, none⟩) 11 11) 11 ∧ e 115 = .slice (some ⟨rl, 0, none⟩) 11 11 ∧ e 116 = vi 11 ∧ e 117 = vi i) 11
    ⟨0, by omega, by omega, hCS, hLB, rfl, rfl, rfl⟩ ?_
  clear hCS hLB
  rintro j e T0 ⟨i, rfl, hi, hCS, hLB, e99, e100, e101⟩
  refine W.env3 e99 e100 e101 ?_
  repeat (first | refine W.seq ?_ | refine W.block ?_ | refine W.reg ?_ | refine W.skip ?_ | refine W.exit ?_ | refine W.ret ?_ | refine L.nil ?_ | refine L.p rfl rfl ?_ | refine L.skip rfl ?_)
  refine W.ite rfl (fun h => ?_) (fun h => ?_)
  · have hin : i < 11 := by have := of_decide_eq_true h; omega
    clear h
    obtain ⟨w, ws, g1, g2, g3⟩ := hLB.get hin
    obtain ⟨aw, cw, lw, rfl, _⟩ := id g3
    repeat (first | refine W.seq ?_ | refine W.block ?_ | refine W.reg ?_ | refine W.skip ?_ | refine W.exit ?_ | refine W.ret ?_ | refine L.nil ?_ | refine L.p rfl rfl ?_ | refine L.skip rfl ?_)
    refine L.el g1 (k := i) rfl g2 rfl rfl rfl rfl (fun _ => rfl) rfl (fun p => ?_)
    repeat (first | refine W.seq ?_ | refine W.block ?_ | refine W.reg ?_ | refine W.skip ?_ | refine W.exit ?_ | refine W.ret ?_ | refine L.nil ?_ | refine L.p rfl rfl ?_ | refine L.skip rfl ?_)
    refine L.cl g3.reads rfl rfl ?_
    rintro _ T4 ⟨rfl, k4⟩
    refine ⟨nofun, ?_⟩
    have g3 := g3.cons k4
    repeat (first | refine W.seq ?_ | refine W.block ?_ | refine W.reg ?_ | refine W.skip ?_ | refine W.exit ?_ | refine W.ret ?_ | refine L.nil ?_ | refine L.p rfl rfl ?_ | refine L.skip rfl ?_)
    refine L.cl g3.once rfl rfl ?_
    rintro _ T5 ⟨rfl, k5⟩
    refine ⟨nofun, ?_⟩
    have kk := k4.trans k5
    repeat (first | refine W.seq ?_ | refine W.block ?_ | refine W.reg ?_ | refine W.skip ?_ | refine W.exit ?_ | refine W.ret ?_ | refine L.nil ?_ | refine L.p rfl rfl ?_ | refine L.skip rfl ?_)
    refine W.ite rfl (fun h => ?_) (fun h => ?_)
    · cases h
    clear h
    repeat (first | refine W.seq ?_ | refine W.block ?_ | refine W.reg ?_ | refine W.skip ?_ | refine W.exit ?_ | refine W.ret ?_ | refine L.nil ?_ | refine L.p rfl rfl ?_ | refine L.skip rfl ?_)
    refine ⟨11 - (i + 1), by omega, i + 1, rfl, by omega, hCS.trans kk, hLB.cons kk, rfl, rfl, ?_⟩
    refine (force_eq rfl).trans ?_
    rw [wrap64 (by omega) (by omega)]; rfl
  clear h hLB
  repeat (first | refine W.seq ?_ | refine W.block ?_ | refine W.reg ?_ | refine W.skip ?_ | refine W.exit ?_ | refine W.ret ?_ | refine L.nil ?_ | refine L.p rfl rfl ?_ | refine L.skip rfl ?_)
  refine L.cl (works_C _) rfl rfl ?_
  rintro _ T1 ⟨rfl, kk⟩
  refine ⟨nofun, ?_⟩
  repeat (first | refine W.seq ?_ | refine W.block ?_ | refine W.reg ?_ | refine W.skip ?_ | refine W.exit ?_ | refine W.ret ?_ | refine L.nil ?_ | refine L.p rfl rfl ?_ | refine L.skip rfl ?_)
  exact ⟨.inr rfl, _, rfl, rfl, hCS.trans kk⟩
theorem knownK_C (S : Mem) : C Try.prog G (Known Try.prog G) 9 [] S fun v S' => v = .bool true ∧ Cons S S' := by
  refine C.fn Try.func9 rfl (by kernel_rfl) rfl ?_
  repeat (first | refine W.seq ?_ | refine W.block ?_ | refine W.reg ?_ | refine W.skip ?_ | refine W.exit ?_ | refine W.ret ?_ | refine L.nil ?_ | refine L.p rfl rfl ?_ | refine L.skip rfl ?_)
  refine L.cl (itemsK_C _) rfl rfl ?_
  rintro _ T1 ⟨rfl, k1⟩
  refine ⟨nofun, ?_⟩
  repeat (first | refine W.seq ?_ | refine W.block ?_ | refine W.reg ?_ | refine W.skip ?_ | refine W.exit ?_ | refine W.ret ?_ | refine L.nil ?_ | refine L.p rfl rfl ?_ | refine L.skip rfl ?_)
  refine L.cl (keysK_C _) rfl rfl ?_
  rintro _ T2 ⟨rfl, k2⟩
  refine ⟨nofun, ?_⟩
  repeat (first | refine W.seq ?_ | refine W.block ?_ | refine W.reg ?_ | refine W.skip ?_ | refine W.exit ?_ | refine W.ret ?_ | refine L.nil ?_ | refine L.p rfl rfl ?_ | refine L.skip rfl ?_)
  refine L.cl (spoiltK_C _) rfl rfl ?_
  rintro _ T3 ⟨rfl, k3⟩
  refine ⟨nofun, ?_⟩
  repeat (first | refine W.seq ?_ | refine W.block ?_ | refine W.reg ?_ | refine W.skip ?_ | refine W.exit ?_ | refine W.ret ?_ | refine L.nil ?_ | refine L.p rfl rfl ?_ | refine L.skip rfl ?_)
  exact ⟨.inr rfl, _, rfl, rfl, (k1.trans k2).trans k3⟩
end Go.Proofs.Ytccdlijohkljcaa

/- Arguments that came in, on the abstract memory of the world in which a call begins. Conditions: none. -/
set_option linter.unusedSimpArgs false
set_option linter.unusedVariables false
namespace Go.Proofs.Ytccdlijohkljcaa
open Go

/-- a slice of whole numbers that came in: none; or it leads to a row of cap cells, the numbers zs -/
def IsRow (k : IntKind) (w : World) (a : Option Addr) (len cap : Nat) (zs : List Int) : Prop :=
  (a = none ∧ len = 0 ∧ cap = 0 ∧ zs = []) ∨
  ∃ x, a = some x ∧ len ≤ cap ∧ cap ≤ maxLen ∧ zs.length = cap ∧ (∀ i, i < zs.length → w.cell? (x.add i) = some (.int k (zs.getD i 0))) ∧ ∀ n ∈ zs, (Lit.int k n).wf = true
theorem okWide_block {P : Program} {W : World} {base : Nat} {t e : TypeId} {a : Addr} {len cap : Nat} (hu : P.underlying t = some (.slice e)) (h : Value.okWide P W .any base t (.slice (some a) len cap)) : a.block < W.heap.size := by
  unfold Value.okWide at h
  simp only [hu] at h
  unfold Cell.okWide at h
  simp only [hu] at h
  unfold Cell.ok at h
  simp only [hu] at h
  obtain ⟨_, _, _, _, row, cells, hs, _⟩ := h
  unfold World.shape? at hs
  split at hs
  · rename_i c el fz hh
    exact (Array.getElem?_eq_some_iff.1 hh).1
  · cases hs
theorem row_cap {k : IntKind} {W : World} {a : Option Addr} {len cap : Nat} {zs : List Int} (h : IsRow k W a len cap zs) : cap < UNK ∧ len ≤ cap := by
  rcases h with ⟨rfl, rfl, rfl, rfl⟩ | ⟨x, rfl, hlc, hm, hz, hcell, hwf⟩
  · exact ⟨by decide, by decide⟩
  · exact ⟨by unfold maxLen at hm; unfold UNK; omega, hlc⟩
theorem world_ints {k : IntKind} {W : World} {N : Nat} {a : Option Addr} {len cap : Nat} {zs : List Int} (h : IsRow k W a len cap zs) (hb : ∀ x, a = some x → x.block < W.heap.size + N) :
    Slv (mem0 W N) 1 (.slice a len cap) len ((zs.take len).map (Value.int k)) ∧ VR (rho0 W N) (.slice a len cap) (.slice a len cap) ∧ (zs.take len).length = len ∧ Cut len cap ∧ (∀ n ∈ zs, (Lit.int k n).wf = true) := by
  rcases h with ⟨rfl, rfl, rfl, rfl⟩ | ⟨x, rfl, hlc, hm, hz, hcell, hwf⟩
  · exact ⟨Slv.nil _ _ _ _, .slNil _ _, rfl, .inl ⟨by decide, by decide⟩, nofun⟩
  · have hcu : cap < UNK := by unfold maxLen at hm; unfold UNK; omega
    have hlen : (zs.take len).length = len := by rw [List.length_take]; omega
    refine ⟨?_, (fixed_slice (N := N) (hb x rfl) hcu).1, hlen, .inl ⟨hcu, hlc⟩, hwf⟩
    rcases Nat.eq_zero_or_pos len with rfl | hpos
    · rw [List.take_zero]; exact Slv.nil _ _ _ _
    have h0 := hcell 0 (by omega)
    have hx0 : x.add 0 = x := rfl
    rw [hx0] at h0
    unfold World.cell? at h0
    split at h0
    · rename_i c el fz hh
      split at h0
      · cases h0
      · rename_i hsp
        have hsp' : x.spot = none := by cases hxs : x.spot <;> simp_all
        obtain ⟨r, hr, hrl, hrc⟩ := mem0_live (N := N) hh
        have hxa : x = ⟨x.block, x.off, none⟩ := by cases x; simp at hsp'; subst hsp'; rfl
        have hci : ∀ i, i < cap → r.cells[x.off + i]? = some (.int k (zs.getD i 0)) := by
          intro i hi
          have h1 := hcell i (by omega)
          have hadd : x.add i = ⟨x.block, x.off + i, none⟩ := by
            unfold Addr.add
            split
            · rename_i h9; rw [h9]; exact hxa
            · rfl
          rw [hadd] at h1
          simp only [World.cell?, hh] at h1
          exact hrc _ _ (by simpa using h1) (fixed_scalar W N rfl)
        have hbound : x.off + len * 1 ≤ r.cells.length := by
          have := (List.getElem?_eq_some_iff.1 (hci (len - 1) (by omega))).1
          omega
        have hseg : (r.cells.drop x.off).take (len * 1) = (zs.take len).map (Value.int k) := by
          apply List.ext_getElem?
          intro i
          rw [List.getElem?_take, Nat.mul_one]
          split
          · rename_i hi
            rw [List.getElem?_drop, hci i (by omega), List.getElem?_map, List.getElem?_take, if_pos hi, List.getD_eq_getElem?_getD, List.getElem?_eq_getElem (by omega)]
            rfl
          · rename_i hi
            rw [List.getElem?_eq_none (by rw [List.length_map, hlen]; omega)]
        have := Slv.of (sz := 1) (n := len) (c := cap) hr hbound (.inr (by rw [hseg, List.all_map, List.all_eq_true]; intro n _; rfl))
        rw [hseg, ← hxa] at this
        exact this
    · cases h0
theorem bound_of (f : Nat → Nat) (n : Nat) : ∃ N, ∀ i, i < n → f i < N := by
  induction n with
  | zero => exact ⟨0, nofun⟩
  | succ n ih =>
    obtain ⟨N, h⟩ := ih
    refine ⟨max N (f n + 1), fun i hi => ?_⟩
    rcases Nat.lt_or_eq_of_le (Nat.le_of_lt_succ hi) with h1 | rfl
    · have := h i h1; omega
    · omega
theorem cell_row {W : World} {N : Nat} {x : Addr} {v : Value} (h : W.cell? x = some v) (hf : Fixed W N v) : x = ⟨x.block, x.off, none⟩ ∧ x.block < W.heap.size ∧ ∃ r, (mem0 W N).row? x.block = some r ∧ r.cells[x.off]? = some v := by
  unfold World.cell? at h
  split at h
  · rename_i c el fz hh
    split at h
    · cases h
    · rename_i hsp
      have hsp' : x.spot = none := by cases hxs : x.spot <;> simp_all
      obtain ⟨r, hr, hrl, hrc⟩ := mem0_live (N := N) hh
      refine ⟨by cases x; simp at hsp'; subst hsp'; rfl, (Array.getElem?_eq_some_iff.1 hh).1, r, hr, hrc _ _ (by simpa using h) hf⟩
  · cases h
end Go.Proofs.Ytccdlijohkljcaa

/- The proof of the statement on examples and edges. Conditions: none. -/
namespace Go.Proofs.Ytccdlijohkljcaa.derKnown
open Go.ChangeShapes Go.WideShapes Go.ChangeAt Go.RowKit
open Go.ChangeMaps (open_string shut_string)
set_option linter.unusedVariables false

theorem own : ownKnob Try.prog.godebug = none := by kernel_rfl

theorem walk  (w : World)  :
    Calls Try.prog 9 #[] w fun e w' => e = .returned (.bool true) ∧ Below w.heap.size w w' := by
  obtain ⟨v, S', hE, rfl, hcons⟩ := knownK_C (G := 0) (mem0 w)
  exact top_true (Checked.mixed Try.checked) (fun _ _ _ _ _ h => h) (Nat.zero_le _) (fun a ha => by simp at ha) hE hcons

set_option maxRecDepth 100000 in
theorem lifted (os : Os) (started : os.Started) (H : Type) (enc : TypeId × Value → H) :
    ReturnsInHanded {} Try.checked os 9 .any (Rows.derKnownSpec.pre6 enc Try.prog Try.f9 Rows.derKnownRow.domain false) (Rows.derKnownSpec.post enc Try.prog Try.f9 false true false false) := by
  refine returnsInHanded_of_change (C := Try.checked) own started (by kernel_rfl) Try.func9
    (ChangeSpec.witness6 (enc := enc) (C := Try.checked) false ⟨#[], #[], []⟩ 8 (by kernel_rfl) (by kernel_rfl) (by kernel_rfl) (by kernel_rfl)) ?_
  intro W base args ds gs before hval0 hW hcnd _
  have hval : ∀ (j : Nat) t v, Try.f9.params[j]? = some t → args[j]? = some v → Value.okWide Try.prog W .any base t v := hval0
  have hW' := hW
  obtain ⟨p, q, hA0, hV, rfl, hfz, hnd⟩ := hW
  have hA : DataW.TrodAll enc Try.prog W 0 (fun _ => true) true Try.f9.params.toList args.toList ds p := hA0
  rw [Try.params9] at hA hval
  obtain ⟨rfl, rfl, rfl⟩ := trodAll_none hA
  obtain ⟨rfl, rfl⟩ := trodVars_none hV
  clear hA0 hval0
  simp only [List.append_nil] at hW'
  refine (walk  W ).mono fun e W' ⟨he, bel⟩ => ?_
  subst he
  exact ⟨_, rfl, _, _, _, [], _, [], hW', trodAll_mk1 (shut_bool Try.underlying4 _), rfl, rfl, bel.frame _, fun h => by cases h⟩

theorem over : Rows.derKnownRow.holds Try.pinned (OpenSpec.ofChange Rows.derKnownSpec) :=
  OpenClaim.holds_of_wide 9 Try.f9 rfl rfl rfl rfl rfl rfl rfl ⟨rfl, rfl, rfl, rfl, rfl⟩ rfl rfl rfl rfl rfl (by kernel_rfl) Try.func9 (by kernel_rfl)
    (of_decide_eq_true (by kernel_rfl)) (by unfold Func.isWrapper; first | (rw [if_pos (by decide +kernel)]; kernel_rfl) | (rw [if_neg (by decide +kernel)]; exact ⟨rfl, rfl⟩))
    (fun os started H enc _ => lifted os started H enc)

theorem proved : Rows.DerKnownSaid := over
end Go.Proofs.Ytccdlijohkljcaa.derKnown
