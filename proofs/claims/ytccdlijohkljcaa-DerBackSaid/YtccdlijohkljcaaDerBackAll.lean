/- The proof of the statement on there and back. Conditions: none. -/
import Derived.Test.YtccdlijohkljcaaLibE
import Derived.WalkKit
import Derived.ProofKit
import Derived.OpenShut
import Derived.ShutString
import Derived.ChangeOld
import Derived.Below
import Derived.ChangeSame
import Derived.Test.YtccdlijohkljcaaRows

/- The law of reading, walked. Conditions: none. -/
set_option linter.unusedSimpArgs false
set_option linter.unusedVariables false
set_option maxRecDepth 100000
set_option maxHeartbeats 4000000
namespace Go.Proofs.Ytccdlijohkljcaa
open Go
variable {G : Nat}

/-- what is read, where an error reads nothing -/
def keyN (b : BL) : WL × WL := match keyS b with
  | .error _ => ([], [])
  | .ok p => p
def keyE (b : BL) : Int := match keyS b with
  | .error e => e
  | .ok _ => 0
theorem KeyR.two {S S' : Mem} {b : BL} {v : Value} (h : KeyR S b v S') : ∃ d1 d2 : Hd, v = .tuple #[.agg #[d1.v, d2.v], .int .i64 (keyE b)] ∧ RetW S S' d1 (keyN b).1 ∧ RetW S S' d2 (keyN b).2 ∧ Apart2 d1 d2 := by
  unfold KeyR at h
  cases hk : keyS b with
  | error e =>
    rw [hk] at h
    obtain ⟨rfl, hc⟩ := h
    refine ⟨Hd0, Hd0, by unfold keyE; rw [hk]; rfl, ?_, ?_, nofun⟩ <;> (unfold keyN; rw [hk]; exact RetW.nil hc)
  | ok p =>
    obtain ⟨l1, l2⟩ := p
    rw [hk] at h
    obtain ⟨d1, d2, rfl, h1, h2, h3⟩ := h
    refine ⟨d1, d2, by unfold keyE; rw [hk], ?_, ?_, h3⟩ <;> (unfold keyN; rw [hk]; assumption)
theorem RefKey.two {S S' : Mem} {b : BL} {v : Value} (h : RefKey S b v S') : ∃ a1 c1 a2 c2, v = .tuple #[.agg #[.slice a1 (keyN b).1.length c1, .slice a2 (keyN b).2.length c2], .int .i64 (keyE b)] ∧ Cons S S' ∧ WIn S' a1 c1 (keyN b).1 ∧ WIn S' a2 c2 (keyN b).2 := by
  unfold RefKey at h
  cases hk : keyS b with
  | error e =>
    rw [hk] at h
    obtain ⟨rfl, hc⟩ := h
    refine ⟨none, 0, none, 0, by unfold keyE keyN; rw [hk]; rfl, hc, ?_, ?_⟩ <;> (unfold keyN; rw [hk]; exact WIn.nil _)
  | ok p =>
    obtain ⟨l1, l2⟩ := p
    rw [hk] at h
    obtain ⟨a1, c1, a2, c2, rfl, h0, h1, h2⟩ := h
    refine ⟨a1, c1, a2, c2, by unfold keyE keyN; rw [hk], h0, ?_, ?_⟩ <;> (unfold keyN; rw [hk]; assumption)
theorem toW_le {n k : Nat} (h : blen n ≤ 64 * k) : (toW n).length ≤ k := (toW_len n k).2 (blen_le.1 h)
theorem numS_len {b : BL} {l : WL} (h : numS b = .ok l) : l.length ≤ 64 := by
  unfold numS at h
  split at h
  · cases h
  · split at h
    · cases h
    · rename_i h1
      cases h
      exact toW_le (by omega)
theorem partS_len {b r : BL} {l : WL} (h : partS b = .ok (l, r)) : l.length ≤ 64 := by
  unfold partS at h
  split at h
  · cases h
  · split at h
    · cases h
    · split at h
      · cases h
      · rename_i hn; cases h; exact numS_len hn
theorem keyS_len {b : BL} {l1 l2 : WL} (h : keyS b = .ok (l1, l2)) : l1.length ≤ 64 ∧ l2.length ≤ 64 := by
  unfold keyS at h
  split at h
  · cases h
  · split at h
    · cases h
    · split at h
      · cases h
      · unfold keyT at h
        split at h
        · cases h
        · rename_i h1
          split at h
          · cases h
          · rename_i h2
            split at h
            · cases h
            · cases h; exact ⟨partS_len h1, partS_len h2⟩
theorem keyN_len (b : BL) : (keyN b).1.length ≤ 64 ∧ (keyN b).2.length ≤ 64 := by
  unfold keyN
  split
  · exact ⟨Nat.zero_le _, Nat.zero_le _⟩
  · rename_i p h; exact keyS_len h
theorem RetW.hd {S S' T : Mem} {d : Hd} {l : WL} (h : RetW S S' d l) (k : Cons S' T) : Slv T 1 (.slice d.ad d.n d.c) d.n (wv l) ∧ d.n < 1099511627776 := by
  have hh := h.2.2.1.cons k
  have hn := hh.len
  rw [wv_len] at hn
  exact ⟨hh.slv, hn ▸ h.2.1⟩
theorem keq (k : WL × WL) : (k.1 == k.1 && k.2 == k.2) = true := by simp
theorem reads_C (a : Option Addr) (c : Nat) (l : BL) (S : Mem) (hs : Slv S 1 (.slice a l.length c) l.length (bv l)) (hcut : Cut l.length c) : C Try.prog G (Known Try.prog G) 3 [.slice a l.length c] S fun v S' => v = .bool true ∧ Cons S S' := by
  refine C.fn Try.func3 rfl (by kernel_rfl) rfl ?_
  repeat (first | refine W.seq ?_ | refine W.block ?_ | refine W.reg ?_ | refine W.skip ?_ | refine W.exit ?_ | refine W.ret ?_ | refine L.nil ?_ | refine L.p rfl rfl ?_ | refine L.skip rfl ?_)
  refine W.ite rfl (fun h => ?_) (fun h => ?_)
  · repeat (first | refine W.seq ?_ | refine W.block ?_ | refine W.reg ?_ | refine W.skip ?_ | refine W.exit ?_ | refine W.ret ?_ | refine L.nil ?_ | refine L.p rfl rfl ?_ | refine L.skip rfl ?_)
    exact ⟨.inr rfl, _, rfl, rfl, Cons.refl _⟩
  have hl : l.length ≤ 4096 := by simp at h; omega
  have hI : BIn S a c l := ⟨hs, hcut, by omega⟩
  clear h
  repeat (first | refine W.seq ?_ | refine W.block ?_ | refine W.reg ?_ | refine W.skip ?_ | refine W.exit ?_ | refine W.ret ?_ | refine L.nil ?_ | refine L.p rfl rfl ?_ | refine L.skip rfl ?_)
  refine L.cl (lent_C _ l S hI.1 (by omega)) rfl rfl ?_
  rintro _ M1 ⟨hc1, b, hb, rfl, hr1⟩
  refine ⟨nofun, ?_⟩
  have hI1 := BIn.lent hr1 (by simp [marks]) (by omega)
  have hbl := row_lt hr1
  repeat (first | refine W.seq ?_ | refine W.block ?_ | refine W.reg ?_ | refine W.skip ?_ | refine W.exit ?_ | refine W.ret ?_ | refine L.nil ?_ | refine L.p rfl rfl ?_ | refine L.skip rfl ?_)
  refine L.cl (decode_C _ _ l M1 hI1) rfl rfl ?_
  rintro _ M2 hR
  obtain ⟨d1, d2, rfl, r1, r2, hap1⟩ := hR.two
  refine ⟨nofun, ?_⟩
  have hc2 := r1.1
  repeat (first | refine W.seq ?_ | refine W.block ?_ | refine W.reg ?_ | refine W.skip ?_ | refine W.exit ?_ | refine W.ret ?_ | refine L.nil ?_ | refine L.p rfl rfl ?_ | refine L.skip rfl ?_)
  refine L.eff (v := .pointer (some ⟨List.length M2, 0, none⟩)) (S1 := M2 ++ [newR [nilV, nilV] 26]) rfl rfl ?_
  refine L.st (ad := ⟨List.length M2, 0, none⟩) (vs := [d1.v, d2.v]) (key_write M2 _ _ rfl rfl) rfl rfl rfl rfl ?_
  have hr3 : Mem.row? (M2 ++ [keyR d1.v d2.v]) M2.length = some (keyR d1.v d2.v) := row_push_new rfl
  have hk3 : Cons M2 (M2 ++ [keyR d1.v d2.v]) := Cons.push _ _
  generalize M2 ++ [keyR d1.v d2.v] = M3 at *
  generalize M2.length = q1 at *
  repeat (first | refine W.seq ?_ | refine W.block ?_ | refine W.reg ?_ | refine W.skip ?_ | refine W.exit ?_ | refine W.ret ?_ | refine L.nil ?_ | refine L.p rfl rfl ?_ | refine L.skip rfl ?_)
  refine L.cl (decode_C _ _ l M3 (hI1.cons (hc2.trans hk3))) rfl rfl ?_
  rintro _ M4 hR
  obtain ⟨d3, d4, rfl, r3, r4, hap2⟩ := hR.two
  refine ⟨nofun, ?_⟩
  have hc4 := r3.1
  repeat (first | refine W.seq ?_ | refine W.block ?_ | refine W.reg ?_ | refine W.skip ?_ | refine W.exit ?_ | refine W.ret ?_ | refine L.nil ?_ | refine L.p rfl rfl ?_ | refine L.skip rfl ?_)
  refine L.eff (v := .pointer (some ⟨List.length M4, 0, none⟩)) (S1 := M4 ++ [newR [nilV, nilV] 26]) rfl rfl ?_
  refine L.st (ad := ⟨List.length M4, 0, none⟩) (vs := [d3.v, d4.v]) (key_write M4 _ _ rfl rfl) rfl rfl rfl rfl ?_
  have hr5 : Mem.row? (M4 ++ [keyR d3.v d4.v]) M4.length = some (keyR d3.v d4.v) := row_push_new rfl
  have hk5 : Cons M4 (M4 ++ [keyR d3.v d4.v]) := Cons.push _ _
  generalize M4 ++ [keyR d3.v d4.v] = M5 at *
  generalize M4.length = q2 at *
  repeat (first | refine W.seq ?_ | refine W.block ?_ | refine W.reg ?_ | refine W.skip ?_ | refine W.exit ?_ | refine W.ret ?_ | refine L.nil ?_ | refine L.p rfl rfl ?_ | refine L.skip rfl ?_)
  have hc15 := ((hc2.trans hk3).trans hc4).trans hk5
  refine L.cl (refDecode_C _ _ l M5 (hI.cons (hc1.trans hc15))) rfl rfl ?_
  rintro _ M6 hR
  obtain ⟨a6, c6, a7, c7, rfl, hc6, w6, w7⟩ := hR.two
  refine ⟨nofun, ?_⟩
  repeat (first | refine W.seq ?_ | refine W.block ?_ | refine W.reg ?_ | refine W.skip ?_ | refine W.exit ?_ | refine W.ret ?_ | refine L.nil ?_ | refine L.p rfl rfl ?_ | refine L.skip rfl ?_)
  refine L.eff (v := .pointer (some ⟨List.length M6, 0, none⟩)) (S1 := M6 ++ [newR [nilV, nilV] 26]) rfl rfl ?_
  refine L.st (ad := ⟨List.length M6, 0, none⟩) (vs := [(.slice a6 (keyN l).1.length c6), (.slice a7 (keyN l).2.length c7)]) (key_write M6 _ _ rfl rfl) rfl rfl rfl rfl ?_
  have hr7 : Mem.row? (M6 ++ [keyR (.slice a6 (keyN l).1.length c6) (.slice a7 (keyN l).2.length c7)]) M6.length = some (keyR (.slice a6 (keyN l).1.length c6) (.slice a7 (keyN l).2.length c7)) := row_push_new rfl
  have hk7 : Cons M6 (M6 ++ [keyR (.slice a6 (keyN l).1.length c6) (.slice a7 (keyN l).2.length c7)]) := Cons.push _ _
  generalize M6 ++ [keyR (.slice a6 (keyN l).1.length c6) (.slice a7 (keyN l).2.length c7)] = M7 at *
  generalize M6.length = q3 at *
  repeat (first | refine W.seq ?_ | refine W.block ?_ | refine W.reg ?_ | refine W.skip ?_ | refine W.exit ?_ | refine W.ret ?_ | refine L.nil ?_ | refine L.p rfl rfl ?_ | refine L.skip rfl ?_)
  rw [show (keyE l != keyE l) = false from bne_self_eq_false _]
  repeat (first | refine W.seq ?_ | refine W.block ?_ | refine W.reg ?_ | refine W.skip ?_ | refine W.exit ?_ | refine W.ret ?_ | refine L.nil ?_ | refine L.p rfl rfl ?_ | refine L.skip rfl ?_)
  rw [show (keyE l != keyE l) = false from bne_self_eq_false _]
  have hc57 := hc6.trans hk7
  have hc37 := (hc4.trans hk5).trans hc57
  have hr37 := hc37.row' hr3
  have hr57 := hc57.row' hr5
  have s1 := r1.hd (hk3.trans hc37)
  have s2 := r2.hd (hk3.trans hc37)
  have s3 := r3.hd (hk5.trans hc57)
  have s4 := r4.hd (hk5.trans hc57)
  have s6 := w6.cons hk7
  have s7 := w7.cons hk7
  repeat (first | refine W.seq ?_ | refine W.block ?_ | refine W.reg ?_ | refine W.skip ?_ | refine W.exit ?_ | refine W.ret ?_ | refine L.nil ?_ | refine L.p rfl rfl ?_ | refine L.skip rfl ?_)
  refine L.ldA (a := ⟨q1, 0, none⟩) (key_load hr37) rfl rfl rfl ?_
  refine L.ldA (a := ⟨q3, 0, none⟩) (key_load hr7) rfl rfl rfl ?_
  refine L.cl (sameKey_C d1.ad d2.ad a6 a7 d1.n d2.n _ _ d1.c d2.c c6 c7 (keyN l).1 (keyN l).2 (keyN l).1 (keyN l).2 M7 s1.1 s2.1 s6.1 s7.1 s1.2 s2.2 s6.2.2.2 s7.2.2.2) rfl rfl ?_
  rintro _ M8 ⟨rfl, hc8⟩
  refine ⟨nofun, ?_⟩
  rw [keq]
  repeat (first | refine W.seq ?_ | refine W.block ?_ | refine W.reg ?_ | refine W.skip ?_ | refine W.exit ?_ | refine W.ret ?_ | refine L.nil ?_ | refine L.p rfl rfl ?_ | refine L.skip rfl ?_)
  refine L.ldA (a := ⟨q2, 0, none⟩) (key_load (hc8.row' hr57)) rfl rfl rfl ?_
  refine L.ldA (a := ⟨q3, 0, none⟩) (key_load (hc8.row' hr7)) rfl rfl rfl ?_
  refine L.cl (sameKey_C d3.ad d4.ad a6 a7 d3.n d4.n _ _ d3.c d4.c c6 c7 (keyN l).1 (keyN l).2 (keyN l).1 (keyN l).2 M8 (s3.1.cons hc8) (s4.1.cons hc8) (s6.1.cons hc8) (s7.1.cons hc8) s3.2 s4.2 s6.2.2.2 s7.2.2.2) rfl rfl ?_
  rintro _ M9 ⟨rfl, hc9⟩
  refine ⟨nofun, ?_⟩
  rw [keq]
  repeat (first | refine W.seq ?_ | refine W.block ?_ | refine W.reg ?_ | refine W.skip ?_ | refine W.exit ?_ | refine W.ret ?_ | refine L.nil ?_ | refine L.p rfl rfl ?_ | refine L.skip rfl ?_)
  refine W.ite rfl (fun h => ?_) (fun h => ?_)
  · cases h
  clear h
  have hk9 := hc8.trans hc9
  have hr39 := hk9.row' hr37
  have hr59 := hk9.row' hr57
  have hk29 := (hk3.trans hc37).trans hk9
  have hk49 := (hk5.trans hc57).trans hk9
  have hk19 := hc2.trans hk29
  have hS9 := hc1.trans hk19
  have hr19 := hk19.row' hr1
  have hl2 := hk3.len
  repeat (first | refine W.seq ?_ | refine W.block ?_ | refine W.reg ?_ | refine W.skip ?_ | refine W.exit ?_ | refine W.ret ?_ | refine L.nil ?_ | refine L.p rfl rfl ?_ | refine L.skip rfl ?_)
  refine L.eff (v := .pointer (some ⟨M9.length, 0, none⟩)) (S1 := M9 ++ [newR [.slice none 0 0, .slice none 0 0] 34]) rfl rfl ?_
  have hB0 := BK.new M9
  generalize M9 ++ [newR [.slice none 0 0, .slice none 0 0] 34] = N0 at *
  obtain ⟨rb, hrb⟩ : ∃ rb, rb = M9.length := ⟨_, rfl⟩
  rw [← hrb] at hB0 ⊢
  repeat (first | refine W.seq ?_ | refine W.block ?_ | refine W.reg ?_ | refine W.skip ?_ | refine W.exit ?_ | refine W.ret ?_ | refine L.nil ?_ | refine L.p rfl rfl ?_ | refine L.skip rfl ?_)
  refine L.ldA (a := ⟨q1, 0, none⟩) (key_load (hB0.1.row' hr39)) rfl rfl rfl ?_
  refine L.cl (key_BK d1 d2 hB0 (by decide)) rfl rfl ?_
  rintro _ N1 hB1
  refine ⟨nofun, ?_⟩
  repeat (first | refine W.seq ?_ | refine W.block ?_ | refine W.reg ?_ | refine W.skip ?_ | refine W.exit ?_ | refine W.ret ?_ | refine L.nil ?_ | refine L.p rfl rfl ?_ | refine L.skip rfl ?_)
  refine L.ldA (a := ⟨q2, 0, none⟩) (key_load (hB1.1.row' hr59)) rfl rfl rfl ?_
  refine L.cl (key_BK d3 d4 hB1 (by simp)) rfl rfl ?_
  rintro _ N2 hB2
  refine ⟨nofun, ?_⟩
  repeat (first | refine W.seq ?_ | refine W.block ?_ | refine W.reg ?_ | refine W.skip ?_ | refine W.exit ?_ | refine W.ret ?_ | refine L.nil ?_ | refine L.p rfl rfl ?_ | refine L.skip rfl ?_)
  have t1 := r1.2.2.1.cons hk29
  have t2 := r2.2.2.1.cons hk29
  have t3 := r3.2.2.1.cons hk49
  have t4 := r4.2.2.1.cons hk49
  have z1 : ∀ x, d1.a = some x → M1.length ≤ x ∧ x < M2.length := fun x e => ⟨r1.2.2.2 x e, r1.2.2.1.lt e⟩
  have z2 : ∀ x, d2.a = some x → M1.length ≤ x ∧ x < M2.length := fun x e => ⟨r2.2.2.2 x e, r2.2.2.1.lt e⟩
  have z3 : ∀ x, d3.a = some x → M3.length ≤ x := r3.2.2.2
  have z4 : ∀ x, d4.a = some x → M3.length ≤ x := r4.2.2.2
  have hlen1 := (keyN_len l).1
  have hlen2 := (keyN_len l).2
  have wl : ∀ {x : WL}, x.length ≤ 64 → (wv x).length ≤ 1000000000000 := fun h => by rw [wv_len]; omega
  have hlM := hc2.len
  refine L.cl (apart_BK hB2 ⟨by simp, by simp⟩ (.add t1 (wl hlen1) (.add t2 (wl hlen2) (.add t3 (wl hlen1) (.add t4 (wl hlen2) (.nil _ _))))) (.nil _ _) (.add (fun x e hm => ?_) (.add (fun x e hm => ?_) (.add (fun x e hm => ?_) (.add (fun x e hm => by simp [blks] at hm) .nil)))) .nil (by simp [blks])) rfl rfl ?_
  · have hm : x ∈ blks [d2, d3, d4] := hm
    simp only [mem_blks, blks_nil, List.not_mem_nil, or_false] at hm
    rcases hm with hm | hm | hm
    · exact hap1 x e hm
    · have := z3 x hm; have := z1 x e; omega
    · have := z4 x hm; have := z1 x e; omega
  · have hm : x ∈ blks [d3, d4] := hm
    simp only [mem_blks, blks_nil, List.not_mem_nil, or_false] at hm
    rcases hm with hm | hm
    · have := z3 x hm; have := z2 x e; omega
    · have := z4 x hm; have := z2 x e; omega
  · have hm : x ∈ blks [d4] := hm
    simp only [mem_blks, blks_nil, List.not_mem_nil, or_false] at hm
    exact hap2 x e hm
  rintro _ N3 ⟨rfl, hk⟩
  refine ⟨nofun, ?_⟩
  have hbk : ∀ x ∈ blks ([d1, d2, d3, d4] : List Hd) ++ blks [], M1.length ≤ x := fun x hm => by
    simp only [blks_nil, List.append_nil, mem_blks, List.not_mem_nil, or_false] at hm
    rcases hm with hm | hm | hm | hm
    · exact (z1 x hm).1
    · exact (z2 x hm).1
    · have := z3 x hm; omega
    · have := z4 x hm; omega
  have hN3 : Cons M1 N3 := hk.cons0 hk19 hbk
  repeat (first | refine W.seq ?_ | refine W.block ?_ | refine W.reg ?_ | refine W.skip ?_ | refine W.exit ?_ | refine W.ret ?_ | refine L.nil ?_ | refine L.p rfl rfl ?_ | refine L.skip rfl ?_)
  refine L.cl (kept_C _ l b _ N3 (hN3.row' hr1) rfl rfl (hI.1.cons (hc1.trans hN3)) (by omega)) rfl rfl ?_
  rintro _ _ ⟨rfl, rfl⟩
  refine ⟨fun _ => Cons.refl _, ?_⟩
  repeat (first | refine W.seq ?_ | refine W.block ?_ | refine W.reg ?_ | refine W.skip ?_ | refine W.exit ?_ | refine W.ret ?_ | refine L.nil ?_ | refine L.p rfl rfl ?_ | refine L.skip rfl ?_)
  refine L.cl (works_C _) rfl rfl ?_
  rintro _ N4 ⟨rfl, hc⟩
  refine ⟨fun _ => hc, ?_⟩
  repeat (first | refine W.seq ?_ | refine W.block ?_ | refine W.reg ?_ | refine W.skip ?_ | refine W.exit ?_ | refine W.ret ?_ | refine L.nil ?_ | refine L.p rfl rfl ?_ | refine L.skip rfl ?_)
  exact ⟨.inr rfl, _, rfl, rfl, (hc1.trans hN3).trans hc⟩
end Go.Proofs.Ytccdlijohkljcaa

/- Layer 7, plainly: a key's bytes and what is read out of them. Conditions: none. -/
set_option linter.unusedSimpArgs false
set_option linter.unusedVariables false
namespace Go.Proofs.Ytccdlijohkljcaa
open Go

theorem bsz_le {n k : Nat} : bsz n ≤ k ↔ n < 256 ^ k := by
  rw [p256, ← blen_le]; unfold bsz; omega
theorem bnum_inj : ∀ {l m : BL}, l.length = m.length → bnum l = bnum m → l = m
  | [], [], _, _ => rfl
  | [], _ :: _, h, _ => by cases h
  | _ :: _, [], h, _ => by cases h
  | x :: l, y :: m, h, e => by
    have hl : l.length = m.length := by simpa using h
    simp only [bnum, hl] at e
    have h1 := bnum_lt l
    have h2 := bnum_lt m
    rw [hl] at h1
    have hp : 0 < 256 ^ m.length := Nat.pow_pos (by decide)
    have hx : x.toNat = y.toNat := by
      have d1 : (x.toNat * 256 ^ m.length + bnum l) / 256 ^ m.length = x.toNat := by
        rw [Nat.mul_comm, Nat.mul_add_div hp, Nat.div_eq_of_lt h1, Nat.add_zero]
      have d2 : (y.toNat * 256 ^ m.length + bnum m) / 256 ^ m.length = y.toNat := by
        rw [Nat.mul_comm, Nat.mul_add_div hp, Nat.div_eq_of_lt h2, Nat.add_zero]
      rw [← d1, e, d2]
    rw [hx] at e
    rw [BitVec.eq_of_toNat_eq hx, bnum_inj hl (by omega)]
theorem bsz_bnum {x : BitVec 8} {m : BL} (hx : x ≠ 0#8) : bsz (bnum (x :: m)) = m.length + 1 := by
  have h1 := bnum_lt (x :: m)
  have h2 := bsz_le.2 h1
  rw [List.length_cons] at h2
  have hx0 : x.toNat ≠ 0 := fun h => hx (BitVec.eq_of_toNat_eq (by simpa using h))
  have h3 : ¬ bsz (bnum (x :: m)) ≤ m.length := fun h => by
    have := bsz_le.1 h
    rw [bnum] at this
    have : 1 * 256 ^ m.length ≤ x.toNat * 256 ^ m.length := Nat.mul_le_mul_right _ (by omega)
    omega
  omega
/-- bytes that do not begin with 0 are their number's -/
theorem toB_bnum {d : BL} (h : ∀ x m, d = x :: m → x ≠ 0#8) : toB (bnum d) = d := by
  refine bnum_inj ?_ (bnum_toB _)
  rw [toB_len]
  cases d with
  | nil => rfl
  | cons x m => exact bsz_bnum (h x m rfl)
theorem toB_head {n : Nat} {x : BitVec 8} {m : BL} (h : toB n = x :: m) : x ≠ 0#8 := by
  have hp : 0 < bsz n := by have := congrArg List.length h; rw [toB_len] at this; simp at this; omega
  have hx : (toB n)[0]? = some x := by rw [h]; rfl
  unfold toB at hx
  rw [List.getElem?_map, List.getElem?_range hp] at hx
  simp only [Option.map_some, Nat.sub_zero, Option.some.injEq] at hx
  rw [← hx]
  exact byte_top hp
theorem ofNat8 {n : Nat} (h : n < 256) : (BitVec.ofNat 8 n).toNat = n := by rw [BitVec.toNat_ofNat]; exact Nat.mod_eq_of_lt h
theorem bat_cons_succ (x : BitVec 8) (l : BL) (i : Nat) : bat (x :: l) (i + 1) = bat l i := by unfold bat; rw [List.getElem?_cons_succ]
theorem bat_cons_zero (x : BitVec 8) (l : BL) : bat (x :: l) 0 = x.toNat := rfl
theorem bat_take {b : BL} {k i : Nat} (h : i < k) : bat (b.take k) i = bat b i := by unfold bat; rw [List.getElem?_take, if_pos h]
theorem bat_app {l m : BL} {i : Nat} (h : i < l.length) : bat (l ++ m) i = bat l i := by unfold bat; rw [List.getElem?_append_left h]
theorem bsz_pos {n : Nat} (h : n ≠ 0) : 0 < bsz n := by
  rcases Nat.eq_zero_or_pos (bsz n) with h0 | h0
  · have := bsz_le.1 (Nat.le_of_eq h0); simp at this; omega
  · exact h0
theorem toB_bat {n : Nat} (h : n ≠ 0) : bat (toB n) 0 ≠ 0 := by
  cases hq : toB n with
  | nil => have h1 := congrArg List.length hq; rw [toB_len] at h1; have h2 := bsz_pos h; simp at h1; omega
  | cons x m =>
    rw [bat_cons_zero]
    exact fun h => toB_head hq (BitVec.eq_of_toNat_eq (by simpa using h))
/-- an item's first bytes, whatever stands behind -/
theorem item_cut (t : BitVec 8) (c r : BL) (k : Nat) (hn : c.length < 4294967296) (hk : k ≤ (t :: (lenB c.length ++ (c ++ r))).length) :
    itemS ((t :: (lenB c.length ++ (c ++ r))).take k) = if k < 1 + (lenB c.length).length + c.length then .error 70 else .ok (1 + (lenB c.length).length, c.length) := by
  obtain ⟨b, hb⟩ : ∃ b, b = (t :: (lenB c.length ++ (c ++ r))).take k := ⟨_, rfl⟩
  have hl : b.length = k := by rw [hb, List.length_take]; omega
  rw [← hb]
  obtain ⟨n, hcn⟩ : ∃ n, n = c.length := ⟨_, rfl⟩
  rw [← hcn] at hb hn hk ⊢
  unfold itemS
  rw [hl]
  by_cases h2 : k < 2
  · rw [if_pos h2, if_pos]
    unfold lenB; split <;> simp <;> omega
  rw [if_neg h2]
  have g1 : bat b 1 = bat (lenB n ++ (c ++ r)) 0 := by rw [hb, bat_take (by omega), bat_cons_succ]
  by_cases h3 : n < 128
  · have hL : lenB n = [BitVec.ofNat 8 n] := by unfold lenB; rw [if_pos h3]
    rw [hL] at g1 ⊢
    have g1 : bat b 1 = n := by rw [g1, List.cons_append, bat_cons_zero, ofNat8 (by omega)]
    rw [g1, if_neg (by omega), if_pos h3]
    by_cases h4 : k - 2 < n
    · rw [if_pos h4, if_pos (by simp; omega)]
    · rw [if_neg h4, if_neg (by simp; omega)]
      rfl
  · obtain ⟨q, hq⟩ : ∃ q, q = (toB n).length := ⟨_, rfl⟩
    have hL : lenB n = BitVec.ofNat 8 (128 + q) :: toB n := by unfold lenB; rw [if_neg h3, hq]
    have hq1 : 0 < q := by rw [hq, toB_len]; exact bsz_pos (by omega)
    have hq2 : q ≤ 4 := by rw [hq, toB_len]; exact bsz_le.2 (by omega)
    have hLl : (lenB n).length = 1 + q := by rw [hL, hq]; simp; omega
    rw [hLl]
    rw [hL] at g1
    have g1 : bat b 1 = 128 + q := by rw [g1, List.cons_append, bat_cons_zero, ofNat8 (by omega)]
    rw [g1, if_neg (by omega), if_neg (by omega), Nat.add_sub_cancel_left]
    by_cases h4 : k - 2 < q
    · rw [if_pos h4, if_pos (by omega)]
    rw [if_neg h4]
    have hbd : (b.drop 2).take q = toB n := by
      rw [hb, hL, List.drop_take, List.take_take, Nat.min_eq_left (by omega)]
      simp only [List.cons_append, List.drop_succ_cons, List.drop_zero]
      rw [List.take_append_of_le_length (by omega), hq, List.take_length]
    have g2 : bat b 2 ≠ 0 := by
      have : bat b 2 = bat (toB n) 0 := by rw [← hbd, bat_take (by omega), bat_drop]
      rw [this]; exact toB_bat (by omega)
    have g3 : lenN b = n := by unfold lenN; rw [g1, Nat.add_sub_cancel_left, hbd, bnum_toB]
    rw [g3, if_neg (by omega)]
    by_cases h5 : k - 2 - q < n
    · rw [if_pos h5, if_pos (by omega)]
    · rw [if_neg h5, if_neg (by omega)]
      simp only [Except.ok.injEq, Prod.mk.injEq, and_true]; omega
theorem item_of (t : BitVec 8) (c r : BL) (hn : c.length < 4294967296) : itemS (t :: (lenB c.length ++ (c ++ r))) = .ok (1 + (lenB c.length).length, c.length) := by
  have := item_cut t c r _ hn (Nat.le_refl _)
  rw [List.take_length, if_neg (by simp; omega)] at this
  exact this
/-- an item that is read has the one form -/
theorem item_form {b : BL} {h n : Nat} (e : itemS b = .ok (h, n)) : ∃ t c r, b = t :: (lenB c.length ++ (c ++ r)) ∧ c.length = n ∧ h = 1 + (lenB c.length).length ∧ n < 4294967296 := by
  have hok := itemS_ok e
  obtain ⟨t, x, rest, rfl⟩ : ∃ t x rest, b = t :: x :: rest := by
    match b, hok with
    | t :: x :: rest, _ => exact ⟨t, x, rest, rfl⟩
    | [], h => simp at h; omega
    | [_], h => simp at h; omega
  have hx := x.isLt
  have b1 : bat (t :: x :: rest) 1 = x.toNat := rfl
  unfold itemS at e
  rw [if_neg (by simp), b1] at e
  have hlen : (t :: x :: rest).length - 2 = rest.length := by simp
  rw [hlen] at e
  by_cases h2 : x.toNat = 128 ∨ 132 < x.toNat
  · rw [if_pos h2] at e; cases e
  rw [if_neg h2] at e
  by_cases h3 : x.toNat < 128
  · rw [if_pos h3] at e
    by_cases h4 : rest.length < x.toNat
    · rw [if_pos h4] at e; cases e
    rw [if_neg h4] at e
    simp only [Except.ok.injEq, Prod.mk.injEq] at e
    obtain ⟨rfl, rfl⟩ := e
    have hc : (rest.take x.toNat).length = x.toNat := by rw [List.length_take]; omega
    have hL : lenB x.toNat = [x] := by unfold lenB; rw [if_pos h3]; simp
    refine ⟨t, rest.take x.toNat, rest.drop x.toNat, ?_, hc, ?_, by omega⟩
    · rw [hc, hL, List.take_append_drop]; rfl
    · rw [hc, hL]; rfl
  rw [if_neg h3] at e
  by_cases h4 : rest.length < x.toNat - 128
  · rw [if_pos h4] at e; cases e
  rw [if_neg h4] at e
  by_cases h5 : bat (t :: x :: rest) 2 = 0 ∨ lenN (t :: x :: rest) < 128
  · rw [if_pos h5] at e; cases e
  rw [if_neg h5] at e
  by_cases h6 : rest.length - (x.toNat - 128) < lenN (t :: x :: rest)
  · rw [if_pos h6] at e; cases e
  rw [if_neg h6] at e
  simp only [Except.ok.injEq, Prod.mk.injEq] at e
  have hlt := lenN_lt (b := t :: x :: rest) (by rw [b1]; omega)
  obtain ⟨q, hq⟩ : ∃ q, q = x.toNat - 128 := ⟨_, rfl⟩
  obtain ⟨d, hd⟩ : ∃ d, d = rest.take q := ⟨_, rfl⟩
  have hdl : d.length = q := by rw [hd, List.length_take]; omega
  have hN : lenN (t :: x :: rest) = bnum d := by unfold lenN; rw [b1, ← hq, hd]; rfl
  rw [hN, ← hq] at e h6
  rw [hN] at hlt h5
  obtain ⟨rfl, rfl⟩ := e
  have hdz : ∀ y m, d = y :: m → y ≠ 0#8 := fun y m hy h0 => by
    have : bat (t :: x :: rest) 2 = y.toNat := by
      show bat rest 0 = _
      rw [← bat_take (b := rest) (k := q) (by omega), ← hd, hy]; rfl
    rw [h0] at this
    exact h5 (.inl (by rw [this]; rfl))
  have hc : ((rest.drop q).take (bnum d)).length = bnum d := by rw [List.length_take, List.length_drop]; omega
  have hL : lenB (bnum d) = x :: d := by
    unfold lenB
    rw [if_neg (by omega), toB_bnum hdz, hdl, hq, show 128 + (x.toNat - 128) = x.toNat by omega]
    simp
  refine ⟨t, (rest.drop q).take (bnum d), (rest.drop q).drop (bnum d), ?_, hc, ?_, by omega⟩
  · rw [hc, hL, List.take_append_drop, List.cons_append, hd, List.take_append_drop]
  · rw [hc, hL]; simp; omega
/-- an integer's content that is read has the one form -/
theorem num_form {c : BL} {l : WL} (h : numS c = .ok l) : contS l = c ∧ ¬ 4096 < blen (wnum l) ∧ fm l = l := by
  unfold numS at h
  split at h
  · cases h
  rename_i hbad
  split at h
  · cases h
  rename_i hl
  simp only [Except.ok.injEq] at h
  subst h
  simp only [badInt, not_or, not_and] at hbad
  obtain ⟨h0, h1, h2⟩ := hbad
  rw [wnum_toW]
  refine ⟨?_, by omega, by unfold fm; rw [wnum_toW]⟩
  unfold contS
  rw [wnum_toW]
  cases c with
  | nil => exact absurd rfl h0
  | cons x m =>
    rw [bat_cons_zero] at h1 h2
    by_cases hx : x = 0#8
    · subst hx
      have hb : bnum (0#8 :: m) = bnum m := by simp [bnum]
      have hm : toB (bnum m) = m := toB_bnum fun y k hy hy0 => by
        subst hy hy0
        exact h2 (by simp) rfl (by rw [bat_cons_succ, bat_cons_zero]; decide)
      rw [hb, hm, if_pos]
      cases m with
      | nil => exact .inl rfl
      | cons y k =>
        right
        have := h2 (by simp) rfl
        rw [bat_cons_succ] at this
        omega
    · rw [toB_bnum (fun y k hy => by simp only [List.cons.injEq] at hy; rw [← hy.1]; exact hx), if_neg]
      rw [bat_cons_zero]
      simp only [List.length_cons, not_or]
      omega
theorem num_of {l : WL} (h : ¬ 4096 < blen (wnum l)) : numS (contS l) = .ok (fm l) := by
  have hlen := cont_len h
  have hb : bnum (contS l) = wnum l := by
    unfold contS; split
    · simp [bnum, bnum_toB]
    · exact bnum_toB _
  have hgood : ¬ badInt (contS l) := by
    unfold badInt contS
    cases hq : toB (wnum l) with
    | nil => simp [bat]
    | cons x m =>
      have hx := toB_head hq
      have hx0 : x.toNat ≠ 0 := fun h => hx (BitVec.eq_of_toNat_eq (by simpa using h))
      rw [bat_cons_zero]
      by_cases h8 : 128 ≤ x.toNat
      · rw [if_pos (.inr h8), bat_cons_zero, bat_cons_succ, bat_cons_zero]
        simp; omega
      · rw [if_neg (by simp; omega), bat_cons_zero]
        simp; omega
  have hfe : fromE (contS l) = 0 := by
    unfold fromE
    rw [if_pos]
    have : (strip0 (contS l)).length ≤ (contS l).length := by unfold strip0; exact (List.dropWhile_sublist _).length_le
    omega
  unfold numS
  rw [if_neg hgood, hb, hfe, if_neg (by simp; omega)]
theorem item_parts {t : BitVec 8} {c r : BL} {h : Nat} (hh : h = 1 + (lenB c.length).length) : ((t :: (lenB c.length ++ (c ++ r))).drop h).take c.length = c ∧ (t :: (lenB c.length ++ (c ++ r))).drop (h + c.length) = r := by
  have e : t :: (lenB c.length ++ (c ++ r)) = (t :: lenB c.length) ++ (c ++ r) := rfl
  have hl : (t :: lenB c.length).length = h := by rw [hh, List.length_cons, Nat.add_comm]
  constructor
  · rw [e, List.drop_append_of_le_length (by omega), ← hl, List.drop_length, List.nil_append, List.take_append_of_le_length (Nat.le_refl _), List.take_length]
  · rw [e, ← List.drop_drop, List.drop_append_of_le_length (by omega), ← hl, List.drop_length, List.nil_append, List.drop_append_of_le_length (Nat.le_refl _), List.drop_length, List.nil_append]
theorem laid_app (t : BitVec 8) (c r : BL) : laidS t c ++ r = t :: (lenB c.length ++ (c ++ r)) := by rw [laidS_eq]; simp
theorem part_form {m r : BL} {l : WL} (h : partS m = .ok (l, r)) : m = laidS 2#8 (contS l) ++ r ∧ ¬ 4096 < blen (wnum l) ∧ fm l = l := by
  unfold partS at h
  split at h
  · cases h
  rename_i hd n hi
  obtain ⟨t, c, r', rfl, rfl, rfl, _⟩ := item_form hi
  obtain ⟨p1, p2⟩ := item_parts (t := t) (c := c) (r := r') rfl
  split at h
  · cases h
  rename_i ht
  rw [bat_cons_zero] at ht
  have ht : t = 2#8 := BitVec.eq_of_toNat_eq (by simpa using ht)
  subst ht
  rw [p1] at h
  split at h
  · cases h
  rename_i l' hn
  rw [p2] at h
  simp only [Except.ok.injEq, Prod.mk.injEq] at h
  obtain ⟨rfl, rfl⟩ := h
  obtain ⟨h1, h2, h3⟩ := num_form hn
  rw [h1, laid_app]
  exact ⟨rfl, h2, h3⟩
theorem part_of {l : WL} (r : BL) (h : ¬ 4096 < blen (wnum l)) : partS (laidS 2#8 (contS l) ++ r) = .ok (fm l, r) := by
  have hlen := (cont_len h).2
  rw [laid_app]
  unfold partS
  rw [item_of _ _ _ (by omega)]
  obtain ⟨p1, p2⟩ := item_parts (t := 2#8) (c := contS l) (r := r) rfl
  dsimp only
  rw [bat_cons_zero, if_neg (by decide), p1, num_of h, p2]
/-- what is read is the one form -/
theorem key_form {b : BL} {l1 l2 : WL} (h : keyS b = .ok (l1, l2)) : encL l1 l2 = b ∧ ¬ encBad l1 l2 ∧ fm l1 = l1 ∧ fm l2 = l2 := by
  unfold keyS at h
  split at h
  · cases h
  rename_i hd n hi
  obtain ⟨t, c, r, rfl, rfl, rfl, _⟩ := item_form hi
  obtain ⟨p1, p2⟩ := item_parts (t := t) (c := c) (r := r) rfl
  split at h
  · cases h
  rename_i ht
  rw [bat_cons_zero] at ht
  have ht : t = 48#8 := BitVec.eq_of_toNat_eq (by simpa using ht)
  subst ht
  split at h
  · cases h
  rename_i hlong
  have hr : r = [] := by
    cases r with
    | nil => rfl
    | cons x m => simp at hlong; omega
  subst hr
  rw [p1] at h
  unfold keyT at h
  split at h
  · cases h
  rename_i k1 r1 h1
  split at h
  · cases h
  rename_i k2 r2 h2
  split at h
  · cases h
  rename_i hr2
  simp only [Except.ok.injEq, Prod.mk.injEq] at h
  obtain ⟨rfl, rfl⟩ := h
  obtain ⟨e1, b1, f1⟩ := part_form h1
  obtain ⟨e2, b2, f2⟩ := part_form h2
  have hr0 : r2 = [] := by
    cases r2 with
    | nil => rfl
    | cons x m => simp at hr2
  subst hr0
  rw [List.append_nil] at e2
  subst e2
  refine ⟨?_, by unfold encBad; omega, f1, f2⟩
  unfold encL
  rw [← e1, laidS_eq, List.append_nil]
theorem body_len {l1 l2 : WL} (h : ¬ encBad l1 l2) : (laidS 2#8 (contS l1) ++ laidS 2#8 (contS l2)).length < 4294967296 := by
  simp only [encBad, not_or] at h
  have h1 := (cont_len h.1).2
  have h2 := (cont_len h.2).2
  have h3 := laidS_len 2#8 (contS l1)
  have h4 := laidS_len 2#8 (contS l2)
  have h5 := toB_lt (n := (contS l1).length) (by omega)
  have h6 := toB_lt (n := (contS l2).length) (by omega)
  rw [List.length_append]; omega
theorem enc_app (l1 l2 : WL) (r : BL) : encL l1 l2 ++ r = 48#8 :: (lenB (laidS 2#8 (contS l1) ++ laidS 2#8 (contS l2)).length ++ ((laidS 2#8 (contS l1) ++ laidS 2#8 (contS l2)) ++ r)) := by unfold encL; rw [laid_app]
theorem enc_more {l1 l2 : WL} (r : BL) (h : ¬ encBad l1 l2) : keyS (encL l1 l2 ++ r) = if 0 < r.length then .error 74 else .ok (fm l1, fm l2) := by
  rw [enc_app]
  unfold keyS
  rw [item_of _ _ _ (body_len h)]
  obtain ⟨p1, p2⟩ := item_parts (t := 48#8) (c := laidS 2#8 (contS l1) ++ laidS 2#8 (contS l2)) (r := r) rfl
  dsimp only
  rw [bat_cons_zero, if_neg (by decide), p1]
  by_cases hr : 0 < r.length
  · rw [if_pos hr, if_pos (by simp; omega)]
  rw [if_neg hr, if_neg (by simp; omega)]
  simp only [encBad, not_or] at h
  unfold keyT
  rw [part_of _ h.1]
  dsimp only
  have := part_of [] h.2
  rw [List.append_nil] at this
  rw [this]
  rfl
theorem enc_back {l1 l2 : WL} (h : ¬ encBad l1 l2) : keyS (encL l1 l2) = .ok (fm l1, fm l2) := by
  have := enc_more [] h
  rw [List.append_nil] at this
  exact this
theorem enc_short {l1 l2 : WL} {k : Nat} (h : ¬ encBad l1 l2) (hk : k < (encL l1 l2).length) : keyS ((encL l1 l2).take k) = .error 70 := by
  have e := enc_app l1 l2 []
  rw [List.append_nil] at e
  rw [e] at hk ⊢
  have := item_cut 48#8 _ [] k (body_len h) (Nat.le_of_lt hk)
  unfold keyS
  rw [this, if_pos (by simp at hk; simp; omega)]
end Go.Proofs.Ytccdlijohkljcaa

/- Layer 7: the first limbs of a list; a region with an allocation at any time. Conditions: none. -/
set_option linter.unusedSimpArgs false
set_option linter.unusedVariables false
set_option maxRecDepth 100000
namespace Go.Proofs.Ytccdlijohkljcaa
open Go
variable {G : Nat}
section
variable {Ext : FuncId → List Value → Mem → Outc → Mem → Prop}
theorem some_C (a1 : Option Addr) (c1 : Nat) (l : WL) (n : Nat) (S : Mem) (h1 : Slv S 1 (.slice a1 l.length c1) l.length (wv l)) (hn : n ≤ 1000000) :
    C Try.prog G Ext 31 [.slice a1 l.length c1, .int .i64 (n : Int)] S fun v S' => ∃ d : Hd, v = d.v ∧ RetW S S' d (l.take n) := by
  refine C.fn Try.func31 rfl (by kernel_rfl) rfl ?_
  repeat (first | refine W.seq ?_ | refine W.block ?_ | refine W.reg ?_ | refine W.skip ?_ | refine W.exit ?_ | refine W.ret ?_ | refine L.nil ?_ | refine L.p rfl rfl ?_ | refine L.skip rfl ?_)
  refine W.loop (fun j e S' => ∃ i a c, j = min l.length n - i ∧ i ≤ min l.length n ∧ Cons S S' ∧ e 0 = .slice a1 l.length c1 ∧ e 1 = vi n ∧ e 5 = .slice a i c ∧ e 6 = vi i ∧ Grow S.length S' 56 1 (.slice a i c) i (wv (l.take i))) (min l.length n) ⟨0, _, _, by omega, by omega, Cons.refl _, rfl, rfl, rfl, rfl, Grow.nil _ _ _ _⟩ ?_
  rintro j e S' ⟨i, a, c, rfl, hi, hc, e0, e1, e5, e6, hg⟩
  refine W.env4 e0 e1 e5 e6 ?_
  repeat (first | refine W.seq ?_ | refine W.block ?_ | refine W.reg ?_ | refine W.skip ?_ | refine W.exit ?_ | refine W.ret ?_ | refine L.nil ?_ | refine L.p rfl rfl ?_ | refine L.skip rfl ?_)
  have fin : (i = min l.length n) → ∃ d : Hd, Value.slice a i c = d.v ∧ RetW S S' d (l.take n) := fun hin => by
    obtain ⟨d, h2, h3, h4, h5⟩ := GrowF.hd (.inl hg) (by unfold UNK; omega)
    refine ⟨d, h2, hc, by rw [List.length_take]; omega, ?_, h5⟩
    have : l.take n = l.take i := by
      rcases Nat.le_total l.length n with h9 | h9
      · rw [List.take_of_length_le h9, List.take_of_length_le (by omega)]
      · rw [show i = n by omega]
    rw [this]; exact h4
  cases hq : decide ((i : Int) < (l.length : Int))
  · have hil := of_decide_eq_false hq
    repeat (first | refine W.seq ?_ | refine W.block ?_ | refine W.reg ?_ | refine W.skip ?_ | refine W.exit ?_ | refine W.ret ?_ | refine L.nil ?_ | refine L.p rfl rfl ?_ | refine L.skip rfl ?_)
    refine W.ite rfl (fun h => ?_) (fun h => ?_)
    · cases h
    repeat (first | refine W.seq ?_ | refine W.block ?_ | refine W.reg ?_ | refine W.skip ?_ | refine W.exit ?_ | refine W.ret ?_ | refine L.nil ?_ | refine L.p rfl rfl ?_ | refine L.skip rfl ?_)
    exact ⟨.inr rfl, _, rfl, fin (by omega)⟩
  have hil := of_decide_eq_true hq
  clear hq
  repeat (first | refine W.seq ?_ | refine W.block ?_ | refine W.reg ?_ | refine W.skip ?_ | refine W.exit ?_ | refine W.ret ?_ | refine L.nil ?_ | refine L.p rfl rfl ?_ | refine L.skip rfl ?_)
  refine W.ite rfl (fun h => ?_) (fun h => ?_)
  rotate_left
  · have hin := of_decide_eq_false h
    repeat (first | refine W.seq ?_ | refine W.block ?_ | refine W.reg ?_ | refine W.skip ?_ | refine W.exit ?_ | refine W.ret ?_ | refine L.nil ?_ | refine L.p rfl rfl ?_ | refine L.skip rfl ?_)
    exact ⟨.inr rfl, _, rfl, fin (by omega)⟩
  have hin := of_decide_eq_true h
  clear h fin
  repeat (first | refine W.seq ?_ | refine W.block ?_ | refine W.reg ?_ | refine W.skip ?_ | refine W.exit ?_ | refine W.ret ?_ | refine L.nil ?_ | refine L.p rfl rfl ?_ | refine L.skip rfl ?_)
  refine L.el (h1.cons hc) rfl (wv_get' l (by omega)) rfl rfl rfl rfl (fun _ => rfl) rfl (fun p => ?_)
  refine L.push1 rfl hc.len (.inl hg) rfl rfl rfl rfl rfl (by omega) rfl (fun _ => rfl) (fun p a c S1 h2 h3 h4 => ?_)
  repeat (first | refine W.seq ?_ | refine W.block ?_ | refine W.reg ?_ | refine W.skip ?_ | refine W.exit ?_ | refine W.ret ?_ | refine L.nil ?_ | refine L.p rfl rfl ?_ | refine L.skip rfl ?_)
  refine ⟨min l.length n - (i + 1), by omega, i + 1, a, c, rfl, by omega, hc.trans' h4, rfl, rfl, rfl, ?_, ?_⟩
  · refine (force_eq rfl).trans ?_
    rw [wrap64 (by omega) (by omega)]; rfl
  · rw [List.take_add_one, wv_app, List.getElem?_eq_getElem (by omega)]; exact h2
end
section
variable {P : Program} {Ext : FuncId → List Value → Mem → Outc → Mem → Prop} {Q : Xit → Env → Mem → List ADef → Prop} {e : Env} {S : Mem} {Ds : List ADef}
def Fact3 (P : Program) (G : Nat) (ops : Array Oper) (E : Nat → Env) (M : Nat → Mem) (V : Nat → Value) (j : Nat) (o : Oper) : Prop := awanted ops o (E j) = true ∧
    ((apure P o (E j).eval = some (V j) ∧ M (j + 1) = M j) ∨ (aload P o (E j).eval (M j) = some (V j) ∧ M (j + 1) = M j) ∨
     (OpSim P G o (E j) (M j) (V j) (M (j + 1)) ∧ 2 ≤ opKind P o ∧ (opKind P o = 2 → Cons (M j) (M (j + 1)))))
theorem Fact3.pure {ops : Array Oper} {E : Nat → Env} {M : Nat → Mem} {V : Nat → Value} {j : Nat} {o : Oper} (hw : awanted ops o (E j) = true) (h : apure P o (E j).eval = some (V j)) (hm : M (j + 1) = M j) : Fact3 P G ops E M V j o := ⟨hw, .inl ⟨h, hm⟩⟩
theorem Fact3.load {ops : Array Oper} {E : Nat → Env} {M : Nat → Mem} {V : Nat → Value} {j : Nat} {o : Oper} (hw : awanted ops o (E j) = true) (h : aload P o (E j).eval (M j) = some (V j)) (hm : M (j + 1) = M j) : Fact3 P G ops E M V j o := ⟨hw, .inr (.inl ⟨h, hm⟩)⟩
theorem Fact3.eff {ops : Array Oper} {E : Nat → Env} {M : Nat → Mem} {V : Nat → Value} {j : Nat} {o : Oper} (hw : awanted ops o (E j) = true) (h : aeff P o (E j).eval (M j) = some (V j, M (j + 1))) (hk : 2 ≤ opKind P o) (hc : opKind P o = 2 → Cons (M j) (M (j + 1))) : Fact3 P G ops E M V j o := ⟨hw, .inr (.inr ⟨sim_eff h, hk, hc⟩)⟩
theorem Fact3.call {ops : Array Oper} {E : Nat → Env} {M : Nat → Mem} {V : Nat → Value} {j : Nat} {o : Oper} {f : FuncId} {args : List Value} (hw : awanted ops o (E j) = true) (hc : acall o (E j).eval = some (f, args)) (h : CallSim P G f args (M j) (.ret (V j)) (M (j + 1))) (hk : opKind P o = 4) : Fact3 P G ops E M V j o :=
  ⟨hw, .inr (.inr ⟨sim_call hc h, by omega, fun h => by omega⟩)⟩
/-- a region that draws, with an allocation at any time, by its slots and memories -/
theorem DV.flt {id : Nat} {ops : Array Oper} {M : Nat → Mem} {V : Nat → Value} {A : Nat} {dA : Tmp} {tA ty : TypeId} {pos : String} {af : Array Edge} {z : Value} (ho : order3Ok P ops A = true) (hM0 : M 0 = S) (hf : AllOps (Fact3 P G ops (envAt ops V e) M V) 0 ops.toList) (hl : AllOps (Load2 P (envAt ops V e) M V) 0 ops.toList)
    (hA : ops[A]? = some ⟨some dA, .alloc tA, ty, pos, af, none⟩) (hz : zeroOf P tA = some z) (hVA : V A = .pointer (some ⟨(M A).length, 0, none⟩)) (hMA : M (A + 1) = M A ++ [newR z.cells.toList tA])
    (h : Q .nrm (envAt ops V e ops.size) (M ops.size) Ds) : DV P G Ext (.region id ops true) e S Ds Q := by
  refine ⟨_, _, _, _, .flt (A := A) (E := envAt ops V e) (M := M) (V := V) ho rfl hM0 rfl rfl (fun j o hj => ?_) (fun i o hi hk => ?_) hA hz hVA hMA, h⟩
  · have := hf.get j o (by simpa using hj)
    rw [Nat.zero_add] at this
    refine ⟨by simp only [envAt, hj, Option.bind_some], .inr ⟨this.1, ?_⟩⟩
    rcases this.2 with h1 | h1 | ⟨h1, h2, h3⟩
    · exact .inl h1
    · exact .inr (.inl h1)
    · exact .inr (.inr ⟨h1, h2, fun h => h.elim h3 (fun h => by cases h.2)⟩)
  · have := hl.get i o (by simpa using hi) hk
    rw [Nat.zero_add] at this
    obtain ⟨x, hx, b, ⟨off, he⟩, h1, h2, h3⟩ := this
    refine ⟨x, hx, b, fun ρ u hu => ?_, h1, h2, fun k _ _ _ _ => h3 k⟩
    rw [he] at hu
    cases hu with
    | ptr _ c h1 h2 h3 => exact ⟨_, h1⟩
end
end Go.Proofs.Ytccdlijohkljcaa

/- The law of items, walked. Conditions: none. -/
set_option linter.unusedSimpArgs false
set_option linter.unusedVariables false
set_option maxRecDepth 100000
set_option maxHeartbeats 4000000
namespace Go.Proofs.Ytccdlijohkljcaa
open Go
variable {G : Nat}

theorem itemV_four (b : BL) (i : Int) : ∃ t f o e : Int, itemV b i = .tuple #[.int .u8 t, .int .i64 f, .int .i64 o, .int .i64 e] := by
  unfold itemV
  split
  · exact ⟨_, _, _, _, rfl⟩
  · split
    · exact ⟨_, _, _, _, rfl⟩
    · exact ⟨_, _, _, _, rfl⟩
theorem intL_len (b : BL) : (intL b).length ≤ 64 := by
  unfold intL
  split
  · rename_i h; exact numS_len h
  · exact Nat.zero_le _
theorem items_C (a : Option Addr) (c : Nat) (l : BL) (i : Int) (S : Mem) (hs : Slv S 1 (.slice a l.length c) l.length (bv l)) (hcut : Cut l.length c) (hi : -9223372036854775808 ≤ i ∧ i ≤ 9223372036854775807) :
    C Try.prog G (Known Try.prog G) 7 [.slice a l.length c, .int .i64 i] S fun v S' => v = .bool true ∧ Cons S S' := by
  refine C.fn Try.func7 rfl (by kernel_rfl) rfl ?_
  repeat (first | refine W.seq ?_ | refine W.block ?_ | refine W.reg ?_ | refine W.skip ?_ | refine W.exit ?_ | refine W.ret ?_ | refine L.nil ?_ | refine L.p rfl rfl ?_ | refine L.skip rfl ?_)
  refine W.ite rfl (fun h => ?_) (fun h => ?_)
  · repeat (first | refine W.seq ?_ | refine W.block ?_ | refine W.reg ?_ | refine W.skip ?_ | refine W.exit ?_ | refine W.ret ?_ | refine L.nil ?_ | refine L.p rfl rfl ?_ | refine L.skip rfl ?_)
    exact ⟨.inr rfl, _, rfl, rfl, Cons.refl _⟩
  have hl : l.length ≤ 4096 := by simp at h; omega
  have hI : BIn S a c l := ⟨hs, hcut, by omega⟩
  clear h
  obtain ⟨t, f, o, e, hit⟩ := itemV_four l i
  have hil := intL_len l
  repeat (first | refine W.seq ?_ | refine W.block ?_ | refine W.reg ?_ | refine W.skip ?_ | refine W.exit ?_ | refine W.ret ?_ | refine L.nil ?_ | refine L.p rfl rfl ?_ | refine L.skip rfl ?_)
  refine L.cl (lent_C _ l S hI.1 (by omega)) rfl rfl ?_
  rintro _ M1 ⟨hc1, b, hb, rfl, hr1⟩
  refine ⟨nofun, ?_⟩
  have hI1 := BIn.lent hr1 (by simp [marks]) (by omega)
  have hbl := row_lt hr1
  repeat (first | refine W.seq ?_ | refine W.block ?_ | refine W.reg ?_ | refine W.skip ?_ | refine W.exit ?_ | refine W.ret ?_ | refine L.nil ?_ | refine L.p rfl rfl ?_ | refine L.skip rfl ?_)
  refine L.cl (itemPub_C _ _ l i M1 hI1 hi.1 hi.2) rfl rfl ?_
  rintro _ M2 ⟨rfl, hc2⟩
  refine ⟨nofun, ?_⟩
  rw [hit]
  repeat (first | refine W.seq ?_ | refine W.block ?_ | refine W.reg ?_ | refine W.skip ?_ | refine W.exit ?_ | refine W.ret ?_ | refine L.nil ?_ | refine L.p rfl rfl ?_ | refine L.skip rfl ?_)
  refine L.cl (integer_C _ _ l M2 (hI1.cons hc2)) rfl rfl ?_
  rintro _ M3 ⟨d, rfl, q⟩
  refine ⟨nofun, ?_⟩
  have hc3 := q.1
  have hc13 := hc2.trans hc3
  repeat (first | refine W.seq ?_ | refine W.block ?_ | refine W.reg ?_ | refine W.skip ?_ | refine W.exit ?_ | refine W.ret ?_ | refine L.nil ?_ | refine L.p rfl rfl ?_ | refine L.skip rfl ?_)
  refine L.cl (refItem_C a c l i M3 (hI.cons (hc1.trans hc13)) hi.1 hi.2) rfl rfl ?_
  rintro _ _ ⟨rfl, rfl⟩
  refine ⟨nofun, ?_⟩
  rw [hit]
  repeat (first | refine W.seq ?_ | refine W.block ?_ | refine W.reg ?_ | refine W.skip ?_ | refine W.exit ?_ | refine W.ret ?_ | refine L.nil ?_ | refine L.p rfl rfl ?_ | refine L.skip rfl ?_)
  refine L.cl (refInteger_C a c l _ (hI.cons (hc1.trans hc13))) rfl rfl ?_
  rintro _ M4 ⟨a4, c4, rfl, hc4, w4⟩
  refine ⟨nofun, ?_⟩
  repeat (first | refine W.seq ?_ | refine W.block ?_ | refine W.reg ?_ | refine W.skip ?_ | refine W.exit ?_ | refine W.ret ?_ | refine L.nil ?_ | refine L.p rfl rfl ?_ | refine L.skip rfl ?_)
  rw [show (t != t) = false from bne_self_eq_false _]
  repeat (first | refine W.seq ?_ | refine W.block ?_ | refine W.reg ?_ | refine W.skip ?_ | refine W.exit ?_ | refine W.ret ?_ | refine L.nil ?_ | refine L.p rfl rfl ?_ | refine L.skip rfl ?_)
  rw [show (f != f) = false from bne_self_eq_false _]
  repeat (first | refine W.seq ?_ | refine W.block ?_ | refine W.reg ?_ | refine W.skip ?_ | refine W.exit ?_ | refine W.ret ?_ | refine L.nil ?_ | refine L.p rfl rfl ?_ | refine L.skip rfl ?_)
  rw [show (o != o) = false from bne_self_eq_false _]
  repeat (first | refine W.seq ?_ | refine W.block ?_ | refine W.reg ?_ | refine W.skip ?_ | refine W.exit ?_ | refine W.ret ?_ | refine L.nil ?_ | refine L.p rfl rfl ?_ | refine L.skip rfl ?_)
  rw [show (e != e) = false from bne_self_eq_false _]
  repeat (first | refine W.seq ?_ | refine W.block ?_ | refine W.reg ?_ | refine W.skip ?_ | refine W.exit ?_ | refine W.ret ?_ | refine L.nil ?_ | refine L.p rfl rfl ?_ | refine L.skip rfl ?_)
  rw [show (intE l != intE l) = false from bne_self_eq_false _]
  repeat (first | refine W.seq ?_ | refine W.block ?_ | refine W.reg ?_ | refine W.skip ?_ | refine W.exit ?_ | refine W.ret ?_ | refine L.nil ?_ | refine L.p rfl rfl ?_ | refine L.skip rfl ?_)
  have s1 := q.hd hc4
  refine L.cl (sameW_C _ _ (intL l) (intL l) d.n _ M4 s1.1 w4.1 s1.2 w4.2.2.2) rfl rfl ?_
  rintro _ M5 ⟨rfl, hS⟩
  have hS := hS.symm
  subst hS
  refine ⟨nofun, ?_⟩
  rw [show (intL l == intL l) = true from beq_self_eq_true _]
  repeat (first | refine W.seq ?_ | refine W.block ?_ | refine W.reg ?_ | refine W.skip ?_ | refine W.exit ?_ | refine W.ret ?_ | refine L.nil ?_ | refine L.p rfl rfl ?_ | refine L.skip rfl ?_)
  refine W.ite rfl (fun h => ?_) (fun h => ?_)
  · cases h
  clear h
  repeat (first | refine W.seq ?_ | refine W.block ?_ | refine W.reg ?_ | refine W.skip ?_ | refine W.exit ?_ | refine W.ret ?_ | refine L.nil ?_ | refine L.p rfl rfl ?_ | refine L.skip rfl ?_)
  have hk35 := hc4
  have hk15 := hc13.trans hk35
  have hl2 := hc2.len
  refine L.eff (v := .pointer (some ⟨M4.length, 0, none⟩)) (S1 := M4 ++ [newR [.slice none 0 0, .slice none 0 0] 34]) rfl rfl ?_
  have hB0 := BK.new M4
  generalize M4 ++ [newR [.slice none 0 0, .slice none 0 0] 34] = N0 at *
  obtain ⟨rb, hrb⟩ : ∃ rb, rb = M4.length := ⟨_, rfl⟩
  rw [← hrb] at hB0 ⊢
  repeat (first | refine W.seq ?_ | refine W.block ?_ | refine W.reg ?_ | refine W.skip ?_ | refine W.exit ?_ | refine W.ret ?_ | refine L.nil ?_ | refine L.p rfl rfl ?_ | refine L.skip rfl ?_)
  refine L.cl (words_BK d hB0 (by decide)) rfl rfl ?_
  rintro _ N1 hB1
  refine ⟨nofun, ?_⟩
  repeat (first | refine W.seq ?_ | refine W.block ?_ | refine W.reg ?_ | refine W.skip ?_ | refine W.exit ?_ | refine W.ret ?_ | refine L.nil ?_ | refine L.p rfl rfl ?_ | refine L.skip rfl ?_)
  have u := q.2.2.1.cons hk35
  have z : ∀ x, d.a = some x → M2.length ≤ x := q.2.2.2
  have wl : (wv (intL l)).length ≤ 1000000000000 := by rw [wv_len]; omega
  refine L.cl (apart_BK hB1 ⟨by simp, by simp⟩ (.add u wl (.nil _ _)) (.nil _ _) (.add (fun x e hm => by simp [blks] at hm) .nil) .nil (by simp [blks])) rfl rfl ?_
  rintro _ N2 ⟨rfl, hk⟩
  refine ⟨nofun, ?_⟩
  have hN2 : Cons M1 N2 := hk.cons0 hk15 (fun x hm => by
    have hm : x ∈ blks [d] ++ blks [] := hm
    simp only [blks_nil, List.append_nil, mem_blks, List.not_mem_nil, or_false] at hm
    have := z x hm; omega)
  repeat (first | refine W.seq ?_ | refine W.block ?_ | refine W.reg ?_ | refine W.skip ?_ | refine W.exit ?_ | refine W.ret ?_ | refine L.nil ?_ | refine L.p rfl rfl ?_ | refine L.skip rfl ?_)
  refine L.cl (kept_C _ l b _ N2 (hN2.row' hr1) rfl rfl (hI.1.cons (hc1.trans hN2)) (by omega)) rfl rfl ?_
  rintro _ _ ⟨rfl, rfl⟩
  refine ⟨fun _ => Cons.refl _, ?_⟩
  repeat (first | refine W.seq ?_ | refine W.block ?_ | refine W.reg ?_ | refine W.skip ?_ | refine W.exit ?_ | refine W.ret ?_ | refine L.nil ?_ | refine L.p rfl rfl ?_ | refine L.skip rfl ?_)
  refine L.cl (works_C _) rfl rfl ?_
  rintro _ N3 ⟨rfl, hc⟩
  refine ⟨fun _ => hc, ?_⟩
  repeat (first | refine W.seq ?_ | refine W.block ?_ | refine W.reg ?_ | refine W.skip ?_ | refine W.exit ?_ | refine W.ret ?_ | refine L.nil ?_ | refine L.p rfl rfl ?_ | refine L.skip rfl ?_)
  exact ⟨.inr rfl, _, rfl, rfl, (hc1.trans hN2).trans hc⟩
end Go.Proofs.Ytccdlijohkljcaa

/- The greater and the lesser of two numbers. Conditions: none. -/
set_option linter.unusedSimpArgs false
set_option linter.unusedVariables false
namespace Go.Proofs.Ytccdlijohkljcaa
open Go
section
variable {P : Program} {G : Nat} {Ext : FuncId → List Value → Mem → Outc → Mem → Prop} {e : Env} {S : Mem} {fl : Bool} {ops : Array Oper} {K : Kont}
variable {rest : List Oper} {dst : Option Tmp} {ty : TypeId} {pos : String} {af : Array Edge} {gd : Option (Nat × Bool)}
theorem apure_max {x y : Operand} {ts : Array TypeId} {k k' : IntKind} {a b : Int} {ev : Operand → Value} (hx : ev x = .int k a) (hy : ev y = .int k' b) :
    apure P ⟨dst, .call ⟨.builtin .max, #[x, y], ts⟩, ty, pos, af, gd⟩ ev = some (.int k (if b > a then b else a)) := by
  have h : aflat P ⟨dst, .call ⟨.builtin .max, #[x, y], ts⟩, ty, pos, af, gd⟩ ev = some (.int k (if b > a then b else a)) := by
    unfold aflat
    rw [if_pos (by simp [Op.operands, Call.operands, hx, hy, flat, flat1, scalar])]
    have : pureRun P (execOp ev ⟨dst, .call ⟨.builtin .max, #[x, y], ts⟩, ty, pos, af, gd⟩) = some (.value (.int k (if b > a then b else a))) := by
      simp [execOp, resolve, hx, hy, pureRun_bind, invoke, builtin, Builtin.max_, Builtin.max2]
    rw [this]; rfl
  simp only [apure, h]
theorem apure_min {x y : Operand} {ts : Array TypeId} {k k' : IntKind} {a b : Int} {ev : Operand → Value} (hx : ev x = .int k a) (hy : ev y = .int k' b) :
    apure P ⟨dst, .call ⟨.builtin .min, #[x, y], ts⟩, ty, pos, af, gd⟩ ev = some (.int k (if b < a then b else a)) := by
  have h : aflat P ⟨dst, .call ⟨.builtin .min, #[x, y], ts⟩, ty, pos, af, gd⟩ ev = some (.int k (if b < a then b else a)) := by
    unfold aflat
    rw [if_pos (by simp [Op.operands, Call.operands, hx, hy, flat, flat1, scalar])]
    have : pureRun P (execOp ev ⟨dst, .call ⟨.builtin .min, #[x, y], ts⟩, ty, pos, af, gd⟩) = some (.value (.int k (if b < a then b else a))) := by
      simp [execOp, resolve, hx, hy, pureRun_bind, invoke, builtin, Builtin.min_, Builtin.min2]
    rw [this]; rfl
  simp only [apure, h]
theorem L.max {x y : Operand} {ts : Array TypeId} {k k' : IntKind} {a b c : Int} (hw : awanted ops ⟨dst, .call ⟨.builtin .max, #[x, y], ts⟩, ty, pos, af, gd⟩ e = true) (hx : e.eval x = .int k a) (hy : e.eval y = .int k' b) (hc : (if b > a then b else a) = c)
    (h : L P G Ext fl ops rest (e.put dst (.int k c)) S K) : L P G Ext fl ops (⟨dst, .call ⟨.builtin .max, #[x, y], ts⟩, ty, pos, af, gd⟩ :: rest) e S K := L.pure hw (hc ▸ apure_max hx hy) h
theorem L.min {x y : Operand} {ts : Array TypeId} {k k' : IntKind} {a b c : Int} (hw : awanted ops ⟨dst, .call ⟨.builtin .min, #[x, y], ts⟩, ty, pos, af, gd⟩ e = true) (hx : e.eval x = .int k a) (hy : e.eval y = .int k' b) (hc : (if b < a then b else a) = c)
    (h : L P G Ext fl ops rest (e.put dst (.int k c)) S K) : L P G Ext fl ops (⟨dst, .call ⟨.builtin .min, #[x, y], ts⟩, ty, pos, af, gd⟩ :: rest) e S K := L.pure hw (hc ▸ apure_min hx hy) h
end
end Go.Proofs.Ytccdlijohkljcaa

/- The law of where an item lies, walked. Conditions: none. -/
set_option linter.unusedSimpArgs false
set_option linter.unusedVariables false
set_option maxRecDepth 100000
set_option maxHeartbeats 4000000
namespace Go.Proofs.Ytccdlijohkljcaa
open Go
variable {G : Nat}

theorem item_grow {b : BL} {h n : Nat} (e : itemS b = .ok (h, n)) (r : BL) : itemS (b ++ r) = .ok (h, n) := by
  obtain ⟨t, c, r', rfl, rfl, rfl, hn⟩ := item_form e
  have : t :: (lenB c.length ++ (c ++ r')) ++ r = t :: (lenB c.length ++ (c ++ (r' ++ r))) := by simp
  rw [this, item_of _ _ _ hn]
theorem item_take {b : BL} {h n k : Nat} (e : itemS b = .ok (h, n)) (hk : k ≤ b.length) : itemS (b.take k) = if k < h + n then .error 70 else .ok (h, n) := by
  obtain ⟨t, c, r', rfl, rfl, rfl, hn⟩ := item_form e
  exact item_cut t c r' k hn hk
theorem pick_nat (i : Int) (n : Nat) : ∃ k : Nat, pick i ((n + 1 : Nat) : Int) = (k : Int) ∧ k ≤ n := by
  have hb := Int.tmod_lt_of_pos i (show (0 : Int) < ((n + 1 : Nat) : Int) by omega)
  have hb' := Int.lt_tmod_of_pos i (show (0 : Int) < ((n + 1 : Nat) : Int) by omega)
  unfold pick
  rw [if_neg (by omega)]
  split
  · exact ⟨(i.tmod ((n + 1 : Nat) : Int) + ((n + 1 : Nat) : Int)).toNat, by omega, by omega⟩
  · exact ⟨(i.tmod ((n + 1 : Nat) : Int)).toNat, by omega, by omega⟩
theorem lies_C (a : Option Addr) (c : Nat) (l : BL) (i : Int) (x : BitVec 8) (S : Mem) (hs : Slv S 1 (.slice a l.length c) l.length (bv l)) (hcut : Cut l.length c) :
    C Try.prog G (Known Try.prog G) 6 [.slice a l.length c, .int .i64 i, v8 x] S fun v S' => v = .bool true ∧ Cons S S' := by
  refine C.fn Try.func6 rfl (by kernel_rfl) rfl ?_
  repeat (first | refine W.seq ?_ | refine W.block ?_ | refine W.reg ?_ | refine W.skip ?_ | refine W.exit ?_ | refine W.ret ?_ | refine L.nil ?_ | refine L.p rfl rfl ?_ | refine L.skip rfl ?_)
  refine W.ite rfl (fun h => ?_) (fun h => ?_)
  · repeat (first | refine W.seq ?_ | refine W.block ?_ | refine W.reg ?_ | refine W.skip ?_ | refine W.exit ?_ | refine W.ret ?_ | refine L.nil ?_ | refine L.p rfl rfl ?_ | refine L.skip rfl ?_)
    exact ⟨.inr rfl, _, rfl, rfl, Cons.refl _⟩
  have hl : l.length ≤ 4096 := by simp at h; omega
  have hI : BIn S a c l := ⟨hs, hcut, by omega⟩
  clear h
  repeat (first | refine W.seq ?_ | refine W.block ?_ | refine W.reg ?_ | refine W.skip ?_ | refine W.exit ?_ | refine W.ret ?_ | refine L.nil ?_ | refine L.p rfl rfl ?_ | refine L.skip rfl ?_)
  rw [show IntKind.i64.wrap ((l.length : Int) + 1) = ((l.length + 1 : Nat) : Int) by rw [wrap64 (by omega) (by omega)]; omega]
  refine L.cl (pick_C i _ (by omega) S) rfl rfl ?_
  rintro _ _ ⟨rfl, rfl⟩
  refine ⟨nofun, ?_⟩
  obtain ⟨k, hk, hkl⟩ := pick_nat i l.length
  rw [hk]
  repeat (first | refine W.seq ?_ | refine W.block ?_ | refine W.reg ?_ | refine W.skip ?_ | refine W.exit ?_ | refine W.ret ?_ | refine L.nil ?_ | refine L.p rfl rfl ?_ | refine L.skip rfl ?_)
  rename_i S0
  refine L.cl (itemPub_C a c l k S0 hI (by omega) (by omega)) rfl rfl ?_
  rintro _ M1 ⟨rfl, hc1⟩
  refine ⟨nofun, ?_⟩
  cases hit : itemS (l.drop k) with
  | error e =>
    have hne := itemS_ne hit
    rw [← itemV_err hkl hit]
    repeat (first | refine W.seq ?_ | refine W.block ?_ | refine W.reg ?_ | refine W.skip ?_ | refine W.exit ?_ | refine W.ret ?_ | refine L.nil ?_ | refine L.p rfl rfl ?_ | refine L.skip rfl ?_)
    refine W.ite rfl (fun h => ?_) (fun h => ?_)
    rotate_left
    · simp at h; exact absurd h hne
    clear h
    repeat (first | refine W.seq ?_ | refine W.block ?_ | refine W.reg ?_ | refine W.skip ?_ | refine W.exit ?_ | refine W.ret ?_ | refine L.nil ?_ | refine L.p rfl rfl ?_ | refine L.skip rfl ?_)
    refine L.cl (works_C _) rfl rfl ?_
    rintro _ M2 ⟨rfl, hc2⟩
    refine ⟨nofun, ?_⟩
    repeat (first | refine W.seq ?_ | refine W.block ?_ | refine W.reg ?_ | refine W.skip ?_ | refine W.exit ?_ | refine W.ret ?_ | refine L.nil ?_ | refine L.p rfl rfl ?_ | refine L.skip rfl ?_)
    exact ⟨.inr rfl, _, rfl, rfl, hc1.trans hc2⟩
  | ok p =>
    obtain ⟨h, n⟩ := p
    obtain ⟨g1, g2, g3⟩ := itemS_ok hit
    rw [List.length_drop] at g3
    rw [itemV_ok hkl hit]
    obtain ⟨y, hy, hy'⟩ := bat_some (b := l) (i := k) (by omega)
    rw [hy']
    repeat (first | refine W.seq ?_ | refine W.block ?_ | refine W.reg ?_ | refine W.skip ?_ | refine W.exit ?_ | refine W.ret ?_ | refine L.nil ?_ | refine L.p rfl rfl ?_ | refine L.skip rfl ?_)
    refine W.ite rfl (fun h => ?_) (fun h => ?_)
    · cases h
    clear h
    repeat (first | refine W.seq ?_ | refine W.block ?_ | refine W.reg ?_ | refine W.skip ?_ | refine W.exit ?_ | refine W.ret ?_ | refine L.nil ?_ | refine L.p rfl rfl ?_ | refine L.skip rfl ?_)
    rw [show IntKind.i64.wrap ((k : Int) + 2) = ((k + 2 : Nat) : Int) by rw [wrap64 (by omega) (by omega)]; omega]
    rw [show decide ((k : Int) + h < ((k + 2 : Nat) : Int)) = false from decide_eq_false (by omega)]
    repeat (first | refine W.seq ?_ | refine W.block ?_ | refine W.reg ?_ | refine W.skip ?_ | refine W.exit ?_ | refine W.ret ?_ | refine L.nil ?_ | refine L.p rfl rfl ?_ | refine L.skip rfl ?_)
    rw [show IntKind.i64.wrap ((k : Int) + 6) = ((k + 6 : Nat) : Int) by rw [wrap64 (by omega) (by omega)]; omega]
    rw [show decide ((k : Int) + h > ((k + 6 : Nat) : Int)) = false from decide_eq_false (by omega)]
    repeat (first | refine W.seq ?_ | refine W.block ?_ | refine W.reg ?_ | refine W.skip ?_ | refine W.exit ?_ | refine W.ret ?_ | refine L.nil ?_ | refine L.p rfl rfl ?_ | refine L.skip rfl ?_)
    rw [show decide ((k : Int) + h + n < (k : Int) + h) = false from decide_eq_false (by omega)]
    repeat (first | refine W.seq ?_ | refine W.block ?_ | refine W.reg ?_ | refine W.skip ?_ | refine W.exit ?_ | refine W.ret ?_ | refine L.nil ?_ | refine L.p rfl rfl ?_ | refine L.skip rfl ?_)
    rw [show decide ((k : Int) + h + n > (l.length : Int)) = false from decide_eq_false (by omega)]
    repeat (first | refine W.seq ?_ | refine W.block ?_ | refine W.reg ?_ | refine W.skip ?_ | refine W.exit ?_ | refine W.ret ?_ | refine L.nil ?_ | refine L.p rfl rfl ?_ | refine L.skip rfl ?_)
    refine L.el (hs.cons hc1) (k := k) rfl (bv_get hy) rfl rfl rfl rfl (fun _ => rfl) rfl (fun p => ?_)
    repeat (first | refine W.seq ?_ | refine W.block ?_ | refine W.reg ?_ | refine W.skip ?_ | refine W.exit ?_ | refine W.ret ?_ | refine L.nil ?_ | refine L.p rfl rfl ?_ | refine L.skip rfl ?_)
    rw [show ((y.toNat : Int) != (y.toNat : Int)) = false from bne_self_eq_false _]
    repeat (first | refine W.seq ?_ | refine W.block ?_ | refine W.reg ?_ | refine W.skip ?_ | refine W.exit ?_ | refine W.ret ?_ | refine L.nil ?_ | refine L.p rfl rfl ?_ | refine L.skip rfl ?_)
    refine W.ite rfl (fun h => ?_) (fun h => ?_)
    · cases h
    clear h
    repeat (first | refine W.seq ?_ | refine W.block ?_ | refine W.reg ?_ | refine W.skip ?_ | refine W.exit ?_ | refine W.ret ?_ | refine L.nil ?_ | refine L.p rfl rfl ?_ | refine L.skip rfl ?_)
    refine L.appH rfl (HdOk.nil M1 5) rfl rfl (hs.cons hc1) (bv_one _) (by simp; omega) rfl rfl ?_
    rintro h1 M2 u1 u2 u3 u4
    repeat (first | refine W.seq ?_ | refine W.block ?_ | refine W.reg ?_ | refine W.skip ?_ | refine W.exit ?_ | refine W.ret ?_ | refine L.nil ?_ | refine L.p rfl rfl ?_ | refine L.skip rfl ?_)
    have kc2 : Cons M1 M2 := u4.nil
    have v1 : ∀ b, h1.a = some b → M1.length ≤ b := fun b e => by
      rcases u3 with ⟨u3, _⟩ | ⟨b', u3, u5⟩
      · rw [u3] at e; cases e
      · rw [u3] at e; cases e; exact u5
    refine L.bs (bv [x, x]) rfl rfl rfl rfl rfl rfl ?_
    have kc3 : Cons M1 (M2 ++ [newR (bv [x, x]) 5]) := kc2.pushr _
    have hx3 := BIn.fresh M2 [x, x] (by simp)
    have u1 := u1.cons (Cons.push M2 (newR (bv [x, x]) 5))
    generalize M2 ++ [newR (bv [x, x]) 5] = M3 at *
    generalize M2.length = r2 at *
    have u2' : h1.n = l.length := by rw [u2]; exact Nat.zero_add _
    refine L.appH (m := 2) rfl u1 rfl rfl hx3.1 (bv_one _) (by rw [u2']; omega) rfl rfl ?_
    rintro h2 M4 t1 t2 t3 t4
    have kc4 : Cons M1 M4 := t4.cons0 kc3 (fun b hb => by simp at hb; exact v1 b hb)
    have hlong : bv l ++ bv [x, x] = bv (l ++ [x, x]) := by rw [bv_app]
    rw [List.nil_append, hlong] at t1
    have hh2 := t1.bin (by simp; omega)
    have hkc := hc1.trans kc4
    repeat (first | refine W.seq ?_ | refine W.block ?_ | refine W.reg ?_ | refine W.skip ?_ | refine W.exit ?_ | refine W.ret ?_ | refine L.nil ?_ | refine L.p rfl rfl ?_ | refine L.skip rfl ?_)
    refine L.cl (itemPub_C h2.ad h2.c (l ++ [x, x]) k M4 hh2.1 (by omega) (by omega)) rfl (acall_eq (list2 hh2.2 rfl)) ?_
    rintro _ M5 ⟨rfl, hc5⟩
    refine ⟨nofun, ?_⟩
    rw [itemV_ok (b := l ++ [x, x]) (k := k) (f := h) (n := n) (by simp; omega) (by rw [List.drop_append_of_le_length hkl]; exact item_grow hit _), bat_app (by omega), hy']
    have hcast : ((k : Int) + h + n) = ((k + h + n : Nat) : Int) := by omega
    rw [hcast]
    repeat (first | refine W.seq ?_ | refine W.block ?_ | refine W.reg ?_ | refine W.skip ?_ | refine W.exit ?_ | refine W.ret ?_ | refine L.nil ?_ | refine L.p rfl rfl ?_ | refine L.skip rfl ?_)
    have hI5 := hI.cons (hkc.trans hc5)
    obtain ⟨a5, c5, q1, q2⟩ := hI5.partT (k := k) (h := k + h + n) (lo := some (.int .i64 (k : Int))) (hi := some (.int .i64 ((k + h + n : Nat) : Int))) (.inr ⟨.i64, rfl⟩) (.inr ⟨.i64, rfl⟩) (by omega) (by omega)
    obtain ⟨x5, hx5⟩ : ∃ x5, x5 = (l.drop k).take (k + h + n - k) := ⟨_, rfl⟩
    rw [← hx5] at q1 q2
    refine L.is (.slice a5 x5.length c5) ((slice_at0 rfl rfl rfl).trans q1) rfl ?_
    refine L.cl (itemPub_C a5 c5 x5 0 M5 (q2 _ hI5) (by decide) (by decide)) rfl rfl ?_
    rintro _ M6 ⟨rfl, hc6⟩
    refine ⟨nofun, ?_⟩
    have hx5i : itemS x5 = .ok (h, n) := by
      rw [hx5, show k + h + n - k = h + n by omega, item_take hit (by rw [List.length_drop]; omega), if_neg (Nat.lt_irrefl _)]
    have hx5b : bat x5 0 = y.toNat := by rw [hx5, bat_take (by omega), bat_drop]; exact hy'
    rw [show itemV x5 0 = .tuple #[.int .u8 (bat x5 0), .int .i64 (((0 : Nat) : Int) + h), .int .i64 (((0 : Nat) : Int) + h + n), .int .i64 0] from itemV_ok (k := 0) (Nat.zero_le _) hx5i, hx5b]
    repeat (first | refine W.seq ?_ | refine W.block ?_ | refine W.reg ?_ | refine W.skip ?_ | refine W.exit ?_ | refine W.ret ?_ | refine L.nil ?_ | refine L.p rfl rfl ?_ | refine L.skip rfl ?_)
    rw [show IntKind.i64.wrap (((k + h + n : Nat) : Int) - 1) = ((k + h + n - 1 : Nat) : Int) by rw [wrap64 (by omega) (by omega)]; omega]
    repeat (first | refine W.seq ?_ | refine W.block ?_ | refine W.reg ?_ | refine W.skip ?_ | refine W.exit ?_ | refine W.ret ?_ | refine L.nil ?_ | refine L.p rfl rfl ?_ | refine L.skip rfl ?_)
    refine L.max (c := ((k + h + n - 1 : Nat) : Int)) rfl rfl rfl (by split <;> omega) ?_
    have hI6 := hI5.cons hc6
    obtain ⟨a6, c6, q3, q4⟩ := hI6.partT (k := 0) (h := k + h + n - 1) (lo := none) (hi := some (.int .i64 ((k + h + n - 1 : Nat) : Int))) (.inl ⟨rfl, rfl⟩) (.inr ⟨.i64, rfl⟩) (by omega) (by omega)
    rw [List.drop_zero, Nat.sub_zero] at q3 q4
    obtain ⟨x6, hx6⟩ : ∃ x6, x6 = l.take (k + h + n - 1) := ⟨_, rfl⟩
    rw [← hx6] at q3 q4
    refine L.is (.slice a6 x6.length c6) ((slice_at0 rfl rfl rfl).trans q3) rfl ?_
    repeat (first | refine W.seq ?_ | refine W.block ?_ | refine W.reg ?_ | refine W.skip ?_ | refine W.exit ?_ | refine W.ret ?_ | refine L.nil ?_ | refine L.p rfl rfl ?_ | refine L.skip rfl ?_)
    refine L.cl (itemPub_C a6 c6 x6 k M6 (q4 _ hI6) (by omega) (by omega)) rfl rfl ?_
    rintro _ M7 ⟨rfl, hc7⟩
    refine ⟨nofun, ?_⟩
    have hx6l : x6.length = k + h + n - 1 := by rw [hx6, List.length_take]; omega
    have hx6i : itemS (x6.drop k) = .error 70 := by
      rw [hx6, List.drop_take, item_take hit (by rw [List.length_drop]; omega), if_pos (by omega)]
    rw [← itemV_err (by omega) hx6i]
    repeat (first | refine W.seq ?_ | refine W.block ?_ | refine W.reg ?_ | refine W.skip ?_ | refine W.exit ?_ | refine W.ret ?_ | refine L.nil ?_ | refine L.p rfl rfl ?_ | refine L.skip rfl ?_)
    rw [show ((y.toNat : Int) == (y.toNat : Int)) = true from beq_self_eq_true _]
    repeat (first | refine W.seq ?_ | refine W.block ?_ | refine W.reg ?_ | refine W.skip ?_ | refine W.exit ?_ | refine W.ret ?_ | refine L.nil ?_ | refine L.p rfl rfl ?_ | refine L.skip rfl ?_)
    rw [show (((k : Int) + h) == ((k : Int) + h)) = true from beq_self_eq_true _]
    repeat (first | refine W.seq ?_ | refine W.block ?_ | refine W.reg ?_ | refine W.skip ?_ | refine W.exit ?_ | refine W.ret ?_ | refine L.nil ?_ | refine L.p rfl rfl ?_ | refine L.skip rfl ?_)
    rw [show (((k + h + n : Nat) : Int) == ((k + h + n : Nat) : Int)) = true from beq_self_eq_true _]
    repeat (first | refine W.seq ?_ | refine W.block ?_ | refine W.reg ?_ | refine W.skip ?_ | refine W.exit ?_ | refine W.ret ?_ | refine L.nil ?_ | refine L.p rfl rfl ?_ | refine L.skip rfl ?_)
    rw [show ((y.toNat : Int) == (y.toNat : Int)) = true from beq_self_eq_true _]
    repeat (first | refine W.seq ?_ | refine W.block ?_ | refine W.reg ?_ | refine W.skip ?_ | refine W.exit ?_ | refine W.ret ?_ | refine L.nil ?_ | refine L.p rfl rfl ?_ | refine L.skip rfl ?_)
    rw [show IntKind.i64.wrap ((k : Int) + h - k) = ((0 : Nat) : Int) + h by rw [wrap64 (by omega) (by omega)]; omega, show ((((0 : Nat) : Int) + h) == (((0 : Nat) : Int) + h)) = true from beq_self_eq_true _]
    repeat (first | refine W.seq ?_ | refine W.block ?_ | refine W.reg ?_ | refine W.skip ?_ | refine W.exit ?_ | refine W.ret ?_ | refine L.nil ?_ | refine L.p rfl rfl ?_ | refine L.skip rfl ?_)
    rw [show IntKind.i64.wrap (((k + h + n : Nat) : Int) - k) = ((0 : Nat) : Int) + h + n by rw [wrap64 (by omega) (by omega)]; omega, show ((((0 : Nat) : Int) + h + n) == (((0 : Nat) : Int) + h + n)) = true from beq_self_eq_true _]
    repeat (first | refine W.seq ?_ | refine W.block ?_ | refine W.reg ?_ | refine W.skip ?_ | refine W.exit ?_ | refine W.ret ?_ | refine L.nil ?_ | refine L.p rfl rfl ?_ | refine L.skip rfl ?_)
    refine L.cl (works_C _) rfl rfl ?_
    rintro _ M8 ⟨rfl, hc8⟩
    refine ⟨nofun, ?_⟩
    repeat (first | refine W.seq ?_ | refine W.block ?_ | refine W.reg ?_ | refine W.skip ?_ | refine W.exit ?_ | refine W.ret ?_ | refine L.nil ?_ | refine L.p rfl rfl ?_ | refine L.skip rfl ?_)
    exact ⟨.inr rfl, _, rfl, rfl, (((hkc.trans hc5).trans hc6).trans hc7).trans hc8⟩
end Go.Proofs.Ytccdlijohkljcaa

/- The law of telling, walked. Conditions: none. -/
set_option linter.unusedSimpArgs false
set_option linter.unusedVariables false
set_option maxRecDepth 100000
set_option maxHeartbeats 4000000
namespace Go.Proofs.Ytccdlijohkljcaa
open Go
variable {G : Nat}

/-- what is told, where an error tells nothing -/
def encB (l1 l2 : WL) : BL := if encBad l1 l2 then [] else encL l1 l2
def encE (l1 l2 : WL) : Int := if encBad l1 l2 then 3 else 0
theorem laid_le (t : BitVec 8) (l : BL) (h : l.length < 1099511627776) : (laidS t l).length ≤ l.length + 7 := by
  rw [laidS_eq]
  have := lenB_len h
  simp only [List.length_cons, List.length_append]; omega
theorem encB_len (l1 l2 : WL) : (encB l1 l2).length ≤ 2000 := by
  unfold encB
  split
  · exact Nat.zero_le _
  · rename_i h
    simp only [encBad, not_or] at h
    have h1 := (cont_len h.1).2
    have h2 := (cont_len h.2).2
    have h3 := laid_le 2#8 (contS l1) (by omega)
    have h4 := laid_le 2#8 (contS l2) (by omega)
    have h5 := laid_le 48#8 (laidS 2#8 (contS l1) ++ laidS 2#8 (contS l2)) (by rw [List.length_append]; omega)
    rw [List.length_append] at h5
    unfold encL; omega
theorem EncR.two {S S' : Mem} {l1 l2 : WL} {v : Value} (h : EncR S l1 l2 v S') : ∃ d : Hd, v = .tuple #[d.v, .int .i64 (encE l1 l2)] ∧ RetB S S' d (encB l1 l2) := by
  unfold EncR at h
  unfold encE encB
  split at h
  · rename_i hb
    obtain ⟨rfl, hc⟩ := h
    rw [if_pos hb, if_pos hb]
    exact ⟨Hd0, rfl, RetB.nil hc⟩
  · rename_i hb
    rw [if_neg hb, if_neg hb]
    exact h
theorem RefEnc.two {S S' : Mem} {l1 l2 : WL} {v : Value} (h : RefEnc S l1 l2 v S') : ∃ a c, v = .tuple #[.slice a (encB l1 l2).length c, .int .i64 (encE l1 l2)] ∧ Cons S S' ∧ Slv S' 1 (.slice a (encB l1 l2).length c) (encB l1 l2).length (bv (encB l1 l2)) := by
  unfold RefEnc at h
  unfold encE encB
  split at h
  · rename_i hb
    obtain ⟨rfl, hc⟩ := h
    rw [if_pos hb, if_pos hb]
    exact ⟨none, 0, rfl, hc, rfl, _, _, rfl, .inl rfl⟩
  · rename_i hb
    rw [if_neg hb, if_neg hb]
    obtain ⟨a, c, rfl, hc, hI⟩ := h
    exact ⟨a, c, rfl, hc, hI.1⟩
theorem RetB.hd {S S' T : Mem} {d : Hd} {l : BL} (h : RetB S S' d l) (k : Cons S' T) : Slv T 1 (.slice d.ad d.n d.c) d.n (bv l) ∧ d.n < 1099511627776 := by
  have hh := h.2.2.1.cons k
  have hn := hh.len
  rw [bv_len] at hn
  exact ⟨hh.slv, hn ▸ h.2.1⟩
theorem LentW.win {S : Mem} {b : Nat} {l : WL} (h : LentW S b l) (hl : l.length < 1099511627776) : WIn S (some ⟨b, 0, none⟩) (UNK + (l.length + 16)) l :=
  ⟨h.slv, by rw [knownCap_unk]; omega, nofun, hl⟩
theorem LentW.cons {S T : Mem} {b : Nat} {l : WL} (h : LentW S b l) (k : Cons S T) : LentW T b l := k.row' h
theorem tells_C (a1 a2 : Option Addr) (c1 c2 : Nat) (l1 l2 : WL) (S : Mem) (hs1 : Slv S 1 (.slice a1 l1.length c1) l1.length (wv l1)) (hs2 : Slv S 1 (.slice a2 l2.length c2) l2.length (wv l2))
    (hk1 : l1.length ≤ knownCap c1) (hk2 : l2.length ≤ knownCap c2) (hn1 : a1 = none → c1 = 0) (hn2 : a2 = none → c2 = 0) :
    C Try.prog G (Known Try.prog G) 4 [keyV (.slice a1 l1.length c1) (.slice a2 l2.length c2)] S fun v S' => v = .bool true ∧ Cons S S' := by
  refine C.fn Try.func4 rfl (by kernel_rfl) rfl ?_
  repeat (first | refine W.seq ?_ | refine W.block ?_ | refine W.reg ?_ | refine W.skip ?_ | refine W.exit ?_ | refine W.ret ?_ | refine L.nil ?_ | refine L.p rfl rfl ?_ | refine L.skip rfl ?_)
  refine L.eff (v := .pointer (some ⟨S.length, 0, none⟩)) (S1 := S ++ [keyR (.slice a1 l1.length c1) (.slice a2 l2.length c2)]) rfl rfl ?_
  have hC0 : Cons S (S ++ [keyR (.slice a1 l1.length c1) (.slice a2 l2.length c2)]) := Cons.push _ _
  have hr : Mem.row? (S ++ [keyR (.slice a1 l1.length c1) (.slice a2 l2.length c2)]) S.length = some (keyR (.slice a1 l1.length c1) (.slice a2 l2.length c2)) := row_push_new rfl
  generalize S ++ [keyR (.slice a1 l1.length c1) (.slice a2 l2.length c2)] = M0 at *
  obtain ⟨r0, hr0⟩ : ∃ r, r = S.length := ⟨_, rfl⟩
  rw [← hr0] at hr ⊢
  repeat (first | refine W.seq ?_ | refine W.block ?_ | refine W.reg ?_ | refine W.skip ?_ | refine W.exit ?_ | refine W.ret ?_ | refine L.nil ?_ | refine L.p rfl rfl ?_ | refine L.skip rfl ?_)
  refine L.ld (a := ⟨r0, 0, none⟩) (cell_of (o := 0) hr rfl (.inl rfl)) rfl rfl rfl ?_
  repeat (first | refine W.seq ?_ | refine W.block ?_ | refine W.reg ?_ | refine W.skip ?_ | refine W.exit ?_ | refine W.ret ?_ | refine L.nil ?_ | refine L.p rfl rfl ?_ | refine L.skip rfl ?_)
  cases hq : decide ((l1.length : Int) > 200)
  rotate_left
  · repeat (first | refine W.seq ?_ | refine W.block ?_ | refine W.reg ?_ | refine W.skip ?_ | refine W.exit ?_ | refine W.ret ?_ | refine L.nil ?_ | refine L.p rfl rfl ?_ | refine L.skip rfl ?_)
    refine W.ite rfl (fun h => ?_) (fun h => ?_)
    rotate_left
    · cases h
    repeat (first | refine W.seq ?_ | refine W.block ?_ | refine W.reg ?_ | refine W.skip ?_ | refine W.exit ?_ | refine W.ret ?_ | refine L.nil ?_ | refine L.p rfl rfl ?_ | refine L.skip rfl ?_)
    exact ⟨.inr rfl, _, rfl, rfl, hC0⟩
  have hl1 : l1.length ≤ 200 := by have := of_decide_eq_false hq; omega
  clear hq
  repeat (first | refine W.seq ?_ | refine W.block ?_ | refine W.reg ?_ | refine W.skip ?_ | refine W.exit ?_ | refine W.ret ?_ | refine L.nil ?_ | refine L.p rfl rfl ?_ | refine L.skip rfl ?_)
  refine L.ld (a := ⟨r0, 1, none⟩) (cell_of (o := 1) hr rfl (.inl rfl)) rfl rfl rfl ?_
  repeat (first | refine W.seq ?_ | refine W.block ?_ | refine W.reg ?_ | refine W.skip ?_ | refine W.exit ?_ | refine W.ret ?_ | refine L.nil ?_ | refine L.p rfl rfl ?_ | refine L.skip rfl ?_)
  refine W.ite rfl (fun h => ?_) (fun h => ?_)
  · repeat (first | refine W.seq ?_ | refine W.block ?_ | refine W.reg ?_ | refine W.skip ?_ | refine W.exit ?_ | refine W.ret ?_ | refine L.nil ?_ | refine L.p rfl rfl ?_ | refine L.skip rfl ?_)
    exact ⟨.inr rfl, _, rfl, rfl, hC0⟩
  have hl2 : l2.length ≤ 200 := by have := of_decide_eq_false h; omega
  clear h
  have w1 : WIn M0 a1 c1 l1 := ⟨hs1.cons hC0, hk1, hn1, by omega⟩
  have w2 : WIn M0 a2 c2 l2 := ⟨hs2.cons hC0, hk2, hn2, by omega⟩
  repeat (first | refine W.seq ?_ | refine W.block ?_ | refine W.reg ?_ | refine W.skip ?_ | refine W.exit ?_ | refine W.ret ?_ | refine L.nil ?_ | refine L.p rfl rfl ?_ | refine L.skip rfl ?_)
  refine L.ldA (a := ⟨r0, 0, none⟩) (key_load hr) rfl rfl rfl ?_
  refine L.cl (lentKey_C _ _ l1 l2 M0 w1.1 w2.1 (by omega) (by omega)) rfl rfl ?_
  rintro _ M1 ⟨hc1, b1, b2, rfl, hb1, hb2, hb12, hL1, hL2⟩
  refine ⟨nofun, ?_⟩
  repeat (first | refine W.seq ?_ | refine W.block ?_ | refine W.reg ?_ | refine W.skip ?_ | refine W.exit ?_ | refine W.ret ?_ | refine L.nil ?_ | refine L.p rfl rfl ?_ | refine L.skip rfl ?_)
  refine L.eff (v := .pointer (some ⟨M1.length, 0, none⟩)) (S1 := M1 ++ [newR [nilV, nilV] 26]) rfl rfl ?_
  refine L.st (ad := ⟨M1.length, 0, none⟩) (vs := [lentV b1 l1, lentV b2 l2]) (key_write M1 _ _ rfl rfl) rfl rfl rfl rfl ?_
  have hr2 : Mem.row? (M1 ++ [keyR (lentV b1 l1) (lentV b2 l2)]) M1.length = some (keyR (lentV b1 l1) (lentV b2 l2)) := row_push_new rfl
  have hk2' : Cons M1 (M1 ++ [keyR (lentV b1 l1) (lentV b2 l2)]) := Cons.push _ _
  generalize M1 ++ [keyR (lentV b1 l1) (lentV b2 l2)] = M2 at *
  obtain ⟨r2, hr2'⟩ : ∃ r, r = M1.length := ⟨_, rfl⟩
  rw [← hr2'] at hr2 ⊢
  have hL1 := hL1.cons hk2'
  have hL2 := hL2.cons hk2'
  have hb1l := row_lt hL1
  have hb2l := row_lt hL2
  repeat (first | refine W.seq ?_ | refine W.block ?_ | refine W.reg ?_ | refine W.skip ?_ | refine W.exit ?_ | refine W.ret ?_ | refine L.nil ?_ | refine L.p rfl rfl ?_ | refine L.skip rfl ?_)
  refine L.ldA (a := ⟨r2, 0, none⟩) (key_load hr2) rfl rfl rfl ?_
  refine L.cl (encode_C _ _ _ _ l1 l2 M2 (hL1.win (by omega)) (hL2.win (by omega))) rfl rfl ?_
  rintro _ M3 hR
  obtain ⟨d1, rfl, q1⟩ := hR.two
  refine ⟨nofun, ?_⟩
  have hc3 := q1.1
  repeat (first | refine W.seq ?_ | refine W.block ?_ | refine W.reg ?_ | refine W.skip ?_ | refine W.exit ?_ | refine W.ret ?_ | refine L.nil ?_ | refine L.p rfl rfl ?_ | refine L.skip rfl ?_)
  refine L.ldA (a := ⟨r2, 0, none⟩) (key_load (hc3.row' hr2)) rfl rfl rfl ?_
  refine L.cl (encode_C _ _ _ _ l1 l2 M3 ((hL1.cons hc3).win (by omega)) ((hL2.cons hc3).win (by omega))) rfl rfl ?_
  rintro _ M4 hR
  obtain ⟨d2, rfl, q2⟩ := hR.two
  refine ⟨nofun, ?_⟩
  have hc4 := q2.1
  have hc04 := ((hc1.trans hk2').trans hc3).trans hc4
  repeat (first | refine W.seq ?_ | refine W.block ?_ | refine W.reg ?_ | refine W.skip ?_ | refine W.exit ?_ | refine W.ret ?_ | refine L.nil ?_ | refine L.p rfl rfl ?_ | refine L.skip rfl ?_)
  refine L.ldA (a := ⟨r0, 0, none⟩) (key_load (hc04.row' hr)) rfl rfl rfl ?_
  refine L.cl (refEncode_C a1 a2 c1 c2 l1 l2 M4 (w1.cons hc04) (w2.cons hc04) (by omega) (by omega)) rfl rfl ?_
  rintro _ M5 hR
  obtain ⟨a5, c5, rfl, hc5, s5⟩ := hR.two
  refine ⟨nofun, ?_⟩
  have hel := encB_len l1 l2
  repeat (first | refine W.seq ?_ | refine W.block ?_ | refine W.reg ?_ | refine W.skip ?_ | refine W.exit ?_ | refine W.ret ?_ | refine L.nil ?_ | refine L.p rfl rfl ?_ | refine L.skip rfl ?_)
  rw [show (encE l1 l2 != encE l1 l2) = false from bne_self_eq_false _]
  repeat (first | refine W.seq ?_ | refine W.block ?_ | refine W.reg ?_ | refine W.skip ?_ | refine W.exit ?_ | refine W.ret ?_ | refine L.nil ?_ | refine L.p rfl rfl ?_ | refine L.skip rfl ?_)
  rw [show (encE l1 l2 != encE l1 l2) = false from bne_self_eq_false _]
  repeat (first | refine W.seq ?_ | refine W.block ?_ | refine W.reg ?_ | refine W.skip ?_ | refine W.exit ?_ | refine W.ret ?_ | refine L.nil ?_ | refine L.p rfl rfl ?_ | refine L.skip rfl ?_)
  have t1 := q1.hd (hc4.trans hc5)
  have t2 := q2.hd hc5
  refine L.cl (same_C _ _ (encB l1 l2) (encB l1 l2) d1.n _ M5 t1.1 s5 t1.2 (by omega)) rfl rfl ?_
  rintro _ _ ⟨rfl, rfl⟩
  refine ⟨nofun, ?_⟩
  rw [show (encB l1 l2 == encB l1 l2) = true from beq_self_eq_true _]
  repeat (first | refine W.seq ?_ | refine W.block ?_ | refine W.reg ?_ | refine W.skip ?_ | refine W.exit ?_ | refine W.ret ?_ | refine L.nil ?_ | refine L.p rfl rfl ?_ | refine L.skip rfl ?_)
  refine L.cl (same_C _ _ (encB l1 l2) (encB l1 l2) d2.n _ _ t2.1 s5 t2.2 (by omega)) rfl rfl ?_
  rintro _ _ ⟨rfl, rfl⟩
  refine ⟨nofun, ?_⟩
  rw [show (encB l1 l2 == encB l1 l2) = true from beq_self_eq_true _]
  repeat (first | refine W.seq ?_ | refine W.block ?_ | refine W.reg ?_ | refine W.skip ?_ | refine W.exit ?_ | refine W.ret ?_ | refine L.nil ?_ | refine L.p rfl rfl ?_ | refine L.skip rfl ?_)
  refine W.ite rfl (fun h => ?_) (fun h => ?_)
  · cases h
  clear h
  rename_i M5
  have hk25 := (hc3.trans hc4).trans hc5
  have hk05 := hc04.trans hc5
  have hk15 := hk2'.trans hk25
  have hl3 := hc3.len
  repeat (first | refine W.seq ?_ | refine W.block ?_ | refine W.reg ?_ | refine W.skip ?_ | refine W.exit ?_ | refine W.ret ?_ | refine L.nil ?_ | refine L.p rfl rfl ?_ | refine L.skip rfl ?_)
  refine L.eff (v := .pointer (some ⟨M5.length, 0, none⟩)) (S1 := M5 ++ [newR [.slice none 0 0, .slice none 0 0] 34]) rfl rfl ?_
  have hB0 := BK.new M5
  generalize M5 ++ [newR [.slice none 0 0, .slice none 0 0] 34] = N0 at *
  obtain ⟨rb, hrb⟩ : ∃ rb, rb = M5.length := ⟨_, rfl⟩
  rw [← hrb] at hB0 ⊢
  repeat (first | refine W.seq ?_ | refine W.block ?_ | refine W.reg ?_ | refine W.skip ?_ | refine W.exit ?_ | refine W.ret ?_ | refine L.nil ?_ | refine L.p rfl rfl ?_ | refine L.skip rfl ?_)
  refine L.cl (bytes_BK d1 hB0 (by decide)) rfl rfl ?_
  rintro _ N1 hB1
  refine ⟨nofun, ?_⟩
  repeat (first | refine W.seq ?_ | refine W.block ?_ | refine W.reg ?_ | refine W.skip ?_ | refine W.exit ?_ | refine W.ret ?_ | refine L.nil ?_ | refine L.p rfl rfl ?_ | refine L.skip rfl ?_)
  refine L.cl (bytes_BK d2 hB1 (by simp)) rfl rfl ?_
  rintro _ N2 hB2
  refine ⟨nofun, ?_⟩
  repeat (first | refine W.seq ?_ | refine W.block ?_ | refine W.reg ?_ | refine W.skip ?_ | refine W.exit ?_ | refine W.ret ?_ | refine L.nil ?_ | refine L.p rfl rfl ?_ | refine L.skip rfl ?_)
  have u1 := q1.2.2.1.cons (hc4.trans hc5)
  have u2 := q2.2.2.1.cons hc5
  have z1 : ∀ x, d1.a = some x → M2.length ≤ x ∧ x < M3.length := fun x e => ⟨q1.2.2.2 x e, q1.2.2.1.lt e⟩
  have z2 : ∀ x, d2.a = some x → M3.length ≤ x := q2.2.2.2
  have wl : (bv (encB l1 l2)).length ≤ 1000000000000 := by rw [bv_len]; omega
  refine L.cl (apart_BK hB2 ⟨by simp, by simp⟩ (.nil _ _) (.add u1 wl (.add u2 wl (.nil _ _))) .nil (.add (fun x e hm => ?_) (.add (fun x e hm => by simp [blks] at hm) .nil)) (by simp [blks])) rfl rfl ?_
  · have hm : x ∈ blks [d2] := hm
    simp only [mem_blks, blks_nil, List.not_mem_nil, or_false] at hm
    have := z2 x hm; have := z1 x e; omega
  rintro _ N3 ⟨rfl, hk⟩
  refine ⟨nofun, ?_⟩
  have hbk : ∀ x ∈ blks ([] : List Hd) ++ blks [d1, d2], M2.length ≤ x := fun x hm => by
    simp only [blks_nil, List.nil_append, mem_blks, List.not_mem_nil, or_false] at hm
    rcases hm with hm | hm
    · exact (z1 x hm).1
    · have := z2 x hm; omega
  have hN2 : Cons M2 N3 := hk.cons0 hk25 hbk
  have hN0 : Cons M0 N3 := (hc1.trans hk2').trans hN2
  repeat (first | refine W.seq ?_ | refine W.block ?_ | refine W.reg ?_ | refine W.skip ?_ | refine W.exit ?_ | refine W.ret ?_ | refine L.nil ?_ | refine L.p rfl rfl ?_ | refine L.skip rfl ?_)
  refine L.ldA (a := ⟨r2, 0, none⟩) (key_load (hN2.row' hr2)) rfl rfl rfl ?_
  refine L.ldA (a := ⟨r0, 0, none⟩) (key_load (hN0.row' hr)) rfl rfl rfl ?_
  refine L.cl (keptKey_C _ _ b1 b2 l1 l2 N3 (hL1.cons hN2) (hL2.cons hN2) (w1.1.cons hN0) (w2.1.cons hN0) (by omega) (by omega)) rfl rfl ?_
  rintro _ N4 ⟨rfl, hc⟩
  refine ⟨nofun, ?_⟩
  repeat (first | refine W.seq ?_ | refine W.block ?_ | refine W.reg ?_ | refine W.skip ?_ | refine W.exit ?_ | refine W.ret ?_ | refine L.nil ?_ | refine L.p rfl rfl ?_ | refine L.skip rfl ?_)
  refine L.cl (works_C _) rfl rfl ?_
  rintro _ N5 ⟨rfl, hc'⟩
  refine ⟨fun _ => hc', ?_⟩
  repeat (first | refine W.seq ?_ | refine W.block ?_ | refine W.reg ?_ | refine W.skip ?_ | refine W.exit ?_ | refine W.ret ?_ | refine L.nil ?_ | refine L.p rfl rfl ?_ | refine L.skip rfl ?_)
  exact ⟨.inr rfl, _, rfl, rfl, ((hC0.trans hN0).trans hc).trans hc'⟩
end Go.Proofs.Ytccdlijohkljcaa

/- The law of there and back, walked. Conditions: none. -/
set_option linter.unusedSimpArgs false
set_option linter.unusedVariables false
set_option maxRecDepth 100000
set_option maxHeartbeats 4000000
namespace Go.Proofs.Ytccdlijohkljcaa
open Go
variable {G : Nat}

def backM (S1 Sa Sb : Mem) (u v : Value) : Nat → Mem
  | 0 => S1
  | 1 => S1
  | 2 => S1
  | 3 => Sa
  | 4 => Sa
  | 5 => Sa
  | 6 => Sb
  | 7 => Sb
  | 8 => Sb ++ [newR [nilV, nilV] 26]
  | _ => Sb ++ [keyR u v]
def backV (r : Nat) (u1 u2 u v : Value) (q : Nat) : Nat → Value
  | 0 => .pointer (some ⟨r, 0, none⟩)
  | 1 => u1
  | 2 => u
  | 3 => .pointer (some ⟨r, 1, none⟩)
  | 4 => u2
  | 5 => v
  | 6 => .agg #[u, v]
  | 7 => .pointer (some ⟨q, 0, none⟩)
  | _ => undef
theorem backM_same {S1 Sa Sb : Mem} {u v : Value} (h1 : Cons S1 Sa) (h2 : Cons Sa Sb) {b : Nat} (hb : b < S1.length) : ∀ k : Nat, (backM S1 Sa Sb u v (k + 1))[b]? = (backM S1 Sa Sb u v k)[b]?
  | 0 | 1 | 3 | 4 | 6 => rfl
  | 2 => h1 b hb
  | 5 => h2 b (Nat.lt_of_lt_of_le hb h1.len)
  | 7 => Cons.push Sb _ b (Nat.lt_of_lt_of_le (Nat.lt_of_lt_of_le hb h1.len) h2.len)
  | 8 => by
    have hb' := Nat.lt_of_lt_of_le (Nat.lt_of_lt_of_le hb h1.len) h2.len
    exact (Cons.push Sb (keyR u v) b hb').trans (Cons.push Sb (newR [nilV, nilV] 26) b hb').symm
  | k + 9 => rfl
theorem put_self (e : Env) (t : Nat) (v : Value) (h : e t = v) : e = e.put (some t) v := by
  funext k
  unfold Env.put
  dsimp only
  split
  · rename_i hk; rw [hk, h]
  · rfl
theorem apure_bd {P : Program} {dst : Option Tmp} {ty : TypeId} {pos : String} {af : Array Edge} {gd : Option (Nat × Bool)} {e : Env} {t : TypeId} {parts : Array (Nat × Operand)} {pl : List (Nat × Value)} {z : Value} (cells : Array Value) (hf : Instr.fill (buildAt P t) z.cells pl = some cells) (hp : parts.toList.map (fun p => (p.1, e.eval p.2)) = pl) (hok : buildOk P t = true) (hz : zeroOf P t = some z) :
    apure P ⟨dst, .build t parts, ty, pos, af, gd⟩ e.eval = some (.agg cells) := by
  have : apure P ⟨dst, .build t parts, ty, pos, af, gd⟩ e.eval = abuild P t (parts.map fun (i, x) => (i, e.eval x)) := rfl
  rw [this, abuild_eq hok hz, show (parts.map fun (i, x) => (i, e.eval x)).toList = pl by rw [← hp]; simp, hf]
  rfl
theorem back_region {S1 Sa Sb : Mem} {r : Nat} {u1 u2 : Value} {d1 d2 : Hd} {e : Env} {Ds : List ADef} (h3 : e 3 = .pointer (some ⟨r, 0, none⟩)) (hr : S1.row? r = some (keyR u1 u2)) (k1 : Cons S1 Sa) (k2 : Cons Sa Sb)
    (s1 : CallSim Try.prog G 31 [u1, .int .i64 64] S1 (.ret d1.v) Sa) (s2 : CallSim Try.prog G 31 [u2, .int .i64 64] Sa (.ret d2.v) Sb) :
    DV Try.prog G (Known Try.prog G) (match Try.f8.body with | some (.seq _ (.seq c _)) => c | _ => .skip) e S1 Ds
      (fun x e' S' D' => x = .nrm ∧ S' = Sb ++ [keyR d1.v d2.v] ∧ D' = Ds ∧ e' 1 = e 1 ∧ e' 2 = e 2 ∧ e' 7 = .pointer (some ⟨Sb.length, 0, none⟩)) := by
  have hlt := row_lt hr
  have hra := k1.row' hr
  rw [put_self e 3 _ h3]
  refine DV.flt (A := 7) (M := backM S1 Sa Sb d1.v d2.v) (V := backV r u1 u2 d1.v d2.v Sb.length) (z := .agg #[nilV, nilV]) (by kernel_rfl) rfl ?_ ?_ rfl (by kernel_rfl) rfl rfl ⟨rfl, rfl, rfl, rfl, rfl, rfl⟩
  · refine .cons (.pure rfl rfl rfl) ?_
    refine .cons (.load rfl (aload_st (cell_of (o := 0) hr rfl (.inl rfl)) rfl rfl) rfl) ?_
    refine .cons (.call rfl rfl s1 rfl) ?_
    refine .cons (.pure rfl rfl rfl) ?_
    refine .cons (.load rfl (aload_st (cell_of (o := 1) hra rfl (.inl rfl)) rfl rfl) rfl) ?_
    refine .cons (.call rfl rfl s2 rfl) ?_
    refine .cons (.pure rfl (apure_bd (pl := [(0, d1.v), (1, d2.v)]) (z := .agg #[nilV, nilV]) #[d1.v, d2.v] rfl rfl rfl (by kernel_rfl)) rfl) ?_
    refine .cons (.eff rfl rfl (by decide) (fun _ => Cons.push _ _)) ?_
    refine .cons (.eff rfl (aeff_st (ad := ⟨Sb.length, 0, none⟩) (vs := [d1.v, d2.v]) (key_write Sb _ _ rfl rfl) rfl rfl rfl) (by decide) nofun) ?_
    exact .nil
  · refine .cons (fun h => by cases h) ?_
    refine .cons (fun _ => ⟨Operand.tmp 21, by simp [Op.operands], r, ⟨0, rfl⟩, hlt, fun S2 h2 => aload_st (cell_of (o := 0) ((getEq_row h2).trans hr) rfl (.inl rfl)) rfl rfl, backM_same k1 k2 hlt⟩) ?_
    refine .cons (fun h => by cases h) ?_
    refine .cons (fun h => by cases h) ?_
    refine .cons (fun _ => ⟨Operand.tmp 24, by simp [Op.operands], r, ⟨1, rfl⟩, Nat.lt_of_lt_of_le hlt k1.len, fun S2 h2 => aload_st (cell_of (o := 1) ((getEq_row h2).trans hra) rfl (.inl rfl)) rfl rfl, backM_same k1 k2 hlt⟩) ?_
    refine .cons (fun h => by cases h) ?_
    refine .cons (fun h => by cases h) ?_
    refine .cons (fun h => by cases h) ?_
    refine .cons (fun h => by cases h) ?_
    exact .nil
theorem short_blen {l : WL} {n : Nat} (h : l.length ≤ n) : blen (wnum l) ≤ 64 * n := blen_le.2 (Nat.lt_of_lt_of_le (wnum_lt l) (Nat.pow_le_pow_right (by decide) (by omega)))
theorem back_C (a1 a2 : Option Addr) (c1 c2 : Nat) (l1 l2 : WL) (i : Int) (x : BitVec 8) (S : Mem) (hs1 : Slv S 1 (.slice a1 l1.length c1) l1.length (wv l1)) (hs2 : Slv S 1 (.slice a2 l2.length c2) l2.length (wv l2)) :
    C Try.prog G (Known Try.prog G) 8 [keyV (.slice a1 l1.length c1) (.slice a2 l2.length c2), .int .i64 i, v8 x] S fun v S' => v = .bool true ∧ Cons S S' := by
  refine C.known (known_def2 (Checked.mixed Try.checked) (fun _ _ _ _ _ h => h) Try.func8 rfl (by kernel_rfl) rfl ?_)
  refine DV.seq (DV.code rfl ?_)
  repeat (first | refine W.seq ?_ | refine W.block ?_ | refine W.reg ?_ | refine W.skip ?_ | refine W.exit ?_ | refine W.ret ?_ | refine L.nil ?_ | refine L.p rfl rfl ?_ | refine L.skip rfl ?_)
  refine L.eff (v := .pointer (some ⟨S.length, 0, none⟩)) (S1 := S ++ [keyR (.slice a1 l1.length c1) (.slice a2 l2.length c2)]) rfl rfl ?_
  have hC0 : Cons S (S ++ [keyR (.slice a1 l1.length c1) (.slice a2 l2.length c2)]) := Cons.push _ _
  have hr : Mem.row? (S ++ [keyR (.slice a1 l1.length c1) (.slice a2 l2.length c2)]) S.length = some (keyR (.slice a1 l1.length c1) (.slice a2 l2.length c2)) := row_push_new rfl
  generalize S ++ [keyR (.slice a1 l1.length c1) (.slice a2 l2.length c2)] = S1 at *
  obtain ⟨r0, hr0⟩ : ∃ r, r = S.length := ⟨_, rfl⟩
  rw [← hr0] at hr ⊢
  repeat (first | refine W.seq ?_ | refine W.block ?_ | refine W.reg ?_ | refine W.skip ?_ | refine W.exit ?_ | refine W.ret ?_ | refine L.nil ?_ | refine L.p rfl rfl ?_ | refine L.skip rfl ?_)
  obtain ⟨_, Sa, x1, d1, rfl, q1⟩ := some_C (G := G) (Ext := Known Try.prog G) a1 c1 l1 64 S1 (hs1.cons hC0) (by decide)
  obtain ⟨_, Sb, x2, d2, rfl, q2⟩ := some_C (G := G) (Ext := Known Try.prog G) a2 c2 l2 64 Sa ((hs2.cons hC0).cons q1.1) (by decide)
  have k1 := q1.1
  have k2 := q2.1
  refine DV.seq (DV.mono (back_region rfl hr k1 k2 (x1.sim (Checked.mixed Try.checked) (fun _ _ _ _ _ h => h)) (x2.sim (Checked.mixed Try.checked) (fun _ _ _ _ _ h => h))) ?_)
  rintro y e1 M1 D1 ⟨rfl, hM1, rfl, e_1, e_2, e_7⟩
  refine DV.code rfl ?_
  refine W.env3 e_1 e_2 e_7 ?_
  obtain ⟨m1, hm1⟩ : ∃ m, m = l1.take 64 := ⟨_, rfl⟩
  obtain ⟨m2, hm2⟩ : ∃ m, m = l2.take 64 := ⟨_, rfl⟩
  rw [← hm1] at q1
  rw [← hm2] at q2
  have g1 : m1.length ≤ 64 := by rw [hm1, List.length_take]; omega
  have g2 : m2.length ≤ 64 := by rw [hm2, List.length_take]; omega
  have hbad : ¬ encBad m1 m2 := by unfold encBad; have := short_blen g1; have := short_blen g2; omega
  have hsm1 : small m1 = true := small_of (by have := short_blen g1; omega)
  have hsm2 : small m2 = true := small_of (by have := short_blen g2; omega)
  have e1 := q1.own.2
  have e2 := q2.own.2
  rw [e1, e2] at hM1
  have hrk : M1.row? Sb.length = some (keyR (.slice d1.ad m1.length d1.c) (.slice d2.ad m2.length d2.c)) := by rw [hM1]; exact row_push_new rfl
  have kb : Cons Sb M1 := by rw [hM1]; exact Cons.push _ _
  have w1 := q1.win.cons (k2.trans kb)
  have w2 := q2.win.cons kb
  have hC1 : Cons S M1 := ((hC0.trans k1).trans k2).trans kb
  clear hM1 x1 x2 hr hs1 hs2 e_1 e_2 e_7
  obtain ⟨rk, hrk'⟩ : ∃ rk, rk = Sb.length := ⟨_, rfl⟩
  rw [← hrk'] at hrk ⊢
  repeat (first | refine W.seq ?_ | refine W.block ?_ | refine W.reg ?_ | refine W.skip ?_ | refine W.exit ?_ | refine W.ret ?_ | refine L.nil ?_ | refine L.p rfl rfl ?_ | refine L.skip rfl ?_)
  refine L.ldA (a := ⟨rk, 0, none⟩) (key_load hrk) rfl rfl rfl ?_
  refine L.cl (encode_C d1.ad d2.ad d1.c d2.c m1 m2 M1 w1 w2) rfl rfl ?_
  rintro _ M2 hR
  unfold EncR at hR
  rw [if_neg hbad] at hR
  obtain ⟨d3, rfl, q3⟩ := hR
  refine ⟨nofun, ?_⟩
  obtain ⟨E, hE⟩ : ∃ E, E = encL m1 m2 := ⟨_, rfl⟩
  rw [← hE] at q3
  have i3 := q3.2.2.1.bin q3.2.1
  have hc2 := q3.1
  rw [i3.2]
  have hEl : 0 < E.length := by
    have := congrArg List.length (enc_app m1 m2 [])
    rw [List.append_nil, ← hE] at this
    rw [this]; simp
  have hE2 : E.length ≤ 2000 := by have := encB_len m1 m2; unfold encB at this; rw [if_neg hbad] at this; rw [hE]; exact this
  repeat (first | refine W.seq ?_ | refine W.block ?_ | refine W.reg ?_ | refine W.skip ?_ | refine W.exit ?_ | refine W.ret ?_ | refine L.nil ?_ | refine L.p rfl rfl ?_ | refine L.skip rfl ?_)
  refine L.cl (decode_C d3.ad d3.c E M2 i3.1) rfl rfl ?_
  rintro _ M3 hR
  unfold KeyR at hR
  rw [show keyS E = .ok (fm m1, fm m2) by rw [hE]; exact enc_back hbad] at hR
  obtain ⟨d4, d5, rfl, q4, q5, _⟩ := hR
  refine ⟨nofun, ?_⟩
  have hc3 := q4.1
  repeat (first | refine W.seq ?_ | refine W.block ?_ | refine W.reg ?_ | refine W.skip ?_ | refine W.exit ?_ | refine W.ret ?_ | refine L.nil ?_ | refine L.p rfl rfl ?_ | refine L.skip rfl ?_)
  refine L.eff (v := .pointer (some ⟨List.length M3, 0, none⟩)) (S1 := M3 ++ [newR [nilV, nilV] 26]) rfl rfl ?_
  refine L.st (ad := ⟨List.length M3, 0, none⟩) (vs := [d4.v, d5.v]) (key_write M3 _ _ rfl rfl) rfl rfl rfl rfl ?_
  have hr4 : Mem.row? (M3 ++ [keyR d4.v d5.v]) M3.length = some (keyR d4.v d5.v) := row_push_new rfl
  have hk4 : Cons M3 (M3 ++ [keyR d4.v d5.v]) := Cons.push _ _
  generalize M3 ++ [keyR d4.v d5.v] = M4 at *
  generalize M3.length = r4 at *
  have hk14 := (hc2.trans hc3).trans hk4
  repeat (first | refine W.seq ?_ | refine W.block ?_ | refine W.reg ?_ | refine W.skip ?_ | refine W.exit ?_ | refine W.ret ?_ | refine L.nil ?_ | refine L.p rfl rfl ?_ | refine L.skip rfl ?_)
  refine L.ld (a := ⟨rk, 0, none⟩) (cell_of (o := 0) (hk14.row' hrk) rfl (.inl rfl)) rfl rfl rfl ?_
  refine L.cl (norm_C d1.ad d1.c m1 M4 (w1.cons hk14)) rfl rfl ?_
  rintro _ M5 ⟨d6, rfl, q6⟩
  refine ⟨nofun, ?_⟩
  have hc5 := q6.1
  rw [show toldE m1 = 0 by unfold toldE; rw [if_pos hsm1]]
  rw [show toldL m1 = fm m1 by unfold toldL; rw [if_pos hsm1]] at q6
  repeat (first | refine W.seq ?_ | refine W.block ?_ | refine W.reg ?_ | refine W.skip ?_ | refine W.exit ?_ | refine W.ret ?_ | refine L.nil ?_ | refine L.p rfl rfl ?_ | refine L.skip rfl ?_)
  refine L.ld (a := ⟨rk, 1, none⟩) (cell_of (o := 1) ((hk14.trans hc5).row' hrk) rfl (.inl rfl)) rfl rfl rfl ?_
  refine L.cl (norm_C d2.ad d2.c m2 M5 (w2.cons (hk14.trans hc5))) rfl rfl ?_
  rintro _ M6 ⟨d7, rfl, q7⟩
  refine ⟨nofun, ?_⟩
  have hc6 := q7.1
  rw [show toldE m2 = 0 by unfold toldE; rw [if_pos hsm2]]
  rw [show toldL m2 = fm m2 by unfold toldL; rw [if_pos hsm2]] at q7
  repeat (first | refine W.seq ?_ | refine W.block ?_ | refine W.reg ?_ | refine W.skip ?_ | refine W.exit ?_ | refine W.ret ?_ | refine L.nil ?_ | refine L.p rfl rfl ?_ | refine L.skip rfl ?_)
  have hk46 := hc5.trans hc6
  refine L.ldA (a := ⟨r4, 0, none⟩) (key_load (hk46.row' hr4)) rfl rfl rfl ?_
  repeat (first | refine W.seq ?_ | refine W.block ?_ | refine W.reg ?_ | refine W.skip ?_ | refine W.exit ?_ | refine W.ret ?_ | refine L.nil ?_ | refine L.p rfl rfl ?_ | refine L.skip rfl ?_)
  refine L.bd #[d6.v, d7.v] (pl := [(0, d6.v), (1, d7.v)]) (z := .agg #[nilV, nilV]) rfl rfl rfl (by kernel_rfl) rfl ?_
  have s4 := q4.hd (hk4.trans hk46)
  have s5 := q5.hd (hk4.trans hk46)
  have s6 := q6.hd hc6
  have s7 := q7.hd (Cons.refl _)
  refine L.cl (sameKey_C d4.ad d5.ad d6.ad d7.ad d4.n d5.n d6.n d7.n d4.c d5.c d6.c d7.c (fm m1) (fm m2) (fm m1) (fm m2) M6 s4.1 s5.1 s6.1 s7.1 s4.2 s5.2 s6.2 s7.2) rfl rfl ?_
  rintro _ M7 ⟨rfl, hc7⟩
  refine ⟨nofun, ?_⟩
  rw [keq (fm m1, fm m2)]
  repeat (first | refine W.seq ?_ | refine W.block ?_ | refine W.reg ?_ | refine W.skip ?_ | refine W.exit ?_ | refine W.ret ?_ | refine L.nil ?_ | refine L.p rfl rfl ?_ | refine L.skip rfl ?_)
  refine W.ite rfl (fun h => ?_) (fun h => ?_)
  · cases h
  clear h
  have hk27 := ((hc3.trans hk4).trans hk46).trans hc7
  have hI7 := i3.1.cons hk27
  have hC7 : Cons S M7 := (hC1.trans hc2).trans hk27
  clear s4 s5 s6 s7 q4 q5 q6 q7 w1 w2
  repeat (first | refine W.seq ?_ | refine W.block ?_ | refine W.reg ?_ | refine W.skip ?_ | refine W.exit ?_ | refine W.ret ?_ | refine L.nil ?_ | refine L.p rfl rfl ?_ | refine L.skip rfl ?_)
  refine L.cl (pick_C i E.length (by omega) M7) rfl rfl ?_
  rintro _ M7' ⟨rfl, hS⟩
  have hS := hS.symm
  subst hS
  refine ⟨nofun, ?_⟩
  obtain ⟨n, hn⟩ : ∃ n, E.length = n + 1 := ⟨E.length - 1, by omega⟩
  obtain ⟨k, hk, hkl⟩ := pick_nat i n
  rw [show pick i (E.length : Int) = (k : Int) by rw [hn]; exact hk]
  repeat (first | refine W.seq ?_ | refine W.block ?_ | refine W.reg ?_ | refine W.skip ?_ | refine W.exit ?_ | refine W.ret ?_ | refine L.nil ?_ | refine L.p rfl rfl ?_ | refine L.skip rfl ?_)
  obtain ⟨a8, c8, z1, z2⟩ := hI7.partT (k := 0) (h := k) (lo := none) (hi := some (.int .i64 (k : Int))) (.inl ⟨rfl, rfl⟩) (.inr ⟨.i64, rfl⟩) (by omega) (by omega)
  rw [List.drop_zero, Nat.sub_zero] at z1 z2
  refine L.is (.slice a8 (E.take k).length c8) ((slice_at0 rfl rfl rfl).trans z1) rfl ?_
  refine L.cl (decode_C a8 c8 (E.take k) M7 (z2 _ hI7)) rfl rfl ?_
  rintro _ M8 hR
  unfold KeyR at hR
  rw [show keyS (E.take k) = .error 70 by rw [hE]; exact enc_short hbad (by rw [← hE]; omega)] at hR
  obtain ⟨rfl, hc8⟩ := hR
  refine ⟨nofun, ?_⟩
  repeat (first | refine W.seq ?_ | refine W.block ?_ | refine W.reg ?_ | refine W.skip ?_ | refine W.exit ?_ | refine W.ret ?_ | refine L.nil ?_ | refine L.p rfl rfl ?_ | refine L.skip rfl ?_)
  refine L.eff (v := .pointer (some ⟨List.length M8, 0, none⟩)) (S1 := M8 ++ [newR [nilV, nilV] 26]) rfl rfl ?_
  refine L.st (ad := ⟨List.length M8, 0, none⟩) (vs := [nilV, nilV]) (key_write M8 _ _ rfl rfl) rfl rfl rfl rfl ?_
  have hr9 : Mem.row? (M8 ++ [keyR nilV nilV]) M8.length = some (keyR nilV nilV) := row_push_new rfl
  have hc9 := hc8.pushr (keyR nilV nilV)
  generalize M8 ++ [keyR nilV nilV] = M9 at *
  generalize M8.length = r9 at *
  have hI9 := hI7.cons hc9
  repeat (first | refine W.seq ?_ | refine W.block ?_ | refine W.reg ?_ | refine W.skip ?_ | refine W.exit ?_ | refine W.ret ?_ | refine L.nil ?_ | refine L.p rfl rfl ?_ | refine L.skip rfl ?_)
  refine L.appH rfl (HdOk.nil M9 5) rfl rfl hI9.1 (bv_one _) (by simp; omega) rfl rfl ?_
  rintro h1 N1 u1 u2 u3 u4
  repeat (first | refine W.seq ?_ | refine W.block ?_ | refine W.reg ?_ | refine W.skip ?_ | refine W.exit ?_ | refine W.ret ?_ | refine L.nil ?_ | refine L.p rfl rfl ?_ | refine L.skip rfl ?_)
  have kc2 : Cons M9 N1 := u4.nil
  have v1 : ∀ b, h1.a = some b → M9.length ≤ b := fun b e => by
    rcases u3 with ⟨u3, _⟩ | ⟨b', u3, u5⟩
    · rw [u3] at e; cases e
    · rw [u3] at e; cases e; exact u5
  have u2' : h1.n = E.length := by rw [u2]; exact Nat.zero_add _
  refine L.pushH (w := v8 x) rfl u1 rfl rfl rfl rfl rfl (by rw [u2']; omega) rfl (fun _ => rfl) ?_
  rintro p h2 N2 t1 t2 _ t4
  have kc4 : Cons M9 N2 := t4.cons0 kc2 (fun b hb => by simp at hb; exact v1 b hb)
  have hlong : bv E ++ [v8 x] = bv (E ++ [x]) := by rw [bv_app]; rfl
  rw [List.nil_append, hlong] at t1
  have hh2 := t1.bin (by simp; omega)
  repeat (first | refine W.seq ?_ | refine W.block ?_ | refine W.reg ?_ | refine W.skip ?_ | refine W.exit ?_ | refine W.ret ?_ | refine L.nil ?_ | refine L.p rfl rfl ?_ | refine L.skip rfl ?_)
  refine L.cl (decode_C h2.ad h2.c (E ++ [x]) N2 hh2.1) rfl (acall_eq (list1 hh2.2)) ?_
  rintro _ N3 hR
  unfold KeyR at hR
  rw [show keyS (E ++ [x]) = .error 74 by rw [hE, enc_more [x] hbad, if_pos (by simp)]] at hR
  obtain ⟨rfl, hc3'⟩ := hR
  refine ⟨nofun, ?_⟩
  repeat (first | refine W.seq ?_ | refine W.block ?_ | refine W.reg ?_ | refine W.skip ?_ | refine W.exit ?_ | refine W.ret ?_ | refine L.nil ?_ | refine L.p rfl rfl ?_ | refine L.skip rfl ?_)
  refine L.eff (v := .pointer (some ⟨List.length N3, 0, none⟩)) (S1 := N3 ++ [newR [nilV, nilV] 26]) rfl rfl ?_
  refine L.st (ad := ⟨List.length N3, 0, none⟩) (vs := [nilV, nilV]) (key_write N3 _ _ rfl rfl) rfl rfl rfl rfl ?_
  have hk9 := (kc4.trans hc3').pushr (keyR nilV nilV)
  generalize N3 ++ [keyR nilV nilV] = N4 at *
  generalize N3.length = r10 at *
  repeat (first | refine W.seq ?_ | refine W.block ?_ | refine W.reg ?_ | refine W.skip ?_ | refine W.exit ?_ | refine W.ret ?_ | refine L.nil ?_ | refine L.p rfl rfl ?_ | refine L.skip rfl ?_)
  refine L.ldA (a := ⟨r9, 0, none⟩) (key_load (hk9.row' hr9)) rfl rfl rfl ?_
  repeat (first | refine W.seq ?_ | refine W.block ?_ | refine W.reg ?_ | refine W.skip ?_ | refine W.exit ?_ | refine W.ret ?_ | refine L.nil ?_ | refine L.p rfl rfl ?_ | refine L.skip rfl ?_)
  refine L.bd #[nilV, nilV] (pl := []) (z := .agg #[nilV, nilV]) rfl rfl rfl (by kernel_rfl) rfl ?_
  refine L.cl (sameKey_C none none none none 0 0 0 0 0 0 0 0 [] [] [] [] N4 (Slv.nil _ _ _ _) (Slv.nil _ _ _ _) (Slv.nil _ _ _ _) (Slv.nil _ _ _ _) (by decide) (by decide) (by decide) (by decide)) rfl rfl ?_
  rintro _ N5 ⟨rfl, hc5'⟩
  refine ⟨nofun, ?_⟩
  repeat (first | refine W.seq ?_ | refine W.block ?_ | refine W.reg ?_ | refine W.skip ?_ | refine W.exit ?_ | refine W.ret ?_ | refine L.nil ?_ | refine L.p rfl rfl ?_ | refine L.skip rfl ?_)
  refine L.cl (works_C _) rfl rfl ?_
  rintro _ N6 ⟨rfl, hc6'⟩
  refine ⟨nofun, ?_⟩
  repeat (first | refine W.seq ?_ | refine W.block ?_ | refine W.reg ?_ | refine W.skip ?_ | refine W.exit ?_ | refine W.ret ?_ | refine L.nil ?_ | refine L.p rfl rfl ?_ | refine L.skip rfl ?_)
  exact ⟨.ret, _, _, rfl, .ret (v := .bool true) rfl, rfl, (((hC7.trans hc9).trans hk9).trans hc5').trans hc6'⟩
end Go.Proofs.Ytccdlijohkljcaa

/- Arguments that came in, on the abstract memory of the world in which a call begins. Conditions: none. -/
set_option linter.unusedSimpArgs false
set_option linter.unusedVariables false
namespace Go.Proofs.Ytccdlijohkljcaa
open Go

/-- a slice of whole numbers that came in: none; or it leads to a row of cap cells, the numbers zs -/
def IsRow (k : IntKind) (w : World) (a : Option Addr) (len cap : Nat) (zs : List Int) : Prop :=
  (a = none ∧ len = 0 ∧ cap = 0 ∧ zs = []) ∨
  ∃ x, a = some x ∧ len ≤ cap ∧ cap ≤ maxLen ∧ zs.length = cap ∧ (∀ i, i < zs.length → w.cell? (x.add i) = some (.int k (zs.getD i 0))) ∧ ∀ n ∈ zs, (Lit.int k n).wf = true
theorem okWide_block {P : Program} {W : World} {base : Nat} {t e : TypeId} {a : Addr} {len cap : Nat} (hu : P.underlying t = some (.slice e)) (h : Value.okWide P W .any base t (.slice (some a) len cap)) : a.block < W.heap.size := by
  unfold Value.okWide at h
  simp only [hu] at h
  unfold Cell.okWide at h
  simp only [hu] at h
  unfold Cell.ok at h
  simp only [hu] at h
  obtain ⟨_, _, _, _, row, cells, hs, _⟩ := h
  unfold World.shape? at hs
  split at hs
  · rename_i c el fz hh
    exact (Array.getElem?_eq_some_iff.1 hh).1
  · cases hs
theorem row_cap {k : IntKind} {W : World} {a : Option Addr} {len cap : Nat} {zs : List Int} (h : IsRow k W a len cap zs) : cap < UNK ∧ len ≤ cap := by
  rcases h with ⟨rfl, rfl, rfl, rfl⟩ | ⟨x, rfl, hlc, hm, hz, hcell, hwf⟩
  · exact ⟨by decide, by decide⟩
  · exact ⟨by unfold maxLen at hm; unfold UNK; omega, hlc⟩
theorem world_ints {k : IntKind} {W : World} {N : Nat} {a : Option Addr} {len cap : Nat} {zs : List Int} (h : IsRow k W a len cap zs) (hb : ∀ x, a = some x → x.block < W.heap.size + N) :
    Slv (mem0 W N) 1 (.slice a len cap) len ((zs.take len).map (Value.int k)) ∧ VR (rho0 W N) (.slice a len cap) (.slice a len cap) ∧ (zs.take len).length = len ∧ Cut len cap ∧ (∀ n ∈ zs, (Lit.int k n).wf = true) := by
  rcases h with ⟨rfl, rfl, rfl, rfl⟩ | ⟨x, rfl, hlc, hm, hz, hcell, hwf⟩
  · exact ⟨Slv.nil _ _ _ _, .slNil _ _, rfl, .inl ⟨by decide, by decide⟩, nofun⟩
  · have hcu : cap < UNK := by unfold maxLen at hm; unfold UNK; omega
    have hlen : (zs.take len).length = len := by rw [List.length_take]; omega
    refine ⟨?_, (fixed_slice (N := N) (hb x rfl) hcu).1, hlen, .inl ⟨hcu, hlc⟩, hwf⟩
    rcases Nat.eq_zero_or_pos len with rfl | hpos
    · rw [List.take_zero]; exact Slv.nil _ _ _ _
    have h0 := hcell 0 (by omega)
    have hx0 : x.add 0 = x := rfl
    rw [hx0] at h0
    unfold World.cell? at h0
    split at h0
    · rename_i c el fz hh
      split at h0
      · cases h0
      · rename_i hsp
        have hsp' : x.spot = none := by cases hxs : x.spot <;> simp_all
        obtain ⟨r, hr, hrl, hrc⟩ := mem0_live (N := N) hh
        have hxa : x = ⟨x.block, x.off, none⟩ := by cases x; simp at hsp'; subst hsp'; rfl
        have hci : ∀ i, i < cap → r.cells[x.off + i]? = some (.int k (zs.getD i 0)) := by
          intro i hi
          have h1 := hcell i (by omega)
          have hadd : x.add i = ⟨x.block, x.off + i, none⟩ := by
            unfold Addr.add
            split
            · rename_i h9; rw [h9]; exact hxa
            · rfl
          rw [hadd] at h1
          simp only [World.cell?, hh] at h1
          exact hrc _ _ (by simpa using h1) (fixed_scalar W N rfl)
        have hbound : x.off + len * 1 ≤ r.cells.length := by
          have := (List.getElem?_eq_some_iff.1 (hci (len - 1) (by omega))).1
          omega
        have hseg : (r.cells.drop x.off).take (len * 1) = (zs.take len).map (Value.int k) := by
          apply List.ext_getElem?
          intro i
          rw [List.getElem?_take, Nat.mul_one]
          split
          · rename_i hi
            rw [List.getElem?_drop, hci i (by omega), List.getElem?_map, List.getElem?_take, if_pos hi, List.getD_eq_getElem?_getD, List.getElem?_eq_getElem (by omega)]
            rfl
          · rename_i hi
            rw [List.getElem?_eq_none (by rw [List.length_map, hlen]; omega)]
        have := Slv.of (sz := 1) (n := len) (c := cap) hr hbound (.inr (by rw [hseg, List.all_map, List.all_eq_true]; intro n _; rfl))
        rw [hseg, ← hxa] at this
        exact this
    · cases h0
theorem bound_of (f : Nat → Nat) (n : Nat) : ∃ N, ∀ i, i < n → f i < N := by
  induction n with
  | zero => exact ⟨0, nofun⟩
  | succ n ih =>
    obtain ⟨N, h⟩ := ih
    refine ⟨max N (f n + 1), fun i hi => ?_⟩
    rcases Nat.lt_or_eq_of_le (Nat.le_of_lt_succ hi) with h1 | rfl
    · have := h i h1; omega
    · omega
theorem cell_row {W : World} {N : Nat} {x : Addr} {v : Value} (h : W.cell? x = some v) (hf : Fixed W N v) : x = ⟨x.block, x.off, none⟩ ∧ x.block < W.heap.size ∧ ∃ r, (mem0 W N).row? x.block = some r ∧ r.cells[x.off]? = some v := by
  unfold World.cell? at h
  split at h
  · rename_i c el fz hh
    split at h
    · cases h
    · rename_i hsp
      have hsp' : x.spot = none := by cases hxs : x.spot <;> simp_all
      obtain ⟨r, hr, hrl, hrc⟩ := mem0_live (N := N) hh
      refine ⟨by cases x; simp at hsp'; subst hsp'; rfl, (Array.getElem?_eq_some_iff.1 hh).1, r, hr, hrc _ _ (by simpa using h) hf⟩
  · cases h
end Go.Proofs.Ytccdlijohkljcaa

/- Keys that came in, on the abstract memory of the world in which a call begins. Conditions: none. -/
set_option linter.unusedSimpArgs false
set_option linter.unusedVariables false
set_option maxRecDepth 100000
namespace Go.Proofs.Ytccdlijohkljcaa
open Go Go.ChangeShapes Go.WideShapes

theorem words_in (zs : List Int) (len : Nat) (hwf : ∀ n ∈ zs, (Lit.int .u64 n).wf = true) (hl : (zs.take len).length = len) : ∃ l : WL, l.length = len ∧ wv l = (zs.take len).map (Value.int .u64) := by
  refine ⟨(zs.take len).map (BitVec.ofInt 64), by rw [List.length_map, hl], ?_⟩
  unfold wv
  rw [List.map_map]
  refine List.map_congr_left fun n hn => ?_
  have h := hwf n (List.mem_of_mem_take hn)
  have hx : 0 ≤ n ∧ n ≤ 18446744073709551615 := by simpa [Lit.wf, IntKind.min, IntKind.max, IntKind.signed, IntKind.bits] using h
  show v64 (BitVec.ofInt 64 n) = _
  rw [v64, ← wrap_u64, wrapU64 (by omega) (by omega)]
/-- a list of words that came in, in each great enough memory -/
def WordsAt (W : World) (N0 : Nat) (v : Value) (l : WL) : Prop := ∃ a c, v = .slice a l.length c ∧ l.length ≤ knownCap c ∧ (a = none → c = 0) ∧ c < UNK ∧ ∀ N, N0 ≤ N → Slv (mem0 W N) 1 (.slice a l.length c) l.length (wv l) ∧ VR (rho0 W N) (.slice a l.length c) (.slice a l.length c) ∧ ∀ x, a = some x → x.block < (mem0 W N).length
theorem words_at {W : World} {a : Option Addr} {n c : Nat} {zs : List Int} (h : IsRow .u64 W a n c zs) : ∃ N l, WordsAt W N (.slice a n c) l := by
  obtain ⟨N, hN⟩ : ∃ N, ∀ x, a = some x → x.block < W.heap.size + N := by
    cases a with
    | none => exact ⟨0, nofun⟩
    | some x => exact ⟨x.block + 1, by rintro y ⟨⟩; omega⟩
  obtain ⟨hs, hv, hl, hc, hwf⟩ := world_ints (N := N) h hN
  have hcap := row_cap h
  obtain ⟨l, rfl, hb⟩ := words_in zs n hwf hl
  refine ⟨N, l, a, c, rfl, by unfold knownCap; rw [if_pos hcap.1]; exact hcap.2, ?_, hcap.1, fun M hM => ?_⟩
  · rintro rfl
    rcases h with ⟨_, _, e, _⟩ | ⟨x, e, _⟩
    · exact e
    · cases e
  · have hM' : ∀ x, a = some x → x.block < W.heap.size + M := fun x hx => by have := hN x hx; omega
    obtain ⟨hs, hv, _⟩ := world_ints (N := M) h hM'
    rw [← hb] at hs
    exact ⟨hs, hv, fun x hx => by rw [mem0_len]; exact hM' x hx⟩
theorem VR.agg2 {ρ : Nat → Option Loc} {u v u' v' : Value} (h : VR ρ u u') (k : VR ρ v v') : VR ρ (.agg #[u, v]) (.agg #[u', v']) := .agg _ _ rfl fun i x y hx hy => by
  match i with
  | 0 => cases hx; cases hy; exact h
  | 1 => cases hx; cases hy; exact k
  | i + 2 => simp at hx
/-- a key that came in -/
def KeyAt (W : World) (N0 : Nat) (v : Value) (l1 l2 : WL) : Prop := ∃ u1 u2, v = .agg #[u1, u2] ∧ WordsAt W N0 u1 l1 ∧ WordsAt W N0 u2 l2
theorem WordsAt.mono {W : World} {N M : Nat} {v : Value} {l : WL} (h : WordsAt W N v l) (k : N ≤ M) : WordsAt W M v l :=
  let ⟨a, c, h1, h2, h3, h4, h5⟩ := h; ⟨a, c, h1, h2, h3, h4, fun K hK => h5 K (Nat.le_trans k hK)⟩
theorem words_open {H : Type} {enc : TypeId × Value → H} {W : World} {fuel : Nat} {cs : List Value} {x : DataW H × List MemPlace} (h : DataW.trod enc Try.prog W 0 (fun _ => true) true fuel 24 cs = some x) : ∃ v N l, cs = [v] ∧ WordsAt W N v l := by
  rcases open_ints Try.underlying24 Try.underlying56 (by kernel_rfl) h with ⟨hcs, _⟩ | ⟨x, l, c, zs, hcs, _, hl, hm, hz, _, hcell, hwz⟩
  · obtain ⟨N, w, hw⟩ := words_at (W := W) (a := none) (n := 0) (c := 0) (zs := []) (.inl ⟨rfl, rfl, rfl, rfl⟩)
    exact ⟨_, N, w, hcs, hw⟩
  · obtain ⟨N, w, hw⟩ := words_at (W := W) (a := some x) (n := l) (c := c) (zs := zs) (.inr ⟨_, rfl, hl, hm, by simpa using hz, hcell, hwz⟩)
    exact ⟨_, N, w, hcs, hw⟩
theorem key_world {H : Type} {enc : TypeId × Value → H} {W : World} {v : Value} {d : DataW H} {p : List MemPlace} (hw : ∃ cs, v = .agg cs ∧ cs.size = 2) (h : DataW.Trod enc Try.prog W 0 (fun _ => true) true 26 v d p) :
    ∃ N l1 l2, KeyAt W N v l1 l2 := by
  obtain ⟨cs, rfl, hcs⟩ := hw
  obtain ⟨fuel, hf⟩ := h
  obtain ⟨y0, y1, n, _, hl, h0, h1⟩ := trod_struct2 Try.underlying26 hf
  obtain ⟨u1, N1, l1, e1, k1⟩ := words_open h0
  obtain ⟨u2, N2, l2, e2, k2⟩ := words_open h1
  have c1 : Try.prog.cellsOf 24 = 1 := by kernel_rfl
  obtain ⟨x, y, rfl⟩ : ∃ x y, cs = #[x, y] := by
    obtain ⟨l⟩ := cs
    match l, hcs with
    | [x, y], _ => exact ⟨x, y, rfl⟩
  refine ⟨N1 + N2, l1, l2, x, y, rfl, ?_, ?_⟩
  · have : x = u1 := by simpa [Value.cells, c1] using e1
    rw [this]; exact k1.mono (by omega)
  · have : y = u2 := by simpa [Value.cells, c1] using e2
    rw [this]; exact k2.mono (by omega)
end Go.Proofs.Ytccdlijohkljcaa

/- The proof of the statement on there and back. Conditions: none. -/
namespace Go.Proofs.Ytccdlijohkljcaa.derBack
open Go.ChangeShapes Go.WideShapes Go.ChangeAt Go.RowKit
open Go.ChangeMaps (open_string shut_string)
set_option linter.unusedVariables false

theorem own : ownKnob Try.prog.godebug = none := by kernel_rfl
theorem laidOut : laidOutB Try.prog = true := by kernel_rfl

theorem walk (v0 : Value) (a1 : Int) (a2 : Int) (w : World) (w0 : ∃ N l1 l2, KeyAt w N v0 l1 l2) (w1 : (Lit.int .i64 a1).wf = true) (w2 : (Lit.int .u8 a2).wf = true) :
    Calls Try.prog 8 #[v0, .int .i64 a1, .int .u8 a2] w fun e w' => e = .returned (.bool true) ∧ Below w.heap.size w w' := by
  obtain ⟨N0, l0a, l0b, _, _, rfl, ⟨a0a, c0a, rfl, hk0a, hn0a, hu0a, hw0a⟩, ⟨a0b, c0b, rfl, hk0b, hn0b, hu0b, hw0b⟩⟩ := w0
  obtain ⟨N, hN⟩ : ∃ N, N = N0 := ⟨_, rfl⟩
  obtain ⟨hs0a, hv0a, hf0a⟩ := hw0a N (by omega)
  obtain ⟨hs0b, hv0b, hf0b⟩ := hw0b N (by omega)
  have hx1 : -9223372036854775808 ≤ a1 ∧ a1 ≤ 9223372036854775807 := by simpa [Lit.wf, IntKind.min, IntKind.max, IntKind.signed, IntKind.bits] using w1
  have hx2 : 0 ≤ a2 ∧ a2 ≤ 255 := by simpa [Lit.wf, IntKind.min, IntKind.max, IntKind.signed, IntKind.bits] using w2
  obtain ⟨x2, hxe2⟩ : ∃ x : BitVec 8, a2 = (x.toNat : Int) := ⟨BitVec.ofInt 8 a2, by rw [← wrap_u8, wrapU8 (by omega) (by omega)]⟩
  subst hxe2
  obtain ⟨v, S', hE, rfl, hcons⟩ := back_C (G := 0) a0a a0b c0a c0b l0a l0b a1 x2 (mem0 w N) hs0a hs0b
  refine top_true (Checked.mixed Try.checked) (fun _ _ _ _ _ h => h) (Nat.zero_le _) (fun a ha => ?_) hE hcons
  simp only [List.mem_cons, List.not_mem_nil, or_false] at ha
  rcases ha with rfl | rfl | rfl
  · exact VR.agg2 hv0a hv0b
  · exact scalar_VR _ rfl
  · exact scalar_VR _ rfl

set_option maxRecDepth 100000 in
theorem lifted (os : Os) (started : os.Started) (H : Type) (enc : TypeId × Value → H) :
    ReturnsInHanded {} Try.checked os 8 .any (Rows.derBackSpec.pre6 enc Try.prog Try.f8 Rows.derBackRow.domain false) (Rows.derBackSpec.post enc Try.prog Try.f8 false true false false) := by
  refine returnsInHanded_of_change (C := Try.checked) own started (by kernel_rfl) Try.func8
    (ChangeSpec.witness6 (enc := enc) (C := Try.checked) false ⟨#[], #[.agg #[.slice none 0 0, .slice none 0 0], .int .i64 0, .int .u8 0], []⟩ 8 (by kernel_rfl) (by kernel_rfl) (by kernel_rfl) (by kernel_rfl)) ?_
  intro W base args ds gs before hval0 hW hcnd _
  have hval : ∀ (j : Nat) t v, Try.f8.params[j]? = some t → args[j]? = some v → Value.okWide Try.prog W .any base t v := hval0
  have hW' := hW
  obtain ⟨p, q, hA0, hV, rfl, hfz, hnd⟩ := hW
  have hA : DataW.TrodAll enc Try.prog W 0 (fun _ => true) true Try.f8.params.toList args.toList ds p := hA0
  rw [Try.params8] at hA hval
  obtain ⟨v0, vs0, d0, ds0, p0, q0, hargs, rfl, rfl, h0, r0⟩ := trodAll_cons hA
  obtain ⟨v1, vs1, d1, ds1, p1, q1, rfl, rfl, rfl, h1, r1⟩ := trodAll_cons r0
  obtain ⟨v2, vs2, d2, ds2, p2, q2, rfl, rfl, rfl, h2, r2⟩ := trodAll_cons r1
  obtain ⟨rfl, rfl, rfl⟩ := trodAll_nil r2
  obtain rfl : args = #[v0, v1, v2] := by cases args; simp_all
  obtain ⟨rfl, rfl⟩ := trodVars_none hV
  have lt0 : ∀ x ∈ p0, x.block < W.heap.size := by obtain ⟨m, hm⟩ := h0; exact DataW.trod_lt m _ _ _ hm
  obtain ⟨a1, rfl, rfl, rfl, w1⟩ := open_int Try.underlying3 (hval 1 3 v1 rfl rfl) h1
  obtain ⟨a2, rfl, rfl, rfl, w2⟩ := open_int Try.underlying5 (hval 2 5 v2 rfl rfl) h2
  clear hA0 hval0
  refine (walk v0 a1 a2 W (key_world (okWide_struct Try.underlying26 (hval 0 26 v0 rfl rfl)) h0) w1 w2).mono fun e W' ⟨he, bel⟩ => ?_
  subst he
  exact ⟨_, rfl, _, _, _, [], _, [], hW', trodAll_mk1 (shut_bool Try.underlying4 _), (trodAll_cons_mk (Below.trod laidOut (by kernel_rfl) (of_decide_eq_true (by kernel_rfl)) h0 bel lt0) (trodAll_cons_mk (shut_int Try.underlying3 w1) (trodAll_cons_mk (shut_int Try.underlying5 w2) trodAll_mk0))), rfl, bel.frame _, fun h => by cases h⟩

theorem over : Rows.derBackRow.holds Try.pinned (OpenSpec.ofChange Rows.derBackSpec) :=
  OpenClaim.holds_of_wide 8 Try.f8 rfl rfl rfl rfl rfl rfl rfl ⟨rfl, rfl, rfl, rfl, rfl⟩ rfl rfl rfl rfl rfl (by kernel_rfl) Try.func8 (by kernel_rfl)
    (of_decide_eq_true (by kernel_rfl)) (by unfold Func.isWrapper; first | (rw [if_pos (by decide +kernel)]; kernel_rfl) | (rw [if_neg (by decide +kernel)]; exact ⟨rfl, rfl⟩))
    (fun os started H enc _ => lifted os started H enc)

theorem proved : Rows.DerBackSaid := over
end Go.Proofs.Ytccdlijohkljcaa.derBack
