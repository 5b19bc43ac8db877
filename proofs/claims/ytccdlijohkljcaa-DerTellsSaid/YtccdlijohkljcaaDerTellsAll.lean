/- The proof of the statement on telling a key. Conditions: none. -/
import Derived.Test.YtccdlijohkljcaaLibE
import Derived.WalkKit
import Derived.ProofKit
import Derived.OpenShut
import Derived.ShutString
import Derived.ChangeOld
import Derived.Below
import Derived.ChangeSame
import Derived.Test.YtccdlijohkljcaaRows

/- The law of telling, walked. Conditions: none. -/
set_option linter.unusedSimpArgs false
set_option linter.unusedVariables false
set_option maxRecDepth 100000
set_option maxHeartbeats 4000000
namespace Go.Proofs.Ytccdlijohkljcaa
open Go
variable {G : Nat}

/-- what is told, where an error tells nothing -/
def encB (l1 l2 : WL) : BL := if encBad l1 l2 then [] else encL l1 l2
def encE (l1 l2 : WL) : Int := if encBad l1 l2 then 3 else 0
theorem laid_le (t : BitVec 8) (l : BL) (h : l.length < 1099511627776) : (laidS t l).length ≤ l.length + 7 := by
  rw [laidS_eq]
  have := lenB_len h
  simp only [List.length_cons, List.length_append]; omega
theorem encB_len (l1 l2 : WL) : (encB l1 l2).length ≤ 2000 := by
  unfold encB
  split
  · exact Nat.zero_le _
  · rename_i h
    simp only [encBad, not_or] at h
    have h1 := (cont_len h.1).2
    have h2 := (cont_len h.2).2
    have h3 := laid_le 2#8 (contS l1) (by omega)
    have h4 := laid_le 2#8 (contS l2) (by omega)
    have h5 := laid_le 48#8 (laidS 2#8 (contS l1) ++ laidS 2#8 (contS l2)) (by rw [List.length_append]; omega)
    rw [List.length_append] at h5
    unfold encL; omega
theorem EncR.two {S S' : Mem} {l1 l2 : WL} {v : Value} (h : EncR S l1 l2 v S') : ∃ d : Hd, v = .tuple #[d.v, .int .i64 (encE l1 l2)] ∧ RetB S S' d (encB l1 l2) := by
  unfold EncR at h
  unfold encE encB
  split at h
  · rename_i hb
    obtain ⟨rfl, hc⟩ := h
    rw [if_pos hb, if_pos hb]
    exact ⟨Hd0, rfl, RetB.nil hc⟩
  · rename_i hb
    rw [if_neg hb, if_neg hb]
    exact h
theorem RefEnc.two {S S' : Mem} {l1 l2 : WL} {v : Value} (h : RefEnc S l1 l2 v S') : ∃ a c, v = .tuple #[.slice a (encB l1 l2).length c, .int .i64 (encE l1 l2)] ∧ Cons S S' ∧ Slv S' 1 (.slice a (encB l1 l2).length c) (encB l1 l2).length (bv (encB l1 l2)) := by
  unfold RefEnc at h
  unfold encE encB
  split at h
  · rename_i hb
    obtain ⟨rfl, hc⟩ := h
    rw [if_pos hb, if_pos hb]
    exact ⟨none, 0, rfl, hc, rfl, _, _, rfl, .inl rfl⟩
  · rename_i hb
    rw [if_neg hb, if_neg hb]
    obtain ⟨a, c, rfl, hc, hI⟩ := h
    exact ⟨a, c, rfl, hc, hI.1⟩
theorem RetB.hd {S S' T : Mem} {d : Hd} {l : BL} (h : RetB S S' d l) (k : Cons S' T) : Slv T 1 (.slice d.ad d.n d.c) d.n (bv l) ∧ d.n < 1099511627776 := by
  have hh := h.2.2.1.cons k
  have hn := hh.len
  rw [bv_len] at hn
  exact ⟨hh.slv, hn ▸ h.2.1⟩
theorem LentW.win {S : Mem} {b : Nat} {l : WL} (h : LentW S b l) (hl : l.length < 1099511627776) : WIn S (some ⟨b, 0, none⟩) (UNK + (l.length + 16)) l :=
  ⟨h.slv, by rw [knownCap_unk]; omega, nofun, hl⟩
theorem LentW.cons {S T : Mem} {b : Nat} {l : WL} (h : LentW S b l) (k : Cons S T) : LentW T b l := k.row' h
theorem tells_C (a1 a2 : Option Addr) (c1 c2 : Nat) (l1 l2 : WL) (S : Mem) (hs1 : Slv S 1 (.slice a1 l1.length c1) l1.length (wv l1)) (hs2 : Slv S 1 (.slice a2 l2.length c2) l2.length (wv l2))
    (hk1 : l1.length ≤ knownCap c1) (hk2 : l2.length ≤ knownCap c2) (hn1 : a1 = none → c1 = 0) (hn2 : a2 = none → c2 = 0) :
    C Try.prog G (Known Try.prog G) 4 [keyV (.slice a1 l1.length c1) (.slice a2 l2.length c2)] S fun v S' => v = .bool true ∧ Cons S S' := by
  refine C.fn Try.func4 rfl (by kernel_rfl) rfl ?_
  repeat (first | refine W.seq ?_ | refine W.block ?_ | refine W.reg ?_ | refine W.skip ?_ | refine W.exit ?_ | refine W.ret ?_ | refine L.nil ?_ | refine L.p rfl rfl ?_ | refine L.skip rfl ?_)
  refine L.eff (v := .pointer (some ⟨S.length, 0, none⟩)) (S1 := S ++ [keyR (.slice a1 l1.length c1) (.slice a2 l2.length c2)]) rfl rfl ?_
  have hC0 : Cons S (S ++ [keyR (.slice a1 l1.length c1) (.slice a2 l2.length c2)]) := Cons.push _ _
  have hr : Mem.row? (S ++ [keyR (.slice a1 l1.length c1) (.slice a2 l2.length c2)]) S.length = some (keyR (.slice a1 l1.length c1) (.slice a2 l2.length c2)) := row_push_new rfl
  generalize S ++ [keyR (.slice a1 l1.length c1) (.slice a2 l2.length c2)] = M0 at *
  obtain ⟨r0, hr0⟩ : ∃ r, r = S.length := ⟨_, rfl⟩
  rw [← hr0] at hr ⊢
  repeat (first | refine W.seq ?_ | refine W.block ?_ | refine W.reg ?_ | refine W.skip ?_ | refine W.exit ?_ | refine W.ret ?_ | refine L.nil ?_ | refine L.p rfl rfl ?_ | refine L.skip rfl ?_)
  refine L.ld (a := ⟨r0, 0, none⟩) (cell_of (o := 0) hr rfl (.inl rfl)) rfl rfl rfl ?_
  repeat (first | refine W.seq ?_ | refine W.block ?_ | refine W.reg ?_ | refine W.skip ?_ | refine W.exit ?_ | refine W.ret ?_ | refine L.nil ?_ | refine L.p rfl rfl ?_ | refine L.skip rfl ?_)
  cases hq : decide ((l1.length : Int) > 200)
  rotate_left
  · repeat (first | refine W.seq ?_ | refine W.block ?_ | refine W.reg ?_ | refine W.skip ?_ | refine W.exit ?_ | refine W.ret ?_ | refine L.nil ?_ | refine L.p rfl rfl ?_ | refine L.skip rfl ?_)
    refine W.ite rfl (fun h => ?_) (fun h => ?_)
    rotate_left
    · cases h
    repeat (first | refine W.seq ?_ | refine W.block ?_ | refine W.reg ?_ | refine W.skip ?_ | refine W.exit ?_ | refine W.ret ?_ | refine L.nil ?_ | refine L.p rfl rfl ?_ | refine L.skip rfl ?_)
    exact ⟨.inr rfl, _, rfl, rfl, hC0⟩
  have hl1 : l1.length ≤ 200 := by have := of_decide_eq_false hq; omega
  clear hq
  repeat (first | refine W.seq ?_ | refine W.block ?_ | refine W.reg ?_ | refine W.skip ?_ | refine W.exit ?_ | refine W.ret ?_ | refine L.nil ?_ | refine L.p rfl rfl ?_ | refine L.skip rfl ?_)
  refine L.ld (a := ⟨r0, 1, none⟩) (cell_of (o := 1) hr rfl (.inl rfl)) rfl rfl rfl ?_
  repeat (first | refine W.seq ?_ | refine W.block ?_ | refine W.reg ?_ | refine W.skip ?_ | refine W.exit ?_ | refine W.ret ?_ | refine L.nil ?_ | refine L.p rfl rfl ?_ | refine L.skip rfl ?_)
  refine W.ite rfl (fun h => ?_) (fun h => ?_)
  · repeat (first | refine W.seq ?_ | refine W.block ?_ | refine W.reg ?_ | refine W.skip ?_ | refine W.exit ?_ | refine W.ret ?_ | refine L.nil ?_ | refine L.p rfl rfl ?_ | refine L.skip rfl ?_)
    exact ⟨.inr rfl, _, rfl, rfl, hC0⟩
  have hl2 : l2.length ≤ 200 := by have := of_decide_eq_false h; omega
  clear h
  have w1 : WIn M0 a1 c1 l1 := ⟨hs1.cons hC0, hk1, hn1, by omega⟩
  have w2 : WIn M0 a2 c2 l2 := ⟨hs2.cons hC0, hk2, hn2, by omega⟩
  repeat (first | refine W.seq ?_ | refine W.block ?_ | refine W.reg ?_ | refine W.skip ?_ | refine W.exit ?_ | refine W.ret ?_ | refine L.nil ?_ | refine L.p rfl rfl ?_ | refine L.skip rfl ?_)
  refine L.ldA (a := ⟨r0, 0, none⟩) (key_load hr) rfl rfl rfl ?_
  refine L.cl (lentKey_C _ _ l1 l2 M0 w1.1 w2.1 (by omega) (by omega)) rfl rfl ?_
  rintro _ M1 ⟨hc1, b1, b2, rfl, hb1, hb2, hb12, hL1, hL2⟩
  refine ⟨nofun, ?_⟩
  repeat (first | refine W.seq ?_ | refine W.block ?_ | refine W.reg ?_ | refine W.skip ?_ | refine W.exit ?_ | refine W.ret ?_ | refine L.nil ?_ | refine L.p rfl rfl ?_ | refine L.skip rfl ?_)
  refine L.eff (v := .pointer (some ⟨M1.length, 0, none⟩)) (S1 := M1 ++ [newR [nilV, nilV] 26]) rfl rfl ?_
  refine L.st (ad := ⟨M1.length, 0, none⟩) (vs := [lentV b1 l1, lentV b2 l2]) (key_write M1 _ _ rfl rfl) rfl rfl rfl rfl ?_
  have hr2 : Mem.row? (M1 ++ [keyR (lentV b1 l1) (lentV b2 l2)]) M1.length = some (keyR (lentV b1 l1) (lentV b2 l2)) := row_push_new rfl
  have hk2' : Cons M1 (M1 ++ [keyR (lentV b1 l1) (lentV b2 l2)]) := Cons.push _ _
  generalize M1 ++ [keyR (lentV b1 l1) (lentV b2 l2)] = M2 at *
  obtain ⟨r2, hr2'⟩ : ∃ r, r = M1.length := ⟨_, rfl⟩
  rw [← hr2'] at hr2 ⊢
  have hL1 := hL1.cons hk2'
  have hL2 := hL2.cons hk2'
  have hb1l := row_lt hL1
  have hb2l := row_lt hL2
  repeat (first | refine W.seq ?_ | refine W.block ?_ | refine W.reg ?_ | refine W.skip ?_ | refine W.exit ?_ | refine W.ret ?_ | refine L.nil ?_ | refine L.p rfl rfl ?_ | refine L.skip rfl ?_)
  refine L.ldA (a := ⟨r2, 0, none⟩) (key_load hr2) rfl rfl rfl ?_
  refine L.cl (encode_C _ _ _ _ l1 l2 M2 (hL1.win (by omega)) (hL2.win (by omega))) rfl rfl ?_
  rintro _ M3 hR
  obtain ⟨d1, rfl, q1⟩ := hR.two
  refine ⟨nofun, ?_⟩
  have hc3 := q1.1
  repeat (first | refine W.seq ?_ | refine W.block ?_ | refine W.reg ?_ | refine W.skip ?_ | refine W.exit ?_ | refine W.ret ?_ | refine L.nil ?_ | refine L.p rfl rfl ?_ | refine L.skip rfl ?_)
  refine L.ldA (a := ⟨r2, 0, none⟩) (key_load (hc3.row' hr2)) rfl rfl rfl ?_
  refine L.cl (encode_C _ _ _ _ l1 l2 M3 ((hL1.cons hc3).win (by omega)) ((hL2.cons hc3).win (by omega))) rfl rfl ?_
  rintro _ M4 hR
  obtain ⟨d2, rfl, q2⟩ := hR.two
  refine ⟨nofun, ?_⟩
  have hc4 := q2.1
  have hc04 := ((hc1.trans hk2').trans hc3).trans hc4
  repeat (first | refine W.seq ?_ | refine W.block ?_ | refine W.reg ?_ | refine W.skip ?_ | refine W.exit ?_ | refine W.ret ?_ | refine L.nil ?_ | refine L.p rfl rfl ?_ | refine L.skip rfl ?_)
  refine L.ldA (a := ⟨r0, 0, none⟩) (key_load (hc04.row' hr)) rfl rfl rfl ?_
  refine L.cl (refEncode_C a1 a2 c1 c2 l1 l2 M4 (w1.cons hc04) (w2.cons hc04) (by omega) (by omega)) rfl rfl ?_
  rintro _ M5 hR
  obtain ⟨a5, c5, rfl, hc5, s5⟩ := hR.two
  refine ⟨nofun, ?_⟩
  have hel := encB_len l1 l2
  repeat (first | refine W.seq ?_ | refine W.block ?_ | refine W.reg ?_ | refine W.skip ?_ | refine W.exit ?_ | refine W.ret ?_ | refine L.nil ?_ | refine L.p rfl rfl ?_ | refine L.skip rfl ?_)
  rw [show (encE l1 l2 != encE l1 l2) = false from bne_self_eq_false _]
  repeat (first | refine W.seq ?_ | refine W.block ?_ | refine W.reg ?_ | refine W.skip ?_ | refine W.exit ?_ | refine W.ret ?_ | refine L.nil ?_ | refine L.p rfl rfl ?_ | refine L.skip rfl ?_)
  rw [show (encE l1 l2 != encE l1 l2) = false from bne_self_eq_false _]
  repeat (first | refine W.seq ?_ | refine W.block ?_ | refine W.reg ?_ | refine W.skip ?_ | refine W.exit ?_ | refine W.ret ?_ | refine L.nil ?_ | refine L.p rfl rfl ?_ | refine L.skip rfl ?_)
  have t1 := q1.hd (hc4.trans hc5)
  have t2 := q2.hd hc5
  refine L.cl (same_C _ _ (encB l1 l2) (encB l1 l2) d1.n _ M5 t1.1 s5 t1.2 (by omega)) rfl rfl ?_
  rintro _ _ ⟨rfl, rfl⟩
  refine ⟨nofun, ?_⟩
  rw [show (encB l1 l2 == encB l1 l2) = true from beq_self_eq_true _]
  repeat (first | refine W.seq ?_ | refine W.block ?_ | refine W.reg ?_ | refine W.skip ?_ | refine W.exit ?_ | refine W.ret ?_ | refine L.nil ?_ | refine L.p rfl rfl ?_ | refine L.skip rfl ?_)
  refine L.cl (same_C _ _ (encB l1 l2) (encB l1 l2) d2.n _ _ t2.1 s5 t2.2 (by omega)) rfl rfl ?_
  rintro _ _ ⟨rfl, rfl⟩
  refine ⟨nofun, ?_⟩
  rw [show (encB l1 l2 == encB l1 l2) = true from beq_self_eq_true _]
  repeat (first | refine W.seq ?_ | refine W.block ?_ | refine W.reg ?_ | refine W.skip ?_ | refine W.exit ?_ | refine W.ret ?_ | refine L.nil ?_ | refine L.p rfl rfl ?_ | refine L.skip rfl ?_)
  refine W.ite rfl (fun h => ?_) (fun h => ?_)
  · cases h
  clear h
  rename_i M5
  have hk25 := (hc3.trans hc4).trans hc5
  have hk05 := hc04.trans hc5
  have hk15 := hk2'.trans hk25
  have hl3 := hc3.len
  repeat (first | refine W.seq ?_ | refine W.block ?_ | refine W.reg ?_ | refine W.skip ?_ | refine W.exit ?_ | refine W.ret ?_ | refine L.nil ?_ | refine L.p rfl rfl ?_ | refine L.skip rfl ?_)
  refine L.eff (v := .pointer (some ⟨M5.length, 0, none⟩)) (S1 := M5 ++ [newR [.slice none 0 0, .slice none 0 0] 34]) rfl rfl ?_
  have hB0 := BK.new M5
  generalize M5 ++ [newR [.slice none 0 0, .slice none 0 0] 34] = N0 at *
  obtain ⟨rb, hrb⟩ : ∃ rb, rb = M5.length := ⟨_, rfl⟩
  rw [← hrb] at hB0 ⊢
  repeat (first | refine W.seq ?_ | refine W.block ?_ | refine W.reg ?_ | refine W.skip ?_ | refine W.exit ?_ | refine W.ret ?_ | refine L.nil ?_ | refine L.p rfl rfl ?_ | refine L.skip rfl ?_)
  refine L.cl (bytes_BK d1 hB0 (by decide)) rfl rfl ?_
  rintro _ N1 hB1
  refine ⟨nofun, ?_⟩
  repeat (first | refine W.seq ?_ | refine W.block ?_ | refine W.reg ?_ | refine W.skip ?_ | refine W.exit ?_ | refine W.ret ?_ | refine L.nil ?_ | refine L.p rfl rfl ?_ | refine L.skip rfl ?_)
  refine L.cl (bytes_BK d2 hB1 (by simp)) rfl rfl ?_
  rintro _ N2 hB2
  refine ⟨nofun, ?_⟩
  repeat (first | refine W.seq ?_ | refine W.block ?_ | refine W.reg ?_ | refine W.skip ?_ | refine W.exit ?_ | refine W.ret ?_ | refine L.nil ?_ | refine L.p rfl rfl ?_ | refine L.skip rfl ?_)
  have u1 := q1.2.2.1.cons (hc4.trans hc5)
  have u2 := q2.2.2.1.cons hc5
  have z1 : ∀ x, d1.a = some x → M2.length ≤ x ∧ x < M3.length := fun x e => ⟨q1.2.2.2 x e, q1.2.2.1.lt e⟩
  have z2 : ∀ x, d2.a = some x → M3.length ≤ x := q2.2.2.2
  have wl : (bv (encB l1 l2)).length ≤ 1000000000000 := by rw [bv_len]; omega
  refine L.cl (apart_BK hB2 ⟨by simp, by simp⟩ (.nil _ _) (.add u1 wl (.add u2 wl (.nil _ _))) .nil (.add (fun x e hm => ?_) (.add (fun x e hm => by simp [blks] at hm) .nil)) (by simp [blks])) rfl rfl ?_
  · have hm : x ∈ blks [d2] := hm
    simp only [mem_blks, blks_nil, List.not_mem_nil, or_false] at hm
    have := z2 x hm; have := z1 x e; omega
  rintro _ N3 ⟨rfl, hk⟩
  refine ⟨nofun, ?_⟩
  have hbk : ∀ x ∈ blks ([] : List Hd) ++ blks [d1, d2], M2.length ≤ x := fun x hm => by
    simp only [blks_nil, List.nil_append, mem_blks, List.not_mem_nil, or_false] at hm
    rcases hm with hm | hm
    · exact (z1 x hm).1
    · have := z2 x hm; omega
  have hN2 : Cons M2 N3 := hk.cons0 hk25 hbk
  have hN0 : Cons M0 N3 := (hc1.trans hk2').trans hN2
  repeat (first | refine W.seq ?_ | refine W.block ?_ | refine W.reg ?_ | refine W.skip ?_ | refine W.exit ?_ | refine W.ret ?_ | refine L.nil ?_ | refine L.p rfl rfl ?_ | refine L.skip rfl ?_)
  refine L.ldA (a := ⟨r2, 0, none⟩) (key_load (hN2.row' hr2)) rfl rfl rfl ?_
  refine L.ldA (a := ⟨r0, 0, none⟩) (key_load (hN0.row' hr)) rfl rfl rfl ?_
  refine L.cl (keptKey_C _ _ b1 b2 l1 l2 N3 (hL1.cons hN2) (hL2.cons hN2) (w1.1.cons hN0) (w2.1.cons hN0) (by omega) (by omega)) rfl rfl ?_
  rintro _ N4 ⟨rfl, hc⟩
  refine ⟨nofun, ?_⟩
  repeat (first | refine W.seq ?_ | refine W.block ?_ | refine W.reg ?_ | refine W.skip ?_ | refine W.exit ?_ | refine W.ret ?_ | refine L.nil ?_ | refine L.p rfl rfl ?_ | refine L.skip rfl ?_)
  refine L.cl (works_C _) rfl rfl ?_
  rintro _ N5 ⟨rfl, hc'⟩
  refine ⟨fun _ => hc', ?_⟩
  repeat (first | refine W.seq ?_ | refine W.block ?_ | refine W.reg ?_ | refine W.skip ?_ | refine W.exit ?_ | refine W.ret ?_ | refine L.nil ?_ | refine L.p rfl rfl ?_ | refine L.skip rfl ?_)
  exact ⟨.inr rfl, _, rfl, rfl, ((hC0.trans hN0).trans hc).trans hc'⟩
end Go.Proofs.Ytccdlijohkljcaa

/- Arguments that came in, on the abstract memory of the world in which a call begins. Conditions: none. -/
set_option linter.unusedSimpArgs false
set_option linter.unusedVariables false
namespace Go.Proofs.Ytccdlijohkljcaa
open Go

/-- a slice of whole numbers that came in: none; or it leads to a row of cap cells, the numbers zs -/
def IsRow (k : IntKind) (w : World) (a : Option Addr) (len cap : Nat) (zs : List Int) : Prop :=
  (a = none ∧ len = 0 ∧ cap = 0 ∧ zs = []) ∨
  ∃ x, a = some x ∧ len ≤ cap ∧ cap ≤ maxLen ∧ zs.length = cap ∧ (∀ i, i < zs.length → w.cell? (x.add i) = some (.int k (zs.getD i 0))) ∧ ∀ n ∈ zs, (Lit.int k n).wf = true
theorem okWide_block {P : Program} {W : World} {base : Nat} {t e : TypeId} {a : Addr} {len cap : Nat} (hu : P.underlying t = some (.slice e)) (h : Value.okWide P W .any base t (.slice (some a) len cap)) : a.block < W.heap.size := by
  unfold Value.okWide at h
  simp only [hu] at h
  unfold Cell.okWide at h
  simp only [hu] at h
  unfold Cell.ok at h
  simp only [hu] at h
  obtain ⟨_, _, _, _, row, cells, hs, _⟩ := h
  unfold World.shape? at hs
  split at hs
  · rename_i c el fz hh
    exact (Array.getElem?_eq_some_iff.1 hh).1
  · cases hs
theorem row_cap {k : IntKind} {W : World} {a : Option Addr} {len cap : Nat} {zs : List Int} (h : IsRow k W a len cap zs) : cap < UNK ∧ len ≤ cap := by
  rcases h with ⟨rfl, rfl, rfl, rfl⟩ | ⟨x, rfl, hlc, hm, hz, hcell, hwf⟩
  · exact ⟨by decide, by decide⟩
  · exact ⟨by unfold maxLen at hm; unfold UNK; omega, hlc⟩
theorem world_ints {k : IntKind} {W : World} {N : Nat} {a : Option Addr} {len cap : Nat} {zs : List Int} (h : IsRow k W a len cap zs) (hb : ∀ x, a = some x → x.block < W.heap.size + N) :
    Slv (mem0 W N) 1 (.slice a len cap) len ((zs.take len).map (Value.int k)) ∧ VR (rho0 W N) (.slice a len cap) (.slice a len cap) ∧ (zs.take len).length = len ∧ Cut len cap ∧ (∀ n ∈ zs, (Lit.int k n).wf = true) := by
  rcases h with ⟨rfl, rfl, rfl, rfl⟩ | ⟨x, rfl, hlc, hm, hz, hcell, hwf⟩
  · exact ⟨Slv.nil _ _ _ _, .slNil _ _, rfl, .inl ⟨by decide, by decide⟩, nofun⟩
  · have hcu : cap < UNK := by unfold maxLen at hm; unfold UNK; omega
    have hlen : (zs.take len).length = len := by rw [List.length_take]; omega
    refine ⟨?_, (fixed_slice (N := N) (hb x rfl) hcu).1, hlen, .inl ⟨hcu, hlc⟩, hwf⟩
    rcases Nat.eq_zero_or_pos len with rfl | hpos
    · rw [List.take_zero]; exact Slv.nil _ _ _ _
    have h0 := hcell 0 (by omega)
    have hx0 : x.add 0 = x := rfl
    rw [hx0] at h0
    unfold World.cell? at h0
    split at h0
    · rename_i c el fz hh
      split at h0
      · cases h0
      · rename_i hsp
        have hsp' : x.spot = none := by cases hxs : x.spot <;> simp_all
        obtain ⟨r, hr, hrl, hrc⟩ := mem0_live (N := N) hh
        have hxa : x = ⟨x.block, x.off, none⟩ := by cases x; simp at hsp'; subst hsp'; rfl
        have hci : ∀ i, i < cap → r.cells[x.off + i]? = some (.int k (zs.getD i 0)) := by
          intro i hi
          have h1 := hcell i (by omega)
          have hadd : x.add i = ⟨x.block, x.off + i, none⟩ := by
            unfold Addr.add
            split
            · rename_i h9; rw [h9]; exact hxa
            · rfl
          rw [hadd] at h1
          simp only [World.cell?, hh] at h1
          exact hrc _ _ (by simpa using h1) (fixed_scalar W N rfl)
        have hbound : x.off + len * 1 ≤ r.cells.length := by
          have := (List.getElem?_eq_some_iff.1 (hci (len - 1) (by omega))).1
          omega
        have hseg : (r.cells.drop x.off).take (len * 1) = (zs.take len).map (Value.int k) := by
          apply List.ext_getElem?
          intro i
          rw [List.getElem?_take, Nat.mul_one]
          split
          · rename_i hi
            rw [List.getElem?_drop, hci i (by omega), List.getElem?_map, List.getElem?_take, if_pos hi, List.getD_eq_getElem?_getD, List.getElem?_eq_getElem (by omega)]
            rfl
          · rename_i hi
            rw [List.getElem?_eq_none (by rw [List.length_map, hlen]; omega)]
        have := Slv.of (sz := 1) (n := len) (c := cap) hr hbound (.inr (by rw [hseg, List.all_map, List.all_eq_true]; intro n _; rfl))
        rw [hseg, ← hxa] at this
        exact this
    · cases h0
theorem bound_of (f : Nat → Nat) (n : Nat) : ∃ N, ∀ i, i < n → f i < N := by
  induction n with
  | zero => exact ⟨0, nofun⟩
  | succ n ih =>
    obtain ⟨N, h⟩ := ih
    refine ⟨max N (f n + 1), fun i hi => ?_⟩
    rcases Nat.lt_or_eq_of_le (Nat.le_of_lt_succ hi) with h1 | rfl
    · have := h i h1; omega
    · omega
theorem cell_row {W : World} {N : Nat} {x : Addr} {v : Value} (h : W.cell? x = some v) (hf : Fixed W N v) : x = ⟨x.block, x.off, none⟩ ∧ x.block < W.heap.size ∧ ∃ r, (mem0 W N).row? x.block = some r ∧ r.cells[x.off]? = some v := by
  unfold World.cell? at h
  split at h
  · rename_i c el fz hh
    split at h
    · cases h
    · rename_i hsp
      have hsp' : x.spot = none := by cases hxs : x.spot <;> simp_all
      obtain ⟨r, hr, hrl, hrc⟩ := mem0_live (N := N) hh
      refine ⟨by cases x; simp at hsp'; subst hsp'; rfl, (Array.getElem?_eq_some_iff.1 hh).1, r, hr, hrc _ _ (by simpa using h) hf⟩
  · cases h
end Go.Proofs.Ytccdlijohkljcaa

/- Keys that came in, on the abstract memory of the world in which a call begins. Conditions: none. -/
set_option linter.unusedSimpArgs false
set_option linter.unusedVariables false
set_option maxRecDepth 100000
namespace Go.Proofs.Ytccdlijohkljcaa
open Go Go.ChangeShapes Go.WideShapes

theorem words_in (zs : List Int) (len : Nat) (hwf : ∀ n ∈ zs, (Lit.int .u64 n).wf = true) (hl : (zs.take len).length = len) : ∃ l : WL, l.length = len ∧ wv l = (zs.take len).map (Value.int .u64) := by
  refine ⟨(zs.take len).map (BitVec.ofInt 64), by rw [List.length_map, hl], ?_⟩
  unfold wv
  rw [List.map_map]
  refine List.map_congr_left fun n hn => ?_
  have h := hwf n (List.mem_of_mem_take hn)
  have hx : 0 ≤ n ∧ n ≤ 18446744073709551615 := by simpa [Lit.wf, IntKind.min, IntKind.max, IntKind.signed, IntKind.bits] using h
  show v64 (BitVec.ofInt 64 n) = _
  rw [v64, ← wrap_u64, wrapU64 (by omega) (by omega)]
/-- a list of words that came in, in each great enough memory -/
def WordsAt (W : World) (N0 : Nat) (v : Value) (l : WL) : Prop := ∃ a c, v = .slice a l.length c ∧ l.length ≤ knownCap c ∧ (a = none → c = 0) ∧ c < UNK ∧ ∀ N, N0 ≤ N → Slv (mem0 W N) 1 (.slice a l.length c) l.length (wv l) ∧ VR (rho0 W N) (.slice a l.length c) (.slice a l.length c) ∧ ∀ x, a = some x → x.block < (mem0 W N).length
theorem words_at {W : World} {a : Option Addr} {n c : Nat} {zs : List Int} (h : IsRow .u64 W a n c zs) : ∃ N l, WordsAt W N (.slice a n c) l := by
  obtain ⟨N, hN⟩ : ∃ N, ∀ x, a = some x → x.block < W.heap.size + N := by
    cases a with
    | none => exact ⟨0, nofun⟩
    | some x => exact ⟨x.block + 1, by rintro y ⟨⟩; omega⟩
  obtain ⟨hs, hv, hl, hc, hwf⟩ := world_ints (N := N) h hN
  have hcap := row_cap h
  obtain ⟨l, rfl, hb⟩ := words_in zs n hwf hl
  refine ⟨N, l, a, c, rfl, by unfold knownCap; rw [if_pos hcap.1]; exact hcap.2, ?_, hcap.1, fun M hM => ?_⟩
  · rintro rfl
    rcases h with ⟨_, _, e, _⟩ | ⟨x, e, _⟩
    · exact e
    · cases e
  · have hM' : ∀ x, a = some x → x.block < W.heap.size + M := fun x hx => by have := hN x hx; omega
    obtain ⟨hs, hv, _⟩ := world_ints (N := M) h hM'
    rw [← hb] at hs
    exact ⟨hs, hv, fun x hx => by rw [mem0_len]; exact hM' x hx⟩
theorem VR.agg2 {ρ : Nat → Option Loc} {u v u' v' : Value} (h : VR ρ u u') (k : VR ρ v v') : VR ρ (.agg #[u, v]) (.agg #[u', v']) := .agg _ _ rfl fun i x y hx hy => by
  match i with
  | 0 => cases hx; cases hy; exact h
  | 1 => cases hx; cases hy; exact k
  | i + 2 => simp at hx
/-- a key that came in -/
def KeyAt (W : World) (N0 : Nat) (v : Value) (l1 l2 : WL) : Prop := ∃ u1 u2, v = .agg #[u1, u2] ∧ WordsAt W N0 u1 l1 ∧ WordsAt W N0 u2 l2
theorem WordsAt.mono {W : World} {N M : Nat} {v : Value} {l : WL} (h : WordsAt W N v l) (k : N ≤ M) : WordsAt W M v l :=
  let ⟨a, c, h1, h2, h3, h4, h5⟩ := h; ⟨a, c, h1, h2, h3, h4, fun K hK => h5 K (Nat.le_trans k hK)⟩
theorem words_open {H : Type} {enc : TypeId × Value → H} {W : World} {fuel : Nat} {cs : List Value} {x : DataW H × List MemPlace} (h : DataW.trod enc Try.prog W 0 (fun _ => true) true fuel 24 cs = some x) : ∃ v N l, cs = [v] ∧ WordsAt W N v l := by
  rcases open_ints Try.underlying24 Try.underlying56 (by kernel_rfl) h with ⟨hcs, _⟩ | ⟨x, l, c, zs, hcs, _, hl, hm, hz, _, hcell, hwz⟩
  · obtain ⟨N, w, hw⟩ := words_at (W := W) (a := none) (n := 0) (c := 0) (zs := []) (.inl ⟨rfl, rfl, rfl, rfl⟩)
    exact ⟨_, N, w, hcs, hw⟩
  · obtain ⟨N, w, hw⟩ := words_at (W := W) (a := some x) (n := l) (c := c) (zs := zs) (.inr ⟨_, rfl, hl, hm, by simpa using hz, hcell, hwz⟩)
    exact ⟨_, N, w, hcs, hw⟩
theorem key_world {H : Type} {enc : TypeId × Value → H} {W : World} {v : Value} {d : DataW H} {p : List MemPlace} (hw : ∃ cs, v = .agg cs ∧ cs.size = 2) (h : DataW.Trod enc Try.prog W 0 (fun _ => true) true 26 v d p) :
    ∃ N l1 l2, KeyAt W N v l1 l2 := by
  obtain ⟨cs, rfl, hcs⟩ := hw
  obtain ⟨fuel, hf⟩ := h
  obtain ⟨y0, y1, n, _, hl, h0, h1⟩ := trod_struct2 Try.underlying26 hf
  obtain ⟨u1, N1, l1, e1, k1⟩ := words_open h0
  obtain ⟨u2, N2, l2, e2, k2⟩ := words_open h1
  have c1 : Try.prog.cellsOf 24 = 1 := by kernel_rfl
  obtain ⟨x, y, rfl⟩ : ∃ x y, cs = #[x, y] := by
    obtain ⟨l⟩ := cs
    match l, hcs with
    | [x, y], _ => exact ⟨x, y, rfl⟩
  refine ⟨N1 + N2, l1, l2, x, y, rfl, ?_, ?_⟩
  · have : x = u1 := by simpa [Value.cells, c1] using e1
    rw [this]; exact k1.mono (by omega)
  · have : y = u2 := by simpa [Value.cells, c1] using e2
    rw [this]; exact k2.mono (by omega)
end Go.Proofs.Ytccdlijohkljcaa

/- The proof of the statement on telling a key. Conditions: none. -/
namespace Go.Proofs.Ytccdlijohkljcaa.derTells
open Go.ChangeShapes Go.WideShapes Go.ChangeAt Go.RowKit
open Go.ChangeMaps (open_string shut_string)
set_option linter.unusedVariables false

theorem own : ownKnob Try.prog.godebug = none := by kernel_rfl
theorem laidOut : laidOutB Try.prog = true := by kernel_rfl

theorem walk (v0 : Value) (w : World) (w0 : ∃ N l1 l2, KeyAt w N v0 l1 l2) :
    Calls Try.prog 4 #[v0] w fun e w' => e = .returned (.bool true) ∧ Below w.heap.size w w' := by
  obtain ⟨N0, l0a, l0b, _, _, rfl, ⟨a0a, c0a, rfl, hk0a, hn0a, hu0a, hw0a⟩, ⟨a0b, c0b, rfl, hk0b, hn0b, hu0b, hw0b⟩⟩ := w0
  obtain ⟨N, hN⟩ : ∃ N, N = N0 := ⟨_, rfl⟩
  obtain ⟨hs0a, hv0a, hf0a⟩ := hw0a N (by omega)
  obtain ⟨hs0b, hv0b, hf0b⟩ := hw0b N (by omega)
  obtain ⟨v, S', hE, rfl, hcons⟩ := tells_C (G := 0) a0a a0b c0a c0b l0a l0b (mem0 w N) hs0a hs0b hk0a hk0b hn0a hn0b
  refine top_true (Checked.mixed Try.checked) (fun _ _ _ _ _ h => h) (Nat.zero_le _) (fun a ha => ?_) hE hcons
  obtain rfl : a = .agg #[.slice a0a l0a.length c0a, .slice a0b l0b.length c0b] := by simpa using ha
  exact VR.agg2 hv0a hv0b

set_option maxRecDepth 100000 in
theorem lifted (os : Os) (started : os.Started) (H : Type) (enc : TypeId × Value → H) :
    ReturnsInHanded {} Try.checked os 4 .any (Rows.derTellsSpec.pre6 enc Try.prog Try.f4 Rows.derTellsRow.domain false) (Rows.derTellsSpec.post enc Try.prog Try.f4 false true false false) := by
  refine returnsInHanded_of_change (C := Try.checked) own started (by kernel_rfl) Try.func4
    (ChangeSpec.witness6 (enc := enc) (C := Try.checked) false ⟨#[], #[.agg #[.slice none 0 0, .slice none 0 0]], []⟩ 8 (by kernel_rfl) (by kernel_rfl) (by kernel_rfl) (by kernel_rfl)) ?_
  intro W base args ds gs before hval0 hW hcnd _
  have hval : ∀ (j : Nat) t v, Try.f4.params[j]? = some t → args[j]? = some v → Value.okWide Try.prog W .any base t v := hval0
  have hW' := hW
  obtain ⟨p, q, hA0, hV, rfl, hfz, hnd⟩ := hW
  have hA : DataW.TrodAll enc Try.prog W 0 (fun _ => true) true Try.f4.params.toList args.toList ds p := hA0
  rw [Try.params4] at hA hval
  obtain ⟨v0, vs0, d0, ds0, p0, q0, hargs, rfl, rfl, h0, r0⟩ := trodAll_cons hA
  obtain ⟨rfl, rfl, rfl⟩ := trodAll_nil r0
  obtain rfl : args = #[v0] := by cases args; simp_all
  obtain ⟨rfl, rfl⟩ := trodVars_none hV
  have lt0 : ∀ x ∈ p0, x.block < W.heap.size := by obtain ⟨m, hm⟩ := h0; exact DataW.trod_lt m _ _ _ hm
  clear hA0 hval0
  refine (walk v0 W (key_world (okWide_struct Try.underlying26 (hval 0 26 v0 rfl rfl)) h0)).mono fun e W' ⟨he, bel⟩ => ?_
  subst he
  exact ⟨_, rfl, _, _, _, [], _, [], hW', trodAll_mk1 (shut_bool Try.underlying4 _), (trodAll_cons_mk (Below.trod laidOut (by kernel_rfl) (of_decide_eq_true (by kernel_rfl)) h0 bel lt0) trodAll_mk0), rfl, bel.frame _, fun h => by cases h⟩

theorem over : Rows.derTellsRow.holds Try.pinned (OpenSpec.ofChange Rows.derTellsSpec) :=
  OpenClaim.holds_of_wide 4 Try.f4 rfl rfl rfl rfl rfl rfl rfl ⟨rfl, rfl, rfl, rfl, rfl⟩ rfl rfl rfl rfl rfl (by kernel_rfl) Try.func4 (by kernel_rfl)
    (of_decide_eq_true (by kernel_rfl)) (by unfold Func.isWrapper; first | (rw [if_pos (by decide +kernel)]; kernel_rfl) | (rw [if_neg (by decide +kernel)]; exact ⟨rfl, rfl⟩))
    (fun os started H enc _ => lifted os started H enc)

theorem proved : Rows.DerTellsSaid := over
end Go.Proofs.Ytccdlijohkljcaa.derTells
