/- The law of what stands behind a message, walked. Conditions: none. -/
import Derived.Test.YteadbbimikcmgaaShaSums
import Derived.Test.YteadbbimikcmgaaBookC
set_option linter.unusedSimpArgs false
set_option linter.unusedVariables false
set_option maxRecDepth 100000
set_option maxHeartbeats 4000000
namespace Go.Proofs.Yteadbbimikcmgaa
open Go
variable {G : Nat} {Ext : FuncId → List Value → Mem → Outc → Mem → Prop}

theorem padK_le (n : BitVec 64) : padK n ≤ 63 := by unfold padK; omega
theorem pads_C (n : BitVec 64) (S : Mem) : C Try.prog G Ext 5 [v64 n] S fun v S' => v = .bool true ∧ Cons S S' := by
  refine C.fn Try.func5 rfl (by kernel_rfl) rfl ?_
  have hlen : (padL n).length = padK n + 9 := padL_len n
  have hk := padK_le n
  repeat (first | refine W.seq ?_ | refine W.block ?_ | refine W.reg ?_ | refine W.skip ?_ | refine W.exit ?_ | refine W.ret ?_ | refine L.nil ?_ | refine L.p rfl rfl ?_ | refine L.skip rfl ?_)
  refine L.cl (pad_C n S) rfl rfl ?_
  rintro _ S1 ⟨rfl, hS1⟩
  refine ⟨nofun, ?_⟩
  repeat (first | refine W.seq ?_ | refine W.block ?_ | refine W.reg ?_ | refine W.skip ?_ | refine W.exit ?_ | refine W.ret ?_ | refine L.nil ?_ | refine L.p rfl rfl ?_ | refine L.skip rfl ?_)
  refine L.cl (pad_C n S1) rfl rfl ?_
  rintro _ S2 ⟨rfl, hS2⟩
  refine ⟨nofun, ?_⟩
  repeat (first | refine W.seq ?_ | refine W.block ?_ | refine W.reg ?_ | refine W.skip ?_ | refine W.exit ?_ | refine W.ret ?_ | refine L.nil ?_ | refine L.p rfl rfl ?_ | refine L.skip rfl ?_)
  have hA : HdOk S1 5 ⟨some S.length, padK n + 9, padK n + 9⟩ (bv (padL n)) := by
    subst hS1
    exact HdOk.full (row_push_new rfl) rfl (by rw [bv_len, hlen]) (by show (bv (padL n)).take _ = _; exact List.take_of_length_le (by rw [bv_len, hlen]; exact Nat.le_refl _)) (by unfold UNK; omega)
  have hB : HdOk S2 5 ⟨some S1.length, padK n + 9, padK n + 9⟩ (bv (padL n)) := by
    subst hS2
    exact HdOk.full (row_push_new rfl) rfl (by rw [bv_len, hlen]) (by show (bv (padL n)).take _ = _; exact List.take_of_length_le (by rw [bv_len, hlen]; exact Nat.le_refl _)) (by unfold UNK; omega)
  have hl1 : S1.length = S.length + 1 := by subst hS1; simp
  have hl2 : S2.length = S1.length + 1 := by subst hS2; simp
  have hc1 : Cons S S1 := by subst hS1; exact Cons.push _ _
  have hc2 : Cons S1 S2 := by subst hS2; exact Cons.push _ _
  have hA := hA.cons hc2
  clear hS1 hS2
  refine L.cl (refpad_C n S2) rfl rfl ?_
  rintro _ S3 ⟨hc3, a, c, rfl, hW⟩
  refine ⟨nofun, ?_⟩
  repeat (first | refine W.seq ?_ | refine W.block ?_ | refine W.reg ?_ | refine W.skip ?_ | refine W.exit ?_ | refine W.ret ?_ | refine L.nil ?_ | refine L.p rfl rfl ?_ | refine L.skip rfl ?_)
  have hA := hA.cons hc3
  have hB := hB.cons hc3
  rw [← hlen] at hW hA hB
  have hA1 := hA.slv
  have hB1 := hB.slv
  refine L.cl (same_C _ _ (padL n) (padL n) _ _ S3 hA1 hW (by dsimp only; omega) (by omega)) rfl (by rw [hlen]; rfl) ?_
  rintro _ _ ⟨rfl, rfl⟩
  refine ⟨nofun, ?_⟩
  rw [show (padL n == padL n) = true from beq_self_eq_true _]
  repeat (first | refine W.seq ?_ | refine W.block ?_ | refine W.reg ?_ | refine W.skip ?_ | refine W.exit ?_ | refine W.ret ?_ | refine L.nil ?_ | refine L.p rfl rfl ?_ | refine L.skip rfl ?_)
  refine L.cl (same_C _ _ (padL n) (padL n) _ _ _ hB1 hW (by dsimp only; omega) (by omega)) rfl (by rw [hlen]; rfl) ?_
  rintro _ S4 ⟨rfl, rfl⟩
  refine ⟨nofun, ?_⟩
  rw [show (padL n == padL n) = true from beq_self_eq_true _]
  repeat (first | refine W.seq ?_ | refine W.block ?_ | refine W.reg ?_ | refine W.skip ?_ | refine W.exit ?_ | refine W.ret ?_ | refine L.nil ?_ | refine L.p rfl rfl ?_ | refine L.skip rfl ?_)
  refine W.ite rfl (fun h => ?_) (fun h => ?_)
  · cases h
  clear h
  repeat (first | refine W.seq ?_ | refine W.block ?_ | refine W.reg ?_ | refine W.skip ?_ | refine W.exit ?_ | refine W.ret ?_ | refine L.nil ?_ | refine L.p rfl rfl ?_ | refine L.skip rfl ?_)
  refine L.eff (v := .pointer (some ⟨S4.length, 0, none⟩)) (S1 := S4 ++ [newR [.slice none 0 0, .slice none 0 0] 43]) rfl rfl ?_
  have hK := Book.new S4
  have hc4 : Cons S4 (S4 ++ [newR [.slice none 0 0, .slice none 0 0] 43]) := Cons.push _ _
  have hA := hA.cons hc4
  have hB := hB.cons hc4
  have hlb := hB.lt rfl
  have hl3 := hc3.len
  have hla : S.length < S4.length ∧ S1.length < S4.length := ⟨by omega, by omega⟩
  have hcS := ((hc1.trans hc2).trans hc3).trans hc4
  generalize S4 ++ [newR [.slice none 0 0, .slice none 0 0] 43] = S5 at *
  obtain ⟨rb, hrb⟩ : ∃ rb, rb = S4.length := ⟨_, rfl⟩
  rw [← hrb] at hK hla ⊢
  clear hc1 hc2 hc3 hW hA1 hB1 hrb hc4 hl3
  have hlt5 : S.length < S5.length := hA.lt rfl
  repeat (first | refine W.seq ?_ | refine W.block ?_ | refine W.reg ?_ | refine W.skip ?_ | refine W.exit ?_ | refine W.ret ?_ | refine L.nil ?_ | refine L.p rfl rfl ?_ | refine L.skip rfl ?_)
  refine L.cl (bytes_C S5 ⟨some S.length, (padL n).length, (padL n).length⟩ rb [] [] [rb] hK (by decide)) rfl (by rw [hlen]; rfl) ?_
  rintro _ S6 ⟨ps6, hK6, hs6, hk6⟩
  refine ⟨nofun, ?_⟩
  have hA := hA.keep hk6 (by rintro b ⟨⟩; simp; omega)
  have hB := hB.keep hk6 (by rintro b ⟨⟩; simp; omega)
  have hc6 := hk6.cons0 hcS (by intro b hb; simp at hb; omega)
  have hd6 : ∀ r, r < S5.length → r ≠ rb → r ∉ ps6 := fun r h1 h2 hm => by
    rcases hs6 r hm with h | h
    · simp at h; omega
    · omega
  repeat (first | refine W.seq ?_ | refine W.block ?_ | refine W.reg ?_ | refine W.skip ?_ | refine W.exit ?_ | refine W.ret ?_ | refine L.nil ?_ | refine L.p rfl rfl ?_ | refine L.skip rfl ?_)
  refine L.cl (bytes_C S6 ⟨some S1.length, (padL n).length, (padL n).length⟩ rb [] _ ps6 hK6 (by simp)) rfl (by rw [hlen]; rfl) ?_
  rintro _ S7 ⟨ps7, hK7, hs7, hk7⟩
  refine ⟨nofun, ?_⟩
  have hl6 := hk6.1
  have hA := hA.keep hk7 (by rintro b ⟨⟩; exact hd6 _ hlt5 (by omega))
  have hB := hB.keep hk7 (by rintro b ⟨⟩; exact hd6 _ hlb (by omega))
  have hc7 := hk7.cons0 hc6 (by
    intro b hb
    rcases hs6 b hb with h | h
    · simp at h; omega
    · omega)
  have hd7 : ∀ r, r < S5.length → r ≠ rb → r ∉ ps7 := fun r h1 h2 hm => by
    rcases hs7 r hm with h | h
    · exact hd6 r h1 h2 h
    · omega
  have h2 : ∀ (i : Nat) (h : Hd), ([⟨some S.length, (padL n).length, (padL n).length⟩, ⟨some S1.length, (padL n).length, (padL n).length⟩] : List Hd)[i]? = some h → (i = 0 ∧ h = ⟨some S.length, (padL n).length, (padL n).length⟩) ∨ (i = 1 ∧ h = ⟨some S1.length, (padL n).length, (padL n).length⟩) := fun i h hi => by
    match i, hi with
    | 0, hi => cases hi; exact .inl ⟨rfl, rfl⟩
    | 1, hi => cases hi; exact .inr ⟨rfl, rfl⟩
    | i + 2, hi => simp at hi
  repeat (first | refine W.seq ?_ | refine W.block ?_ | refine W.reg ?_ | refine W.skip ?_ | refine W.exit ?_ | refine W.ret ?_ | refine L.nil ?_ | refine L.p rfl rfl ?_ | refine L.skip rfl ?_)
  refine L.cl (apart_C S7 rb _ _ ps7 hK7 ⟨by simp, by simp⟩ (fun i h hi => by simp at hi) (fun i h hi => ?_) (fun i j h d b hi => by simp at hi) (fun i j h d b hi hj e1 e2 => ?_) (by simp [blks]) (fun b hb => ?_) (by simp [blks])) rfl rfl ?_
  · rcases h2 i h hi with ⟨rfl, rfl⟩ | ⟨rfl, rfl⟩
    · exact ⟨by show (padL n).length ≤ _; omega, _, hA⟩
    · exact ⟨by show (padL n).length ≤ _; omega, _, hB⟩
  · rcases h2 i h hi with ⟨rfl, rfl⟩ | ⟨rfl, rfl⟩ <;> rcases h2 j d hj with ⟨rfl, rfl⟩ | ⟨rfl, rfl⟩ <;> first | rfl | (simp at e1 e2; omega)
  · simp [blks] at hb
    rcases hb with rfl | rfl
    · exact hd7 _ hlt5 (by omega)
    · exact hd7 _ hlb (by omega)
  rintro _ S8 ⟨rfl, hk8⟩
  refine ⟨nofun, ?_⟩
  have hc8 := hk8.cons0 hc7 (by intro b hb; simp [blks] at hb; omega)
  repeat (first | refine W.seq ?_ | refine W.block ?_ | refine W.reg ?_ | refine W.skip ?_ | refine W.exit ?_ | refine W.ret ?_ | refine L.nil ?_ | refine L.p rfl rfl ?_ | refine L.skip rfl ?_)
  refine L.cl (works_C _) rfl rfl ?_
  rintro _ S9 ⟨rfl, hc9⟩
  refine ⟨nofun, ?_⟩
  repeat (first | refine W.seq ?_ | refine W.block ?_ | refine W.reg ?_ | refine W.skip ?_ | refine W.exit ?_ | refine W.ret ?_ | refine L.nil ?_ | refine L.p rfl rfl ?_ | refine L.skip rfl ?_)
  exact ⟨.inr rfl, _, rfl, rfl, hc8.trans hc9⟩
end Go.Proofs.Yteadbbimikcmgaa
