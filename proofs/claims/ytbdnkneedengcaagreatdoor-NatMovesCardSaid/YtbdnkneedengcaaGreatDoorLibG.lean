/- What several proofs share, part 7: a model of memory, contracts of functions. Conditions: none. -/
import Derived.Test.YtbdnkneedengcaaGreatDoorLibF

/- Layer 1: Shift. Conditions: none. -/
set_option linter.unusedSimpArgs false
set_option linter.unusedVariables false
set_option maxRecDepth 100000
set_option maxHeartbeats 4000000
set_option exponentiation.threshold 20000
namespace Go.Proofs.YtbdnkneedengcaaGreatDoor
open Go Ie
variable {G : Nat} {Ext : FuncId → List Value → Mem → Outc → Mem → Prop}
theorem mk_parts {P : Program} {t el : TypeId} {bytes : Nat} {zv : Value} (hok : mkOk P t = some (el, 1, bytes, zv)) : ∃ i z, P.underlying t = some (.slice el) ∧ P.info? el = some i ∧ zeroOf P el = some z ∧ z.cells = #[zv] ∧ i.size = 1 ∧ i.bytes = bytes := by
  unfold mkOk at hok
  split at hok
  · rename_i e' hu
    split at hok
    · rename_i inf z hin hz
      split at hok
      · rename_i zv' hzv
        simp only [Option.some.injEq, Prod.mk.injEq] at hok
        obtain ⟨rfl, hs, rfl, rfl⟩ := hok
        exact ⟨inf, z, hu, hin, hz, by rw [← Array.toList_inj, hzv], hs, rfl⟩
      · cases hok
    · cases hok
  · cases hok
theorem zeroRep (zv : Value) (m : Nat) : zeroList #[zv] m = List.replicate m zv := by
  unfold zeroList
  refine List.ext_getElem (by simp) fun i h1 h2 => ?_
  simp only [List.getElem_map, List.getElem_range, List.getElem_replicate]
  show (#[zv] : Array Value)[i % 1]! = zv
  rw [Nat.mod_one]
  rfl
theorem mk_aeff {P : Program} {t el : TypeId} {lo co : Operand} {n m bytes : Nat} {zv : Value} {k k' : IntKind} {ev : Operand → Value} {S : Mem} {dst : Option Tmp} {ty : TypeId} {pos : String} {af : Array Edge} {gd : Option (Nat × Bool)} (hok : mkOk P t = some (el, 1, bytes, zv))
    (hl : ev lo = .int k (n : Int)) (hc : ev co = .int k' (m : Int)) (hnm : n ≤ m) (hn : m ≤ 1099511627776) (hby : bytes ≤ 64) : aeff P ⟨dst, .makeSlice t lo co, ty, pos, af, gd⟩ ev S = some (.slice (some ⟨S.length, 0, none⟩) n m, S ++ [newR (List.replicate m zv) el]) := by
  obtain ⟨i, z, hu, hin, hz, hzc, hs, hb⟩ := mk_parts hok
  have hbb := Nat.mul_le_mul hn hby
  simp only [aeff, hu, hin, hz, hl, hc, intOf']
  rw [if_pos ⟨by omega, by omega, by omega, by rw [hb]; simpa using (by omega : m * bytes ≤ 140737488355328), by rw [hzc]; exact Nat.one_pos⟩]
  simp only [Int.toNat_natCast, hs, Nat.mul_one, hzc, zeroRep]
theorem mk_run {P : Program} {t el : TypeId} {lo co : Operand} {n m bytes : Nat} {zv : Value} {k k' : IntKind} {ev : Operand → Value} {w : World} {dst : Option Tmp} {ty : TypeId} {pos : String} {af : Array Edge} {gd : Option (Nat × Bool)} (hok : mkOk P t = some (el, 1, bytes, zv))
    (hl : ev lo = .int k (n : Int)) (hc : ev co = .int k' (m : Int)) (hnm : n ≤ m) (hn : m ≤ 1099511627776) (hby : bytes ≤ 64) : (execOp ev ⟨dst, .makeSlice t lo co, ty, pos, af, gd⟩).run P w = .ok (.value (.slice (some ⟨w.heap.size, 0, none⟩) n m)) (w.alloc (.cells (List.replicate m zv).toArray el)) := by
  obtain ⟨i, z, hu, hin, hz, hzc, hs, hb⟩ := mk_parts hok
  have hbb := Nat.mul_le_mul hn hby
  obtain ⟨hzr, hza, _⟩ := zeroOf_run hz
  obtain ⟨z', hz', hrun⟩ := makeSlice_run (P := P) (w := w) (kl := k) (kc := k') (l := (n : Int)) (c := (m : Int)) hu hin hzr (by omega) (by omega) (by omega) (by rw [hb]; simpa using (by omega : m * bytes ≤ 140737488355328))
  have hzl : zeroList z' ((m : Int).toNat * i.size) = List.replicate m zv := by
    rw [hs, Nat.mul_one, Int.toNat_natCast]
    by_cases h0 : m = 0
    · rw [h0]; rfl
    · rw [hz' (by rw [hs, Nat.mul_one, Int.toNat_natCast]; exact h0), hzc, zeroRep]
  rw [hzl] at hrun
  simp only [Int.toNat_natCast] at hrun
  simp [execOp, hl, hc, hrun]
def shM (S1 Sa Sb Sc Sd : Mem) : Nat → Mem
  | 0 | 1 | 2 | 3 | 4 | 5 => S1
  | 6 => Sa
  | 7 => Sb
  | 8 => Sc
  | _ => Sd
def shV (v2 v5 v6 v7 v8 d : Value) (m : Nat) (E : Int) : Nat → Value
  | 0 => vi m
  | 1 => vi (m / 64)
  | 2 => v2
  | 3 => vi m
  | 4 => vi (m % 64)
  | 5 => v5
  | 6 => v6
  | 7 => v7
  | 8 => v8
  | 9 => .tuple #[d, .int .i64 E]
  | 10 => d
  | 11 => .int .i64 E
  | 12 => d
  | 13 => .int .i64 E
  | _ => undef
def shSig : Nat → Nat
  | 2 => 6
  | 3 => 2
  | 4 => 3
  | 5 => 4
  | 6 => 5
  | k => k
theorem told_is {x : WL} {N : Nat} (e : wnum x = N) (h : N < 2 ^ 8192) : toldL x = toW N ∧ toldE x = 0 := by
  have hs : small x = true := small_of (by rw [e]; exact h)
  unfold toldL toldE
  rw [hs, if_pos rfl, if_pos rfl, ← e]
  exact ⟨rfl, rfl⟩
theorem shift_C (a : Option Addr) (c : Nat) (l : WL) (s : Int) (S : Mem) (hI : WIn S a c l) (hs : -9223372036854775808 ≤ s ∧ s ≤ 9223372036854775807) :
    C Tryz.prog gN (Known Tryz.prog gN) 30 [.slice a l.length c, .int .i64 s] S fun v S' => ∃ d : Hd, v = .tuple #[d.v, .int .i64 (shE l s)] ∧ RetW S S' d (shL l s) := by
  refine C.known (known_def2 (Checked.mixed Tryz.checked) (fun _ _ _ _ _ h => h) Tryz.func30 rfl (by kernel_rfl) rfl ?_)
  refine DV.seq (DV.code rfl ?_)
  repeat first|refine W.g ?_|refine L.p rfl rfl ?_|refine L.nil ?_|refine L.skip rfl ?_
  refine DV.seq (DV.code rfl ?_)
  repeat first|refine W.g ?_|refine L.p rfl rfl ?_|refine L.nil ?_|refine L.skip rfl ?_
  refine L.bs [WS.v ⟨a, c, l⟩] rfl rfl rfl rfl rfl rfl ?_
  have hc : Cons S (S ++ [newR [WS.v ⟨a, c, l⟩] 22]) := Cons.push _ _
  have hs1 : Slv (S ++ [newR [WS.v ⟨a, c, l⟩] 22]) 1 (.slice (some ⟨S.length, 0, none⟩) 1 1) 1 ([WS.mk a c l].map WS.v) := Slv.all (row_push_new rfl) rfl rfl
  generalize S ++ [newR [WS.v ⟨a, c, l⟩] 22] = S1 at *
  refine L.cl (fit_C _ [⟨a, c, l⟩] S1 hs1 (fun w hw => by simp at hw; subst hw; exact hI.cons hc) (by simp)) rfl rfl ?_
  rintro _ _ ⟨rfl, rfl⟩
  refine ⟨fun _ => Cons.refl _, ?_⟩
  repeat first|refine W.g ?_|refine L.p rfl rfl ?_|refine L.nil ?_|refine L.skip rfl ?_
  refine W.ite rfl (fun h => ?_) (fun h => ?_)
  · have hsm : small l = false := by simpa using h
    repeat first|refine W.g ?_|refine L.p rfl rfl ?_|refine L.nil ?_|refine L.skip rfl ?_
    exact ⟨.ret, _, _, rfl, .ret (v := .tuple #[.slice none 0 0, .int .i64 3]) rfl, Hd0, (by unfold shE; rw [hsm]; rfl), by unfold shL; rw [if_neg (by rw [hsm]; decide)]; exact RetW.nil hc⟩
  have hsm : small l = true := by simpa using h
  clear h
  rename Mem => S1
  have hI1 := (hI.cons hc).form
  have hN := small_num l
  rw [hsm] at hN
  have hN := of_decide_eq_true hN.symm
  have hb := blen_le.2 hN
  have hfN : wnum (fm l) = wnum l := wnum_toW _
  have hfl : (fm l).length ≤ 128 := of_decide_eq_true hsm
  have hb64 : blen (wnum l) ≤ 64 * (fm l).length := by rw [← hfN]; exact blen_le.2 (wnum_lt (fm l))
  repeat first|refine W.g ?_|refine L.p rfl rfl ?_|refine L.nil ?_|refine L.skip rfl ?_
  refine DV.seq (DV.code rfl ?_)
  repeat first|refine W.g ?_|refine L.p rfl rfl ?_|refine L.nil ?_|refine L.skip rfl ?_
  refine L.cl (trim_C a c l _ (hI.cons hc)) rfl rfl ?_
  rintro _ _ ⟨rfl, rfl⟩
  refine ⟨fun _ => Cons.refl _, ?_⟩
  rename Mem => S1
  repeat first|refine W.g ?_|refine L.p rfl rfl ?_|refine L.nil ?_|refine L.skip rfl ?_
  refine DV.seq (DV.code rfl ?_)
  repeat first|refine W.g ?_|refine L.p rfl rfl ?_|refine L.nil ?_|refine L.skip rfl ?_
  refine L.cl (bits_C a c (fm l) S1 hI1) rfl rfl ?_
  rintro _ _ ⟨rfl, rfl⟩
  refine ⟨fun _ => Cons.refl _, ?_⟩
  rename Mem => S1
  rw [hfN]
  obtain ⟨b, hbd⟩ : ∃ b, b = blen (wnum l) := ⟨_, rfl⟩
  rw [← hbd] at hb hb64 ⊢
  have hb0 : b = 0 ↔ wnum l = 0 := by rw [hbd]; exact blen_zero
  have hb0' : ((b : Int) == 0) = decide (b = 0) := by
    by_cases q : b = 0
    · rw [q]; rfl
    · rw [decide_eq_false q]; exact beq_eq_false_iff_ne.2 (by omega)
  unfold shL shE
  rw [hsm, ← hbd]
  simp only [if_true]
  generalize fm l = f at *
  clear hs1
  have hng : IntKind.i64.wrap (0 - (b : Int)) = -(b : Int) := by rw [Int.zero_sub, wrap64 (by omega) (by omega)]
  have hsb : IntKind.i64.wrap (8192 - (b : Int)) = 8192 - (b : Int) := wrap64 (by omega) (by omega)
  repeat first|refine W.g ?_|refine L.p rfl rfl ?_|refine L.nil ?_|refine L.skip rfl ?_
  refine DV.seq (DV.code rfl ?_)
  repeat first|refine W.g ?_|refine L.p rfl rfl ?_|refine L.nil ?_|refine L.skip rfl ?_
  rw [hb0']
  by_cases q0 : b = 0
  · rw [decide_eq_true q0]
    repeat first|refine W.g ?_|refine L.p rfl rfl ?_|refine L.nil ?_|refine L.skip rfl ?_
    refine W.ite rfl (fun h => ?_) (fun h => ?_)
    · repeat first|refine W.g ?_|refine L.p rfl rfl ?_|refine L.nil ?_|refine L.skip rfl ?_
      have h2 : wnum l = 0 ∨ s ≤ -(b : Int) := .inl (hb0.1 q0)
      rw [if_pos h2, if_pos h2]
      exact ⟨.ret, _, _, rfl, .ret (v := .tuple #[.slice none 0 0, .int .i64 0]) rfl, Hd0, rfl, RetW.nil hc⟩
    · cases h
  rw [decide_eq_false q0]
  have hz : ¬ wnum l = 0 := fun e => q0 (hb0.2 e)
  repeat first|refine W.g ?_|refine L.p rfl rfl ?_|refine L.nil ?_|refine L.skip rfl ?_
  rw [hng]
  by_cases q2 : s ≤ -(b : Int)
  · rw [decide_eq_true q2]
    repeat first|refine W.g ?_|refine L.p rfl rfl ?_|refine L.nil ?_|refine L.skip rfl ?_
    refine W.ite rfl (fun h => ?_) (fun h => ?_)
    · repeat first|refine W.g ?_|refine L.p rfl rfl ?_|refine L.nil ?_|refine L.skip rfl ?_
      have h2 : wnum l = 0 ∨ s ≤ -(b : Int) := .inr q2
      rw [if_pos h2, if_pos h2]
      exact ⟨.ret, _, _, rfl, .ret (v := .tuple #[.slice none 0 0, .int .i64 0]) rfl, Hd0, rfl, RetW.nil hc⟩
    · cases h
  have h2 : ¬ (wnum l = 0 ∨ s ≤ -(b : Int)) := fun h => h.elim hz q2
  rw [decide_eq_false q2, if_neg h2, if_neg h2]
  repeat first|refine W.g ?_|refine L.p rfl rfl ?_|refine L.nil ?_|refine L.skip rfl ?_
  refine W.ite rfl (fun h => ?_) (fun h => ?_)
  · cases h
  clear h
  repeat first|refine W.g ?_|refine L.p rfl rfl ?_|refine L.nil ?_|refine L.skip rfl ?_
  rw [hsb]
  refine W.ite rfl (fun h => ?_) (fun h => ?_)
  · have h3 := of_decide_eq_true h
    repeat first|refine W.g ?_|refine L.p rfl rfl ?_|refine L.nil ?_|refine L.skip rfl ?_
    rw [if_pos h3, if_pos h3]
    exact ⟨.ret, _, _, rfl, .ret (v := .tuple #[.slice none 0 0, .int .i64 3]) rfl, Hd0, rfl, RetW.nil hc⟩
  have h3 := of_decide_eq_false h
  clear h
  rw [if_neg h3, if_neg h3]
  repeat first|refine W.g ?_|refine L.p rfl rfl ?_|refine L.nil ?_|refine L.skip rfl ?_
  refine W.ite rfl (fun h => ?_) (fun h => ?_)
  · have q1 : s < 0 := of_decide_eq_true h
    clear h
    rw [if_pos q1]
    obtain ⟨m, hm⟩ : ∃ m : Nat, s = -(m : Int) := ⟨s.natAbs, by omega⟩
    subst hm
    have hmm : (-(m : Int)).natAbs = m := by omega
    rw [hmm]
    have hnm : IntKind.i64.wrap (0 - -(m : Int)) = (m : Int) := by rw [Int.zero_sub, Int.neg_neg, wrap64 (by omega) (by omega)]
    have hq : IntKind.i64.wrap (Int.tdiv (m : Int) 64) = ((m / 64 : Nat) : Int) := by
      rw [show Int.tdiv (m : Int) 64 = ((m / 64 : Nat) : Int) from (Int.ofNat_tdiv m 64).symm, wrap64 (by omega) (by omega)]
    have hr : Int.tmod (m : Int) 64 = ((m % 64 : Nat) : Int) := (Int.ofNat_tmod m 64).symm
    obtain ⟨a2, c2, hsl, i2⟩ := win_from (k := m / 64) (lv := .int .i64 ((m / 64 : Nat) : Int)) hI1 (by omega) rfl
    have hln : (f.drop (m / 64)).length ≤ f.length := by rw [List.length_drop]; omega
    repeat first|refine W.g ?_|refine L.p rfl rfl ?_|refine L.nil ?_|refine L.skip rfl ?_
    rw [hnm, hq]
    refine L.is (.slice a2 (f.drop (m / 64)).length c2) ?_ rfl ?_
    · refine (slice_at0 rfl rfl rfl).trans ?_
      exact hsl
    repeat first|refine W.g ?_|refine L.p rfl rfl ?_|refine L.nil ?_|refine L.skip rfl ?_
    rw [hnm, hr]
    refine L.cl (right_C a2 c2 (f.drop (m / 64)) (m % 64) S1 i2 (Nat.mod_lt _ (by decide)) (by omega)) rfl rfl ?_
    rintro _ S2 ⟨ro, rfl, hro, k2, hrr⟩
    refine ⟨fun _ => k2, ?_⟩
    repeat first|refine W.g ?_|refine L.p rfl rfl ?_|refine L.nil ?_|refine L.skip rfl ?_
    have hwn : wnum (dnL (f.drop (m / 64)) (m % 64)) = wnum l / 2 ^ m := by
      rw [dnL_num _ (Nat.mod_lt _ (by decide)), wnum_drop _ _ (by omega), hfN, Nat.div_div_eq_div_mul, ← Nat.pow_add, Nat.div_add_mod]
    have ht := told_is hwn (Nat.lt_of_le_of_lt (Nat.div_le_self _ _) hN)
    have hdl := dnL_len (f.drop (m / 64)) (m % 64)
    refine L.cl (told_C S (some ⟨ro, 0, none⟩) (f.drop (m / 64)).length (dnL (f.drop (m / 64)) (m % 64)) S2 (WOwn.row hrr hdl (by have := hc.len; omega) (by omega)) (hc.trans k2)) rfl (by rw [hdl]; rfl) ?_
    rintro _ _ ⟨rfl, d, rfl, rW⟩
    refine ⟨fun _ => Cons.refl _, ?_⟩
    rw [ht.1] at rW
    rw [ht.2]
    repeat first|refine W.g ?_|refine L.p rfl rfl ?_|refine L.nil ?_|refine L.skip rfl ?_
    exact ⟨.ret, _, _, rfl, .ret (v := .tuple #[d.v, .int .i64 0]) rfl, d, rfl, rW⟩
  have q1 : ¬ s < 0 := of_decide_eq_false h
  clear h
  rw [if_neg q1]
  obtain ⟨m, hm⟩ : ∃ m : Nat, s = (m : Int) := ⟨s.natAbs, by omega⟩
  subst hm
  have hmm : (m : Int).natAbs = m := rfl
  rw [hmm]
  repeat first|refine W.g ?_|refine L.p rfl rfl ?_|refine L.nil ?_|refine L.skip rfl ?_
  have hq : IntKind.i64.wrap (Int.tdiv (m : Int) 64) = ((m / 64 : Nat) : Int) := by
    rw [show Int.tdiv (m : Int) 64 = ((m / 64 : Nat) : Int) from (Int.ofNat_tdiv m 64).symm, wrap64 (by omega) (by omega)]
  have hr : Int.tmod (m : Int) 64 = ((m % 64 : Nat) : Int) := (Int.ofNat_tmod m 64).symm
  have hmb : m ≤ 8192 := by omega
  obtain ⟨_, Sa, xL, ro, o, rfl, hro, kL, hrr, hol, hon⟩ := left_C (G := gN) (Ext := Known Tryz.prog gN) a c f (m % 64) S1 hI1 (Nat.mod_lt _ (by decide)) (by omega)
  obtain ⟨Sb, hSb⟩ : ∃ Sb, Sb = Sa ++ [newR (List.replicate (m / 64) (v64 0#64)) 55] := ⟨_, rfl⟩
  have kb : Cons Sa Sb := by rw [hSb]; exact Cons.push _ _
  have hrz : Sb.row? Sa.length = some (newR (wv (List.replicate (m / 64) 0#64)) 55) := by
    rw [hSb, row_push_new rfl]; simp [wv]
  obtain ⟨Sc, hSc⟩ : ∃ Sc, Sc = Sb ++ [newR [.slice (some ⟨Sa.length, 0, none⟩) (m / 64) (m / 64), .slice (some ⟨ro, 0, none⟩) (f.length + 1) (f.length + 1)] 22] := ⟨_, rfl⟩
  have kc : Cons Sb Sc := by rw [hSc]; exact Cons.push _ _
  have hrp : Sc.row? Sb.length = some (newR [.slice (some ⟨Sa.length, 0, none⟩) (m / 64) (m / 64), .slice (some ⟨ro, 0, none⟩) (f.length + 1) (f.length + 1)] 22) := by
    rw [hSc]; exact row_push_new rfl
  have hzl : (List.replicate (m / 64) 0#64).length = m / 64 := List.length_replicate
  have sz : Slv Sc 1 (.slice (some ⟨Sa.length, 0, none⟩) (m / 64) (m / 64)) (m / 64) (wv (List.replicate (m / 64) 0#64)) := Slv.all (Cons.row (h := kc) hrz) rfl (by rw [wv_len, hzl, Nat.mul_one])
  have so : Slv Sc 1 (.slice (some ⟨ro, 0, none⟩) (f.length + 1) (f.length + 1)) (f.length + 1) (wv o) := Slv.all (Cons.row (h := kb.trans kc) hrr) rfl (by rw [wv_len, hol, Nat.mul_one])
  have hpar : WParts Sc [.slice (some ⟨Sa.length, 0, none⟩) (m / 64) (m / 64), .slice (some ⟨ro, 0, none⟩) (f.length + 1) (f.length + 1)] [List.replicate (m / 64) 0#64, o] := by
    refine ⟨rfl, fun i x hx => ?_⟩
    match i, hx with
    | 0, hx => cases hx; rw [hzl]; exact ⟨_, _, rfl, sz⟩
    | 1, hx => cases hx; rw [hol]; exact ⟨_, _, rfl, so⟩
    | i + 2, hx => simp at hx
  have hfl2 : [List.replicate (m / 64) 0#64, o].flatten = List.replicate (m / 64) 0#64 ++ o := by simp
  have hll : (List.replicate (m / 64) 0#64 ++ o).length = m / 64 + (f.length + 1) := by rw [List.length_append, hzl, hol]
  obtain ⟨_, Sd, xC, d1, rfl, r1⟩ := concatW_C (G := gN) (Ext := Known Tryz.prog gN) (some ⟨Sb.length, 0, none⟩) 2 _ [List.replicate (m / 64) 0#64, o] Sc (Slv.all hrp rfl rfl) hpar (by rw [hfl2, hll]; omega) (by rw [hfl2, hll]; omega) (by simp)
  rw [hfl2] at r1
  have kall : Cons S Sd := ((((hc.trans kL).trans kb).trans kc).trans r1.1)
  obtain ⟨hO, hv1⟩ := r1.own
  have hO' : WOwn Sd S.length d1.ad d1.c (List.replicate (m / 64) 0#64 ++ o) := hO.mono (((hc.trans kL).trans kb).trans kc).len
  obtain ⟨_, Se, xT, hSe, d, rfl, rW⟩ := told_C (G := gN) (Ext := Known Tryz.prog gN) S d1.ad d1.c (List.replicate (m / 64) 0#64 ++ o) Sd hO' kall
  replace hSe := hSe.symm
  subst hSe
  have hwn : wnum (List.replicate (m / 64) 0#64 ++ o) = wnum l * 2 ^ m := by
    rw [wnum_append, wnum_zeros, Nat.zero_add, hzl, hon, hfN, Nat.mul_comm (2 ^ _), Nat.mul_assoc, ← Nat.pow_add, Nat.add_comm, Nat.div_add_mod]
  have hlt : wnum l * 2 ^ m < 2 ^ 8192 := by
    have h5 := blen_lt (wnum l)
    rw [← hbd] at h5
    calc wnum l * 2 ^ m < 2 ^ b * 2 ^ m := Nat.mul_lt_mul_of_pos_right h5 (Nat.two_pow_pos _)
      _ = 2 ^ (b + m) := (Nat.pow_add _ _ _).symm
      _ ≤ 2 ^ 8192 := Nat.pow_le_pow_right (by decide) (by omega)
  have ht := told_is hwn hlt
  rw [ht.1] at rW
  rw [ht.2] at xT
  have hm : ∀ f args S out S', Known Tryz.prog gN f args S out S' → CallSim Tryz.prog gN f args S out S' := fun _ _ _ _ _ h => h
  have cL := xL.sim (Checked.mixed Tryz.checked) hm
  have cC := xC.sim (Checked.mixed Tryz.checked) hm
  have cT := xT.sim (Checked.mixed Tryz.checked) hm
  clear xL xC xT
  refine DV.seq (DV.fltM [0, 1, 3, 4, 5, 6, 2, 7, 8, 9, 10, 11, 12, 13] shSig 6 (tA := 55) (cs := (List.replicate (m / 64) (v64 0#64)).toArray) (mk := fun a => .slice a (m / 64) (m / 64))
    (M := shM S1 Sa Sb Sc Sd) (V := shV (.slice a f.length c) (.slice (some ⟨ro, 0, none⟩) (f.length + 1) (f.length + 1)) (.slice (some ⟨Sa.length, 0, none⟩) (m / 64) (m / 64)) (.slice (some ⟨Sb.length, 0, none⟩) 2 2) d1.v d.v m 0)
    (by kernel_rfl) rfl (by kernel_rfl) rfl (by kernel_rfl) rfl rfl ?_ ?_ ?_ rfl ?_ ?_ ?_)
  · simp [scalar]
  · intro ρ x y q3 q4 q5
    exact .sl _ _ _ _ _ q3 q4 q5 ⟨fun _ => rfl, fun h => by unfold UNK at h; omega⟩
  · intro ρ a' w hop
    have e1 : a'.eval (.tmp 45) = vi (m / 64) := (hop (.tmp 45) (by simp [Op.operands])).scalar_eq rfl
    exact mk_run (n := m / 64) (m := m / 64) (bytes := 8) rfl e1 e1 (Nat.le_refl _) (by omega) (by decide)
  · exact hSb
  · refine .cons (.pure rfl rfl rfl) ?_
    refine .cons (.pure rfl ?_ rfl) ?_
    · show some (Value.int .i64 (IntKind.i64.wrap (Int.tdiv (m : Int) 64))) = _
      rw [hq]; rfl
    refine .cons (.pure rfl rfl rfl) ?_
    refine .cons (.pure rfl rfl rfl) ?_
    refine .cons (.pure rfl ?_ rfl) ?_
    · show some (Value.int .i64 (Int.tmod (m : Int) 64)) = _
      rw [hr]; rfl
    refine .cons (.call rfl rfl cL rfl) ?_
    refine .cons (.eff rfl ((mk_aeff (n := m / 64) (m := m / 64) (bytes := 8) (zv := v64 0#64) rfl rfl rfl (Nat.le_refl _) (by omega) (by decide)).trans (by
      show some (Value.slice (some ⟨Sa.length, 0, none⟩) (m / 64) (m / 64), Sa ++ [newR (List.replicate (m / 64) (v64 0#64)) 55]) = _
      rw [← hSb]; rfl)) (by decide) (fun _ => kb)) ?_
    refine .cons (.eff rfl ((aeff_build (vals := [.slice (some ⟨Sa.length, 0, none⟩) (m / 64) (m / 64), .slice (some ⟨ro, 0, none⟩) (f.length + 1) (f.length + 1)]) rfl rfl rfl rfl rfl).trans (by
      show some (Value.slice (some ⟨Sb.length, 0, none⟩) 2 2, Sb ++ [newR [.slice (some ⟨Sa.length, 0, none⟩) (m / 64) (m / 64), .slice (some ⟨ro, 0, none⟩) (f.length + 1) (f.length + 1)] 22]) = _
      rw [← hSc]; rfl)) (by decide) (fun _ => kc)) ?_
    refine .cons (.call rfl rfl cC rfl) ?_
    refine .cons (.call rfl (by rw [← hv1]; rfl) cT rfl) ?_
    refine .cons (.pure rfl rfl rfl) ?_
    refine .cons (.pure rfl rfl rfl) ?_
    refine .cons (.pure rfl rfl rfl) ?_
    refine .cons (.pure rfl rfl rfl) ?_
    exact .nil
  · refine DV.code rfl ?_
    repeat first|refine W.g ?_|refine L.p rfl rfl ?_|refine L.nil ?_|refine L.skip rfl ?_
    exact ⟨.ret, _, _, rfl, .ret (v := .tuple #[d.v, .int .i64 0]) rfl, d, rfl, rW⟩
end Go.Proofs.YtbdnkneedengcaaGreatDoor

/- Bytes out of numbers: plain laws. Conditions: none. -/
set_option linter.unusedSimpArgs false
set_option linter.unusedVariables false
namespace Go.Proofs.YtbdnkneedengcaaGreatDoor
open Go

def byteAt (n k : Nat) : BitVec 8 := BitVec.ofNat 8 (n / 256 ^ k)
/-- how many bytes -/
def bsz (n : Nat) : Nat := (blen n + 7) / 8
/-- a number's bytes, the highest first -/
def toB (n : Nat) : BL := (List.range (bsz n)).map fun i => byteAt n (bsz n - 1 - i)
theorem toB_len (n : Nat) : (toB n).length = bsz n := by simp [toB]
theorem byte_limb {l : WL} {k : Nat} {x : BitVec 64} (h : l[k / 8]? = some x) : (x >>> (8 * (k % 8))).setWidth 8 = byteAt (wnum l) k := by
  have hx := limb_get h
  apply BitVec.eq_of_toNat_eq
  rw [BitVec.toNat_setWidth, BitVec.toNat_ushiftRight, Nat.shiftRight_eq_div_pow, hx]
  unfold byteAt
  rw [BitVec.toNat_ofNat, p256, show 8 * k = 64 * (k / 8) + 8 * (k % 8) by omega, Nat.pow_add, ← Nat.div_div_eq_div_mul]
  generalize wnum l / 2 ^ (64 * (k / 8)) = z
  have h8 : (2 : Nat) ^ 64 = 2 ^ (8 * (k % 8)) * 2 ^ (64 - 8 * (k % 8)) := by rw [← Nat.pow_add]; congr 1; omega
  rw [h8, Nat.mod_mul_right_div_self]
  exact Nat.mod_mod_of_dvd _ (Nat.pow_dvd_pow 2 (by omega))
theorem limb_in {l : WL} {k : Nat} (hl : Canon l) (h : k < bsz (wnum l)) : k / 8 < l.length := by
  have hl' := toW_wnum hl
  rcases Nat.lt_or_ge (k / 8) l.length with h1 | h1
  · exact h1
  · have h2 := wnum_lt l
    have h3 : wnum l < 2 ^ (64 * (k / 8)) := Nat.lt_of_lt_of_le h2 (Nat.pow_le_pow_right (by decide) (by omega))
    have h4 := blen_le.2 h3
    unfold bsz at h
    omega
theorem byte_zero {n k : Nat} (h : bsz n ≤ k) : byteAt n k = 0#8 := by
  unfold byteAt
  have h1 : blen n ≤ 8 * k := by unfold bsz at h; omega
  have h2 := blen_le.1 h1
  rw [← p256] at h2
  rw [Nat.div_eq_of_lt h2]
theorem byte_top {n : Nat} (h : 0 < bsz n) : byteAt n (bsz n - 1) ≠ 0#8 := by
  intro h0
  have h1 := congrArg BitVec.toNat h0
  unfold byteAt at h1
  rw [BitVec.toNat_ofNat] at h1
  have h2 : ¬ blen n ≤ 8 * (bsz n - 1) := by unfold bsz at h ⊢; omega
  have h3 : 2 ^ (8 * (bsz n - 1)) ≤ n := Nat.le_of_not_lt fun h4 => h2 (blen_le.2 h4)
  have h4 : n < 2 ^ (8 * bsz n) := blen_le.1 (by unfold bsz; omega)
  rw [← p256] at h3 h4
  have h5 : 0 < n / 256 ^ (bsz n - 1) := Nat.div_pos h3 (Nat.pow_pos (by decide))
  have h6 : n / 256 ^ (bsz n - 1) < 256 := Nat.div_lt_of_lt_mul (by rw [← Nat.pow_succ, show (bsz n - 1).succ = bsz n by omega]; exact h4)
  have h7 : n / 256 ^ (bsz n - 1) % 2 ^ 8 = n / 256 ^ (bsz n - 1) := Nat.mod_eq_of_lt h6
  rw [h7] at h1
  simp at h1
  omega
theorem strip0_snoc (l : BL) (c : BitVec 8) : strip0 (l ++ [c]) = if c ≠ 0#8 ∨ 0 < (strip0 l).length then strip0 l ++ [c] else [] := by
  induction l with
  | nil =>
    unfold strip0
    by_cases h : c = 0#8
    · subst h; rfl
    · rw [if_pos (.inl h)]
      simp [h]
  | cons x l ih =>
    rw [List.cons_append]
    unfold strip0 at ih ⊢
    by_cases hx : x = 0#8
    · rw [List.dropWhile_cons_of_pos (by simp [hx]), List.dropWhile_cons_of_pos (by simp [hx])]
      exact ih
    · rw [List.dropWhile_cons_of_neg (by simp [hx]), List.dropWhile_cons_of_neg (by simp [hx])]
      rw [if_pos (.inr (by simp))]; rfl
/-- the first t of the L bytes that a number is laid out in -/
def lead (n L t : Nat) : BL := (List.range t).map fun s => byteAt n (L - 1 - s)
theorem lead_succ (n L t : Nat) : lead n L (t + 1) = lead n L t ++ [byteAt n (L - 1 - t)] := by simp [lead, List.range_succ]
theorem strip0_zeros (k : Nat) (l : BL) : strip0 (List.replicate k 0#8 ++ l) = strip0 l := by
  induction k with
  | zero => rfl
  | succ k ih =>
    rw [List.replicate_succ, List.cons_append]
    unfold strip0 at ih ⊢
    rw [List.dropWhile_cons_of_pos (by simp)]
    exact ih
theorem lead_all {n L : Nat} (h : bsz n ≤ L) : strip0 (lead n L L) = toB n := by
  have h1 : lead n L L = List.replicate (L - bsz n) 0#8 ++ toB n := by
    apply List.ext_getElem?
    intro i
    rw [List.getElem?_append, List.getElem?_replicate]
    unfold lead toB
    simp only [List.getElem?_map, List.length_replicate]
    by_cases hi : i < L - bsz n
    · rw [if_pos hi, if_pos hi, List.getElem?_range (by omega)]
      simp only [Option.map_some]
      rw [byte_zero (by omega)]
    · rw [if_neg hi]
      by_cases hL : i < L
      · rw [List.getElem?_range hL, List.getElem?_range (by omega)]
        simp only [Option.map_some]
        rw [show L - 1 - i = bsz n - 1 - (i - (L - bsz n)) by omega]
      · rw [List.getElem?_eq_none (by simp; omega), List.getElem?_eq_none (by simp; omega)]; rfl
  rw [h1, strip0_zeros]
  have hb := fun h0 => byte_top (n := n) h0
  unfold strip0
  cases hq : toB n with
  | nil => rfl
  | cons x m =>
    have hp : 0 < bsz n := by have := congrArg List.length hq; rw [toB_len] at this; simp at this; omega
    have hx : (toB n)[0]? = some x := by rw [hq]; rfl
    unfold toB at hx
    rw [List.getElem?_map, List.getElem?_range hp] at hx
    simp only [Option.map_some, Nat.sub_zero, Option.some.injEq] at hx
    rw [List.dropWhile_cons_of_neg]
    rw [← hx]
    simpa using hb hp
end Go.Proofs.YtbdnkneedengcaaGreatDoor

/- Layer 1: bytes out of numbers; the reference's numbers out of bytes. Conditions: none. -/
set_option linter.unusedSimpArgs false
set_option linter.unusedVariables false
set_option maxRecDepth 100000
namespace Go.Proofs.YtbdnkneedengcaaGreatDoor
open Go
variable {G : Nat} {Ext : FuncId → List Value → Mem → Outc → Mem → Prop}

/-- what a call hands out: bytes in new memory -/
def RetB (S S' : Mem) (d : Hd) (l : BL) : Prop := Cons S S' ∧ l.length < 1099511627776 ∧ HdOk S' 5 d (bv l) ∧ ∀ b, d.a = some b → S.length ≤ b
theorem RetB.nil {S S' : Mem} (k : Cons S S') : RetB S S' Hd0 [] := ⟨k, by decide, HdOk.nil _ _, nofun⟩
theorem RetB.pre {S S1 S' : Mem} {d : Hd} {l : BL} (k : Cons S S1) (h : RetB S1 S' d l) : RetB S S' d l := by
  obtain ⟨h1, h2, h4, h5⟩ := h
  exact ⟨k.trans h1, h2, h4, fun b e => Nat.le_trans k.len (h5 b e)⟩
theorem RetB.post {S S1 S' : Mem} {d : Hd} {l : BL} (h : RetB S S1 d l) (k : Cons S1 S') : RetB S S' d l := by
  obtain ⟨h1, h2, h4, h5⟩ := h
  exact ⟨h1.trans k, h2, h4.cons k, h5⟩
def bytesL (l : WL) : BL := if small l then toB (wnum l) else []
theorem natBytes_C (a : Option Addr) (c : Nat) (l : WL) (S : Mem) (hI : WIn S a c l) : C Tryz.prog G Ext 32 [.slice a l.length c] S fun v S' => ∃ d : Hd, v = .tuple #[d.v, .int .i64 (toldE l)] ∧ RetB S S' d (bytesL l) := by
  refine C.fn Tryz.func32 rfl (by kernel_rfl) rfl ?_
  repeat first|refine W.g ?_|refine L.p rfl rfl ?_|refine L.nil ?_|refine L.skip rfl ?_
  refine L.bs [WS.v ⟨a, c, l⟩] rfl rfl rfl rfl rfl rfl ?_
  have hc : Cons S (S ++ [newR [WS.v ⟨a, c, l⟩] 22]) := Cons.push _ _
  have hs : Slv (S ++ [newR [WS.v ⟨a, c, l⟩] 22]) 1 (.slice (some ⟨S.length, 0, none⟩) 1 1) 1 ([WS.mk a c l].map WS.v) := Slv.all (row_push_new rfl) rfl rfl
  generalize S ++ [newR [WS.v ⟨a, c, l⟩] 22] = S1 at *
  refine L.cl (fit_C _ [⟨a, c, l⟩] S1 hs (fun w hw => by simp at hw; subst hw; exact hI.cons hc) (by simp)) rfl rfl ?_
  rintro _ _ ⟨rfl, rfl⟩
  refine ⟨nofun, ?_⟩
  repeat first|refine W.g ?_|refine L.p rfl rfl ?_|refine L.nil ?_|refine L.skip rfl ?_
  refine W.ite rfl (fun h => ?_) (fun h => ?_)
  · have hs : small l = false := by simpa using h
    repeat first|refine W.g ?_|refine L.p rfl rfl ?_|refine L.nil ?_|refine L.skip rfl ?_
    exact ⟨.inr rfl, _, rfl, Hd0, (by unfold toldE; rw [hs]; rfl), by unfold bytesL; rw [if_neg (by rw [hs]; decide)]; exact RetB.nil hc⟩
  have hsm : small l = true := by simpa using h
  clear h
  rename Mem => S1
  have hI1 := hI.cons hc
  have hF := hI1.form
  repeat first|refine W.g ?_|refine L.p rfl rfl ?_|refine L.nil ?_|refine L.skip rfl ?_
  refine L.cl (trim_C a c l _ hI1) rfl rfl ?_
  rintro _ _ ⟨rfl, rfl⟩
  refine ⟨nofun, ?_⟩
  repeat first|refine W.g ?_|refine L.p rfl rfl ?_|refine L.nil ?_|refine L.skip rfl ?_
  refine L.cl (bits_C a c (fm l) _ hF) rfl rfl ?_
  rintro _ S2 ⟨rfl, rfl⟩
  refine ⟨nofun, ?_⟩
  have hn : wnum (fm l) = wnum l := wnum_toW _
  have hcan : Canon (fm l) := canon_toW _
  obtain ⟨f, hf⟩ : ∃ f, f = fm l := ⟨_, rfl⟩
  rw [← hf] at hF hn hcan ⊢
  have hb : blen (wnum l) ≤ 8192 := by
    have := wnum_lt f
    rw [hn] at this
    have h8 := blen_le.2 this
    clear this
    have h9 : (fm l).length ≤ 128 := of_decide_eq_true hsm
    rw [← hf] at h9; omega
  clear hf
  rw [hn]
  have hq := up8 (n := blen (wnum l)) (by omega)
  obtain ⟨N, hN⟩ : ∃ N, N = wnum l := ⟨_, rfl⟩
  have hbL : bytesL l = toB N := by unfold bytesL; rw [if_pos hsm, hN]
  have htE : toldE l = 0 := by unfold toldE; rw [if_pos hsm]
  rw [← hN] at hq hb hn ⊢
  rw [show (blen N + 7) / 8 = bsz N from rfl] at hq
  have hbz : bsz N ≤ 1024 := by unfold bsz; omega
  repeat first|refine W.g ?_|refine L.p rfl rfl ?_|refine L.nil ?_|refine L.skip rfl ?_
  refine L.mk (n := bsz N) (m := bsz N) (bytes := 1) (zv := v8 0#8) rfl rfl hq rfl hq (Nat.le_refl _) (by omega) rfl rfl ?_
  have hr : Mem.row? (S2 ++ [newR (List.replicate (bsz N) (v8 0#8)) 5]) S2.length = some (newR (List.replicate (bsz N) (v8 0#8)) 5) := row_push_new rfl
  have hc2 : Cons S2 (S2 ++ [newR (List.replicate (bsz N) (v8 0#8)) 5]) := Cons.push _ _
  generalize S2 ++ [newR (List.replicate (bsz N) (v8 0#8)) 5] = S3 at *
  obtain ⟨ro, hro⟩ : ∃ ro, ro = S2.length := ⟨_, rfl⟩
  rw [← hro] at hr ⊢
  repeat first|refine W.g ?_|refine L.p rfl rfl ?_|refine L.nil ?_|refine L.skip rfl ?_
  refine W.loop (fun j e T => ∃ (i : Nat) (o : BL), j = bsz N - i ∧ i ≤ bsz N ∧ e 0 = .slice a f.length c ∧ e 4 = .slice (some ⟨ro, 0, none⟩) (bsz N) (bsz N) ∧ e 19 = vi (bsz N) ∧ e 20 = vi i ∧
      Cons S2 T ∧ T.row? ro = some (newR (bv o) 5) ∧ o.length = bsz N ∧ o.take i = (toB N).take i) (bsz N)
    ⟨0, List.replicate (bsz N) 0#8, by omega, by omega, rfl, rfl, rfl, rfl, hc2, by rw [hr]; simp [bv], by simp, rfl⟩ ?_
  clear hr hc2
  rintro j e T ⟨i, o, rfl, hi, e0, e4, e19, e20, hcT, hr, ho, htk⟩
  refine W.env4 e0 e4 e19 e20 ?_
  repeat first|refine W.g ?_|refine L.p rfl rfl ?_|refine L.nil ?_|refine L.skip rfl ?_
  refine W.ite rfl (fun h => ?_) (fun h => ?_)
  · have hin : i < bsz N := by have := of_decide_eq_true h; omega
    clear h
    obtain ⟨k, hk⟩ : ∃ k, k = bsz N - 1 - i := ⟨_, rfl⟩
    have hkf : k / 8 < f.length := limb_in hcan (by rw [hn]; omega)
    obtain ⟨x, hx⟩ : ∃ x, f[k / 8]? = some x := ⟨_, List.getElem?_eq_getElem hkf⟩
    have hby := byte_limb hx
    rw [hn] at hby
    have e1 : IntKind.i64.wrap (IntKind.i64.wrap ((bsz N : Int) - 1) - (i : Int)) = (k : Int) := by
      rw [wrap64 (x := (bsz N : Int) - 1) (by omega) (by omega), wrap64 (by omega) (by omega)]; omega
    have e2 : IntKind.i64.wrap (Int.tdiv (k : Int) 8) = ((k / 8 : Nat) : Int) := by
      rw [show Int.tdiv (k : Int) 8 = ((k / 8 : Nat) : Int) from (Int.ofNat_tdiv k 8).symm, wrap64 (by omega) (by omega)]
    have e3 : IntKind.i64.wrap (8 * Int.tmod (k : Int) 8) = ((8 * (k % 8) : Nat) : Int) := by
      rw [show Int.tmod (k : Int) 8 = ((k % 8 : Nat) : Int) from (Int.ofNat_tmod k 8).symm, wrap64 (by omega) (by omega)]; omega
    repeat first|refine W.g ?_|refine L.p rfl rfl ?_|refine L.nil ?_|refine L.skip rfl ?_
    rw [e1]
    refine L.el (hF.cons hcT).1 e2 (wv_get hx) rfl rfl rfl rfl (fun _ => rfl) rfl (fun p => ?_)
    repeat first|refine W.g ?_|refine L.p rfl rfl ?_|refine L.nil ?_|refine L.skip rfl ?_
    refine L.shr (8 * (k % 8)) rfl rfl e3 (by rw [bits_u64]; omega) rfl ?_
    repeat first|refine W.g ?_|refine L.p rfl rfl ?_|refine L.nil ?_|refine L.skip rfl ?_
    refine L.elst hr rfl (by show 0 + _ ≤ (bv o).length; rw [bv_len, ho]; omega) rfl hin rfl rfl rfl rfl (fun _ => rfl) (fun _ => rfl) rfl rfl rfl (fun p => ?_)
    repeat first|refine W.g ?_|refine L.p rfl rfl ?_|refine L.nil ?_|refine L.skip rfl ?_
    rw [fdiv_shr, u8_of_v64, hby, Nat.zero_add]
    refine ⟨bsz N - (i + 1), by omega, i + 1, o.set i (byteAt N k), rfl, by omega, rfl, rfl, rfl, ?_, hcT.set _ _ (by omega), ?_, by simpa using ho, ?_⟩
    · refine (force_eq rfl).trans ?_
      rw [wrap64 (by omega) (by omega)]; rfl
    · rw [row_set_same hr rfl]
      simp only [newR, bv, List.map_set]
    · rw [List.take_add_one, List.take_set_of_le (Nat.le_refl i), htk, List.getElem?_set_self (by omega), List.take_add_one]
      congr 1
      unfold toB
      rw [List.getElem?_map, List.getElem?_range hin, hk]; rfl
  · have hin : i = bsz N := by have := of_decide_eq_false h; omega
    subst hin
    have hoB : o = toB N := by
      rw [List.take_of_length_le (by omega), List.take_of_length_le (by rw [toB_len]; omega)] at htk
      exact htk
    repeat first|refine W.g ?_|refine L.p rfl rfl ?_|refine L.nil ?_|refine L.skip rfl ?_
    refine ⟨.inr rfl, _, rfl, ⟨some ro, bsz N, bsz N⟩, by rw [htE]; rfl, hc.trans hcT, ?_, ?_, ?_⟩
    · rw [hbL, toB_len]; omega
    · rw [hbL, ← hoB]
      exact HdOk.full hr rfl (by rw [bv_len, ho]) (by show (bv o).take _ = _; exact List.take_of_length_le (by rw [bv_len, ho]; exact Nat.le_refl _)) (by unfold UNK; omega)
    · rintro b' ⟨⟩
      have := hc.len; omega
end Go.Proofs.YtbdnkneedengcaaGreatDoor

/- Layer 1's reference: numbers out of bytes, bytes out of numbers. Conditions: none. -/
set_option linter.unusedSimpArgs false
set_option linter.unusedVariables false
set_option maxRecDepth 100000
namespace Go.Proofs.YtbdnkneedengcaaGreatDoor
open Go
variable {G : Nat} {Ext : FuncId → List Value → Mem → Outc → Mem → Prop}

end Go.Proofs.YtbdnkneedengcaaGreatDoor

/- Layer 1's reference: bytes out of numbers. Conditions: none. -/
set_option linter.unusedSimpArgs false
set_option linter.unusedVariables false
set_option maxRecDepth 100000
namespace Go.Proofs.YtbdnkneedengcaaGreatDoor
open Go
variable {G : Nat} {Ext : FuncId → List Value → Mem → Outc → Mem → Prop}

theorem v8_ne0 (x : BitVec 8) : ((x.toNat : Int) != 0) = !(x == 0#8) := by rw [bne, v8_eq0]
theorem grow_bin {N : Nat} {S : Mem} {el : TypeId} {a : Option Addr} {c n : Nat} {l : BL} (h : Grow N S el 1 (.slice a n c) n (bv l)) (hn : l.length = n) (hl : l.length < 1099511627776) : BIn S a c l := by
  subst hn
  refine ⟨h.slv, .of ?_, hl⟩
  obtain ⟨h1, ⟨hv, h0⟩ | ⟨b, hb, hv, hr⟩⟩ := h
  · rw [h0]; exact Nat.zero_le _
  · cases hv; rw [knownCap_unk]; exact Nat.le_refl _
theorem refBytes_C (a : Option Addr) (c : Nat) (l : WL) (S : Mem) (hI : WIn S a c l) (hlen : l.length < 400000) : C Tryz.prog G Ext 35 [.slice a l.length c] S fun v S' => ∃ a' c', v = .tuple #[.slice a' (bytesL l).length c', .int .i64 (toldE l)] ∧ Cons S S' ∧ BIn S' a' c' (bytesL l) := by
  refine C.fn Tryz.func35 rfl (by kernel_rfl) rfl ?_
  repeat first|refine W.g ?_|refine L.p rfl rfl ?_|refine L.nil ?_|refine L.skip rfl ?_
  refine L.cl (fits_C a c l S hI hlen) rfl rfl ?_
  rintro _ S1 ⟨rfl, hc1⟩
  refine ⟨nofun, ?_⟩
  repeat first|refine W.g ?_|refine L.p rfl rfl ?_|refine L.nil ?_|refine L.skip rfl ?_
  refine W.ite rfl (fun h => ?_) (fun h => ?_)
  · have hs : small l = false := by simpa using h
    repeat first|refine W.g ?_|refine L.p rfl rfl ?_|refine L.nil ?_|refine L.skip rfl ?_
    refine ⟨.inr rfl, _, rfl, none, 0, ?_, hc1, ?_⟩
    · unfold bytesL toldE; rw [hs]; rfl
    · unfold bytesL; rw [if_neg (by rw [hs]; decide)]; exact ⟨Slv.nil _ _ _ _, .of (Nat.zero_le _), by decide⟩
  have hsm : small l = true := by simpa using h
  clear h
  repeat first|refine W.g ?_|refine L.p rfl rfl ?_|refine L.nil ?_|refine L.skip rfl ?_
  refine L.cl (form_C a c l S1 (hI.cons hc1) hlen) rfl rfl ?_
  rintro _ S2 ⟨hc2, a1, c1, rfl, hW⟩
  refine ⟨nofun, ?_⟩
  have hn : wnum (fm l) = wnum l := wnum_toW _
  have hcan : Canon (fm l) := canon_toW _
  have h128 : (fm l).length ≤ 128 := of_decide_eq_true hsm
  obtain ⟨f, hf⟩ : ∃ f, f = fm l := ⟨_, rfl⟩
  rw [← hf] at hW hn hcan h128 ⊢
  have hbz : bsz (wnum l) ≤ 8 * f.length := by
    have := wnum_lt f
    rw [hn] at this
    have h8 := blen_le.2 this
    unfold bsz; omega
  clear hf
  obtain ⟨N, hN⟩ : ∃ N, N = wnum l := ⟨_, rfl⟩
  have hbL : bytesL l = toB N := by unfold bytesL; rw [if_pos hsm, hN]
  have htE : toldE l = 0 := by unfold toldE; rw [if_pos hsm]
  rw [← hN] at hbz hn
  have hc12 := hc1.trans hc2
  have hll : ∀ t, (strip0 (lead N (8 * f.length) t)).length ≤ t := fun t => by
    unfold strip0
    have := (List.dropWhile_suffix (l := lead N (8 * f.length) t) (fun x => x == 0#8)).length_le
    simpa [lead] using this
  repeat first|refine W.g ?_|refine L.p rfl rfl ?_|refine L.nil ?_|refine L.skip rfl ?_
  refine W.loop (fun j e T => ∃ (q : Nat) (a5 : Option Addr) (n5 c5 : Nat), j = f.length - q ∧ q ≤ f.length ∧ Cons S2 T ∧ e 4 = .slice a1 f.length c1 ∧ e 5 = .slice a5 n5 c5 ∧ e 6 = .int .i64 ((f.length : Int) - 1 - (q : Int)) ∧
      Grow S2.length T 5 1 (.slice a5 n5 c5) n5 (bv (strip0 (lead N (8 * f.length) (8 * q))))) f.length
    ⟨0, none, 0, 0, by omega, by omega, Cons.refl _, rfl, rfl, ?_, Grow.nil _ _ _ _⟩ ?_
  · refine (force_eq rfl).trans ?_
    rw [wrap64 (by omega) (by omega)]
    congr 1; omega
  rintro j e T ⟨q, a5, n5, c5, rfl, hq, hcT, e4, e5, e6, hg⟩
  refine W.env3 e4 e5 e6 ?_
  repeat first|refine W.g ?_|refine L.p rfl rfl ?_|refine L.nil ?_|refine L.skip rfl ?_
  refine W.ite rfl (fun h => ?_) (fun h => ?_)
  · have hin : q < f.length := by have := of_decide_eq_true h; omega
    clear h
    obtain ⟨x, hx⟩ : ∃ x, f[f.length - 1 - q]? = some x := ⟨_, List.getElem?_eq_getElem (by omega)⟩
    repeat first|refine W.g ?_|refine L.p rfl rfl ?_|refine L.nil ?_|refine L.skip rfl ?_
    refine W.loop (fun j e T' => ∃ (p : Nat) (a5 : Option Addr) (n5 c5 : Nat), j = 8 - p ∧ p ≤ 8 ∧ Cons S2 T' ∧ e 4 = .slice a1 f.length c1 ∧ e 5 = .slice a5 n5 c5 ∧ e 6 = .int .i64 ((f.length : Int) - 1 - (q : Int)) ∧ e 7 = .int .i64 (56 - 8 * (p : Int)) ∧
        Grow S2.length T' 5 1 (.slice a5 n5 c5) n5 (bv (strip0 (lead N (8 * f.length) (8 * q + p))))) 8
      ⟨0, a5, n5, c5, by omega, by omega, hcT, rfl, rfl, rfl, rfl, hg⟩ ?_
    clear e4 e5 e6 hg hcT a5 n5 c5
    rintro j e T' ⟨p, a5, n5, c5, rfl, hp, hcT, e4, e5, e6, e7, hg⟩
    refine W.env4 e4 e5 e6 e7 ?_
    have hn5 : n5 ≤ 1024 := by
      have h1 := hg.1
      rw [bv_len] at h1
      have h2 := hll (8 * q + p)
      omega
    have hn5' : (strip0 (lead N (8 * f.length) (8 * q + p))).length = n5 := by have h1 := hg.1; rw [bv_len] at h1; omega
    repeat first|refine W.g ?_|refine L.p rfl rfl ?_|refine L.nil ?_|refine L.skip rfl ?_
    refine W.ite rfl (fun h => ?_) (fun h => ?_)
    · have hp8 : p < 8 := by have := of_decide_eq_true h; omega
      clear h
      have hby := byte_limb (l := f) (k := 8 * f.length - 1 - (8 * q + p)) (x := x) (by rw [show (8 * f.length - 1 - (8 * q + p)) / 8 = f.length - 1 - q by omega]; exact hx)
      rw [show 8 * ((8 * f.length - 1 - (8 * q + p)) % 8) = 56 - 8 * p by omega, hn] at hby
      have hls := lead_succ N (8 * f.length) (8 * q + p)
      obtain ⟨cc, hcc⟩ : ∃ cc, cc = byteAt N (8 * f.length - 1 - (8 * q + p)) := ⟨_, rfl⟩
      rw [← hcc] at hby hls
      have hsn := strip0_snoc (lead N (8 * f.length) (8 * q + p)) cc
      rw [← hls, show 8 * q + p + 1 = 8 * q + (p + 1) by omega, hn5'] at hsn
      have hcT2 := hc12.trans hcT
      repeat first|refine W.g ?_|refine L.p rfl rfl ?_|refine L.nil ?_|refine L.skip rfl ?_
      refine L.el (hW.cons hcT).1 (k := f.length - 1 - q) (by omega) (wv_get hx) rfl rfl rfl rfl (fun _ => rfl) rfl (fun p7 => ?_)
      repeat first|refine W.g ?_|refine L.p rfl rfl ?_|refine L.nil ?_|refine L.skip rfl ?_
      refine L.shr (56 - 8 * p) rfl rfl (by omega) (by rw [bits_u64]; omega) rfl ?_
      repeat first|refine W.g ?_|refine L.p rfl rfl ?_|refine L.nil ?_|refine L.skip rfl ?_
      rw [fdiv_shr, u8_of_v64, hby]
      cases hz : (cc == 0#8)
      · rw [show ((cc.toNat : Int) != 0) = true by rw [v8_ne0, hz]; rfl]
        rw [if_pos (.inl (by simpa using hz))] at hsn
        repeat first|refine W.g ?_|refine L.p rfl rfl ?_|refine L.nil ?_|refine L.skip rfl ?_
        refine W.ite rfl (fun h => ?_) (fun h => ?_)
        rotate_left
        · cases h
        repeat first|refine W.g ?_|refine L.p rfl rfl ?_|refine L.nil ?_|refine L.skip rfl ?_
        refine L.push1 rfl hcT.len (.inl hg) rfl rfl rfl rfl rfl (by omega) rfl (fun _ => rfl) (fun p9 a6 c6 T2 k2 k3 k4 => ?_)
        repeat first|refine W.g ?_|refine L.p rfl rfl ?_|refine L.nil ?_|refine L.skip rfl ?_
        refine ⟨8 - (p + 1), by omega, p + 1, a6, (n5 + 1), c6, rfl, by omega, (hcT.trans' k4), rfl, rfl, rfl, ?_, (by rw [hsn, bv_app]; exact k2)⟩
        refine (force_eq rfl).trans ?_
        rw [wrap64 (by omega) (by omega)]
        congr 1; omega
      · rw [show ((cc.toNat : Int) != 0) = false by rw [v8_ne0, hz]; rfl]
        repeat first|refine W.g ?_|refine L.p rfl rfl ?_|refine L.nil ?_|refine L.skip rfl ?_
        cases hz2 : decide ((n5 : Int) > 0)
        · have h0 : n5 = 0 := by have := of_decide_eq_false hz2; omega
          rw [if_neg (by rw [h0]; simpa using hz)] at hsn
          subst h0
          repeat first|refine W.g ?_|refine L.p rfl rfl ?_|refine L.nil ?_|refine L.skip rfl ?_
          refine W.ite rfl (fun h => ?_) (fun h => ?_)
          · cases h
          repeat first|refine W.g ?_|refine L.p rfl rfl ?_|refine L.nil ?_|refine L.skip rfl ?_
          refine ⟨8 - (p + 1), by omega, p + 1, a5, 0, c5, rfl, by omega, hcT, rfl, rfl, rfl, ?_, (by rw [hsn]; rw [List.length_eq_zero_iff.1 hn5'] at hg; exact hg)⟩
          refine (force_eq rfl).trans ?_
          rw [wrap64 (by omega) (by omega)]
          congr 1; omega
        · have h0 : 0 < n5 := by have := of_decide_eq_true hz2; omega
          rw [if_pos (.inr h0)] at hsn
          repeat first|refine W.g ?_|refine L.p rfl rfl ?_|refine L.nil ?_|refine L.skip rfl ?_
          refine W.ite rfl (fun h => ?_) (fun h => ?_)
          rotate_left
          · cases h
          repeat first|refine W.g ?_|refine L.p rfl rfl ?_|refine L.nil ?_|refine L.skip rfl ?_
          refine L.push1 rfl hcT.len (.inl hg) rfl rfl rfl rfl rfl (by omega) rfl (fun _ => rfl) (fun p9 a6 c6 T2 k2 k3 k4 => ?_)
          repeat first|refine W.g ?_|refine L.p rfl rfl ?_|refine L.nil ?_|refine L.skip rfl ?_
          refine ⟨8 - (p + 1), by omega, p + 1, a6, (n5 + 1), c6, rfl, by omega, (hcT.trans' k4), rfl, rfl, rfl, ?_, (by rw [hsn, bv_app]; exact k2)⟩
          refine (force_eq rfl).trans ?_
          rw [wrap64 (by omega) (by omega)]
          congr 1; omega
    · have hp8 : p = 8 := by have := of_decide_eq_false h; omega
      subst hp8
      repeat first|refine W.g ?_|refine L.p rfl rfl ?_|refine L.nil ?_|refine L.skip rfl ?_
      refine ⟨f.length - (q + 1), by omega, q + 1, a5, n5, c5, rfl, by omega, hcT, rfl, rfl, ?_, by rw [show 8 * (q + 1) = 8 * q + 8 by omega]; exact hg⟩
      refine (force_eq rfl).trans ?_
      rw [wrap64 (by omega) (by omega)]
      congr 1; omega
  · have hin : q = f.length := by have := of_decide_eq_false h; omega
    subst hin
    rw [lead_all hbz] at hg
    have hnn : (toB N).length = n5 := by have h1 := hg.1; rw [bv_len] at h1; omega
    have hB := grow_bin hg hnn (by rw [toB_len]; omega)
    repeat first|refine W.g ?_|refine L.p rfl rfl ?_|refine L.nil ?_|refine L.skip rfl ?_
    refine ⟨.inr rfl, _, rfl, a5, c5, ?_, hc12.trans hcT, by rw [hbL]; exact hB⟩
    rw [hbL, htE, hnn]; rfl
end Go.Proofs.YtbdnkneedengcaaGreatDoor
