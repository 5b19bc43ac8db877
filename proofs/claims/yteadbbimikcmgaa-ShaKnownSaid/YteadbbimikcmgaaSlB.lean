/- Rules for appending, copying and cutting slices. Conditions: none. -/
import Derived.Test.YteadbbimikcmgaaSl
set_option linter.unusedSimpArgs false
set_option linter.unusedVariables false
namespace Go.Proofs.Yteadbbimikcmgaa
open Go

theorem app_zero {P : Program} {ts xs : TypeId} {el : TypeId} {sz bytes N n : Nat} {S : Mem} {v x : Value} {l : List Value} (hok : appOk P ts xs = some (el, sz, bytes)) (hg : Grow N S el sz v n l)
    (hx : firstOf S sz 0 x = some []) (hm : lenOf' x = some 0) : aappend P ts xs v x S = some (v, S) := by
  obtain ⟨dx, i, z, hu1, hu2, hi, hd, hz, hzz1, hzz2, rfl, rfl⟩ := appOk_some hok
  obtain ⟨hl, hg'⟩ := hg
  have hcond : ¬ (z.cells.size ≠ i.size ∨ ¬ z.cells.toList.all scalar = true) := fun h => h.elim (fun h => h hzz1) (fun h => h hzz2)
  rcases hg' with ⟨rfl, rfl⟩ | ⟨b, hb, rfl, hr⟩
  · rw [aappend_eq hu1 hu2 hi hd hz hm]
    simp only [hx, Option.bind_some]
    rw [firstOf_nil]
    simp only [Option.bind_some]
    rw [if_neg hcond, if_pos (by simp), if_pos (by simp [UNK])]
  · have hf : firstOf S i.size n (.slice (some ⟨b, 0, none⟩) n (UNK + n)) = some (l.take (n * i.size)) := (Slv.all (c := UNK + n) hr rfl hl).first (Nat.le_refl _)
    rw [aappend_eq hu1 hu2 hi hd hz hm]
    simp only [hx, hf, Option.bind_some]
    rw [if_neg hcond, if_pos (by rw [knownCap_unk]; omega)]
    simp
theorem app_any {P : Program} {ts xs : TypeId} {el : TypeId} {sz bytes N n m : Nat} {S : Mem} {v x : Value} {l news : List Value} (hok : appOk P ts xs = some (el, sz, bytes)) (hN : N ≤ S.length) (hg : Grow N S el sz v n l)
    (hx : firstOf S sz m x = some news) (hm : lenOf' x = some m) (hnews : news.length = m * sz) (h1 : news.all oneCell = true) (hroom : roomy (n + m) bytes) :
    ∃ v' S', aappend P ts xs v x S = some (v', S') ∧ Grow N S' el sz v' (n + m) (l ++ news) ∧ S.length ≤ S'.length ∧ Agree N S S' := by
  rcases Nat.eq_zero_or_pos m with rfl | hpos
  · have hn0 : news = [] := List.length_eq_zero_iff.1 (by omega)
    subst hn0
    refine ⟨v, S, app_zero hok hg hx hm, ?_, Nat.le_refl _, Agree.refl _ _⟩
    rw [List.append_nil]; exact hg
  · exact app_grow hok hN hg hx hm hnews h1 hroom hpos
/-- appending to a slice whose capacity is known and used up -/
theorem app_full {P : Program} {ts xs : TypeId} {el : TypeId} {sz bytes n m : Nat} {S : Mem} {base : Option Addr} {x : Value} {l news : List Value} (hok : appOk P ts xs = some (el, sz, bytes)) (hv : Slv S sz (.slice base n n) n l)
    (hx : firstOf S sz m x = some news) (hm : lenOf' x = some m) (hnews : news.length = m * sz) (hroom : roomy (n + m) bytes) (hpos : 0 < m) :
    ∃ v', aappend P ts xs (.slice base n n) x S = some (v', S ++ [grownR (l ++ news) el sz]) ∧ Grow S.length (S ++ [grownR (l ++ news) el sz]) el sz v' (n + m) (l ++ news) := by
  obtain ⟨dx, i, z, hu1, hu2, hi, hd, hz, hzz1, hzz2, rfl, rfl⟩ := appOk_some hok
  have hcond : ¬ (z.cells.size ≠ i.size ∨ ¬ z.cells.toList.all scalar = true) := fun h => h.elim (fun h => h hzz1) (fun h => h hzz2)
  have hbig : n + m < UNK := by have := hroom.2.2.1; unfold UNK; omega
  have hf := hv.first (Nat.le_refl n)
  rw [← hv.1, List.take_length] at hf
  refine ⟨.slice (some ⟨S.length, 0, none⟩) (n + m) (UNK + (n + m)), ?_, by simp [hnews, hv.1, Nat.add_mul], .inr ⟨S.length, Nat.le_refl _, rfl, row_push_new rfl⟩⟩
  rw [aappend_eq hu1 hu2 hi hd hz hm]
  simp only [hx, hf, Option.bind_some]
  rw [if_neg hcond, if_neg (by unfold knownCap; rw [if_pos (by omega)]; omega), if_pos ⟨hroom, hnews, hv.1⟩, if_pos (by omega)]

theorem roomy_of {n b : Nat} (h : n ≤ 1099511627776) (hb : (Nat.ble 1 b && Nat.ble b 64) = true) : roomy n b := by
  simp only [Bool.and_eq_true, Nat.ble_eq] at hb
  have := Nat.mul_le_mul h hb.2
  unfold roomy; omega
/-- a slice whose capacity is known and used up -/
def Full (N : Nat) (S : Mem) (sz : Nat) (v : Value) (n : Nat) (l : List Value) : Prop := ∃ b r, N ≤ b ∧ v = .slice (some ⟨b, 0, none⟩) n n ∧ S.row? b = some r ∧ r.cells = l ∧ l.length = n * sz ∧ r.ro = none
def GrowF (N : Nat) (S : Mem) (el : TypeId) (sz : Nat) (v : Value) (n : Nat) (l : List Value) : Prop := Grow N S el sz v n l ∨ Full N S sz v n l
theorem GrowF.slv {N : Nat} {S : Mem} {el : TypeId} {sz : Nat} {v : Value} {n : Nat} {l : List Value} (h : GrowF N S el sz v n l) : Slv S sz v n l := by
  rcases h with h | ⟨b, r, _, rfl, hr, hc, hl, ho⟩
  · exact h.slv
  · exact Slv.all hr hc hl ho
theorem GrowF.cons {N : Nat} {S S' : Mem} {el : TypeId} {sz : Nat} {v : Value} {n : Nat} {l : List Value} (h : GrowF N S el sz v n l) (k : Cons S S') : GrowF N S' el sz v n l := by
  rcases h with h | ⟨b, r, hb, hv, hr, hc, hl, ho⟩
  · exact .inl (h.cons k)
  · exact .inr ⟨b, r, hb, hv, Cons.row (h := k) hr, hc, hl, ho⟩
theorem GrowF.shape {N : Nat} {S : Mem} {el : TypeId} {sz : Nat} {v : Value} {n : Nat} {l : List Value} (h : GrowF N S el sz v n l) : ∃ a c, v = .slice a n c := by
  obtain ⟨_, a, c, h, _⟩ := h.slv; exact ⟨a, c, h⟩
theorem app_growF {P : Program} {ts xs : TypeId} {el : TypeId} {sz bytes N n m : Nat} {S : Mem} {v x : Value} {l news : List Value} (hok : appOk P ts xs = some (el, sz, bytes)) (hN : N ≤ S.length) (hg : GrowF N S el sz v n l)
    (hx : firstOf S sz m x = some news) (hm : lenOf' x = some m) (hnews : news.length = m * sz) (h1 : news.all oneCell = true) (hroom : roomy (n + m) bytes) (hpos : 0 < m) :
    ∃ v' S', aappend P ts xs v x S = some (v', S') ∧ Grow N S' el sz v' (n + m) (l ++ news) ∧ S.length ≤ S'.length ∧ Agree N S S' := by
  rcases hg with hg | ⟨b, r, hb, rfl, hr, hc, hl, ho⟩
  · exact app_grow hok hN hg hx hm hnews h1 hroom hpos
  · obtain ⟨v', h2, h3⟩ := app_full (x := x) hok (Slv.all hr hc hl ho) hx hm hnews hroom hpos
    refine ⟨v', _, h2, ?_, by simp, (Cons.push S _).agree hN⟩
    obtain ⟨h4, ⟨h5, h6⟩ | ⟨b', h5, h6, h7⟩⟩ := h3
    · omega
    · exact ⟨h4, .inr ⟨b', by omega, h6, h7⟩⟩

/-! ### slices of parts -/
theorem cells_one {w : Value} (h : oneCell w = true) : w.cells = #[w] := by cases w <;> first | rfl | cases h
theorem fill_all (ws : List Value) (h : ws.all oneCell = true) : ∀ (i : Nat) (arr : Array Value), arr.size = i + ws.length → Instr.fill (fun i' => some (i' * 1, 1)) arr ((ws.zipIdx i).map fun p => (p.2, p.1)) = some (arr.toList.take i ++ ws).toArray := by
  induction ws with
  | nil => intro i arr ha; simp [Instr.fill]; rw [List.take_of_length_le (by simp at ha ⊢; omega)]
  | cons w ws ih =>
    intro i arr ha
    simp only [List.all_cons, Bool.and_eq_true] at h
    have hc := cells_one h.1
    rw [List.zipIdx_cons, List.map_cons, Instr.fill]
    have hs : w.cells.size = 1 := by rw [hc]; rfl
    simp only [List.length_cons] at ha
    dsimp only
    rw [if_neg (by simp [hs]; omega)]
    have hst : w.cells.zipIdx.foldl (fun cs (c, j) => cs.setIfInBounds (i * 1 + j) c) arr = arr.setIfInBounds i w := by rw [hc]; simp
    rw [hst, ih h.2 (i + 1) _ (by simp; omega)]
    congr 1
    rw [Array.toList_setIfInBounds]
    have hlt : i < arr.toList.length := by simp; omega
    rw [show (arr.toList.set i w).take (i + 1) = arr.toList.take i ++ [w] by
      rw [List.take_add_one, List.getElem?_set_self hlt, List.take_set_of_le (Nat.le_refl i)]; rfl]
    simp
def bldOk (P : Program) (t : TypeId) : Option (TypeId × Nat) := match P.underlying t with
  | some (.slice e) => match P.info? e, zeroOf P e with
    | some i, some z => if 0 < z.cells.size then some (e, i.size) else none
    | _, _ => none
  | _ => none
theorem aeff_build {P : Program} {t el : TypeId} {len : Nat} {parts : Array (Nat × Operand)} {vals : List Value} {ev : Operand → Value} {S : Mem} {dst : Option Tmp} {ty : TypeId} {pos : String} {af : Array Edge} {gd : Option (Nat × Bool)} (hb : bldOk P t = some (el, 1)) (hl : len = vals.length) (hsm : Nat.ble len 16777216 = true)
    (hp : parts.toList.map (fun p => (p.1, ev p.2)) = (vals.zipIdx 0).map fun p => (p.2, p.1)) (h1 : vals.all oneCell = true) :
    aeff P ⟨dst, .buildSlice t len parts, ty, pos, af, gd⟩ ev S = some (.slice (some ⟨S.length, 0, none⟩) len len, S ++ [newR vals el]) := by
  unfold bldOk at hb
  split at hb
  · rename_i e hu
    split at hb
    · rename_i i z hi hz
      split at hb
      · rename_i hpos
        simp only [Option.some.injEq, Prod.mk.injEq] at hb
        obtain ⟨rfl, hsz⟩ := hb
        have hlen : len ≤ 16777216 := Nat.le_of_ble_eq_true hsm
        simp only [aeff, hu, hi, hz]
        rw [if_pos ⟨by rw [hsz]; omega, by unfold UNK; omega, hpos⟩]
        have hpp : (parts.map fun (i, x) => (i, ev x)).toList = (vals.zipIdx 0).map fun p => (p.2, p.1) := by rw [← hp]; simp
        rw [hpp, hsz, fill_all vals h1 0 _ (by simp [zeroList, hl])]
        simp
      · cases hb
    · cases hb
  · cases hb
theorem foldl_set : ∀ (l : List Value) (k base : Nat) (arr : Array Value), base + k + l.length ≤ arr.size → ((l.zipIdx k).foldl (fun cs (p : Value × Nat) => cs.setIfInBounds (base + p.2) p.1) arr).toList = putFrom arr.toList (base + k) l
  | [], k, base, arr, h => by simp [putFrom]
  | v :: l, k, base, arr, h => by
    simp only [List.length_cons] at h
    rw [List.zipIdx_cons, List.foldl_cons, foldl_set l (k + 1) base _ (by simp; omega), putFrom_cons _ _ _ _ (by simp; omega)]
    simp only [Array.toList_setIfInBounds]
    rfl
theorem fill_blk (sz : Nat) (ws : List Value) (h : ∀ w ∈ ws, w.cells.size = sz) : ∀ (i : Nat) (arr : Array Value), arr.size = (i + ws.length) * sz → Instr.fill (fun i' => some (i' * sz, sz)) arr ((ws.zipIdx i).map fun p => (p.2, p.1)) = some (arr.toList.take (i * sz) ++ ws.flatMap fun w => w.cells.toList).toArray := by
  induction ws with
  | nil => intro i arr ha; simp [Instr.fill]; rw [List.take_of_length_le (by simp at ha ⊢; omega)]
  | cons w ws ih =>
    intro i arr ha
    have hs : w.cells.size = sz := h w (by simp)
    rw [List.zipIdx_cons, List.map_cons, Instr.fill]
    simp only [List.length_cons] at ha
    have hle : i * sz + sz ≤ arr.size := by rw [ha, ← Nat.succ_mul]; exact Nat.mul_le_mul_right _ (by omega)
    dsimp only
    rw [if_neg (by simp [hs]; omega)]
    have hst : (w.cells.zipIdx.foldl (fun cs (c, j) => cs.setIfInBounds (i * sz + j) c) arr).toList = putFrom arr.toList (i * sz) w.cells.toList := by
      have := foldl_set w.cells.toList 0 (i * sz) arr (by simp [hs]; omega)
      rw [Nat.add_zero] at this
      rw [← this, ← Array.foldl_toList, Array.toList_zipIdx]
    have hsz : (w.cells.zipIdx.foldl (fun cs (c, j) => cs.setIfInBounds (i * sz + j) c) arr).size = arr.size := by
      rw [← Array.length_toList, hst]
      simp [putFrom, hs]; omega
    rw [ih (fun x hx => h x (List.mem_cons_of_mem _ hx)) (i + 1) _ (by rw [hsz, ha]; congr 1; omega)]
    rw [hst, List.flatMap_cons, ← List.append_assoc]
    congr 3
    unfold putFrom
    rw [List.take_append_of_le_length (by simp [hs, Nat.succ_mul]; omega), List.take_of_length_le (by simp [hs, Nat.succ_mul]; omega)]
theorem aeff_buildN {P : Program} {t el : TypeId} {len sz : Nat} {parts : Array (Nat × Operand)} {vals : List Value} {ev : Operand → Value} {S : Mem} {dst : Option Tmp} {ty : TypeId} {pos : String} {af : Array Edge} {gd : Option (Nat × Bool)} (hb : bldOk P t = some (el, sz)) (hl : len = vals.length) (hsm : Nat.ble (len * sz) 16777216 = true) (hu : Nat.ble 1 sz = true)
    (hp : parts.toList.map (fun p => (p.1, ev p.2)) = (vals.zipIdx 0).map fun p => (p.2, p.1)) (h1 : ∀ w ∈ vals, w.cells.size = sz) :
    aeff P ⟨dst, .buildSlice t len parts, ty, pos, af, gd⟩ ev S = some (.slice (some ⟨S.length, 0, none⟩) len len, S ++ [newR (vals.flatMap fun w => w.cells.toList) el]) := by
  unfold bldOk at hb
  split at hb
  · rename_i e hu'
    split at hb
    · rename_i i z hi hz
      split at hb
      · rename_i hpos
        simp only [Option.some.injEq, Prod.mk.injEq] at hb
        obtain ⟨rfl, hsz⟩ := hb
        have hlen : len * sz ≤ 16777216 := Nat.le_of_ble_eq_true hsm
        have hs1 : 1 ≤ sz := Nat.le_of_ble_eq_true hu
        have hll : len ≤ len * sz := Nat.le_mul_of_pos_right _ hs1
        simp only [aeff, hu', hi, hz]
        rw [if_pos ⟨by rw [hsz]; omega, by unfold UNK; omega, hpos⟩]
        have hpp : (parts.map fun (i, x) => (i, ev x)).toList = (vals.zipIdx 0).map fun p => (p.2, p.1) := by rw [← hp]; simp
        rw [hpp, hsz, fill_blk sz vals h1 0 _ (by simp [zeroList, hl])]
        simp
      · cases hb
    · cases hb
  · cases hb
section
variable {P : Program} {G : Nat} {Ext : FuncId → List Value → Mem → Outc → Mem → Prop} {e : Env} {S : Mem} {fl : Bool} {ops : Array Oper} {K : Env → Mem → Prop}
variable {rest : List Oper} {dst dst2 : Option Tmp} {d : Tmp} {ty ty2 : TypeId} {pos pos2 : String} {af af2 : Array Edge} {gd gd2 : Option (Nat × Bool)}
theorem L.bsN {t el : TypeId} {len sz : Nat} {parts : Array (Nat × Operand)} (vals : List Value) (hb : bldOk P t = some (el, sz)) (hl : len = vals.length) (hsm : Nat.ble (len * sz) 16777216 = true) (hu : Nat.ble 1 sz = true)
    (hp : parts.toList.map (fun p => (p.1, e.eval p.2)) = (vals.zipIdx 0).map fun p => (p.2, p.1)) (h1 : ∀ w ∈ vals, w.cells.size = sz) (hw : awanted ops ⟨dst, .buildSlice t len parts, ty, pos, af, gd⟩ e = true)
    (h : L P G Ext fl ops rest (e.put dst (.slice (some ⟨S.length, 0, none⟩) len len)) (S ++ [newR (vals.flatMap fun w => w.cells.toList) el]) K) :
    L P G Ext fl ops (⟨dst, .buildSlice t len parts, ty, pos, af, gd⟩ :: rest) e S K := L.eff hw (aeff_buildN hb hl hsm hu hp h1) h
theorem L.bs {t el : TypeId} {len : Nat} {parts : Array (Nat × Operand)} (vals : List Value) (hb : bldOk P t = some (el, 1)) (hl : len = vals.length) (hsm : Nat.ble len 16777216 = true)
    (hp : parts.toList.map (fun p => (p.1, e.eval p.2)) = (vals.zipIdx 0).map fun p => (p.2, p.1)) (h1 : vals.all oneCell = true) (hw : awanted ops ⟨dst, .buildSlice t len parts, ty, pos, af, gd⟩ e = true)
    (h : L P G Ext fl ops rest (e.put dst (.slice (some ⟨S.length, 0, none⟩) len len)) (S ++ [newR vals el]) K) :
    L P G Ext fl ops (⟨dst, .buildSlice t len parts, ty, pos, af, gd⟩ :: rest) e S K := L.eff hw (aeff_build hb hl hsm hp h1) h

theorem aeff_append {ts xs : TypeId} {s x : Operand} {o : Oper} {ev : Operand → Value} {c : Call} (ho : o.op = .call c) (hc : c = ⟨.builtin .append, #[s, x], #[ts, xs]⟩) : aeff P o ev S = aappend P ts xs (ev s) (ev x) S := by
  subst hc
  simp [aeff, ho]
/-- append(s, x...) -/
theorem L.app {ts xs el : TypeId} {s x : Operand} {sz bytes N n m : Nat} {v xv : Value} {l news : List Value} (hok : appOk P ts xs = some (el, sz, bytes)) (hN : N ≤ S.length) (hg : Grow N S el sz v n l) (hs : e.eval s = v) (hxv : e.eval x = xv)
    (hx : Slv S sz xv m news) (h1 : news.all oneCell = true) (hroom : n + m ≤ 1099511627776) (hby : (Nat.ble 1 bytes && Nat.ble bytes 64) = true) (hw : awanted ops ⟨dst, .call ⟨.builtin .append, #[s, x], #[ts, xs]⟩, ty, pos, af, gd⟩ e = true)
    (h : ∀ a c S', Grow N S' el sz (.slice a (n + m) c) (n + m) (l ++ news) → S.length ≤ S'.length → Agree N S S' → L P G Ext fl ops rest (e.put dst (.slice a (n + m) c)) S' K) :
    L P G Ext fl ops (⟨dst, .call ⟨.builtin .append, #[s, x], #[ts, xs]⟩, ty, pos, af, gd⟩ :: rest) e S K := by
  have hf := hx.first (Nat.le_refl m)
  rw [← hx.1, List.take_length] at hf
  have hl : lenOf' xv = some m := by obtain ⟨_, a, c, rfl, _⟩ := hx; rfl
  obtain ⟨v', S', h2, h3, h4, h5⟩ := app_any hok hN hg hf hl hx.1 h1 (roomy_of hroom hby)
  obtain ⟨a, c, rfl⟩ := h3.shape
  exact L.eff hw (by rw [aeff_append rfl rfl, hs, hxv]; exact h2) (h a c S' h3 h4 h5)
/-- append(s, one) -/
theorem L.push1 {t ts xs el : TypeId} {s y : Operand} {bytes N n : Nat} {v w : Value} {l : List Value} (hok : appOk P ts xs = some (el, 1, bytes)) (hN : N ≤ S.length) (hg : GrowF N S el 1 v n l)
    (hb : bldOk P t = some (el, 1)) (hy : e.eval y = w) (h1 : oneCell w = true)
    (w1 : awanted ops ⟨some d, .buildSlice t 1 #[(0, y)], ty, pos, af, gd⟩ e = true)
    (hs : (e.put (some d) (.slice (some ⟨S.length, 0, none⟩) 1 1)).eval s = v) (hroom : n + 1 ≤ 1099511627776) (hby : (Nat.ble 1 bytes && Nat.ble bytes 64) = true)
    (w2 : ∀ p, awanted ops ⟨dst2, .call ⟨.builtin .append, #[s, .tmp d], #[ts, xs]⟩, ty2, pos2, af2, gd2⟩ (e.put (some d) p) = true)
    (h : ∀ p a c S', Grow N S' el 1 (.slice a (n + 1) c) (n + 1) (l ++ [w]) → S.length ≤ S'.length → Agree N S S' → L P G Ext fl ops rest ((e.put (some d) p).put dst2 (.slice a (n + 1) c)) S' K) :
    L P G Ext fl ops (⟨some d, .buildSlice t 1 #[(0, y)], ty, pos, af, gd⟩ :: ⟨dst2, .call ⟨.builtin .append, #[s, .tmp d], #[ts, xs]⟩, ty2, pos2, af2, gd2⟩ :: rest) e S K := by
  refine L.bs [w] hb rfl rfl (by simp [hy]) (by simp [h1]) w1 ?_
  have hc : Cons S (S ++ [newR [w] el]) := Cons.push _ _
  have hx : Slv (S ++ [newR [w] el]) 1 (.slice (some ⟨S.length, 0, none⟩) 1 1) 1 [w] := Slv.all (row_push_new rfl) rfl (by simp)
  obtain ⟨v', S', h2, h3, h4, h5⟩ := app_growF (x := .slice (some ⟨S.length, 0, none⟩) 1 1) hok (Nat.le_trans hN hc.len) (hg.cons hc) (hx.first (Nat.le_refl 1)) rfl rfl (by simp [h1]) (roomy_of hroom hby) (by omega)
  obtain ⟨a, c, rfl⟩ := h3.shape
  exact L.eff (w2 _) (by rw [aeff_append rfl rfl, hs]; simpa [Env.eval, Env.put] using h2) (h _ a c S' h3 (by simp at h4; omega) ((hc.agree hN).trans h5))
end

/-! ### making -/
def mkOk (P : Program) (t : TypeId) : Option (TypeId × Nat × Nat × Value) := match P.underlying t with
  | some (.slice e) => match P.info? e, zeroOf P e with
    | some i, some z => match z.cells.toList with
      | [zv] => some (e, i.size, i.bytes, zv)
      | _ => none
    | _, _ => none
  | _ => none
section
variable {P : Program} {G : Nat} {Ext : FuncId → List Value → Mem → Outc → Mem → Prop} {e : Env} {S : Mem} {fl : Bool} {ops : Array Oper} {K : Env → Mem → Prop}
variable {rest : List Oper} {dst : Option Tmp} {ty : TypeId} {pos : String} {af : Array Edge} {gd : Option (Nat × Bool)}
theorem L.mk {t el : TypeId} {lo co : Operand} {n m bytes : Nat} {zv : Value} {k k' : IntKind} {i j : Int} (hok : mkOk P t = some (el, 1, bytes, zv)) (hl : e.eval lo = .int k i) (hi : i = n) (hc : e.eval co = .int k' j) (hj : j = m) (hnm : n ≤ m) (hn : m ≤ 1099511627776)
    (hby : (Nat.ble 1 bytes && Nat.ble bytes 64) = true) (hw : awanted ops ⟨dst, .makeSlice t lo co, ty, pos, af, gd⟩ e = true)
    (h : L P G Ext fl ops rest (e.put dst (.slice (some ⟨S.length, 0, none⟩) n m)) (S ++ [newR (List.replicate m zv) el]) K) :
    L P G Ext fl ops (⟨dst, .makeSlice t lo co, ty, pos, af, gd⟩ :: rest) e S K := by
  refine L.eff hw ?_ h
  unfold mkOk at hok
  split at hok
  · rename_i e' hu
    split at hok
    · rename_i inf z hin hz
      split at hok
      · rename_i zv' hzv
        simp only [Option.some.injEq, Prod.mk.injEq] at hok
        obtain ⟨rfl, hs, rfl, rfl⟩ := hok
        simp only [Bool.and_eq_true, Nat.ble_eq] at hby
        have hb := Nat.mul_le_mul hn hby.2
        subst hi; subst hj
        have hzs : z.cells.size = 1 := by rw [← Array.length_toList, hzv]; rfl
        simp only [aeff, hu, hin, hz, hl, hc, intOf']
        rw [if_pos ⟨by omega, by omega, by omega, by simpa using (by omega : m * inf.bytes ≤ 140737488355328), by omega⟩]
        simp only [Int.toNat_natCast, hs, Nat.mul_one]
        have : zeroList z.cells m = List.replicate m zv' := by
          have h0 : z.cells[0]! = zv' := by
            have : z.cells = #[zv'] := by rw [← Array.toList_inj, hzv]
            rw [this]; rfl
          unfold zeroList
          rw [hzs]
          simp only [Nat.mod_one, h0]
          rw [List.map_const', List.length_range]
        rw [this]
      · cases hok
    · cases hok
  · cases hok
end

/-! ### building structs and arrays -/
def buildAt (P : Program) (t : TypeId) : Nat → Option (Nat × Nat) := match P.underlying t with
  | some (.struct fs) => fun i => fs[i]?.map fun f => (f.offset, P.cellsOf f.type)
  | some (.array _ el) => fun i => some (i * P.cellsOf el, P.cellsOf el)
  | _ => fun _ => none
def buildOk (P : Program) (t : TypeId) : Bool := match P.underlying t with
  | some (.struct fs) => fs.toList.all fun f => (P.info? f.type).isSome
  | some (.array _ el) => (P.info? el).isSome
  | _ => false
theorem pureRun_sizeOf {P : Program} {t : TypeId} (h : (P.info? t).isSome = true) : pureRun P (sizeOf t) = some (P.cellsOf t) := by
  obtain ⟨i, hi⟩ := Option.isSome_iff_exists.1 h
  simp [sizeOf, typeInfo, pureRun_bind, Program.cellsOf, hi, program, pureRun]
theorem pureRun_underlying {P : Program} {t : TypeId} {d : TypeDesc} (h : P.underlying t = some d) : pureRun P (underlying t) = some d := by
  simp [underlying, pureRun_bind, h, program, pureRun]
theorem pureRun_mapM {P : Program} {α β : Type} (f : α → Sem β) (g : α → β) (l : List α) (h : ∀ a ∈ l, pureRun P (f a) = some (g a)) : pureRun P (l.mapM f) = some (l.map g) := by
  induction l with
  | nil => rfl
  | cons a l ih =>
    rw [List.mapM_cons, pureRun_bind, h a (by simp), Option.bind_some, pureRun_bind, ih (fun b hb => h b (by simp [hb]))]
    rfl
theorem abuild_eq {P : Program} {t : TypeId} {z : Value} {parts : Array (Nat × Value)} (h : buildOk P t = true) (hz : zeroOf P t = some z) : abuild P t parts = (Instr.fill (buildAt P t) z.cells parts.toList).map .agg := by
  unfold zeroOf at hz
  split at hz
  · rename_i i hi
    split at hz
    · rename_i z' hz'
      split at hz
      · rename_i hsc
        cases hz
        unfold abuild
        simp only [hi, hz', hsc, if_true]
        have hzv : pureRun P (zeroValue t) = some z := by simp [zeroValue, typeInfo, pureRun_bind, hi, hz', program, pureRun]
        unfold buildOk at h
        split at h
        · rename_i fs hu
          have hm : pureRun P (fs.mapM fun f => do pure (f.offset, ← sizeOf f.type)) = some (fs.map fun f => (f.offset, P.cellsOf f.type)) := by
            rw [Array.mapM_eq_mapM_toList]
            show pureRun P ((fs.toList.mapM _) >>= fun a => pure a.toArray) = _
            rw [pureRun_bind, pureRun_mapM _ (fun f => (f.offset, P.cellsOf f.type))]
            · simp only [Option.bind_some, pureRun_pure]
              refine congrArg some (Array.ext' ?_)
              simp
            · intro f hf
              rw [pureRun_bind, pureRun_sizeOf (List.all_eq_true.1 h f hf)]; rfl
          simp only [Instr.build, pureRun_bind, hzv, pureRun_underlying hu, Option.bind_some, hm]
          have hb : buildAt P t = fun i => (fs.map fun f => (f.offset, P.cellsOf f.type))[i]? := by funext i; simp [buildAt, hu]
          rw [hb]
          cases Instr.fill (fun i => (fs.map fun f => (f.offset, P.cellsOf f.type))[i]?) z.cells parts.toList <;> rfl
        · rename_i n el hu
          simp only [Instr.build, pureRun_bind, hzv, pureRun_underlying hu, Option.bind_some, pureRun_sizeOf h]
          have hb : buildAt P t = fun i => some (i * P.cellsOf el, P.cellsOf el) := by funext i; simp [buildAt, hu]
          rw [hb]
          cases Instr.fill (fun i => some (i * P.cellsOf el, P.cellsOf el)) z.cells parts.toList <;> rfl
        · cases h
      · cases hz
    · cases hz
  · cases hz
section
variable {P : Program} {G : Nat} {Ext : FuncId → List Value → Mem → Outc → Mem → Prop} {e : Env} {S : Mem} {fl : Bool} {ops : Array Oper} {K : Env → Mem → Prop}
variable {rest : List Oper} {dst : Option Tmp} {ty : TypeId} {pos : String} {af : Array Edge} {gd : Option (Nat × Bool)}
theorem L.bd {t : TypeId} {parts : Array (Nat × Operand)} {pl : List (Nat × Value)} {z : Value} (cells : Array Value) (hf : Instr.fill (buildAt P t) z.cells pl = some cells) (hp : parts.toList.map (fun p => (p.1, e.eval p.2)) = pl) (hok : buildOk P t = true) (hz : zeroOf P t = some z)
    (hw : awanted ops ⟨dst, .build t parts, ty, pos, af, gd⟩ e = true) (h : L P G Ext fl ops rest (e.put dst (.agg cells)) S K) :
    L P G Ext fl ops (⟨dst, .build t parts, ty, pos, af, gd⟩ :: rest) e S K := by
  refine L.pure hw ?_ h
  have : apure P ⟨dst, .build t parts, ty, pos, af, gd⟩ e.eval = abuild P t (parts.map fun (i, x) => (i, e.eval x)) := rfl
  rw [this, abuild_eq hok hz, show (parts.map fun (i, x) => (i, e.eval x)).toList = pl by rw [← hp]; simp, hf]
  rfl
end

/-! ### cutting -/
theorem aslice_hi {size : Nat} {b o n c h : Nat} {hv : Value} {kd : IntKind} (hh : hv = .int kd (h : Int)) (hc : h ≤ knownCap c) : aslice size (some ⟨b, o, none⟩) n c none (some hv) none = some (.slice (some ⟨b, o, none⟩) h c) := by
  subst hh
  unfold aslice
  simp only [abound]
  rw [if_pos ⟨by omega, by omega⟩]
  simp only [Option.bind_some, Int.toNat_natCast]
  have e0 : Addr.add ⟨b, o, none⟩ (0 * size) = (⟨b, o, none⟩ : Addr) := by rw [Nat.zero_mul]; rfl
  split
  · rename_i hk
    unfold acut
    simp only [Option.map_some, e0, Nat.sub_zero, ite_self]
  · rename_i hk
    rw [if_pos (.inl (by simp))]
    simp only [e0, Nat.sub_zero]
    rw [show UNK + knownCap c = c from by unfold knownCap; rw [if_neg hk]; omega]
end Go.Proofs.Yteadbbimikcmgaa
